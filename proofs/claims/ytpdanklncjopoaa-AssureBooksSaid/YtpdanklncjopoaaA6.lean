/- More rules: structs, owned objects, guards, slices. -/
import Derived.Test.YtpdanklncjopoaaA5
set_option linter.unusedSimpArgs false
set_option linter.unusedVariables false
namespace Go.Abs
open Go.RowKit

/-- Where field number f of struct type s lies, if it has cells. -/
def fieldOff (P : Program) (s : TypeId) (f : Nat) : Option Nat :=
  match P.underlying s with
  | some (.struct fs) => match fs[f]? with
    | some fl => match P.info? fl.type with
      | some i => if i.size = 0 then none else some fl.offset
      | none => none
    | none => none
  | _ => none
theorem fieldPlace_run {P : Program} {s : TypeId} {f off : Nat} (h : fieldOff P s f = some off) (a : Addr) (w : World) : (Instr.fieldAt s (.pointer (some a)) f).run P w = .ok (.pointer (some (a.add off))) w := by
  unfold fieldOff at h
  split at h
  · rename_i fs hu
    split at h
    · rename_i fl hf
      split at h
      · rename_i i hi
        split at h
        · cases h
        · rename_i hsz
          simp only [Option.some.injEq] at h
          subst h
          simp [Instr.fieldAt, run_underlying hu, hf, Instr.sureAddr, fieldPlace, sizeOf, typeInfo, hi, hsz]
      · cases h
    · cases h
  · cases h

def allD : List EV → Option (List D)
  | [] => some []
  | .d x :: l => match allD l with
    | some r => some (x :: r)
    | none => none
  | _ :: _ => none
theorem allD_map : ∀ {l : List EV} {ds : List D}, allD l = some ds → l = ds.map EV.d
  | [], ds, h => by simp [allD] at h; subst h; rfl
  | .d x :: l, ds, h => by
    unfold allD at h
    split at h
    · rename_i r hr
      simp only [Option.some.injEq] at h
      subst h
      rw [allD_map hr]
      rfl
    · cases h
  | .ref _ _ :: l, ds, h => by cases h
  | .osl _ _ _ _ :: l, ds, h => by cases h
  | .tsl _ _ _ :: l, ds, h => by cases h
  | .mp _ :: l, ds, h => by cases h
  | .clo _ _ :: l, ds, h => by cases h
  | .agg _ :: l, ds, h => by cases h
  | .tup _ :: l, ds, h => by cases h
  | .gd _ _ :: l, ds, h => by cases h

/-- What a guard comes to. -/
def gcond : EV → Bool → Option Bool
  | .d (.ex (.bool b)), true => some b
  | .d (.ex (.bool b)), false => some (!b)
  | .gd c (.d (.ex (.bool b))), true => some (c && b)
  | .gd c (.d (.ex (.bool b))), false => some (c && !b)
  | _, _ => none
def boolOf : Value → Option Bool
  | .bool c => some c
  | _ => none
theorem gcond_rep {g : Ghost} {w : World} {st : St} {e : EV} {want b : Bool} {v : Value} (h : gcond e want = some b) (hv : EVRep g w st e v) : (boolOf v == some want) = b := by
  unfold gcond at h
  split at h
  · cases h
    rw [hv.ex_inv]; cases b <;> rfl
  · rename_i c
    cases h
    rw [hv.ex_inv]; cases c <;> rfl
  · rename_i c c'
    cases h
    cases hv with
    | gd _ _ _ h0 h1 =>
      cases c with
      | false => rw [h0 rfl]; rfl
      | true => rw [(h1 rfl).ex_inv]; cases c' <;> rfl
  · rename_i c c'
    cases h
    cases hv with
    | gd _ _ _ h0 h1 =>
      cases c with
      | false => rw [h0 rfl]; rfl
      | true => rw [(h1 rfl).ex_inv]; cases c' <;> rfl
  · cases h
def GdEnv (b : Bool) (env : Env) : Env → Prop
  | [] => True
  | (i, y) :: t => (lookup i env = some y ∨ lookup i env = some (.gd b y) ∨ ∃ a z, y = .gd a z ∧ lookup i env = some (.gd (b && a) z)) ∧ GdEnv b env t
theorem GdEnv.get {b : Bool} {env : Env} : ∀ {env' : Env}, GdEnv b env env' → ∀ i y, lookup i env' = some y → lookup i env = some y ∨ lookup i env = some (.gd b y) ∨ ∃ a z, y = .gd a z ∧ lookup i env = some (.gd (b && a) z)
  | [], _, i, y, h => by simp [lookup] at h
  | (j, z) :: t, ⟨hh, ht⟩, i, y, h => by
    unfold lookup at h
    cases hb : Nat.beq i j with
    | true =>
      rw [hb] at h
      simp only [Option.some.injEq] at h
      have := Nat.eq_of_beq_eq_true hb
      subst this
      subst h
      exact hh
    | false =>
      rw [hb] at h
      exact ht.get i y h
theorem EnvRep.gd {g : Ghost} {w : World} {st : St} {env env' : Env} {tmps : Array Value} {b : Bool} (h : EnvRep g w st env tmps) (hg : GdEnv b env env') (hb : b = true) : EnvRep g w st env' tmps := by
  intro i y hy
  rcases hg.get i y hy with h1 | h1 | ⟨a, z, rfl, h1⟩
  · exact h i y h1
  · obtain ⟨v, h2, h3⟩ := h i _ h1
    cases h3 with
    | gd _ _ _ _ h4 => exact ⟨v, h2, h4 hb⟩
  · obtain ⟨v, h2, h3⟩ := h i _ h1
    rw [hb, Bool.true_and] at h3
    exact ⟨v, h2, h3⟩

section guard
variable {P : Program} {f : FuncId} {N : Nat} {S : Start} {Q : EV → St → Prop} {k : List Item} {env : Env} {st : St} {ops rest : List Oper}
/-- A quiet operation under a guard. -/
theorem AOps.guard {d : Tmp} {op : Op} {ty : TypeId} {pos : String} {after : Array Edge} {j : Nat} {want b : Bool} {t : Tmp} {c x : EV} {env' : Env} (hj : (ops[j]?).bind (·.dst) = some t) (hl : lookup t env = some c) (hc : gcond c want = some b)
    (hE : GdEnv b env env') (hd : dstOk N (some d) = true) (h : b = true → OpQ P env' st ⟨some d, op, ty, pos, after, some (j, want)⟩ x) (hk : AOps P f N S Q ops rest k ((d, .gd b x) :: env) st) :
    AOps P f N S Q ops (⟨some d, op, ty, pos, after, some (j, want)⟩ :: rest) k env st := by
  intro i hi g w tmps hinv hh he hn
  have ho : ops.toArray[i]? = some ⟨some d, op, ty, pos, after, some (j, want)⟩ := by simpa using (hi 0).symm
  obtain ⟨v, hv, hr⟩ := he t c hl
  have hw : Region.wanted ⟨some d, op, ty, pos, after, some (j, want)⟩ (yielded ops.toArray tmps) = b := by
    rw [← gcond_rep hc hr]
    have hj' : ((ops.toArray)[j]?).bind (·.dst) = some t := by simpa using hj
    simp only [Region.wanted, yielded, hj', Option.bind_some, hv]
    cases v <;> rfl
  rw [List.length_cons, range'_succ']
  subst hn
  have hi' : ∀ j : Nat, rest[j]? = ops[i + 1 + j]? := fun j => by have := hi (j + 1); simpa [Nat.add_assoc, Nat.add_comm 1 j] using this
  cases b with
  | false => exact FWP.unwanted ho hw (hk (i + 1) hi' g w _ hinv hh (envPut (d := some d) he hd (.gd _ _ _ (fun _ => rfl) (fun h => by cases h))) size_put)
  | true =>
    obtain ⟨u, h1, h2⟩ := h rfl g S.base w tmps hinv (he.gd hE rfl)
    exact FWP.value ho hw (h2 w (.refl _ _)) (hk (i + 1) hi' g w _ hinv hh (envPut (d := some d) he hd (.gd _ _ _ (fun h => by cases h) (fun _ => h1))) size_put)
theorem AOps.q {d : Option Tmp} {op : Op} {ty : TypeId} {pos : String} {after : Array Edge} {x : EV} (h : OpQ P env st ⟨d, op, ty, pos, after, none⟩ x) (hd : dstOk N d = true) (hk : AOps P f N S Q ops rest k (env.put d x) st) :
    AOps P f N S Q ops (⟨d, op, ty, pos, after, none⟩ :: rest) k env st := .op rfl hd h.v hk
theorem AOps.v {d : Option Tmp} {op : Op} {ty : TypeId} {pos : String} {after : Array Edge} {x : EV} {st' : St} (h : OpV P S.base env st ⟨d, op, ty, pos, after, none⟩ x st') (hd : dstOk N d = true) (hk : AOps P f N S Q ops rest k (env.put d x) st') :
    AOps P f N S Q ops (⟨d, op, ty, pos, after, none⟩ :: rest) k env st := .op rfl hd h hk
theorem AOps.u {d : Option Tmp} {op : Op} {ty : TypeId} {pos : String} {after : Array Edge} {st' : St} (h : OpU P S.base env st ⟨d, op, ty, pos, after, none⟩ st') (hd : dstOk N d = true) (hk : AOps P f N S Q ops rest k (env.put d (.d .any)) st') :
    AOps P f N S Q ops (⟨d, op, ty, pos, after, none⟩ :: rest) k env st := .opU rfl hd h hk
theorem AOps.sub {env' : Env} (hs : SubEnv env env') (h : AOps P f N S Q ops rest k env' st) : AOps P f N S Q ops rest k env st := fun i hi => .sub hs (h i hi)
end guard

section q
variable {P : Program} {env : Env} {st : St} {d : Option Tmp} {ty : TypeId} {pos : String} {after : Array Edge} {gd : Option (Nat × Bool)} {t t2 : TypeId} {x y : Operand}

theorem ro_drop {lim : Nat → Nat} {w : World} {cs : List D} {b off n : Nat} (h : DRep lim w (.ro cs) (.pointer (some ⟨b, off, none⟩))) : DRep lim w (.ro (cs.drop n)) (.pointer (some (Addr.add ⟨b, off, none⟩ n))) := by
  rw [Addr.add_lit]
  cases h with
  | ro _ _ _ hx hc =>
    refine .ro _ b (off + n) ?_ ?_
    · intro k hk
      simp only [List.length_drop] at hk
      have := hx (n + k) (by omega)
      rw [Nat.add_assoc]; exact this
    · intro j c u hc' hu
      rw [List.getElem?_drop] at hc'
      rw [Nat.add_assoc] at hu
      exact hc (n + j) c u hc' hu
theorem ro_form {lim : Nat → Nat} {w : World} {cs : List D} {v : Value} (h : DRep lim w (.ro cs) v) : ∃ b off, v = .pointer (some ⟨b, off, none⟩) := by
  cases h with | ro _ b off => exact ⟨b, off, rfl⟩
theorem q_fieldRo {s : TypeId} {f off : Nat} {cs : List D} (hf : fieldOff P s f = some off) (hx : evo env x = some (.d (.ro cs))) : OpQ P env st ⟨d, .fieldAddr s x f, ty, pos, after, gd⟩ (.d (.ro (cs.drop off))) := fun g base w tmps hi he => by
  cases evo_rep he hx with
  | d _ _ h =>
    obtain ⟨b, o, hv⟩ := ro_form h
    rw [hv] at h
    exact ⟨_, .d _ _ (ro_drop h), fun w' _ => by simp [execOp, hv, fieldPlace_run hf]⟩
theorem q_fieldRef {s : TypeId} {f off o off0 : Nat} (hf : fieldOff P s f = some off) (hx : evo env x = some (.ref o off0)) : OpQ P env st ⟨d, .fieldAddr s x f, ty, pos, after, gd⟩ (.ref o (off0 + off)) := fun g base w tmps hi he => by
  have h := evo_rep he hx
  generalize hv : Act.eval ⟨tmps, []⟩ x = v at h
  cases h with
  | ref _ _ hlt => exact ⟨.pointer (some ⟨g.ob o, off0 + off, none⟩), .ref _ _ hlt, fun w' _ => by simp [execOp, hv, fieldPlace_run hf, Addr.add_lit]⟩

theorem loadCells_run {w : World} {b off n : Nat} {vs : List Value} (hl : vs.length = n) (h : ∀ j u, vs[j]? = some u → w.cell? ⟨b, off + j, none⟩ = some u) : (loadCells ⟨b, off, none⟩ n).run P w = .ok vs.toArray w := by
  subst hl
  exact run_loadCells_list w _ vs fun j u hu => by rw [Addr.add_lit]; exact h j u hu

/-- The values of published cells. -/
theorem ro_vals {lim : Nat → Nat} {w : World} {cs : List D} {b off : Nat} (h : DRep lim w (.ro cs) (.pointer (some ⟨b, off, none⟩))) (n : Nat) (hn : n ≤ cs.length) :
    ∃ vs : List Value, vs.length = n ∧ (∀ (j : Nat) u, vs[j]? = some u → w.cell? ⟨b, off + j, none⟩ = some u ∧ u.oneCell' = true ∧ ∀ c, cs[j]? = some c → DRep lim w c u) := by
  cases h with
  | ro _ _ _ hx hc =>
    refine ⟨(List.range n).map fun j => (w.cell? ⟨b, off + j, none⟩).getD undef, by simp, fun j u hu => ?_⟩
    rw [List.getElem?_map] at hu
    by_cases hj : j < n
    · obtain ⟨hl, u', hu', h1⟩ := hx j (by omega)
      simp [List.getElem?_range hj, hu'] at hu
      subst hu
      exact ⟨hu', h1, fun c hcc => hc j c _ hcc hu'⟩
    · simp [List.getElem?_eq_none (show (List.range n).length ≤ j by simp; omega)] at hu

/-- '*p' where p points into published memory: an aggregate. -/
theorem q_loadA {cs : List D} {n : Nat} (h1 : (P.underlying t).map oneB = some false) (hs : (P.info? t).map (·.size) = some n) (hn : n ≤ cs.length) (hx : evo env x = some (.d (.ro cs))) :
    OpQ P env st ⟨d, .load t x, ty, pos, after, gd⟩ (.d (.agg (cs.take n))) := fun g base w tmps hinv he => by
  cases evo_rep he hx with
  | d _ _ h =>
    obtain ⟨b, off, hv⟩ := ro_form h
    rw [hv] at h
    obtain ⟨vs, hl, hvs⟩ := ro_vals h n hn
    refine ⟨.agg vs.toArray, .d _ _ (.agg _ _ (by simp [hl]; omega) (fun i u hu => (hvs i u (by simpa using hu)).2.1) fun i c u hc hu => ?_), fun w' hb => ?_⟩
    · rw [List.getElem?_take] at hc
      split at hc
      · exact (hvs i u (by simpa using hu)).2.2 c hc
      · cases hc
    · obtain ⟨inf, hinf, hsz⟩ : ∃ inf, P.info? t = some inf ∧ inf.size = n := by
        cases hh : P.info? t with
        | none => rw [hh] at hs; cases hs
        | some inf => rw [hh] at hs; exact ⟨inf, rfl, by simpa using hs⟩
      have hload := loadCells_run (P := P) (w := w') (b := b) (off := off) hl (fun j u hu => by
        have h3 := (hvs j u hu).1
        exact (hb.cell (World.block_lt_of_cell? w _ h3)).trans h3)
      simp [execOp, hv, Instr.loadAt, Instr.sureAddr, loadVar, isAgg_yes h1, sizeOf, typeInfo, hinf, hsz, hload]

/-- '*p' of an owned object: one cell. -/
theorem q_loadO {o off : Nat} {T : TypeId} {cs : List EV} {c : EV} (h1 : (P.underlying t).map oneB = some true) (hx : evo env x = some (.ref o off)) (ho : st.objs[o]? = some (.row T cs)) (hc : cs[off]? = some c) :
    OpQ P env st ⟨d, .load t x, ty, pos, after, gd⟩ c := fun g base w tmps hinv he => by
  have h := evo_rep he hx
  generalize hv : Act.eval ⟨tmps, []⟩ x = v at h
  cases h with
  | ref _ _ hlt =>
    obtain ⟨_, _, vs, hb, hsz, hreps⟩ := hinv.row o T cs ho
    have hoff : off < vs.size := by rw [hsz]; exact (List.getElem?_eq_some_iff.1 hc).1
    have hu : vs[off]? = some vs[off] := Array.getElem?_eq_getElem hoff
    have hcell : w.cell? ⟨g.ob o, off, none⟩ = some vs[off] := by rw [cell_of_row w _ off vs T (0, 0) hb]; exact hu
    refine ⟨vs[off], (hreps off c _ hc hu).1, fun w' hb' => ?_⟩
    have hcell' : w'.cell? ⟨g.ob o, off, none⟩ = some vs[off] := (hb'.cell (World.block_lt_of_cell? w _ hcell)).trans hcell
    simp [execOp, hv, Instr.loadAt, Instr.sureAddr, loadVar, isAgg_of h1, hcell']

theorem own_vals {g : Ghost} {w : World} {b n off : Nat} {T : TypeId} {cs : List EV} {vs : Array Value} (hb : w.heap[b]? = some (.cells vs T (0, 0))) (hsz : vs.size = cs.length) (hn : off + n ≤ cs.length) :
    ((vs.toList.drop off).take n).length = n ∧ ∀ (j : Nat) u, ((vs.toList.drop off).take n)[j]? = some u → w.cell? ⟨b, off + j, none⟩ = some u ∧ vs[off + j]? = some u := by
  refine ⟨by simp; omega, fun j u hu => ?_⟩
  rw [List.getElem?_take] at hu
  split at hu
  · rw [List.getElem?_drop] at hu
    have : vs[off + j]? = some u := by simpa using hu
    exact ⟨by rw [cell_of_row w _ _ vs T (0, 0) hb]; exact this, this⟩
  · cases hu

/-- '*p' of an owned object: an aggregate of data. -/
theorem q_loadOA {o off n : Nat} {T : TypeId} {cs : List EV} {ds : List D} (h1 : (P.underlying t).map oneB = some false) (hs : (P.info? t).map (·.size) = some n) (hx : evo env x = some (.ref o off)) (ho : st.objs[o]? = some (.row T cs))
    (hn : off + n ≤ cs.length) (hc : allD ((cs.drop off).take n) = some ds) : OpQ P env st ⟨d, .load t x, ty, pos, after, gd⟩ (.d (.agg ds)) := fun g base w tmps hinv he => by
  have h := evo_rep he hx
  generalize hv : Act.eval ⟨tmps, []⟩ x = v at h
  cases h with
  | ref _ _ hlt =>
    obtain ⟨_, _, vs, hb, hsz, hreps⟩ := hinv.row o T cs ho
    obtain ⟨hl, hvs⟩ := own_vals (g := g) (w := w) (n := n) (off := off) hb hsz hn
    have hds := allD_map hc
    refine ⟨.agg ((vs.toList.drop off).take n).toArray, .d _ _ (.agg _ _ ?_ ?_ ?_), fun w' hb' => ?_⟩
    · have := congrArg List.length hds
      simp at this hl ⊢
      omega
    · intro i u hu
      have hu' := hvs i u (by simpa using hu)
      have hlt' : off + i < cs.length := by rw [← hsz]; exact (Array.getElem?_eq_some_iff.1 hu'.2).1
      exact (hreps (off + i) cs[off + i] u (List.getElem?_eq_getElem hlt') hu'.2).2
    · intro i c u hc' hu
      have hu' := hvs i u (by simpa using hu)
      have hci : ((cs.drop off).take n)[i]? = some (.d c) := by rw [hds, List.getElem?_map, hc']; rfl
      rw [List.getElem?_take] at hci
      split at hci
      · rw [List.getElem?_drop] at hci
        cases (hreps (off + i) _ u hci hu'.2).1 with | d _ _ h => exact h
      · cases hci
    · obtain ⟨inf, hinf, hsz'⟩ : ∃ inf, P.info? t = some inf ∧ inf.size = n := by
        cases hh : P.info? t with
        | none => rw [hh] at hs; cases hs
        | some inf => rw [hh] at hs; exact ⟨inf, rfl, by simpa using hs⟩
      have hload := loadCells_run (P := P) (w := w') (b := g.ob o) (off := off) hl (fun j u hu => by
        have h3 := (hvs j u hu).1
        exact (hb'.cell (World.block_lt_of_cell? w _ h3)).trans h3)
      simp [execOp, hv, Instr.loadAt, Instr.sureAddr, loadVar, isAgg_yes h1, sizeOf, typeInfo, hinf, hsz', hload]

theorem q_extract {cs : List D} {i : Nat} {c : D} (hx : evo env x = some (.d (.tup cs))) (hc : cs[i]? = some c) : OpQ P env st ⟨d, .extract x i, ty, pos, after, gd⟩ (.d c) := fun g base w tmps hinv he => by
  cases evo_rep he hx with
  | d _ _ h =>
    generalize hv : Act.eval ⟨tmps, []⟩ x = v at h
    cases h with
    | tup _ vs hs h =>
      have hi : i < vs.size := by rw [hs]; exact (List.getElem?_eq_some_iff.1 hc).1
      have hu : vs[i]? = some vs[i] := Array.getElem?_eq_getElem hi
      exact ⟨vs[i], .d _ _ (h i c _ hc hu), fun w' _ => by simp [execOp, hv, Instr.extract, hu]⟩
theorem q_extractE {cs : List EV} {i : Nat} {c : EV} (hx : evo env x = some (.tup cs)) (hc : cs[i]? = some c) : OpQ P env st ⟨d, .extract x i, ty, pos, after, gd⟩ c := fun g base w tmps hinv he => by
  have h := evo_rep he hx
  generalize hv : Act.eval ⟨tmps, []⟩ x = v at h
  cases h with
  | tup _ vs hs h =>
    have hi : i < vs.size := by rw [hs]; exact (List.getElem?_eq_some_iff.1 hc).1
    have hu : vs[i]? = some vs[i] := Array.getElem?_eq_getElem hi
    exact ⟨vs[i], h i c _ hc hu, fun w' _ => by simp [execOp, hv, Instr.extract, hu]⟩

/-- A field of a struct value: one cell. -/
theorem q_field {s : TypeId} {f off : Nat} {fs : Array Field} {fl : Field} {cs : List D} {c : D} (hu : P.underlying s = some (.struct fs)) (hf : fs[f]? = some fl) (h1 : (P.underlying fl.type).map oneB = some true) (ho : fl.offset = off)
    (hx : evo env x = some (.d (.agg cs))) (hc : cs[off]? = some c) : OpQ P env st ⟨d, .field s x f, ty, pos, after, gd⟩ (.d c) := fun g base w tmps hinv he => by
  cases evo_rep he hx with
  | d _ _ h =>
    generalize hv : Act.eval ⟨tmps, []⟩ x = v at h
    cases h with
    | agg _ vs hs h1' h =>
      have hi : off < vs.size := by rw [hs]; exact (List.getElem?_eq_some_iff.1 hc).1
      have hu' : vs[off]? = some vs[off] := Array.getElem?_eq_getElem hi
      exact ⟨vs[off], .d _ _ (h off c _ hc hu'), fun w' _ => by simp [execOp, hv, Instr.field, run_underlying hu, hf, asAgg, part, isAgg_of h1, ho, hu']⟩
end q
end Go.Abs
