/- Returns with variables of their own; slices of several elements. -/
import Derived.Test.YtpdanklncjopoaaD1
set_option linter.unusedSimpArgs false
set_option linter.unusedVariables false
set_option linter.unusedSectionVars false
namespace Go.Abs
open Go.RowKit
section ret
variable {P : Program} {f : FuncId} {N : Nat} {S : Start} {Q : EV → St → Prop} {k : List Item} {env : Env} {st : St}
theorem ARun.blockJoin2 {id : Nat} {c : Code} {ι : Type} (E : ι → Env) (T : ι → St) (I : ι → Prop)
    (hk : ∀ i, I i → ARun P f N S Q k (E i) (T i)) (h : (∀ i, I i → ARun P f N S Q (.inBlock id :: k) (E i) (T i)) → (∀ i, I i → ARun P f N S Q k (E i) (T i)) → ARun P f N S Q (.code c :: .inBlock id :: k) env st) :
    ARun P f N S Q (.code (.block id c) :: k) env st := .block (h (fun i hi => .inBlock (hk i hi)) hk)
def ResEV (P : Program) (env : Env) (st : St) : ResultVar → EV → Prop
  | .tmp t, r => lookup t env = some r
  | .cell a T, r => (∃ o off, lookup a env = some (.ref o off)) ∧ OpQ P env st ⟨none, .load T (.tmp a), 0, "", #[], none⟩ r
def ResEVs (P : Program) (env : Env) (st : St) : List ResultVar → List EV → Prop
  | [], [] => True
  | x :: xs, e :: es => ResEV P env st x e ∧ ResEVs P env st xs es
  | _, _ => False
def retEV : List EV → EV
  | [r] => r
  | l => .tup l
def EVles : List EV → List D → Prop
  | [], [] => True
  | e :: es, x :: xs => EVle e (.d x) ∧ EVles es xs
  | _, _ => False
theorem EVles.get : ∀ {es : List EV} {ds : List D}, EVles es ds → es.length = ds.length ∧ ∀ (i : Nat) d, ds[i]? = some d → ∃ e, es[i]? = some e ∧ EVle e (.d d)
  | [], [], _ => ⟨rfl, fun i y h => by simp at h⟩
  | e :: es, d :: ds, h => by
    obtain ⟨h1, h2⟩ := EVles.get h.2
    refine ⟨by simp [h1], fun i z hz => ?_⟩
    cases i with
    | zero => simp at hz; subst hz; exact ⟨e, rfl, h.1⟩
    | succ i => simpa using h2 i z (by simpa using hz)
  | [], _ :: _, h => h.elim
  | _ :: _, [], h => h.elim
theorem EVle.tupL {es : List EV} {ds : List D} (h : EVles es ds) : EVle (.tup es) (.d (.tup ds)) := by
  intro g w st v hv
  obtain ⟨h1, h2⟩ := h.get
  cases hv with
  | tup _ vs hs hc =>
    refine .d _ _ (.tup _ vs (by rw [hs, h1]) fun i d u hd hu => ?_)
    obtain ⟨e, he, hle⟩ := h2 i d hd
    cases hle _ _ _ _ (hc i e u he hu) with | d _ _ h => exact h
def actOf (tmps : Array Value) : ResultVar → Sem Value
  | .tmp t => pure (tmps.getD t undef)
  | .cell a t => do loadVar t (← asAddr (tmps.getD a undef))
theorem res_one {g : Ghost} {w : World} {base : Nat} {tmps : Array Value} (hi : Inv g base w st) (he : EnvRep g w st env tmps) {x : ResultVar} {e : EV} (h : ResEV P env st x e) :
    ∃ v, (actOf tmps x).run P w = .ok v w ∧ EVRep g w st e v := by
  cases x with
  | tmp t =>
    obtain ⟨v, h1, h2⟩ := he t e h
    exact ⟨v, by simp [actOf, Array.getD_eq_getD_getElem?, h1], h2⟩
  | cell a T =>
    obtain ⟨⟨o, off, hx⟩, hq⟩ := h
    obtain ⟨v, h1, h2⟩ := hq g base w tmps hi he
    have h3 := h2 w (.refl _ _)
    obtain ⟨pv, h4, h5⟩ := he a _ hx
    have h6 : (Act.eval ⟨tmps, []⟩ (.tmp a)) = pv := by
      show tmps.getD a undef = pv
      rw [Array.getD_eq_getD_getElem?, h4]; rfl
    refine ⟨v, ?_, h1⟩
    cases h5 with
    | ref _ _ hlt =>
      simp only [execOp, h6, Instr.loadAt, Instr.sureAddr, Sem.run_bind] at h3
      simp only [actOf]
      simp [Array.getD_eq_getD_getElem?, h4, asAddr]
      simp at h3
      generalize (Sem.run P (loadVar T { block := g.ob o, off := off }) w) = res at h3 ⊢
      cases res with
      | ok x w2 => simp [Result.andThen_ok] at h3; simp [h3]
      | halt h w2 => simp [Result.andThen] at h3
theorem res_all {g : Ghost} {w : World} {base : Nat} {tmps : Array Value} (hi : Inv g base w st) (he : EnvRep g w st env tmps) : ∀ {xs : List ResultVar} {es : List EV}, ResEVs P env st xs es →
    ∃ vs : List Value, (xs.mapM (actOf tmps)).run P w = .ok vs w ∧ vs.length = es.length ∧ ∀ (i : Nat) e v, es[i]? = some e → vs[i]? = some v → EVRep g w st e v
  | [], [], _ => ⟨[], by simp, rfl, by simp⟩
  | x :: xs, e :: es, h => by
    obtain ⟨v, h1, h2⟩ := res_one hi he h.1
    obtain ⟨vs, k1, k2, k3⟩ := res_all hi he h.2
    refine ⟨v :: vs, by simp [h1, k1], by simp [k2], fun i e' v' he' hv' => ?_⟩
    cases i with
    | zero => simp at he' hv'; subst he'; subst hv'; exact h2
    | succ i => exact k3 i e' v' (by simpa using he') (by simpa using hv')
  | [], _ :: _, h => h.elim
  | _ :: _, [], h => h.elim
theorem ARun.retN {fn : Func} (xs : List ResultVar) (es : List EV) (hf : P.funcs[f]? = some fn) (hr : fn.results = xs.toArray) (h : ResEVs P env st xs es) (hQ : Q (retEV es) st) : ARun P f N S Q (.code .ret :: k) env st := by
  intro g w tmps hi hh he hn
  obtain ⟨vs, h1, h2, h3⟩ := res_all hi he h
  have hrun : (results fn tmps).run P w = .ok (if h : vs.toArray.size = 1 then vs.toArray[0] else .tuple vs.toArray) w := by
    have hfun : (results fn tmps) = (do let vs ← fn.results.mapM (actOf tmps); pure (if h : vs.size = 1 then vs[0] else .tuple vs)) := by
      unfold results
      congr 1
    rw [hfun, hr, List.mapM_toArray]
    simp only [Sem.run_bind, Sem.run_map, h1, Result.andThen_ok, Sem.run_pure]
  refine FWP.ret hf hrun ⟨_, retEV es, st, g, rfl, hQ, ?_, hi, hh⟩
  by_cases hl : vs.toArray.size = 1
  · rw [dif_pos hl]
    match vs, es, h2, hl, h3 with
    | [v], [e], _, _, h3 => exact h3 0 e v rfl rfl
    | [], _, _, hl, _ => simp at hl
    | _ :: _ :: _, _, _, hl, _ => simp at hl
  · rw [dif_neg hl]
    have hes : retEV es = .tup es := by
      match es, h2 with
      | [], _ => rfl
      | [e], h2 => exact absurd (by simpa using h2) hl
      | _ :: _ :: _, _ => rfl
    rw [hes]
    exact .tup es vs.toArray (by simpa using h2) fun i c u hc hu => h3 i c u hc (by simpa using hu)
end ret
section b
variable {P : Program} {env : Env} {st : St} {d : Option Tmp} {ty : TypeId} {pos : String} {after : Array Edge} {gd : Option (Nat × Bool)} {t t2 e : TypeId} {x y z : Operand}
theorem DLes.rfl' : ∀ (xs : List D), DLes xs xs
  | [] => trivial
  | x :: xs => ⟨.rfl' x, DLes.rfl' xs⟩
/-- '[]T{x, y, ..}'. -/
theorem g_buildSliceN {n sz : Nat} {inf : TypeInfo} {z : Value} {zs : List D} {rows : List (List D)} {l : List (Nat × Operand)} (ht : P.underlying t = some (.slice e)) (hi : P.info? e = some inf) (hsz : inf.size = sz) (hz : inf.zero = some z) (hzs : Nat.beq z.cells.size sz = true)
    (hbig : (Nat.ble (n * sz) 16777216 && Nat.blt 0 n && Nat.blt 0 sz) = true) (hzr : cellsD (.d (cv z)) = some zs) (hl : layD (fun i => some (i * sz, sz)) env (List.replicate n zs).flatten l = some rows.flatten)
    (hr : (rows.all (fun r => Nat.beq r.length sz) && Nat.beq rows.length n) = true) :
    OpG P env st ⟨d, .buildSlice t n l.toArray, ty, pos, after, gd⟩ (.d (.sl sz rows)) := by
  simp only [Bool.and_eq_true] at hbig hr
  have hzs' := Nat.eq_of_beq_eq_true hzs
  have hzl : zs.length = sz := by
    have := (cellsD_rep (g := ⟨fun _ => 0, fun _ => 0, fun _ => .nilFunc⟩) (w := (default : World)) (st := ⟨[], []⟩) hzr (.d _ _ (cv_rep _ _ z))).1
    omega
  exact g_buildSlice ht hi hsz hz hzs' (blt_lt hbig.1.2) (Nat.le_of_ble_eq_true hbig.1.1) (by simp [hzl]) hzr hl hr.1 (Nat.eq_of_beq_eq_true hr.2) (blt_lt hbig.2)
/-- A struct within a struct value. -/
theorem q_fieldA {s : TypeId} {f off n : Nat} {fs : Array Field} {fl : Field} {cs : List D} (hu : P.underlying s = some (.struct fs)) (hf : fs[f]? = some fl) (h1 : (P.underlying fl.type).map oneB = some false) (hs : (P.info? fl.type).map (·.size) = some n) (ho : fl.offset = off)
    (hx : evo env x = some (.d (.agg cs))) (hn : Nat.ble (off + n) cs.length = true) : OpQ P env st ⟨d, .field s x f, ty, pos, after, gd⟩ (.d (.agg ((cs.drop off).take n))) := fun g base w tmps hinv he => by
  have hn' := Nat.le_of_ble_eq_true hn
  cases evo_rep he hx with
  | d _ _ h =>
    generalize hv : Act.eval ⟨tmps, []⟩ x = v at h
    cases h with
    | agg _ vs hs' h1' h =>
      obtain ⟨inf, hinf, hsz⟩ : ∃ inf, P.info? fl.type = some inf ∧ inf.size = n := by
        cases hh : P.info? fl.type with
        | none => rw [hh] at hs; cases hs
        | some inf => rw [hh] at hs; exact ⟨inf, rfl, by simpa using hs⟩
      have get : ∀ (i : Nat) (u : Value), (vs.extract off (off + n))[i]? = some u → vs[off + i]? = some u ∧ i < n := by
        intro i u hu
        rw [Array.getElem?_extract] at hu
        split at hu
        · exact ⟨hu, by omega⟩
        · cases hu
      refine ⟨.agg (vs.extract off (off + n)), .d _ _ (.agg _ _ (by simp; omega) (fun i u hu => h1' _ u (get i u hu).1) fun i c u hc hu => ?_), fun w' _ => ?_⟩
      · obtain ⟨k1, k2⟩ := get i u hu
        rw [List.getElem?_take, if_pos k2, List.getElem?_drop] at hc
        exact h _ c u hc k1
      · simp [execOp, hv, Instr.field, run_underlying hu, hf, asAgg, part, isAgg_yes h1, ho, sizeOf, typeInfo, hinf, hsz, hs', hn']
theorem q_pickAndB {a b : Bool} (hx : evo env x = some (.d (cB a))) (hy : evo env y = some (.gd a (.d (cB b)))) (hz : evo env z = some (.d (cB false))) :
    OpQ P env st ⟨d, .pick x y z, ty, pos, after, gd⟩ (.d (cB (a && b))) := by
  have := q_pickAnd (P := P) (st := st) (d := d) (ty := ty) (pos := pos) (after := after) (gd := gd) hx hy hz
  rwa [show (if a = true then b else false) = (a && b) from by cases a <;> rfl] at this
theorem q_pickOrB {a b : Bool} (hx : evo env x = some (.d (cB a))) (hy : evo env y = some (.d (cB true))) (hz : evo env z = some (.gd (!a) (.d (cB b)))) :
    OpQ P env st ⟨d, .pick x y z, ty, pos, after, gd⟩ (.d (cB (a || b))) := by
  have := q_pickOr (P := P) (st := st) (d := d) (ty := ty) (pos := pos) (after := after) (gd := gd) hx hy hz
  rwa [show (if a = true then true else b) = (a || b) from by cases a <;> rfl] at this
/-- A call of a function value that is known, with data. -/
theorem g_callF {f' : FuncId} {l : List Operand} {ts : Array TypeId} {es : List EV} {ds : List D} {r : D} (hen : Enters P f') (hx : evo env x = some (.d (.ex (.func (.func f') #[] #[])))) (h1 : evos env l = some es) (h2 : toDs es = some ds) (hc : ACall P f' ds (· = r)) :
    OpG P env st ⟨d, .call ⟨.value x, l.toArray, ts⟩, ty, pos, after, gd⟩ (.d r) := fun g base w tmps hi he => by
  have hv := (evo_rep he hx).ex_inv
  have hrun := callC_run (d := d) (ty := ty) (pos := pos) (after := after) (l := l) (ts := ts) hen w hv (gd := gd)
  rw [Array.append_empty] at hrun
  refine .inr ⟨f', _, hrun, (hc g.lim w _ (hi.glob.mono hi.base) (.of he h1 h2)).mono ?_⟩
  rintro e w' ⟨v, r', lim', rfl, rfl, hr, hev, hb, hl⟩
  exact ⟨v, lim', rfl, .d _ _ hr, hb, hl⟩
theorem Inv.newTokN {g : Ghost} {base : Nat} {w : World} {st : St} (h : Inv g base w st) (e sz n : Nat) (vs : Array Value) (hvs : vs.size = n * sz) (hn : n ≤ maxLen) :
    ∃ g', g'.tk st.tails.length = .slice (some ⟨w.heap.size, 0, none⟩) n n ∧ Inv g' base (w.alloc (.cells vs e)) (st.tok ⟨e, sz, n, none⟩) ∧ Step base g w st g' (w.alloc (.cells vs e)) (st.tok ⟨e, sz, n, none⟩) := by
  obtain ⟨g', h1, _, _, h2, h3⟩ := h.newTail ⟨e, sz, n, none⟩ (v := .slice (some ⟨w.heap.size, 0, none⟩) n n) (xs := vs.toList) ⟨by simp [hvs], .inr ⟨w.heap.size, n, vs, rfl, h.base, heap_alloc_new w _, Nat.le_refl _, hn, hvs, by rw [List.take_of_length_le (by simp [hvs])]⟩⟩
    (.inr ⟨rfl, (Below.refl _ w).alloc (Nat.le_refl _) _⟩) (fun rows hh => by cases hh)
  exact ⟨g', h1, h2, h3⟩

/-- '[]T{x, y, ..}' that grows. -/
theorem v_buildSliceT {base n sz : Nat} {inf : TypeInfo} {z : Value} {zs : List D} {rows : List (List D)} {l : List (Nat × Operand)} (ht : P.underlying t = some (.slice e)) (hi : P.info? e = some inf) (hsz : inf.size = sz) (hz : inf.zero = some z) (hzs : Nat.beq z.cells.size sz = true)
    (hbig : (Nat.ble (n * sz) 16777216 && Nat.blt 0 n && Nat.blt 0 sz) = true) (hzr : cellsD (.d (cv z)) = some zs) (hl : layD (fun i => some (i * sz, sz)) env (List.replicate n zs).flatten l = some rows.flatten)
    (hr : (rows.all (fun r => Nat.beq r.length sz) && Nat.beq rows.length n) = true) :
    OpV P base env st ⟨d, .buildSlice t n l.toArray, ty, pos, after, gd⟩ (.tsl sz rows st.tails.length) (st.tok ⟨e, sz, rows.length, none⟩) := by
  simp only [Bool.and_eq_true] at hbig hr
  have hzs' := Nat.eq_of_beq_eq_true hzs
  have hn := Nat.eq_of_beq_eq_true hr.2
  have hn0 := blt_lt hbig.1.2
  have hs0 := blt_lt hbig.2
  have hbg := Nat.le_of_ble_eq_true hbig.1.1
  intro g w tmps hinv he
  have hz' := cellsD_rep (g := g) (w := w) (st := st) hzr (.d _ _ (cv_rep _ _ z))
  have hzl : zs.length = sz := by rw [← hz'.1, hzs']
  have hzc : (List.replicate n zs).flatten.length = n * sz := by simp [hzl]
  have hrows : ∀ row ∈ rows, row.length = sz := by
    intro row hm
    have := hr.1
    rw [List.all_eq_true] at this
    exact Nat.eq_of_beq_eq_true (this row hm)
  have hcells : CRep g.lim w (List.replicate n zs).flatten ((Array.range (n * sz)).map (z.cells[· % z.cells.size]!)) := by
    refine ⟨by simp [hzc], fun i c u hc hu => ?_⟩
    have hil : i < n * sz := by rw [← hzc]; exact (List.getElem?_eq_some_iff.1 hc).1
    have hmod : i % sz < sz := Nat.mod_lt _ hs0
    have hdiv : i / sz < n := Nat.div_lt_of_lt_mul (by rw [Nat.mul_comm]; exact hil)
    have hdm : i = i / sz * sz + i % sz := by rw [Nat.mul_comm]; exact (Nat.div_add_mod i sz).symm
    have hf := flat_get (rows := List.replicate n zs) (sz := sz) (i := i / sz) (j := i % sz) (row := zs) (c := zs[i % sz]'(by omega)) (by intro row hm; rw [List.eq_of_mem_replicate hm]; exact hzl) (by simp [List.getElem?_replicate, hdiv]) (List.getElem?_eq_getElem (by omega))
    rw [← hdm, hc] at hf
    have hcz : zs[i % sz]? = some c := by cases hf; exact List.getElem?_eq_getElem (by omega)
    have huz : z.cells[i % sz]? = some u := by
      have hlt' : i % sz < z.cells.size := by omega
      have : ((Array.range (n * sz)).map (z.cells[· % z.cells.size]!))[i]? = some (z.cells[i % z.cells.size]!) := by simp [hil]
      rw [this] at hu
      cases hu
      rw [hzs', getElem!_pos z.cells (i % sz) hlt', Array.getElem?_eq_getElem hlt']
    exact hz'.2 _ c u hcz huz
  obtain ⟨us, h1, h2, h3⟩ := layD_rep he l _ _ _ hl hcells
  have hfl := flat_len hrows
  have hus : us.size = n * sz := by rw [h2.1, hfl, hn]
  have hnm : n ≤ maxLen := by
    have : n * 1 ≤ n * sz := Nat.mul_le_mul_left n hs0
    simp only [maxLen]; omega
  obtain ⟨g', k1, k2, k3⟩ := hinv.newTokN e sz n us hus hnm
  have hst : st.tok ⟨e, sz, rows.length, none⟩ = st.tok ⟨e, sz, n, none⟩ := by rw [hn]
  rw [hst]
  have htl : (st.tok ⟨e, sz, n, none⟩).tails[st.tails.length]? = some ⟨e, sz, n, none⟩ := by simp [St.tok]
  obtain ⟨xs, m1, m2⟩ := k2.tail _ _ _ _ htl
  rw [k1] at m1 m2
  have hxs : xs = us.toList := by
    rcases m1.2 with ⟨hh, _⟩ | ⟨gb, cap, cur, e1, _, e3, e4, e5, e6, e7⟩
    · cases hh
    · cases e1
      rw [heap_alloc_new] at e3
      cases e3
      rw [← e7, List.take_of_length_le (by simp [hus])]
  subst hxs
  refine ⟨_, g', _, ?_, .tsl sz rows _ _ e n (own_sl m1 hn hrows (fun b hb => by rw [m2 b hb]; exact Nat.le_refl _) fun j u c hu hc => ?_) htl (Nat.le_of_eq hn) (fun _ => k1.symm), k2, k3⟩
  · subst hsz
    have hbig' : ¬ (16777216 < n * inf.size) := by omega
    have hne' : ¬ n * inf.size = 0 := by
      intro h0
      rcases Nat.mul_eq_zero.1 h0 with h | h <;> omega
    have h1' : Instr.fill (fun i => some (i * inf.size, inf.size)) (Array.map (fun x => z.cells[x % z.cells.size]!) (Array.range (n * inf.size))) (List.map (fun p => (p.1, Act.eval ⟨tmps, []⟩ p.2)) l) = some us := h1
    simp [execOp, Instr.buildSlice, run_underlying ht, size_of hi, hbig', hne', zero_run hi hz, h1', newRow]
  · have := h2.2 j c u hc (by simpa using hu)
    exact ⟨this.1.mono k3.sevo.evo, this.2⟩
end b
end Go.Abs
