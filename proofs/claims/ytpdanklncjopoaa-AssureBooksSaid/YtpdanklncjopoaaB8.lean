/- Equality of flat structs, closures, bytes as strings, arrays that the call owns. -/
import Derived.Test.YtpdanklncjopoaaB7
set_option linter.unusedSimpArgs false
set_option linter.unusedVariables false
set_option linter.unusedSectionVars false
namespace Go.Abs
open Go.RowKit

inductive FK where
  | i (k : IntKind)
  | b
  | s
def fkOf : Option TypeDesc → Option FK
  | some (.int k) => some (.i k)
  | some .bool => some .b
  | some .string => some .s
  | _ => none
def fkFits : FK → Value → Bool
  | .i k, .int k' _ => decide (k = k')
  | .b, .bool _ => true
  | .s, .string _ => true
  | _, _ => false
def eqV : Value → Value → Bool
  | .int _ a, .int _ b => a == b
  | .bool a, .bool b => a == b
  | .string a, .string b => a.toList == b.toList
  | _, _ => false
def eqVs : List Value → List Value → Bool
  | [], [] => true
  | x :: xs, y :: ys => eqV x y && eqVs xs ys
  | _, _ => false
def fitAll : List FK → List Value → Bool
  | [], [] => true
  | k :: ks, v :: vs => fkFits k v && fitAll ks vs
  | _, _ => false
/-- The kinds of a struct whose fields are one cell each. -/
def flatFrom (P : Program) : Nat → List Field → Option (List FK)
  | _, [] => some []
  | n, f :: fs => match Nat.beq f.offset n, decide (f.name ≠ "_"), fkOf (P.underlying f.type), flatFrom P (n + 1) fs with
    | true, true, some k, some ks => some (k :: ks)
    | _, _, _, _ => none
def flatKinds (P : Program) (t : TypeId) : Option (List FK) := match P.underlying t with
  | some (.struct fs) => if P.stoodInHeld t || P.eqGuardType P.depth t then none else flatFrom P 0 fs.toList
  | _ => none

section eq
variable {P : Program}
theorem part_one {t : TypeId} {k : FK} (h : fkOf (P.underlying t) = some k) {cs : Array Value} {off : Nat} {v : Value} (hv : cs[off]? = some v) (w : World) : (part t cs off).run P w = .ok v w := by
  have h1 : (P.underlying t).map oneB = some true := by
    cases hd : P.underlying t with
    | none => rw [hd] at h; cases h
    | some dsc => rw [hd] at h; cases dsc <;> first | rfl | cases h
  simp [part, isAgg_of h1, hv]
theorem equalIn_one {t : TypeId} {k : FK} (h : fkOf (P.underlying t) = some k) {x y : Value} (hx : fkFits k x = true) (hy : fkFits k y = true) (n : Nat) (w : World) : (Op.equalIn (n + 1) t x y).run P w = .ok (eqV x y) w := by
  cases hd : P.underlying t with
  | none => rw [hd] at h; cases h
  | some dsc =>
    rw [hd] at h
    cases dsc <;> simp only [fkOf, Option.some.injEq, reduceCtorEq] at h
    · subst h
      cases x <;> simp only [fkFits, Bool.false_eq_true] at hx
      cases y <;> simp only [fkFits, Bool.false_eq_true] at hy
      exact run_equalIn_bool' w n t _ _ hd
    · subst h
      cases x <;> simp only [fkFits, Bool.false_eq_true] at hx
      cases y <;> simp only [fkFits, Bool.false_eq_true] at hy
      have e1 := of_decide_eq_true hx
      have e2 := of_decide_eq_true hy
      rw [← e1, ← e2]
      exact run_equalIn_int w n t _ _ _ _ hd
    · subst h
      cases x <;> simp only [fkFits, Bool.false_eq_true] at hx
      cases y <;> simp only [fkFits, Bool.false_eq_true] at hy
      exact run_equalIn_string w n t _ _ hd
theorem eqFields_flat (n : Nat) (w : World) : ∀ (fs : List Field) (k : Nat) (ks : List FK) (xs ys : List Value) (X Y : Array Value), flatFrom P k fs = some ks → fitAll ks xs = true → fitAll ks ys = true →
    (∀ (j : Nat) v, xs[j]? = some v → X[k + j]? = some v) → (∀ (j : Nat) v, ys[j]? = some v → Y[k + j]? = some v) → (Op.eqFields (n + 1) X Y fs).run P w = .ok (eqVs xs ys) w
  | [], k, ks, xs, ys, X, Y, h, hx, hy, _, _ => by
    simp only [flatFrom, Option.some.injEq] at h
    subst h
    match xs, ys with
    | [], [] => rfl
    | _ :: _, _ => cases hx
    | [], _ :: _ => cases hy
  | f :: fs, k, ks, xs, ys, X, Y, h, hx, hy, hX, hY => by
    unfold flatFrom at h
    split at h
    · rename_i kk ks' h1 h2 h3 h4
      simp only [Option.some.injEq] at h
      subst h
      match xs, ys with
      | [], _ => cases hx
      | _ :: _, [] => cases hy
      | x :: xs, y :: ys =>
        simp only [fitAll, Bool.and_eq_true] at hx hy
        have ho := Nat.eq_of_beq_eq_true h1
        have hname : f.name ≠ "_" := of_decide_eq_true h2
        have px := part_one h3 (cs := X) (off := f.offset) (hX 0 x rfl |> fun h => by rw [ho]; simpa using h) w
        have py := part_one h3 (cs := Y) (off := f.offset) (hY 0 y rfl |> fun h => by rw [ho]; simpa using h) w
        have pe := equalIn_one h3 hx.1 hy.1 n w
        have ih := eqFields_flat n w fs (k + 1) ks' xs ys X Y h4 hx.2 hy.2 (fun j v hv => by have := hX (j + 1) v (by simpa using hv); rwa [show k + 1 + j = k + (j + 1) by omega]) (fun j v hv => by have := hY (j + 1) v (by simpa using hv); rwa [show k + 1 + j = k + (j + 1) by omega])
        simp only [Op.eqFields, if_pos hname, Sem.run_bind, px, py, pe, Result.andThen_ok, Sem.run_ite, eqVs]
        cases eqV x y
        · rfl
        · simpa using ih
    · cases h
theorem eq_flat {t : TypeId} {ks : List FK} (h : flatKinds P t = some ks) {xs ys : List Value} (hx : fitAll ks xs = true) (hy : fitAll ks ys = true) (w : World) (op : BinOp) (x y : Operand) :
    (eqGuard op t x y (.agg xs.toArray) (.agg ys.toArray)).run P w = .ok () w ∧ (Op.equalIn 10000 t (.agg xs.toArray) (.agg ys.toArray)).run P w = .ok (eqVs xs ys) w := by
  unfold flatKinds at h
  split at h
  · rename_i fs hu
    split at h
    · cases h
    · rename_i hno
      simp only [Bool.or_eq_true, not_or, Bool.not_eq_true] at hno
      have hfs : P.fieldsOf t = fs := by simp [Program.fieldsOf, hu]
      refine ⟨run_eqGuard_agg w op t x y _ _ hno.2, ?_⟩
      rw [run_equalIn_struct w 9999 t _ _ (by rw [hfs]; exact hu) hno.1, hfs]
      exact eqFields_flat 9998 w fs.toList 0 ks xs ys _ _ h hx hy (fun j v hv => by simpa using hv) (fun j v hv => by simpa using hv)
  · cases h
end eq

theorem drep_ex {lim : Nat → Nat} {w : World} {u v : Value} (h : DRep lim w (.ex u) v) : v = u := by cases h; rfl
/-- Cells that are known exactly. -/
def exs : List D → Option (List Value)
  | [] => some []
  | .ex v :: l => match exs l with
    | some r => some (v :: r)
    | none => none
  | _ :: _ => none
theorem exs_map : ∀ {l : List D} {vs : List Value}, exs l = some vs → l = vs.map D.ex
  | [], vs, h => by simp [exs] at h; subst h; rfl
  | .ex v :: l, vs, h => by
    unfold exs at h
    split at h
    · rename_i r hr
      simp only [Option.some.injEq] at h
      subst h
      rw [exs_map hr]
      rfl
    · cases h
  | .agg _ :: l, vs, h => by cases h
  | .tup _ :: l, vs, h => by cases h
  | .sl _ _ :: l, vs, h => by cases h
  | .ro _ :: l, vs, h => by cases h
  | .e0 _ :: l, vs, h => by cases h
  | .any :: l, vs, h => by cases h
theorem agg_exact {lim : Nat → Nat} {w : World} {cs : List D} {vs : List Value} {v : Value} (h : exs cs = some vs) (hr : DRep lim w (.agg cs) v) : v = .agg vs.toArray := by
  have hm := exs_map h
  subst hm
  cases hr with
  | agg _ us hs _ hc =>
    congr 1
    apply Array.ext'
    apply List.ext_getElem?
    intro i
    simp only [List.length_map] at hs
    by_cases hi : i < vs.length
    · have h1 : us[i]? = some (us[i]'(by omega)) := Array.getElem?_eq_getElem (by omega)
      have h2 := hc i (.ex vs[i]) _ (by rw [List.getElem?_map, List.getElem?_eq_getElem hi]; rfl) h1
      rw [Array.getElem?_toList, h1, List.getElem?_eq_getElem hi, drep_ex h2]
    · rw [List.getElem?_eq_none (by simp; omega), List.getElem?_eq_none (by simp; omega)]

section rules
variable {P : Program} {f : FuncId} {N : Nat} {S : Start} {Q : EV → St → Prop} {k : List Item} {base : Nat} {env : Env} {st : St} {ops rest : List Oper} {d : Option Tmp} {ty : TypeId} {pos : String} {after : Array Edge} {gd : Option (Nat × Bool)} {t t2 e : TypeId} {x y z : Operand}
section steq
variable {ks : List FK} {cs ds : List D} {xs ys : List Value} (hk : flatKinds P t = some ks) (hx : evo env x = some (.d (.agg cs))) (hy : evo env y = some (.d (.agg ds))) (h1 : exs cs = some xs) (h2 : exs ds = some ys) (h3 : fitAll ks xs = true) (h4 : fitAll ks ys = true)
include hk hx hy h1 h2 h3 h4
theorem q_steql : OpQ P env st ⟨d, .binOp .eql t x y t2, ty, pos, after, gd⟩ (.d (.ex (.bool (eqVs xs ys)))) := q_ex fun g w tmps w' he => by
  obtain ⟨k1, k2⟩ := eq_flat hk h3 h4 w' .eql x y
  have e1 : Act.eval ⟨tmps, []⟩ x = .agg xs.toArray := by cases evo_rep he hx with | d _ _ h => exact agg_exact h1 h
  have e2 : Act.eval ⟨tmps, []⟩ y = .agg ys.toArray := by cases evo_rep he hy with | d _ _ h => exact agg_exact h2 h
  simp only [execOp, e1, e2, Sem.run_bind, k1, Result.andThen_ok, run_eql_struct, k2, Sem.run_pure]
theorem q_stneq : OpQ P env st ⟨d, .binOp .neq t x y t2, ty, pos, after, gd⟩ (.d (.ex (.bool (!eqVs xs ys)))) := q_ex fun g w tmps w' he => by
  obtain ⟨k1, k2⟩ := eq_flat hk h3 h4 w' .neq x y
  have e1 : Act.eval ⟨tmps, []⟩ x = .agg xs.toArray := by cases evo_rep he hx with | d _ _ h => exact agg_exact h1 h
  have e2 : Act.eval ⟨tmps, []⟩ y = .agg ys.toArray := by cases evo_rep he hy with | d _ _ h => exact agg_exact h2 h
  simp only [execOp, e1, e2, Sem.run_bind, k1, Result.andThen_ok, run_neq_struct, k2, Sem.run_pure]
end steq

/-- A function literal, with what it captures. -/
theorem q_makeFunc {f' : FuncId} {l : List Operand} {es : List EV} (h : evos env l = some es) : OpQ P env st ⟨d, .makeFunc (.func f') #[] l.toArray, ty, pos, after, gd⟩ (.clo f' es) := by
  intro g base w tmps hinv he
  obtain ⟨k1, k2⟩ := evos_rep he l es h
  refine ⟨.func (.func f') #[] (l.map (Act.eval ⟨tmps, []⟩)).toArray, .clo f' es _ (by simp [k1]) (fun i c u hc hu => k2 i c u hc (by simpa using hu)), fun w' _ => ?_⟩
  simp [execOp, Instr.makeFunc]

/-! ### bytes -/
theorem foldl_push : ∀ (l : List UInt8) (b : ByteArray), (l.map fun b => (b.toNat : Int)).foldl (fun r n => r.push (UInt8.ofNat n.toNat)) b = ⟨b.data ++ l.toArray⟩
  | [], b => by simp
  | c :: l, b => by
    rw [List.map_cons, List.foldl_cons, foldl_push l]
    have : UInt8.ofNat (c.toNat : Int).toNat = c := by simp
    rw [this]
    congr 1
    apply Array.ext'
    simp [ByteArray.push]
theorem bytesToString_run {w : World} {A : Option Addr} {c : Nat} {l : List UInt8} (h : A = none → l = []) (hc : ∀ a, A = some a → (loadCells a l.length).run P w = .ok (l.map fun b => Value.int .u8 (b.toNat : Int)).toArray w) :
    (Conv.bytesToString (.slice A l.length c)).run P w = .ok (.string ⟨l.toArray⟩) w := by
  cases A with
  | none =>
    have := h rfl
    subst this
    rfl
  | some a =>
    have h1 := run_bytesToString (P := P) w a l.length c (l.map fun b => (b.toNat : Int)) (by rw [hc a rfl]; simp [Function.comp_def])
    rw [h1, foldl_push]
    congr 2
    simp [ByteArray.empty, ByteArray.emptyWithCapacity]
    rfl
/-- string(b), b's bytes known. -/
theorem q_bytesStr {ev : EV} {l : List UInt8} (hs : P.underlying t = some (.slice e)) (he' : P.underlying e = some (.int .u8)) (hd : P.underlying t2 = some .string) (hx : evo env x = some ev) (hsl : asSl ev = some (1, byteRows l)) :
    OpQ P env st ⟨d, .convert t t2 x, ty, pos, after, gd⟩ (.d (.ex (.string ⟨l.toArray⟩))) := fun g base w tmps hinv he => by
  refine ⟨_, .d _ _ (.ex _), fun w' hb => ?_⟩
  obtain ⟨A, c, vs, hv, hl, hA, hnil, hcell, hr, hrep⟩ := slInv (asSl_rep hsl (evo_rep he hx))
  have hlen : (byteRows l).length = l.length := by simp [byteRows]
  have hvs : vs = l.map fun b => Value.int .u8 (b.toNat : Int) := by
    apply List.ext_getElem?
    intro j
    have hfl : (byteRows l).flatten = l.map fun b => D.ex (.int .u8 (b.toNat : Int)) := by
      unfold byteRows
      clear hrep hr hcell hnil hA hl hv hsl hlen
      induction l with
      | nil => rfl
      | cons a l ih => simp [ih]
    by_cases hj : j < l.length
    · have h1 : vs[j]? = some (vs[j]'(by omega)) := List.getElem?_eq_getElem (by omega)
      have h2 := (hrep j _ (.ex (.int .u8 ((l[j]).toNat : Int))) h1 (by rw [hfl, List.getElem?_map, List.getElem?_eq_getElem hj]; rfl)).1
      rw [h1, List.getElem?_map, List.getElem?_eq_getElem hj, drep_ex h2]
      rfl
    · rw [List.getElem?_eq_none (by omega), List.getElem?_eq_none (by simp; omega)]
  rw [hlen] at hv
  simp only [execOp, hv, Sem.run_bind, run_convert_bytes_string w' t t2 e A l.length c hs he' hd]
  rw [bytesToString_run (fun h0 => by have := (hnil h0).1; rw [hlen] at this; exact List.eq_nil_of_length_eq_zero this) (fun a ha => ?_)]
  · rfl
  · rcases hA with h0 | ⟨b, off, hab⟩
    · rw [hlen] at h0
      have : l = [] := List.eq_nil_of_length_eq_zero h0
      subst this
      simp [loadCells, loadCellsFrom]
    · rw [ha] at hab
      cases hab
      have := loadCells_run (P := P) (w := w') (b := b) (off := off) (n := l.length) (vs := vs) (by rw [hl, hlen]; omega) (fun j u hu => by
        have h3 := hcell b off ha j u hu
        exact (hb.cell (World.block_lt_of_cell? w _ h3)).trans h3)
      rw [this, hvs]

/-! ### arrays that the call owns -/
theorem q_idxArr {o off : Nat} {n : Nat} {k : IntKind} {i : Int} {m sz : Nat} (ht : P.underlying t = some (.array n e)) (hi : ∃ inf, P.info? e = some inf ∧ inf.size = sz) (hx : evo env x = some (.ref o off)) (hy : evo env y = some (.d (.ex (.int k i)))) (hm : i = m) (hlt : m < n) :
    OpQ P env st ⟨d, .indexAddr t x y, ty, pos, after, gd⟩ (.ref o (off + m * sz)) := fun g base w tmps hinv he => by
  subst hm
  obtain ⟨inf, hi, rfl⟩ := hi
  have h := evo_rep he hx
  generalize hv : Act.eval ⟨tmps, []⟩ x = v at h
  have hyv := (evo_rep he hy).ex_inv
  cases h with
  | ref _ _ hlt' =>
    refine ⟨.pointer (some ⟨g.ob o, off + m * inf.size, none⟩), .ref _ _ hlt', fun w' _ => ?_⟩
    simp [execOp, hv, hyv, Instr.indexAt, asIntOf, run_underlying ht, Instr.sureAddr, sizeOf, typeInfo, hi, hlt, Addr.add_lit]
/-- a[lo:], a an array. -/
theorem q_arrL {o off n : Nat} {k : IntKind} {i : Int} {m sz : Nat} (ht : P.underlying t = some (.array n e)) (hi : ∃ inf, P.info? e = some inf ∧ inf.size = sz) (hx : evo env x = some (.ref o off)) (hy : evo env y = some (.d (.ex (.int k i)))) (hm : i = m) (hlt : m < n) :
    OpQ P env st ⟨d, .slice t x (some y) none none, ty, pos, after, gd⟩ (.osl o (off + m * sz) (n - m) (n - m)) := fun g base w tmps hinv he => by
  subst hm
  obtain ⟨inf, hi, rfl⟩ := hi
  have h := evo_rep he hx
  generalize hv : Act.eval ⟨tmps, []⟩ x = v at h
  have hyv := (evo_rep he hy).ex_inv
  cases h with
  | ref _ _ hlt' =>
    refine ⟨.slice (some ⟨g.ob o, off + m * inf.size, none⟩) (n - m) (n - m), .osl _ _ _ _ hlt', fun w' _ => ?_⟩
    have hb := run_sliceBound (P := P) w' k (m : Int) n .sliceB (by omega) (by omega)
    have hne : ¬ n = m := by omega
    simp [execOp, hv, hyv, Instr.sliceAt, run_underlying ht, Instr.sureAddr, Instr.sliceBounds, hb, sizeOf, typeInfo, hi, hne, Addr.add_lit]
/-- string(a[lo:]), the bytes of an array that the call owns. -/
theorem q_ownStr {o off n c : Nat} {T : TypeId} {cs : List EV} {l : List UInt8} (hs : P.underlying t = some (.slice e)) (he' : P.underlying e = some (.int .u8)) (hd : P.underlying t2 = some .string) (hx : evo env x = some (.osl o off n c)) (ho : st.objs[o]? = some (.row T cs))
    (hl : l.length = n) (hc : ∀ (j : Nat) b, l[j]? = some b → cs[off + j]? = some (.d (.ex (.int .u8 (b.toNat : Int))))) :
    OpQ P env st ⟨d, .convert t t2 x, ty, pos, after, gd⟩ (.d (.ex (.string ⟨l.toArray⟩))) := fun g base w tmps hinv he => by
  refine ⟨_, .d _ _ (.ex _), fun w' hb => ?_⟩
  have h := evo_rep he hx
  generalize hv : Act.eval ⟨tmps, []⟩ x = v at h
  subst hl
  cases h with
  | osl _ _ _ _ hlt =>
    obtain ⟨_, _, vs, hbk, hsz, hreps⟩ := hinv.row o T cs ho
    simp only [execOp, hv, Sem.run_bind, run_convert_bytes_string w' t t2 e _ l.length c hs he' hd]
    rw [bytesToString_run (fun h0 => by cases h0) (fun a ha => ?_)]
    · rfl
    · cases ha
      refine loadCells_run (by simp) (fun j u hu => ?_)
      rw [List.getElem?_map] at hu
      cases hj : l[j]? with
      | none => rw [hj] at hu; cases hu
      | some b =>
        rw [hj] at hu
        cases hu
        have hcs := hc j b hj
        have hlt2 : off + j < vs.size := by rw [hsz]; exact (List.getElem?_eq_some_iff.1 hcs).1
        have hvj : vs[off + j]? = some vs[off + j] := Array.getElem?_eq_getElem hlt2
        have hr := ((hreps (off + j) _ _ hcs hvj).1).ex_inv
        have hcell : w.cell? ⟨g.ob o, off + j, none⟩ = some vs[off + j] := by rw [cell_of_row w _ _ vs T (0, 0) hbk]; exact hvj
        rw [(hb.cell (World.block_lt_of_cell? w _ hcell)).trans hcell, hr]
end rules
end Go.Abs
