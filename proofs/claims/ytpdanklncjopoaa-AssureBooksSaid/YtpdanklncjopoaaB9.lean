/- Elements of array values. -/
import Derived.Test.YtpdanklncjopoaaB8
set_option linter.unusedSimpArgs false
set_option linter.unusedVariables false
set_option linter.unusedSectionVars false
namespace Go.Abs
open Go.RowKit
section rules
variable {P : Program} {f : FuncId} {N : Nat} {S : Start} {Q : EV → St → Prop} {k : List Item} {base : Nat} {env : Env} {st : St} {ops rest : List Oper} {d : Option Tmp} {ty : TypeId} {pos : String} {after : Array Edge} {gd : Option (Nat × Bool)} {t t2 e : TypeId} {x y z : Operand}
/-- a[i], a an array value, of one-cell elements. -/
theorem q_indexA {n m : Nat} {inf : TypeInfo} {cs : List D} {c : D} {k : IntKind} {i : Int} (ht : P.underlying t = some (.array n e)) (h1 : (P.underlying e).map oneB = some true) (hi : P.info? e = some inf) (hs : inf.size = 1)
    (hx : evo env x = some (.d (.agg cs))) (hy : evo env y = some (.d (.ex (.int k i)))) (hm : i = m) (hlt : m < n) (hc : cs[m]? = some c) :
    OpQ P env st ⟨d, .index t x y, ty, pos, after, gd⟩ (.d c) := fun g base w tmps hinv he => by
  subst hm
  have h := evo_rep he hx
  generalize hv : Act.eval ⟨tmps, []⟩ x = v at h
  have hyv := (evo_rep he hy).ex_inv
  cases h with
  | d _ _ h =>
    cases h with
    | agg _ us hsz h1c hc' =>
      have hlt' : m < us.size := by rw [hsz]; exact (List.getElem?_eq_some_iff.1 hc).1
      have hu : us[m]? = some us[m] := Array.getElem?_eq_getElem hlt'
      refine ⟨us[m], .d _ _ (hc' m c _ hc hu), fun w' hb => ?_⟩
      have hag := isAgg_of (P := P) h1 w'
      simp [execOp, hv, hyv, Instr.index, asIntOf, run_underlying ht, sizeOf, typeInfo, hi, hs, hlt, part, hag, hlt']
/-- [n]T{...}. -/
theorem q_buildArr {n sz : Nat} {inf ie : TypeInfo} {z : Value} {zs r : List D} {l : List (Nat × Operand)} (ht : P.underlying t = some (.array n e)) (hi : P.info? t = some inf) (hz : inf.zero = some z) (hie : P.info? e = some ie) (hse : ie.size = sz) (hzs : cellsD (.d (cv z)) = some zs)
    (hl : layD (fun i => some (i * sz, sz)) env zs l = some r) : OpQ P env st ⟨d, .build t l.toArray, ty, pos, after, gd⟩ (.d (.agg r)) := by
  intro g base w tmps hinv he
  have hz' := cellsD_rep (g := g) (w := w) (st := st) hzs (.d _ _ (cv_rep _ _ z))
  obtain ⟨us, h1, h2, h3⟩ := layD_rep he l zs z.cells r hl hz'
  refine ⟨.agg us, .d _ _ (.agg r us h2.1 (fun i u hu => ?_) fun i c u hc hu => (h2.2 i c u hc hu).1), fun w' hb => ?_⟩
  · have hi' : i < r.length := by rw [← h2.1]; exact (Array.getElem?_eq_some_iff.1 hu).1
    exact (h2.2 i _ u (List.getElem?_eq_getElem hi') hu).2
  · subst hse
    have hso : (sizeOf e : Sem Nat).run P w' = .ok ie.size w' := by simp [sizeOf, typeInfo, hie]
    simp only [execOp, Instr.build, Sem.run_bind, zero_run hi hz, Result.andThen_ok, run_underlying ht, List.map_toArray, hso]
    rw [h1]
    simp
/-- A function whose one result is a variable of its own. -/
theorem ARun.ret1C {fn : Func} {a : Tmp} {T : TypeId} {r : EV} (hf : P.funcs[f]? = some fn) (hr : fn.results = #[.cell a T]) {o off : Nat} (hx : lookup a env = some (.ref o off)) (hq : OpQ P env st ⟨none, .load T (.tmp a), 0, "", #[], none⟩ r) (hQ : Q r st) : ARun P f N S Q (.code .ret :: k) env st := by
  intro g w tmps hi hh he hn
  obtain ⟨v, h1, h2⟩ := hq g S.base w tmps hi he
  refine FWP.ret hf ?_ ⟨v, r, st, g, rfl, hQ, h1, hi, hh⟩
  have h3 := h2 w (.refl _ _)
  obtain ⟨pv, h4, h5⟩ := he a _ hx
  have h6 : (Act.eval ⟨tmps, []⟩ (.tmp a)) = pv := by
    show tmps.getD a undef = pv
    rw [Array.getD_eq_getD_getElem?, h4]; rfl
  cases h5 with
  | ref _ _ hlt =>
    simp only [execOp, h6, Instr.loadAt, Instr.sureAddr, Sem.run_bind] at h3
    simp only [results, hr]
    simp [Array.getD_eq_getD_getElem?, h4, asAddr]
    simp at h3
    generalize (Sem.run P (loadVar T { block := g.ob o, off := off }) w) = res at h3 ⊢
    cases res with
    | ok x w2 => simp [Result.andThen_ok] at h3; simp [h3]
    | halt h w2 => simp [Result.andThen] at h3
/-- What is less than what. -/
def DLe (x y : D) : Prop := ∀ lim w v, DRep lim w x v → DRep lim w y v
theorem DLe.rfl' (x : D) : DLe x x := fun _ _ _ h => h
theorem DLe.nil (sz : Nat) : DLe (.ex (.slice none 0 0)) (.sl sz []) := fun _ _ _ h => by cases h; exact .nil sz _
def DLes : List D → List D → Prop
  | [], [] => True
  | x :: xs, y :: ys => DLe x y ∧ DLes xs ys
  | _, _ => False
theorem DLes.get : ∀ {xs ys : List D}, DLes xs ys → xs.length = ys.length ∧ ∀ (i : Nat) y, ys[i]? = some y → ∃ x, xs[i]? = some x ∧ DLe x y
  | [], [], _ => ⟨rfl, fun i y h => by simp at h⟩
  | x :: xs, y :: ys, h => by
    obtain ⟨h1, h2⟩ := DLes.get h.2
    refine ⟨by simp [h1], fun i z hz => ?_⟩
    cases i with
    | zero => simp at hz; subst hz; exact ⟨x, rfl, h.1⟩
    | succ i => simpa using h2 i z (by simpa using hz)
  | [], _ :: _, h => h.elim
  | _ :: _, [], h => h.elim
theorem DLe.agg {xs ys : List D} (h : DLes xs ys) : DLe (.agg xs) (.agg ys) := by
  intro lim w v hv
  obtain ⟨h1, h2⟩ := h.get
  cases hv with
  | agg _ vs hs ho hc =>
    refine .agg _ vs (by rw [hs, h1]) ho fun i c u hi hu => ?_
    obtain ⟨x, hx, hle⟩ := h2 i c hi
    exact hle lim w u (hc i x u hx hu)
def DLess : List (List D) → List (List D) → Prop
  | [], [] => True
  | x :: xs, y :: ys => DLes x y ∧ DLess xs ys
  | _, _ => False
theorem DLess.get : ∀ {xs ys : List (List D)}, DLess xs ys → xs.length = ys.length ∧ ∀ (i : Nat) y, ys[i]? = some y → ∃ x, xs[i]? = some x ∧ DLes x y
  | [], [], _ => ⟨rfl, fun i y h => by simp at h⟩
  | x :: xs, y :: ys, h => by
    obtain ⟨h1, h2⟩ := DLess.get h.2
    refine ⟨by simp [h1], fun i z hz => ?_⟩
    cases i with
    | zero => simp at hz; subst hz; exact ⟨x, rfl, h.1⟩
    | succ i => simpa using h2 i z (by simpa using hz)
  | [], _ :: _, h => h.elim
  | _ :: _, [], h => h.elim
theorem DLe.sl {sz : Nat} {xs ys : List (List D)} (h : DLess xs ys) : DLe (.sl sz xs) (.sl sz ys) := by
  intro lim w v hv
  obtain ⟨h1, h2⟩ := h.get
  cases hv with
  | nil =>
    have : ys = [] := List.eq_nil_of_length_eq_zero (by rw [← h1]; rfl)
    subst this
    exact .nil sz _
  | sl _ _ b off cap hc hr hx hh =>
    rw [h1]
    refine .sl sz ys b off cap (by rw [← h1]; exact hc) (fun row hrow => ?_) (fun k hk => hx k (by rw [h1]; exact hk)) fun i j row c u hi hj hu => ?_
    · obtain ⟨i, hi⟩ := List.mem_iff_getElem?.1 hrow
      obtain ⟨x, hx', hle⟩ := h2 i row hi
      rw [← hle.get.1]
      exact hr x (List.mem_of_getElem? hx')
    · obtain ⟨x, hx', hle⟩ := h2 i row hi
      obtain ⟨d, hd, hl⟩ := hle.get.2 j c hj
      exact hl lim w u (hh i j x d u hx' hd hu)
theorem ACall.le {xs ys : List D} {q : D → Prop} (h : ACall P f ys q) (hle : DLes xs ys) : ACall P f xs q := by
  intro lim w vs hg ha
  obtain ⟨h1, h2⟩ := hle.get
  refine h lim w vs hg ⟨by rw [ha.1, h1], fun i y v hy hv => ?_⟩
  obtain ⟨x, hx, hl⟩ := h2 i y hy
  exact hl lim w v (ha.2 i x v hx hv)
end rules
theorem okObj_mEnc {κ α : Type} {n m : Nat} {ke : κ → Value} {val : α → D} {l : List (κ × α)} : okObj n m (.map (mEnc ke val l)) = true := by
  simp [okObj, mEnc, okEV]
theorem okObj_nil {n m : Nat} : okObj n m (.map []) = true := rfl
end Go.Abs
