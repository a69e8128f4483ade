/- Typed arguments: the readings of structs, strings and slices of them. -/
import Derived.Test.YtpdanklncjopoaaC2
import Derived.Test.YtpdanklncjopoaaD1
set_option linter.unusedSimpArgs false
set_option linter.unusedVariables false
set_option linter.unusedSectionVars false
namespace Go.Abs
open Go.RowKit Go.ChangeShapes Go.WideShapes Go.Deep Go.ChangeAt
theorem DFits.s_inv' {d : D} (h : DFits .s d) : ∃ l : List UInt8, d = .ex (.string ⟨l.toArray⟩) ∧ l.length ≤ maxLen := by cases h with | s l h => exact ⟨l, rfl, h⟩
theorem rows_of' {α : Type} {row : α → List D} {p : α → Prop} {rows : List (List D)} (h : ∀ r, r ∈ rows → ∃ x, r = row x ∧ p x) : ∃ l : List α, rows = l.map row ∧ ∀ x, x ∈ l → p x :=
  rows_of fun r hr => let ⟨x, h1, h2⟩ := h r hr; ⟨x, h2, h1⟩
theorem DFits.sl_of {sh : List Sh} {d : D} {α : Type} {row : α → List D} {p : α → Prop} (h : DFits (.sl sh) d)
    (hr : ∀ r : List D, r.length = sh.length → (∀ (i : Nat) h d, sh[i]? = some h → r[i]? = some d → DFits h d) → ∃ x, r = row x ∧ p x) :
    ∃ l : List α, d = .sl sh.length (l.map row) ∧ l.length ≤ maxLen ∧ ∀ z, z ∈ l → p z := by
  obtain ⟨rows, rfl, hn, h2⟩ := h.sl_inv
  obtain ⟨l, rfl, hl⟩ := rows_of' (row := row) (p := p) fun r hrm => hr r (h2 r hrm).1 (h2 r hrm).2
  exact ⟨l, rfl, by simpa using hn, hl⟩
theorem ofI (r : List D) (h1 : r.length = 1) (h2 : ∀ (i : Nat) sh d, ([.i .i64] : List Sh)[i]? = some sh → r[i]? = some d → DFits sh d) : ∃ x : Int, r = rI x ∧ (-9223372036854775808 ≤ x ∧ x ≤ 9223372036854775807) := by
  match r, h1 with
  | [d], _ => obtain ⟨a, rfl, k⟩ := (h2 0 _ d rfl rfl).i_inv; exact ⟨a, rfl, k⟩
theorem ofS (r : List D) (h1 : r.length = 1) (h2 : ∀ (i : Nat) sh d, ([.s] : List Sh)[i]? = some sh → r[i]? = some d → DFits sh d) : ∃ x : List UInt8, r = rS x ∧ x.length ≤ maxLen := by
  match r, h1 with
  | [d], _ => obtain ⟨a, rfl, k⟩ := (h2 0 _ d rfl rfl).s_inv'; exact ⟨a, rfl, k⟩
theorem ofB8 (r : List D) (h1 : r.length = 1) (h2 : ∀ (i : Nat) sh d, ([.i .u8] : List Sh)[i]? = some sh → r[i]? = some d → DFits sh d) : ∃ x : UInt8, r = rB8 x ∧ True := by
  match r, h1 with
  | [d], _ =>
    have h := h2 0 _ d rfl rfl
    cases h with
    | i _ n hw =>
      simp [Lit.wf, IntKind.min, IntKind.max, IntKind.signed, IntKind.bits] at hw
      refine ⟨UInt8.ofNat n.toNat, ?_, trivial⟩
      have : ((UInt8.ofNat n.toNat).toNat : Int) = n := by simp [UInt8.toNat_ofNat']; omega
      unfold rB8
      rw [this]
section top
variable {H : Type} {enc : TypeId × Value → H} {P : Program} {w : World} {held : Bool} {r : Reach} {b0 : Nat} {t : TypeId} {v : Value} {d : DataW H} {ps : List MemPlace}
theorem top_agg {n : Nat} {shs : List Sh} {fs : Array Field} (hs : shape P n t = some shs) (ht : P.underlying t = some (.struct fs)) (hv : Value.okWide P w r b0 t v) (h : DataW.Trod enc P w 0 (fun _ => true) held t v d ps) :
    ∃ x : List D, x.length = shs.length ∧ (∀ (i : Nat) sh d, shs[i]? = some sh → x[i]? = some d → DFits sh d) ∧ DRep (limW w) w (.agg x) v := by
  obtain ⟨cs, rfl, _⟩ := okWide_struct ht hv
  obtain ⟨fuel, hf⟩ := h
  obtain ⟨ds, h1, h2, h3⟩ := opens_shape (limW_lt w) n t _ hs fuel _ _ hf
  have h2' : cs.size = shs.length := by simpa [Value.cells] using h2
  refine ⟨ds, h1, fun i sh d hi hd => ?_, .agg ds cs (by omega) (fun i u hu => ?_) fun i c u hc hu => ?_⟩
  · have hil : i < cs.size := by have := (List.getElem?_eq_some_iff.1 hi).1; omega
    exact (h3 i sh d cs[i] hi hd (by simp [Value.cells, hil])).1
  · have hil : i < shs.length := by have := (Array.getElem?_eq_some_iff.1 hu).1; omega
    exact (h3 i shs[i] (ds[i]'(by omega)) u (List.getElem?_eq_getElem hil) (List.getElem?_eq_getElem (by omega)) (by simpa [Value.cells] using hu)).2.2
  · have hil : i < shs.length := by have := (Array.getElem?_eq_some_iff.1 hu).1; omega
    exact (h3 i shs[i] c u (List.getElem?_eq_getElem hil) hc (by simpa [Value.cells] using hu)).2.1
theorem top_str (ht : P.underlying t = some .string) (hv : Value.okWide P w r b0 t v) (h : DataW.Trod enc P w 0 (fun _ => true) held t v d ps) : ∃ l : List UInt8, DRep (limW w) w (.ex (.string ⟨l.toArray⟩)) v ∧ l.length ≤ maxLen := by
  obtain ⟨a, rfl⟩ := okWide_string ht hv
  obtain ⟨fuel, hf⟩ := h
  obtain ⟨a', h1, _, hs⟩ := DataW.trod_string ht hf
  have h2 : [Value.string a] = [Value.string a'] := h1
  simp only [List.cons.injEq, Value.string.injEq, and_true] at h2
  subst h2
  exact ⟨a.data.toList, .ex _, by rw [Array.length_toList]; exact hs⟩
end top
end Go.Abs
