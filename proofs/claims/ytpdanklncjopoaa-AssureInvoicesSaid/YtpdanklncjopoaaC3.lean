/- Typed arguments: the readings of structs, strings and slices of them. -/
import Derived.Test.YtpdanklncjopoaaC2
import Derived.Test.YtpdanklncjopoaaD1
set_option linter.unusedSimpArgs false
set_option linter.unusedVariables false
set_option linter.unusedSectionVars false
namespace Go.Abs
open Go.RowKit Go.ChangeShapes Go.WideShapes Go.Deep Go.ChangeAt
theorem DFits.s_inv' {d : D} (h : DFits .s d) : ∃ l : List UInt8, d = .ex (.string ⟨l.toArray⟩) ∧ l.length ≤ maxLen := by cases h with | s l h => exact ⟨l, rfl, h⟩
theorem rows_of' {α : Type} {row : α → List D} {p : α → Prop} {rows : List (List D)} (h : ∀ r, r ∈ rows → ∃ x, r = row x ∧ p x) : ∃ l : List α, rows = l.map row ∧ ∀ x, x ∈ l → p x :=
  rows_of fun r hr => let ⟨x, h1, h2⟩ := h r hr; ⟨x, h2, h1⟩
theorem DFits.sl_of {sh : List Sh} {d : D} {α : Type} {row : α → List D} {p : α → Prop} (h : DFits (.sl sh) d)
    (hr : ∀ r : List D, r.length = sh.length → (∀ (i : Nat) h d, sh[i]? = some h → r[i]? = some d → DFits h d) → ∃ x, r = row x ∧ p x) :
    ∃ l : List α, d = .sl sh.length (l.map row) ∧ l.length ≤ maxLen ∧ ∀ z, z ∈ l → p z := by
  obtain ⟨rows, rfl, hn, h2⟩ := h.sl_inv
  obtain ⟨l, rfl, hl⟩ := rows_of' (row := row) (p := p) fun r hrm => hr r (h2 r hrm).1 (h2 r hrm).2
  exact ⟨l, rfl, by simpa using hn, hl⟩
theorem ofI (r : List D) (h1 : r.length = 1) (h2 : ∀ (i : Nat) sh d, ([.i .i64] : List Sh)[i]? = some sh → r[i]? = some d → DFits sh d) : ∃ x : Int, r = rI x ∧ (-9223372036854775808 ≤ x ∧ x ≤ 9223372036854775807) := by
  match r, h1 with
  | [d], _ => obtain ⟨a, rfl, k⟩ := (h2 0 _ d rfl rfl).i_inv; exact ⟨a, rfl, k⟩
theorem ofS (r : List D) (h1 : r.length = 1) (h2 : ∀ (i : Nat) sh d, ([.s] : List Sh)[i]? = some sh → r[i]? = some d → DFits sh d) : ∃ x : List UInt8, r = rS x ∧ x.length ≤ maxLen := by
  match r, h1 with
  | [d], _ => obtain ⟨a, rfl, k⟩ := (h2 0 _ d rfl rfl).s_inv'; exact ⟨a, rfl, k⟩
theorem ofB8 (r : List D) (h1 : r.length = 1) (h2 : ∀ (i : Nat) sh d, ([.i .u8] : List Sh)[i]? = some sh → r[i]? = some d → DFits sh d) : ∃ x : UInt8, r = rB8 x ∧ True := by
  match r, h1 with
  | [d], _ =>
    have h := h2 0 _ d rfl rfl
    cases h with
    | i _ n hw =>
      simp [Lit.wf, IntKind.min, IntKind.max, IntKind.signed, IntKind.bits] at hw
      refine ⟨UInt8.ofNat n.toNat, ?_, trivial⟩
      have : ((UInt8.ofNat n.toNat).toNat : Int) = n := by simp [UInt8.toNat_ofNat']; omega
      unfold rB8
      rw [this]
end Go.Abs
