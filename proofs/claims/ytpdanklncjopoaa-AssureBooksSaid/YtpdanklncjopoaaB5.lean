/- '[]T{}' as a slice that grows. -/
import Derived.Test.YtpdanklncjopoaaB4
set_option linter.unusedSimpArgs false
set_option linter.unusedVariables false
set_option linter.unusedSectionVars false
namespace Go.Abs
open Go.RowKit

theorem Inv.newTokRow {g : Ghost} {base : Nat} {w : World} {st : St} (h : Inv g base w st) (e sz : Nat) :
    ∃ g', g'.tk st.tails.length = .slice (some ⟨w.heap.size, 0, none⟩) 0 0 ∧ Inv g' base (w.alloc (.cells #[] e)) (st.tok ⟨e, sz, 0, none⟩) ∧ Step base g w st g' (w.alloc (.cells #[] e)) (st.tok ⟨e, sz, 0, none⟩) := by
  obtain ⟨g', h1, _, _, h2, h3⟩ := h.newTail ⟨e, sz, 0, none⟩ (v := .slice (some ⟨w.heap.size, 0, none⟩) 0 0) (xs := []) ⟨by simp, .inr ⟨w.heap.size, 0, #[], rfl, h.base, heap_alloc_new w _, Nat.le_refl _, by simp [maxLen], by simp, by simp⟩⟩
    (.inr ⟨rfl, (Below.refl _ w).alloc (Nat.le_refl _) _⟩) (fun rows hh => by cases hh)
  exact ⟨g', h1, h2, h3⟩

section rules
variable {P : Program} {base : Nat} {env : Env} {st : St} {d : Option Tmp} {ty : TypeId} {pos : String} {after : Array Edge} {gd : Option (Nat × Bool)} {t t2 e : TypeId} {x y z : Operand}
theorem v_build0T {inf : TypeInfo} {sz : Nat} (ht : P.underlying t = some (.slice e)) (hi : P.info? e = some inf) (hsz : inf.size = sz) :
    OpV P base env st ⟨d, .buildSlice t 0 #[], ty, pos, after, gd⟩ (.tsl sz [] st.tails.length) (st.tok ⟨e, sz, 0, none⟩) := by
  intro g w tmps hinv he
  obtain ⟨g', h1, h2, h3⟩ := hinv.newTokRow e sz
  refine ⟨_, g', _, ?_, .tsl sz [] _ (.slice (some ⟨w.heap.size, 0, none⟩) 0 0) e 0 (.sl sz [] _ 0 0 (Nat.le_refl _) (by simp) (by simp) (by simp)) (by simp [St.tok]) (Nat.le_refl _) (fun _ => h1.symm), h2, h3⟩
  simp [execOp, Instr.buildSlice, run_underlying ht, size_of hi, newRow, Instr.fill]
  rw [show Array.map (fun _ => (default : Value)) (Array.range 0) = #[] from by simp [Array.range_zero']]
end rules
end Go.Abs
