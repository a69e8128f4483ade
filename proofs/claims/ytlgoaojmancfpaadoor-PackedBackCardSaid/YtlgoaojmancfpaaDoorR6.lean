import Derived.Test.YtlgoaojmancfpaaDoorR5
set_option linter.unusedSimpArgs false
set_option linter.unusedVariables false
namespace Go.Proofs.YtlgoaojmancfpaaDoor
open Go.RowKit Go.Abs
theorem Record.eq_refl (r : Record) : eqVs r.vals r.vals = true := by simp [Record.vals, eqVs, eqV]
theorem decodes_true (b : List UInt8) : f_billinglaw11_PackedDecodes b = some true := by
  unfold f_billinglaw11_PackedDecodes
  rw [awake_true]
  by_cases h : (b.length : Int) > 200
  · rw [if_pos (by simpa using h)]; rfl
  · rw [if_neg (by simpa using h), p_Decode11 b (by omega), p_rDecode11 b (by omega)]
    simp [gcall_mk, Record.eq_refl]
end Go.Proofs.YtlgoaojmancfpaaDoor
