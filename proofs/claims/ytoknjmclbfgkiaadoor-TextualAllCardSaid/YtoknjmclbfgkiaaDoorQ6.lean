import Derived.Test.YtoknjmclbfgkiaaDoorQ5
import Derived.Test.YtoknjmclbfgkiaaDoorQ1a
set_option linter.unusedSimpArgs false
set_option linter.unusedVariables false
namespace Go.Proofs.YtoknjmclbfgkiaaDoor
open Go.RowKit Go.Abs
theorem decodes_true (line : List UInt8) : f_billinglaw09_TextualDecodes line = some true := by
  unfold f_billinglaw09_TextualDecodes
  by_cases h : (line.length : Int) > 500
  · rw [if_pos (by simpa using h), awake_true]; rfl
  · rw [if_neg (by simpa using h), p_Decode line (by omega), p_rDecode line (by omega)]
    simp only [Option.bind_some, Record.eq_refl, beq_self_eq_true, Bool.and_self, gcall_mk, if_true, awake_true]
end Go.Proofs.YtoknjmclbfgkiaaDoor
