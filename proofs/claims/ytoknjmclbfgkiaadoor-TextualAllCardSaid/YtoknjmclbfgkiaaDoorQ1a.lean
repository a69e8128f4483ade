import Derived.Test.YtoknjmclbfgkiaaDoorQ1
import Derived.KernelRfl
set_option linter.unusedSimpArgs false
set_option linter.unusedVariables false
namespace Go.Proofs.YtoknjmclbfgkiaaDoor
open Go.RowKit Go.Abs
theorem awake_true : f_billinglaw09_awake = some true := by kernel_rfl
theorem encodes_true (r : Record) : f_billinglaw09_TextualEncodes r = some true := by
  unfold f_billinglaw09_TextualEncodes
  rw [p_short]
  simp only [Option.bind_some]
  by_cases h : Short r
  · have hh := h
    unfold Short at hh
    rw [if_neg (by simp [h]), p_Encode r (by omega) (by omega), p_rEncode r (by omega) (by omega)]
    simp only [Option.bind_some, gcall_mk, beq_self_eq_true, Bool.and_self, if_true, awake_true]
  · rw [if_pos (by simp [h]), awake_true]; rfl
end Go.Proofs.YtoknjmclbfgkiaaDoor
