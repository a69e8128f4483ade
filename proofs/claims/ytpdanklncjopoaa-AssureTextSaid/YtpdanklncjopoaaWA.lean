import Derived.Test.YtpdanklncjopoaaW9
set_option linter.unusedSimpArgs false
set_option linter.unusedVariables false
namespace Go.Proofs.Ytpdanklncjopoaa
open Go.RowKit Go.Abs

set_option maxRecDepth 100000 in
set_option maxHeartbeats 400000 in
theorem l_Text (l : List Leak) (hok : ∀ k, k < l.length → (nth l k).ok) : ACall Try.prog 7 [slOf 4 Leak.row l] (· = cB true) := by
  refine ACall.enter' Try.func7 rfl Try.ntmps7 rfl fun S hS => ?_
  obtain ⟨i60, hi60, hz60, hs60, hb60⟩ := in_60
  refine .seq ?_
  refine .region ?_
  refine .q (q_assign rfl) rfl ?_
  refine .nil ?_
  refine .seq ?_
  refine .seq ?_
  refine .region ?_
  refine .q (q_move rfl) rfl ?_
  refine .q (q_lenA Try.underlying42 rfl rfl) rfl ?_
  refine .q (q_gtr rfl rfl) rfl ?_
  refine .nil ?_
  refine .cond rfl (fun hc1 => ?_) (fun hc1 => ?_)
  · try simp at hc1
    refine .seq ?_
    refine .region ?_
    refine .g (g_call en_10 rfl rfl (c_awake)) rfl ?_
    refine .q (q_assign rfl) rfl ?_
    refine .nil ?_
    refine .ret1 Try.func7 Try.results7 rfl ?_
    exact .d (by simp)
  · try simp at hc1
    refine .skip ?_
    refine .seq ?_
    refine .region ?_
    refine .v (v_build0T Try.underlying42 hi60 hs60) rfl ?_
    refine .q (q_move rfl) rfl ?_
    refine .v (v_append Try.underlying42 hi60 hz60 hs60 rfl rfl rfl rfl rfl (by first | omega | (simp only [hb60]; simp; omega) | (simp; omega) | (simp only [hb60]; omega) | (simp only [hb60]; simp) | simp) (by first | omega | (simp only [hb60]; simp; omega) | (simp; omega) | (simp only [hb60]; omega) | (simp only [hb60]; simp) | simp)) rfl ?_
    refine .g (g_call en_23 rfl rfl (c_Text l (by omega) hok)) rfl ?_
    refine .q (q_move rfl) rfl ?_
    refine .g (g_call en_24 rfl rfl (c_rText l (by omega) hok)) rfl ?_
    refine .q (q_seql rfl rfl) rfl ?_
    refine .q (q_move rfl) rfl ?_
    refine .guardG (env' := []) rfl rfl rfl trivial rfl (fun _ => (g_call en_10 rfl rfl (c_awake))) ?_
    refine .q (q_pickAnd rfl rfl rfl) rfl ?_
    refine .q (q_assign rfl) rfl ?_
    refine .nil ?_
    refine .ret1 Try.func7 Try.results7 rfl ?_
    exact .d (by simp)

end Go.Proofs.Ytpdanklncjopoaa
