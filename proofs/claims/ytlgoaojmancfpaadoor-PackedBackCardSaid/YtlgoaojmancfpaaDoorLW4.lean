import Derived.Test.YtlgoaojmancfpaaDoorLW3
import Derived.Test.YtlgoaojmancfpaaDoorLF
import Derived.Test.YtlgoaojmancfpaaDoorLX
set_option linter.unusedSimpArgs false
set_option linter.unusedVariables false
namespace Go.Proofs.YtlgoaojmancfpaaDoor
open Go.RowKit Go.Abs
set_option maxRecDepth 100000 in
set_option maxHeartbeats 1000000 in
theorem c_f_billinglaw11_PackedAll {v0b : List UInt8} {r : Bool} (H : f_billinglaw11_PackedAll v0b = some r) : ACall Tryd.prog 7 [slOf 1 rB8 v0b] (· = cB r) := by
  refine ACall.enter' Tryd.func7 rfl Tryd.ntmps7 rfl fun S hS => ?_
  unfold f_billinglaw11_PackedAll at H
  change ARun _ _ _ _ _ _ [(0, .d (slOf 1 rB8 v0b))] _
  refine .seq ?_
  refine .region ?_
  refine .q (x := .d (cB false)) (q_assign rfl) rfl ?_
  refine .nil ?_
  refine .seq ?_
  refine .seq ?_
  refine .region ?_
  refine .q (x := .d (slOf 1 rB8 v0b)) (q_move rfl) rfl ?_
  refine .q (x := .d (cI (v0b.length : Int))) (q_lenL (l := v0b) (row := rB8) Tryd.underlying22 rfl rfl) rfl ?_
  refine .q (x := .d (cB (decide ((v0b.length : Int) > 3000)))) (q_gtr rfl rfl) rfl ?_
  refine .nil ?_
  refine .cond rfl (fun hc => ?_) (fun hc => ?_)
  · replace H := ifT hc H; clear hc
    refine .seq ?_
    refine .region ?_
    obtain ⟨y1, hy1, H⟩ := bind_some' H
    refine .g (x := .d (cB y1)) (g_call en_8 rfl rfl (c_f_billinglaw11_awake (hy1))) rfl ?_
    refine .q (x := .d (cB y1)) (q_assign rfl) rfl ?_
    refine .nil ?_
    refine .retN [.tmp 2] [.d (cB y1)] Tryd.func7 Tryd.results7 ⟨rfl, trivial⟩ ?_
    cases H
    exact ⟨_, .rfl' _, rfl⟩
  · replace H := ifF hc H; clear hc
    refine .skip ?_
    refine .seq ?_
    refine .region ?_
    refine .q (x := .d (slOf 1 rB8 v0b)) (q_move rfl) rfl ?_
    obtain ⟨y2, hy2, H⟩ := bind_some' H
    refine .g (x := .d (.tup [slOf 12 Record.row y2.1, slOf 4 Reject.row y2.2.1, cI y2.2.2])) (g_call en_18 rfl rfl (c_f_packed_All (hy2))) rfl ?_
    refine .q (x := .d (.tup [slOf 12 Record.row y2.1, slOf 4 Reject.row y2.2.1, cI y2.2.2])) (q_move rfl) rfl ?_
    refine .q (x := .d (slOf 12 Record.row y2.1)) (q_extract rfl rfl) rfl ?_
    refine .q (x := .d (slOf 4 Reject.row y2.2.1)) (q_extract rfl rfl) rfl ?_
    refine .q (x := .d (cI y2.2.2)) (q_extract rfl rfl) rfl ?_
    refine .q (x := .d (slOf 12 Record.row y2.1)) (q_assign rfl) rfl ?_
    refine .q (x := .d (slOf 4 Reject.row y2.2.1)) (q_assign rfl) rfl ?_
    refine .q (x := .d (cI y2.2.2)) (q_assign rfl) rfl ?_
    refine .nil ?_
    refine .seq ?_
    refine .region ?_
    refine .q (x := .d (slOf 1 rB8 v0b)) (q_move rfl) rfl ?_
    obtain ⟨y3, hy3, H⟩ := bind_some' H
    refine .g (x := .d (.tup [slOf 12 Record.row y3.1, slOf 4 Reject.row y3.2.1, cI y3.2.2])) (g_call en_19 rfl rfl (c_f_billingref11_All (hy3))) rfl ?_
    refine .q (x := .d (.tup [slOf 12 Record.row y3.1, slOf 4 Reject.row y3.2.1, cI y3.2.2])) (q_move rfl) rfl ?_
    refine .q (x := .d (slOf 12 Record.row y3.1)) (q_extract rfl rfl) rfl ?_
    refine .q (x := .d (slOf 4 Reject.row y3.2.1)) (q_extract rfl rfl) rfl ?_
    refine .q (x := .d (cI y3.2.2)) (q_extract rfl rfl) rfl ?_
    refine .q (x := .d (slOf 12 Record.row y3.1)) (q_assign rfl) rfl ?_
    refine .q (x := .d (slOf 4 Reject.row y3.2.1)) (q_assign rfl) rfl ?_
    refine .q (x := .d (cI y3.2.2)) (q_assign rfl) rfl ?_
    refine .nil ?_
    refine .seq ?_
    refine .region ?_
    refine .q (x := .d (slOf 12 Record.row y2.1)) (q_move rfl) rfl ?_
    refine .q (x := .d (slOf 12 Record.row y3.1)) (q_move rfl) rfl ?_
    obtain ⟨y4, hy4, H⟩ := bind_some' H
    refine .g (x := .d (cB y4)) (g_call en_20 rfl rfl (c_f_billingref09_Same (hy4))) rfl ?_
    refine .q (x := .d (cB y4)) (q_move rfl) rfl ?_
    refine .guardG (b := y4) (x := .d (slOf 4 Reject.row y2.2.1)) (env' := [(4, _)]) rfl rfl rfl ⟨.inl rfl, trivial⟩ rfl (fun hg => OpQ.g (q_move rfl)) ?_
    refine .guardG (b := y4) (x := .d (slOf 4 Reject.row y3.2.1)) (env' := [(7, _)]) rfl rfl rfl ⟨.inl rfl, trivial⟩ rfl (fun hg => OpQ.g (q_move rfl)) ?_
    obtain ⟨y5, hy5, H⟩ := bind_some' H
    refine .guardG (b := y4) (x := .d (cB y5)) (env' := [(29, _), (30, _)]) rfl rfl rfl ⟨.inr (.inl rfl), ⟨.inr (.inl rfl), trivial⟩⟩ rfl (fun hg => (g_call en_21 rfl rfl (c_f_billingref09_SameRejects (gcall_some hy5 hg)))) ?_
    refine .q (x := .d (cB (y4 && y5))) (q_pickAndB rfl rfl rfl) rfl ?_
    refine .q (x := .d (cB (y4 && y5))) (q_move rfl) rfl ?_
    refine .guardG (b := (y4 && y5)) (x := .d (cI y2.2.2)) (env' := [(5, _)]) rfl rfl rfl ⟨.inl rfl, trivial⟩ rfl (fun hg => OpQ.g (q_move rfl)) ?_
    refine .guardG (b := (y4 && y5)) (x := .d (cI y3.2.2)) (env' := [(8, _)]) rfl rfl rfl ⟨.inl rfl, trivial⟩ rfl (fun hg => OpQ.g (q_move rfl)) ?_
    refine .guardG (b := (y4 && y5)) (x := .d (cB (y2.2.2 == y3.2.2))) (env' := [(34, _), (35, _)]) rfl rfl rfl ⟨.inr (.inl rfl), ⟨.inr (.inl rfl), trivial⟩⟩ rfl (fun hg => OpQ.g (q_eql rfl rfl)) ?_
    refine .q (x := .d (cB ((y4 && y5) && (y2.2.2 == y3.2.2)))) (q_pickAndB rfl rfl rfl) rfl ?_
    refine .q (x := .d (cB ((y4 && y5) && (y2.2.2 == y3.2.2)))) (q_move rfl) rfl ?_
    obtain ⟨y6, hy6, H⟩ := bind_some' H
    refine .guardG (b := ((y4 && y5) && (y2.2.2 == y3.2.2))) (x := .d (cB y6)) (env' := []) rfl rfl rfl trivial rfl (fun hg => (g_call en_8 rfl rfl (c_f_billinglaw11_awake (gcall_some hy6 hg)))) ?_
    refine .q (x := .d (cB (((y4 && y5) && (y2.2.2 == y3.2.2)) && y6))) (q_pickAndB rfl rfl rfl) rfl ?_
    refine .q (x := .d (cB (((y4 && y5) && (y2.2.2 == y3.2.2)) && y6))) (q_assign rfl) rfl ?_
    refine .nil ?_
    refine .retN [.tmp 2] [.d (cB (((y4 && y5) && (y2.2.2 == y3.2.2)) && y6))] Tryd.func7 Tryd.results7 ⟨rfl, trivial⟩ ?_
    cases H
    exact ⟨_, .rfl' _, rfl⟩

end Go.Proofs.YtlgoaojmancfpaaDoor
