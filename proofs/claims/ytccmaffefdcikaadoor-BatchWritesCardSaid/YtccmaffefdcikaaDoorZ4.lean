/- Our own texts LW6 LW7 LW8 R1 R2 R3 R4 T2 T3 Q1 U2 U3 of this seat in one. -/
import Derived.Test.YtccmaffefdcikaaDoorZ3
import Derived.Lib.ItoaLen
set_option linter.unusedSimpArgs false
set_option linter.unusedVariables false
namespace Go.Proofs.YtccmaffefdcikaaDoor
open Go.RowKit Go.Abs
set_option maxRecDepth 100000 in
set_option maxHeartbeats 1000000 in
theorem c_f_billingref09_Number {v0n : Int} {r : (List UInt8)} (H : f_billingref09_Number v0n = some r) : ACall Tryd.prog 62 [cI v0n] (· = cS r) := by
  obtain ⟨i5, hi5, hz5, hs5, hb5⟩ := in_5
  refine ACall.enter' Tryd.func62 rfl Tryd.ntmps62 rfl fun S hS => ?_
  unfold f_billingref09_Number at H
  change ARun _ _ _ _ _ _ [(0, .d (cI v0n))] _
  refine .seq ?_
  refine .region ?_
  refine .q (q_assign rfl) rfl ?_
  refine .nil ?_
  refine .seq ?_
  refine .region ?_
  refine .q (q_move rfl) rfl ?_
  obtain ⟨hk1, H⟩ := ck_some H
  refine .q (x := .d (cI (Int.tmod v0n 10))) (q_remT rfl rfl hk1) rfl ?_
  obtain ⟨hk2, H⟩ := ck_some H
  refine .q (q_addI rfl rfl hk2.1 hk2.2) rfl ?_
  refine .q (x := .d (cU8 (UInt8.ofInt (48 + (Int.tmod v0n 10))))) (q_conv8 Tryd.underlying3 Tryd.underlying5 rfl) rfl ?_
  refine .g (x := .d (slOf 1 rB8 ([UInt8.ofInt (48 + (Int.tmod v0n 10))] : List UInt8))) (g_buildSlice1 Tryd.underlying32 hi5 hs5 hz5 rfl rfl rfl rfl rfl) rfl ?_
  refine .q (x := .d (cS ([UInt8.ofInt (48 + (Int.tmod v0n 10))] : List UInt8))) (q_bytesStrL (a := ([UInt8.ofInt (48 + (Int.tmod v0n 10))] : List UInt8)) Tryd.underlying32 Tryd.underlying5 Tryd.underlying9 rfl rfl) rfl ?_
  refine .q (q_assign rfl) rfl ?_
  refine .nil ?_
  refine .seq ?_
  refine .seq ?_
  refine .region ?_
  refine .q (q_move rfl) rfl ?_
  obtain ⟨hk3, H⟩ := ck_some H
  refine .q (x := .d (cI (Int.tdiv v0n 10))) (q_quoT rfl rfl hk3) rfl ?_
  refine .q (q_assign rfl) rfl ?_
  refine .nil ?_
  refine .block ?_
  obtain ⟨n1, H⟩ := loop_some H
  refine .loop (ι := Nat × (Int × List UInt8)) (fun p => [(0, .d (cI p.2.1)), (3, .d (cS p.2.2))]) (fun p => ⟨[], []⟩) (fun p => iter (fun s => f_billingref09_Number_l1 s.1 s.2) p.1 p.2 = some r) (·.1) (n1, (Int.tdiv v0n 10, ([UInt8.ofInt (48 + (Int.tmod v0n 10))] : List UInt8))) H (.cons rfl (.rfl' _) (.cons rfl (.rfl' _) (.nil))) rfl ?_
  rintro ⟨m1, v0nl1, v3sl1⟩ HI ih1
  obtain ⟨n1, q1, hm1, H, HK1⟩ := iter_succ HI
  clear HI
  replace H : f_billingref09_Number_l1 v0nl1 v3sl1 = some q1 := H
  unfold f_billingref09_Number_l1 at H
  change ARun _ _ _ _ _ _ [(0, .d (cI v0nl1)), (3, .d (cS v3sl1))] ⟨[], []⟩
  refine .seq ?_
  refine .seq ?_
  refine .region ?_
  refine .q (q_move rfl) rfl ?_
  refine .q (q_gtr rfl rfl) rfl ?_
  refine .nil ?_
  refine .cond rfl (fun hc => ?_) (fun hc => ?_)
  · replace H := ifT hc H; clear hc
    refine .skip ?_
    refine .seq ?_
    refine .block ?_
    refine .region ?_
    refine .q (q_move rfl) rfl ?_
    obtain ⟨hk4, H⟩ := ck_some H
    refine .q (x := .d (cI (Int.tmod v0nl1 10))) (q_remT rfl rfl hk4) rfl ?_
    obtain ⟨hk5, H⟩ := ck_some H
    refine .q (q_addI rfl rfl hk5.1 hk5.2) rfl ?_
    refine .q (x := .d (cU8 (UInt8.ofInt (48 + (Int.tmod v0nl1 10))))) (q_conv8 Tryd.underlying3 Tryd.underlying5 rfl) rfl ?_
    refine .g (x := .d (slOf 1 rB8 ([UInt8.ofInt (48 + (Int.tmod v0nl1 10))] : List UInt8))) (g_buildSlice1 Tryd.underlying32 hi5 hs5 hz5 rfl rfl rfl rfl rfl) rfl ?_
    refine .q (x := .d (cS ([UInt8.ofInt (48 + (Int.tmod v0nl1 10))] : List UInt8))) (q_bytesStrL (a := ([UInt8.ofInt (48 + (Int.tmod v0nl1 10))] : List UInt8)) Tryd.underlying32 Tryd.underlying5 Tryd.underlying9 rfl rfl) rfl ?_
    refine .q (q_move rfl) rfl ?_
    obtain ⟨hk6, H⟩ := ck_some H
    refine .q (x := .d (cS (([UInt8.ofInt (48 + (Int.tmod v0nl1 10))] : List UInt8) ++ v3sl1))) (q_sadd rfl rfl hk6) rfl ?_
    refine .q (q_assign rfl) rfl ?_
    refine .nil ?_
    refine .inBlock ?_
    refine .region ?_
    refine .q (q_move rfl) rfl ?_
    obtain ⟨hk7, H⟩ := ck_some H
    refine .q (x := .d (cI (Int.tdiv v0nl1 10))) (q_quoT rfl rfl hk7) rfl ?_
    refine .q (q_assign rfl) rfl ?_
    refine .nil ?_
    cases H
    exact .sub (.cons rfl (.rfl' _) (.cons rfl (.rfl' _) (.nil))) (ih1 (n1, (Int.tdiv v0nl1 10, ([UInt8.ofInt (48 + (Int.tmod v0nl1 10))] : List UInt8) ++ v3sl1)) HK1 hm1)
  · replace H := ifF hc H; clear hc
    refine .exit rfl ?_
    refine .seq ?_
    refine .region ?_
    refine .q (q_move rfl) rfl ?_
    refine .q (q_assign rfl) rfl ?_
    refine .nil ?_
    refine .retN [.tmp 2] [.d (cS v3sl1)] Tryd.func62 Tryd.results62 ⟨rfl, trivial⟩ ?_
    cases H
    cases HK1
    exact ⟨_, .rfl' _, rfl⟩

set_option maxRecDepth 100000 in
set_option maxHeartbeats 1000000 in
theorem c_f_billingref09_Encode {v0 : Record} {r : (List UInt8) × Int} (H : f_billingref09_Encode v0 = some r) : ACall Tryd.prog 36 [.agg (Record.row v0)] (· = .tup [cS r.1, cI r.2]) := by
  refine ACall.enter' Tryd.func36 rfl Tryd.ntmps36 rfl fun S hS => ?_
  unfold f_billingref09_Encode at H
  change ARun _ _ _ _ _ _ [(0, .d (.agg (Record.row v0)))] _
  refine .seq ?_
  refine .region ?_
  refine .v (x := .ref 0 0) (v_box rfl rfl) rfl ?_
  refine .withSt (st' := ⟨[.row 39 [.d (cI v0.source), .d (cI v0.serial), .d (cI v0.kind), .d (cS v0.a), .d (cS v0.b), .d (cI v0.start), .d (cI v0.units), .d (cI v0.call), .d (cI v0.part), .d (cB v0.last), .d (cI v0.trunk), .d (cB v0.inbound)]], []⟩) rfl ?_
  refine .q (q_assign rfl) rfl ?_
  refine .q (q_assign rfl) rfl ?_
  refine .nil ?_
  refine .seq ?_
  refine .seq ?_
  refine .region ?_
  refine .q (x := .d (.agg (Record.row v0))) (q_loadOA one_39 sz_39 rfl rfl (Nat.le_of_ble_eq_true rfl) rfl) rfl ?_
  obtain ⟨y1, hy1, H⟩ := bind_some' H
  refine .g (x := .d (cI y1)) (g_call en_26 rfl rfl (c_f_billingref09_Error (hy1))) rfl ?_
  refine .q (q_assign rfl) rfl ?_
  refine .nil ?_
  refine .seq ?_
  refine .region ?_
  refine .q (q_move rfl) rfl ?_
  refine .q (q_neq rfl rfl) rfl ?_
  refine .nil ?_
  refine .cond rfl (fun hc => ?_) (fun hc => ?_)
  · replace H := ifT hc H; clear hc
    refine .seq ?_
    refine .region ?_
    refine .q (q_move rfl) rfl ?_
    refine .q (q_assign rfl) rfl ?_
    refine .q (q_assign rfl) rfl ?_
    refine .nil ?_
    refine .retN [.tmp 2, .tmp 3] [.d (cS ([] : List UInt8)), .d (cI y1)] Tryd.func36 Tryd.results36 ⟨rfl, rfl, trivial⟩ ?_
    cases H
    exact ⟨_, EVle.tupL (ds := [cS ([] : List UInt8), cI y1]) ⟨.rfl' _, .rfl' _, trivial⟩, rfl⟩
  · replace H := ifF hc H; clear hc
    refine .skip ?_
    refine .seq ?_
    refine .drawn 4 hMix (by kernel_rfl) ?_
    show DOps _ _ _ _ _ _ _ (_ :: _) _ _ _
    refine .q (q_fieldRef fo_39_4 rfl) rfl ?_
    refine .q (x := .d (cS v0.b)) (q_loadO one_9 rfl rfl rfl) rfl ?_
    refine .q (q_assign rfl) rfl ?_
    refine .q (q_assign rfl) rfl ?_
    refine .nil ?_
    show AOps _ _ _ _ _ _ [] _ _ _
    refine .nil ?_
    refine .seqJoin (ι := List UInt8) (fun s => [(1, .ref 0 0), (5, .d (cS ([118, 116, 100, 99] : List UInt8))), (6, .d (cS s))]) (fun s => ⟨[.row 39 [.d (cI v0.source), .d (cI v0.serial), .d (cI v0.kind), .d (cS v0.a), .d (cS v0.b), .d (cI v0.start), .d (cI v0.units), .d (cI v0.call), .d (cI v0.part), .d (cB v0.last), .d (cI v0.trunk), .d (cB v0.inbound)]], []⟩) (fun s => f_billingref09_Encode_j1 v0 s = some r) ?_ ?_
    · rintro v6j1 H
      replace H : f_billingref09_Encode_j1 v0 v6j1 = some r := H
      unfold f_billingref09_Encode_j1 at H
      change ARun _ _ _ _ _ _ [(1, .ref 0 0), (5, .d (cS ([118, 116, 100, 99] : List UInt8))), (6, .d (cS v6j1))] ⟨[.row 39 [.d (cI v0.source), .d (cI v0.serial), .d (cI v0.kind), .d (cS v0.a), .d (cS v0.b), .d (cI v0.start), .d (cI v0.units), .d (cI v0.call), .d (cI v0.part), .d (cB v0.last), .d (cI v0.trunk), .d (cB v0.inbound)]], []⟩
      refine .seq ?_
      refine .drawn 35 hMix (by kernel_rfl) ?_
      show DOps _ _ _ _ _ _ _ (_ :: _) _ _ _
      refine .q (q_move rfl) rfl ?_
      refine .q (q_fieldRef fo_39_2 rfl) rfl ?_
      refine .q (x := .d (cI v0.kind)) (q_loadO one_3 rfl rfl rfl) rfl ?_
      obtain ⟨hk1, H⟩ := ck_some H
      refine .q (q_subI rfl rfl hk1.1 hk1.2) rfl ?_
      refine .q (q_fieldRef fo_39_2 rfl) rfl ?_
      refine .q (x := .d (cI v0.kind)) (q_loadO one_3 rfl rfl rfl) rfl ?_
      obtain ⟨hk2, H⟩ := ck_some H
      refine .q (x := .d (cS ((([118, 116, 100, 99] : List UInt8).take (Int.toNat (v0.kind))).drop (Int.toNat (v0.kind - 1))))) (q_strLHL Tryd.underlying9 rfl rfl rfl hk2) rfl ?_
      obtain ⟨hk3, H⟩ := ck_some H
      refine .q (x := .d (cS (((([118, 116, 100, 99] : List UInt8).take (Int.toNat (v0.kind))).drop (Int.toNat (v0.kind - 1))) ++ ([32] : List UInt8)))) (q_sadd rfl rfl hk3) rfl ?_
      refine .q (q_fieldRef fo_39_0 rfl) rfl ?_
      refine .q (x := .d (cI v0.source)) (q_loadO one_3 rfl rfl rfl) rfl ?_
      obtain ⟨y2, hy2, H⟩ := bind_some' H
      refine .g (x := .d (cS y2)) (g_call en_62 rfl rfl (c_f_billingref09_Number (hy2))) rfl ?_
      obtain ⟨hk4, H⟩ := ck_some H
      refine .q (x := .d (cS ((((([118, 116, 100, 99] : List UInt8).take (Int.toNat (v0.kind))).drop (Int.toNat (v0.kind - 1))) ++ ([32] : List UInt8)) ++ y2))) (q_sadd rfl rfl hk4) rfl ?_
      obtain ⟨hk5, H⟩ := ck_some H
      refine .q (x := .d (cS (((((([118, 116, 100, 99] : List UInt8).take (Int.toNat (v0.kind))).drop (Int.toNat (v0.kind - 1))) ++ ([32] : List UInt8)) ++ y2) ++ ([32] : List UInt8)))) (q_sadd rfl rfl hk5) rfl ?_
      refine .q (q_fieldRef fo_39_1 rfl) rfl ?_
      refine .q (x := .d (cI v0.serial)) (q_loadO one_3 rfl rfl rfl) rfl ?_
      obtain ⟨y3, hy3, H⟩ := bind_some' H
      refine .g (x := .d (cS y3)) (g_call en_62 rfl rfl (c_f_billingref09_Number (hy3))) rfl ?_
      obtain ⟨hk6, H⟩ := ck_some H
      refine .q (x := .d (cS ((((((([118, 116, 100, 99] : List UInt8).take (Int.toNat (v0.kind))).drop (Int.toNat (v0.kind - 1))) ++ ([32] : List UInt8)) ++ y2) ++ ([32] : List UInt8)) ++ y3))) (q_sadd rfl rfl hk6) rfl ?_
      obtain ⟨hk7, H⟩ := ck_some H
      refine .q (x := .d (cS (((((((([118, 116, 100, 99] : List UInt8).take (Int.toNat (v0.kind))).drop (Int.toNat (v0.kind - 1))) ++ ([32] : List UInt8)) ++ y2) ++ ([32] : List UInt8)) ++ y3) ++ ([32] : List UInt8)))) (q_sadd rfl rfl hk7) rfl ?_
      refine .q (q_fieldRef fo_39_3 rfl) rfl ?_
      refine .q (x := .d (cS v0.a)) (q_loadO one_9 rfl rfl rfl) rfl ?_
      obtain ⟨hk8, H⟩ := ck_some H
      refine .q (x := .d (cS ((((((((([118, 116, 100, 99] : List UInt8).take (Int.toNat (v0.kind))).drop (Int.toNat (v0.kind - 1))) ++ ([32] : List UInt8)) ++ y2) ++ ([32] : List UInt8)) ++ y3) ++ ([32] : List UInt8)) ++ v0.a))) (q_sadd rfl rfl hk8) rfl ?_
      obtain ⟨hk9, H⟩ := ck_some H
      refine .q (x := .d (cS (((((((((([118, 116, 100, 99] : List UInt8).take (Int.toNat (v0.kind))).drop (Int.toNat (v0.kind - 1))) ++ ([32] : List UInt8)) ++ y2) ++ ([32] : List UInt8)) ++ y3) ++ ([32] : List UInt8)) ++ v0.a) ++ ([32] : List UInt8)))) (q_sadd rfl rfl hk9) rfl ?_
      refine .q (q_move rfl) rfl ?_
      obtain ⟨hk10, H⟩ := ck_some H
      refine .q (x := .d (cS ((((((((((([118, 116, 100, 99] : List UInt8).take (Int.toNat (v0.kind))).drop (Int.toNat (v0.kind - 1))) ++ ([32] : List UInt8)) ++ y2) ++ ([32] : List UInt8)) ++ y3) ++ ([32] : List UInt8)) ++ v0.a) ++ ([32] : List UInt8)) ++ v6j1))) (q_sadd rfl rfl hk10) rfl ?_
      obtain ⟨hk11, H⟩ := ck_some H
      refine .q (x := .d (cS (((((((((((([118, 116, 100, 99] : List UInt8).take (Int.toNat (v0.kind))).drop (Int.toNat (v0.kind - 1))) ++ ([32] : List UInt8)) ++ y2) ++ ([32] : List UInt8)) ++ y3) ++ ([32] : List UInt8)) ++ v0.a) ++ ([32] : List UInt8)) ++ v6j1) ++ ([32] : List UInt8)))) (q_sadd rfl rfl hk11) rfl ?_
      refine .q (q_fieldRef fo_39_5 rfl) rfl ?_
      refine .q (x := .d (cI v0.start)) (q_loadO one_3 rfl rfl rfl) rfl ?_
      obtain ⟨y4, hy4, H⟩ := bind_some' H
      refine .g (x := .d (cS y4)) (g_call en_62 rfl rfl (c_f_billingref09_Number (hy4))) rfl ?_
      obtain ⟨hk12, H⟩ := ck_some H
      refine .q (x := .d (cS ((((((((((((([118, 116, 100, 99] : List UInt8).take (Int.toNat (v0.kind))).drop (Int.toNat (v0.kind - 1))) ++ ([32] : List UInt8)) ++ y2) ++ ([32] : List UInt8)) ++ y3) ++ ([32] : List UInt8)) ++ v0.a) ++ ([32] : List UInt8)) ++ v6j1) ++ ([32] : List UInt8)) ++ y4))) (q_sadd rfl rfl hk12) rfl ?_
      obtain ⟨hk13, H⟩ := ck_some H
      refine .q (x := .d (cS (((((((((((((([118, 116, 100, 99] : List UInt8).take (Int.toNat (v0.kind))).drop (Int.toNat (v0.kind - 1))) ++ ([32] : List UInt8)) ++ y2) ++ ([32] : List UInt8)) ++ y3) ++ ([32] : List UInt8)) ++ v0.a) ++ ([32] : List UInt8)) ++ v6j1) ++ ([32] : List UInt8)) ++ y4) ++ ([32] : List UInt8)))) (q_sadd rfl rfl hk13) rfl ?_
      refine .q (q_fieldRef fo_39_6 rfl) rfl ?_
      refine .q (x := .d (cI v0.units)) (q_loadO one_3 rfl rfl rfl) rfl ?_
      obtain ⟨y5, hy5, H⟩ := bind_some' H
      refine .g (x := .d (cS y5)) (g_call en_62 rfl rfl (c_f_billingref09_Number (hy5))) rfl ?_
      obtain ⟨hk14, H⟩ := ck_some H
      refine .q (x := .d (cS ((((((((((((((([118, 116, 100, 99] : List UInt8).take (Int.toNat (v0.kind))).drop (Int.toNat (v0.kind - 1))) ++ ([32] : List UInt8)) ++ y2) ++ ([32] : List UInt8)) ++ y3) ++ ([32] : List UInt8)) ++ v0.a) ++ ([32] : List UInt8)) ++ v6j1) ++ ([32] : List UInt8)) ++ y4) ++ ([32] : List UInt8)) ++ y5))) (q_sadd rfl rfl hk14) rfl ?_
      refine .q (q_assign rfl) rfl ?_
      refine .nil ?_
      show AOps _ _ _ _ _ _ [] _ _ _
      refine .nil ?_
      refine .seqJoin (ι := List UInt8) (fun s => [(1, .ref 0 0), (7, .d (cS s))]) (fun s => ⟨[.row 39 [.d (cI v0.source), .d (cI v0.serial), .d (cI v0.kind), .d (cS v0.a), .d (cS v0.b), .d (cI v0.start), .d (cI v0.units), .d (cI v0.call), .d (cI v0.part), .d (cB v0.last), .d (cI v0.trunk), .d (cB v0.inbound)]], []⟩) (fun s => f_billingref09_Encode_j2 v0 s = some r) ?_ ?_
      · rintro v7j2 H
        replace H : f_billingref09_Encode_j2 v0 v7j2 = some r := H
        unfold f_billingref09_Encode_j2 at H
        change ARun _ _ _ _ _ _ [(1, .ref 0 0), (7, .d (cS v7j2))] ⟨[.row 39 [.d (cI v0.source), .d (cI v0.serial), .d (cI v0.kind), .d (cS v0.a), .d (cS v0.b), .d (cI v0.start), .d (cI v0.units), .d (cI v0.call), .d (cI v0.part), .d (cB v0.last), .d (cI v0.trunk), .d (cB v0.inbound)]], []⟩
        refine .seqJoin (ι := List UInt8) (fun s => [(1, .ref 0 0), (7, .d (cS s))]) (fun s => ⟨[.row 39 [.d (cI v0.source), .d (cI v0.serial), .d (cI v0.kind), .d (cS v0.a), .d (cS v0.b), .d (cI v0.start), .d (cI v0.units), .d (cI v0.call), .d (cI v0.part), .d (cB v0.last), .d (cI v0.trunk), .d (cB v0.inbound)]], []⟩) (fun s => f_billingref09_Encode_j3 v0 s = some r) ?_ ?_
        · rintro v7j3 H
          replace H : f_billingref09_Encode_j3 v0 v7j3 = some r := H
          unfold f_billingref09_Encode_j3 at H
          change ARun _ _ _ _ _ _ [(1, .ref 0 0), (7, .d (cS v7j3))] ⟨[.row 39 [.d (cI v0.source), .d (cI v0.serial), .d (cI v0.kind), .d (cS v0.a), .d (cS v0.b), .d (cI v0.start), .d (cI v0.units), .d (cI v0.call), .d (cI v0.part), .d (cB v0.last), .d (cI v0.trunk), .d (cB v0.inbound)]], []⟩
          refine .seqJoin (ι := List UInt8) (fun s => [(1, .ref 0 0), (7, .d (cS s))]) (fun s => ⟨[.row 39 [.d (cI v0.source), .d (cI v0.serial), .d (cI v0.kind), .d (cS v0.a), .d (cS v0.b), .d (cI v0.start), .d (cI v0.units), .d (cI v0.call), .d (cI v0.part), .d (cB v0.last), .d (cI v0.trunk), .d (cB v0.inbound)]], []⟩) (fun s => f_billingref09_Encode_j4 v0 s = some r) ?_ ?_
          · rintro v7j4 H
            replace H : f_billingref09_Encode_j4 v0 v7j4 = some r := H
            unfold f_billingref09_Encode_j4 at H
            change ARun _ _ _ _ _ _ [(1, .ref 0 0), (7, .d (cS v7j4))] ⟨[.row 39 [.d (cI v0.source), .d (cI v0.serial), .d (cI v0.kind), .d (cS v0.a), .d (cS v0.b), .d (cI v0.start), .d (cI v0.units), .d (cI v0.call), .d (cI v0.part), .d (cB v0.last), .d (cI v0.trunk), .d (cB v0.inbound)]], []⟩
            refine .seq ?_
            refine .seq ?_
            refine .region ?_
            refine .q (q_fieldRef fo_39_10 rfl) rfl ?_
            refine .q (x := .d (cI v0.trunk)) (q_loadO one_3 rfl rfl rfl) rfl ?_
            refine .q (q_gtr rfl rfl) rfl ?_
            refine .q (q_move rfl) rfl ?_
            refine .guardG (env' := [(1, _)]) rfl rfl rfl ⟨.inl rfl, trivial⟩ rfl (fun hg => OpQ.g (q_fieldRef fo_39_11 rfl)) ?_
            refine .guardG (b := decide (v0.trunk > 0)) (x := .d (cB v0.inbound)) (env' := [(86, _)]) rfl rfl rfl ⟨.inr (.inl rfl), trivial⟩ rfl (fun hg => OpQ.g (q_loadO one_4 rfl rfl rfl)) ?_
            refine .guardG (env' := [(87, _)]) rfl rfl rfl ⟨.inr (.inl rfl), trivial⟩ rfl (fun hg => OpQ.g (q_not rfl)) ?_
            refine .q (q_pickAndB rfl rfl rfl) rfl ?_
            refine .nil ?_
            refine .cond rfl (fun hc => ?_) (fun hc => ?_)
            · replace H := ifT hc H; clear hc
              refine .region ?_
              refine .q (q_move rfl) rfl ?_
              obtain ⟨hk15, H⟩ := ck_some H
              refine .q (x := .d (cS (v7j4 ++ ([32, 111, 117, 116, 32] : List UInt8)))) (q_sadd rfl rfl hk15) rfl ?_
              refine .q (q_fieldRef fo_39_10 rfl) rfl ?_
              refine .q (x := .d (cI v0.trunk)) (q_loadO one_3 rfl rfl rfl) rfl ?_
              obtain ⟨y6, hy6, H⟩ := bind_some' H
              refine .g (x := .d (cS y6)) (g_call en_62 rfl rfl (c_f_billingref09_Number (hy6))) rfl ?_
              obtain ⟨hk16, H⟩ := ck_some H
              refine .q (x := .d (cS ((v7j4 ++ ([32, 111, 117, 116, 32] : List UInt8)) ++ y6))) (q_sadd rfl rfl hk16) rfl ?_
              refine .q (q_assign rfl) rfl ?_
              refine .nil ?_
              refine .seq ?_
              refine .region ?_
              refine .q (q_move rfl) rfl ?_
              refine .q (q_assign rfl) rfl ?_
              refine .q (q_assign rfl) rfl ?_
              refine .nil ?_
              refine .retN [.tmp 2, .tmp 3] [.d (cS ((v7j4 ++ ([32, 111, 117, 116, 32] : List UInt8)) ++ y6)), .d (cI 0)] Tryd.func36 Tryd.results36 ⟨rfl, rfl, trivial⟩ ?_
              cases H
              exact ⟨_, EVle.tupL (ds := [cS ((v7j4 ++ ([32, 111, 117, 116, 32] : List UInt8)) ++ y6), cI 0]) ⟨.rfl' _, .rfl' _, trivial⟩, rfl⟩
            · replace H := ifF hc H; clear hc
              refine .skip ?_
              refine .seq ?_
              refine .region ?_
              refine .q (q_move rfl) rfl ?_
              refine .q (q_assign rfl) rfl ?_
              refine .q (q_assign rfl) rfl ?_
              refine .nil ?_
              refine .retN [.tmp 2, .tmp 3] [.d (cS v7j4), .d (cI 0)] Tryd.func36 Tryd.results36 ⟨rfl, rfl, trivial⟩ ?_
              cases H
              exact ⟨_, EVle.tupL (ds := [cS v7j4, cI 0]) ⟨.rfl' _, .rfl' _, trivial⟩, rfl⟩
          · intro hj4
            refine .seq ?_
            refine .region ?_
            refine .q (q_fieldRef fo_39_10 rfl) rfl ?_
            refine .q (x := .d (cI v0.trunk)) (q_loadO one_3 rfl rfl rfl) rfl ?_
            refine .q (q_gtr rfl rfl) rfl ?_
            refine .q (q_move rfl) rfl ?_
            refine .guardG (env' := [(1, _)]) rfl rfl rfl ⟨.inl rfl, trivial⟩ rfl (fun hg => OpQ.g (q_fieldRef fo_39_11 rfl)) ?_
            refine .guardG (b := decide (v0.trunk > 0)) (x := .d (cB v0.inbound)) (env' := [(73, _)]) rfl rfl rfl ⟨.inr (.inl rfl), trivial⟩ rfl (fun hg => OpQ.g (q_loadO one_4 rfl rfl rfl)) ?_
            refine .q (q_pickAndB rfl rfl rfl) rfl ?_
            refine .nil ?_
            refine .cond rfl (fun hc => ?_) (fun hc => ?_)
            · replace H := ifT hc H; clear hc
              refine .region ?_
              refine .q (q_move rfl) rfl ?_
              obtain ⟨hk17, H⟩ := ck_some H
              refine .q (x := .d (cS (v7j3 ++ ([32, 105, 110, 32] : List UInt8)))) (q_sadd rfl rfl hk17) rfl ?_
              refine .q (q_fieldRef fo_39_10 rfl) rfl ?_
              refine .q (x := .d (cI v0.trunk)) (q_loadO one_3 rfl rfl rfl) rfl ?_
              obtain ⟨y7, hy7, H⟩ := bind_some' H
              refine .g (x := .d (cS y7)) (g_call en_62 rfl rfl (c_f_billingref09_Number (hy7))) rfl ?_
              obtain ⟨hk18, H⟩ := ck_some H
              refine .q (x := .d (cS ((v7j3 ++ ([32, 105, 110, 32] : List UInt8)) ++ y7))) (q_sadd rfl rfl hk18) rfl ?_
              refine .q (q_assign rfl) rfl ?_
              refine .nil ?_
              exact .sub (.cons rfl (.rfl' _) (.cons rfl (.rfl' _) (.nil))) (hj4 ((v7j3 ++ ([32, 105, 110, 32] : List UInt8)) ++ y7) H)
            · replace H := ifF hc H; clear hc
              refine .skip ?_
              exact .sub (.cons rfl (.rfl' _) (.cons rfl (.rfl' _) (.nil))) (hj4 v7j3 H)
        · intro hj3
          refine .seq ?_
          refine .region ?_
          refine .q (q_fieldRef fo_39_9 rfl) rfl ?_
          refine .q (x := .d (cB v0.last)) (q_loadO one_4 rfl rfl rfl) rfl ?_
          refine .nil ?_
          refine .cond rfl (fun hc => ?_) (fun hc => ?_)
          · replace H := ifT hc H; clear hc
            refine .region ?_
            refine .q (q_move rfl) rfl ?_
            obtain ⟨hk19, H⟩ := ck_some H
            refine .q (x := .d (cS (v7j2 ++ ([32, 108, 97, 115, 116] : List UInt8)))) (q_sadd rfl rfl hk19) rfl ?_
            refine .q (q_assign rfl) rfl ?_
            refine .nil ?_
            exact .sub (.cons rfl (.rfl' _) (.cons rfl (.rfl' _) (.nil))) (hj3 (v7j2 ++ ([32, 108, 97, 115, 116] : List UInt8)) H)
          · replace H := ifF hc H; clear hc
            refine .skip ?_
            exact .sub (.cons rfl (.rfl' _) (.cons rfl (.rfl' _) (.nil))) (hj3 v7j2 H)
      · intro hj2
        refine .seq ?_
        refine .region ?_
        refine .q (q_fieldRef fo_39_8 rfl) rfl ?_
        refine .q (x := .d (cI v0.part)) (q_loadO one_3 rfl rfl rfl) rfl ?_
        refine .q (q_gtr rfl rfl) rfl ?_
        refine .nil ?_
        refine .cond rfl (fun hc => ?_) (fun hc => ?_)
        · replace H := ifT hc H; clear hc
          refine .drawn 12 hMix (by kernel_rfl) ?_
          show DOps _ _ _ _ _ _ _ (_ :: _) _ _ _
          refine .q (q_move rfl) rfl ?_
          obtain ⟨hk20, H⟩ := ck_some H
          refine .q (x := .d (cS (((((((((((((((([118, 116, 100, 99] : List UInt8).take (Int.toNat (v0.kind))).drop (Int.toNat (v0.kind - 1))) ++ ([32] : List UInt8)) ++ y2) ++ ([32] : List UInt8)) ++ y3) ++ ([32] : List UInt8)) ++ v0.a) ++ ([32] : List UInt8)) ++ v6j1) ++ ([32] : List UInt8)) ++ y4) ++ ([32] : List UInt8)) ++ y5) ++ ([32, 112, 97, 114, 116, 32] : List UInt8)))) (q_sadd rfl rfl hk20) rfl ?_
          refine .q (q_fieldRef fo_39_7 rfl) rfl ?_
          refine .q (x := .d (cI v0.call)) (q_loadO one_3 rfl rfl rfl) rfl ?_
          obtain ⟨y8, hy8, H⟩ := bind_some' H
          refine .g (x := .d (cS y8)) (g_call en_62 rfl rfl (c_f_billingref09_Number (hy8))) rfl ?_
          obtain ⟨hk21, H⟩ := ck_some H
          refine .q (x := .d (cS ((((((((((((((((([118, 116, 100, 99] : List UInt8).take (Int.toNat (v0.kind))).drop (Int.toNat (v0.kind - 1))) ++ ([32] : List UInt8)) ++ y2) ++ ([32] : List UInt8)) ++ y3) ++ ([32] : List UInt8)) ++ v0.a) ++ ([32] : List UInt8)) ++ v6j1) ++ ([32] : List UInt8)) ++ y4) ++ ([32] : List UInt8)) ++ y5) ++ ([32, 112, 97, 114, 116, 32] : List UInt8)) ++ y8))) (q_sadd rfl rfl hk21) rfl ?_
          obtain ⟨hk22, H⟩ := ck_some H
          refine .q (x := .d (cS (((((((((((((((((([118, 116, 100, 99] : List UInt8).take (Int.toNat (v0.kind))).drop (Int.toNat (v0.kind - 1))) ++ ([32] : List UInt8)) ++ y2) ++ ([32] : List UInt8)) ++ y3) ++ ([32] : List UInt8)) ++ v0.a) ++ ([32] : List UInt8)) ++ v6j1) ++ ([32] : List UInt8)) ++ y4) ++ ([32] : List UInt8)) ++ y5) ++ ([32, 112, 97, 114, 116, 32] : List UInt8)) ++ y8) ++ ([32] : List UInt8)))) (q_sadd rfl rfl hk22) rfl ?_
          refine .q (q_fieldRef fo_39_8 rfl) rfl ?_
          refine .q (x := .d (cI v0.part)) (q_loadO one_3 rfl rfl rfl) rfl ?_
          obtain ⟨y9, hy9, H⟩ := bind_some' H
          refine .g (x := .d (cS y9)) (g_call en_62 rfl rfl (c_f_billingref09_Number (hy9))) rfl ?_
          obtain ⟨hk23, H⟩ := ck_some H
          refine .q (x := .d (cS ((((((((((((((((((([118, 116, 100, 99] : List UInt8).take (Int.toNat (v0.kind))).drop (Int.toNat (v0.kind - 1))) ++ ([32] : List UInt8)) ++ y2) ++ ([32] : List UInt8)) ++ y3) ++ ([32] : List UInt8)) ++ v0.a) ++ ([32] : List UInt8)) ++ v6j1) ++ ([32] : List UInt8)) ++ y4) ++ ([32] : List UInt8)) ++ y5) ++ ([32, 112, 97, 114, 116, 32] : List UInt8)) ++ y8) ++ ([32] : List UInt8)) ++ y9))) (q_sadd rfl rfl hk23) rfl ?_
          refine .q (q_assign rfl) rfl ?_
          refine .nil ?_
          show AOps _ _ _ _ _ _ [] _ _ _
          refine .nil ?_
          exact .sub (.cons rfl (.rfl' _) (.cons rfl (.rfl' _) (.nil))) (hj2 ((((((((((((((((((([118, 116, 100, 99] : List UInt8).take (Int.toNat (v0.kind))).drop (Int.toNat (v0.kind - 1))) ++ ([32] : List UInt8)) ++ y2) ++ ([32] : List UInt8)) ++ y3) ++ ([32] : List UInt8)) ++ v0.a) ++ ([32] : List UInt8)) ++ v6j1) ++ ([32] : List UInt8)) ++ y4) ++ ([32] : List UInt8)) ++ y5) ++ ([32, 112, 97, 114, 116, 32] : List UInt8)) ++ y8) ++ ([32] : List UInt8)) ++ y9) H)
        · replace H := ifF hc H; clear hc
          refine .skip ?_
          exact .sub (.cons rfl (.rfl' _) (.cons rfl (.rfl' _) (.nil))) (hj2 ((((((((((((((([118, 116, 100, 99] : List UInt8).take (Int.toNat (v0.kind))).drop (Int.toNat (v0.kind - 1))) ++ ([32] : List UInt8)) ++ y2) ++ ([32] : List UInt8)) ++ y3) ++ ([32] : List UInt8)) ++ v0.a) ++ ([32] : List UInt8)) ++ v6j1) ++ ([32] : List UInt8)) ++ y4) ++ ([32] : List UInt8)) ++ y5) H)
    · intro hj1
      refine .seq ?_
      refine .region ?_
      refine .q (q_move rfl) rfl ?_
      refine .q (q_seql rfl rfl) rfl ?_
      refine .nil ?_
      refine .cond rfl (fun hc => ?_) (fun hc => ?_)
      · replace H := ifT hc H; clear hc
        refine .region ?_
        refine .q (q_assign rfl) rfl ?_
        refine .nil ?_
        exact .sub (.cons rfl (.rfl' _) (.cons rfl (.rfl' _) (.cons rfl (.rfl' _) (.nil)))) (hj1 ([45] : List UInt8) H)
      · replace H := ifF hc H; clear hc
        refine .skip ?_
        exact .sub (.cons rfl (.rfl' _) (.cons rfl (.rfl' _) (.cons rfl (.rfl' _) (.nil)))) (hj1 v0.b H)

set_option maxRecDepth 100000 in
set_option maxHeartbeats 1000000 in
theorem c_f_billingref02_Pack {v0s : List UInt8} {r : (List UInt8) × Int} (H : f_billingref02_Pack v0s = some r) : ACall Tryd.prog 63 [cS v0s] (· = .tup [slOf 1 rB8 r.1, cI r.2]) := by
  obtain ⟨i5, hi5, hz5, hs5, hb5⟩ := in_5
  refine ACall.enter' Tryd.func63 rfl Tryd.ntmps63 rfl fun S hS => ?_
  unfold f_billingref02_Pack at H
  change ARun _ _ _ _ _ _ [(0, .d (cS v0s))] _
  refine .seq ?_
  refine .region ?_
  refine .q (q_assign rfl) rfl ?_
  refine .q (q_assign rfl) rfl ?_
  refine .nil ?_
  refine .seq ?_
  refine .seq ?_
  refine .region ?_
  refine .q (q_move rfl) rfl ?_
  obtain ⟨y1, hy1, H⟩ := bind_some' H
  refine .g (x := .d (cB y1)) (g_call en_44 rfl rfl (c_f_billingref02_Valid (hy1))) rfl ?_
  refine .q (q_not rfl) rfl ?_
  refine .nil ?_
  refine .cond rfl (fun hc => ?_) (fun hc => ?_)
  · replace H := ifT hc H; clear hc
    refine .seq ?_
    refine .region ?_
    refine .q (q_assign rfl) rfl ?_
    refine .q (q_assign rfl) rfl ?_
    refine .nil ?_
    refine .retN [.tmp 2, .tmp 3] [.d (nilD), .d (cI 12)] Tryd.func63 Tryd.results63 ⟨rfl, rfl, trivial⟩ ?_
    cases H
    exact ⟨_, EVle.tupL (ds := [slOf 1 rB8 ([] : List UInt8), cI 12]) ⟨.nil 1, .rfl' _, trivial⟩, rfl⟩
  · replace H := ifF hc H; clear hc
    refine .skip ?_
    refine .seq ?_
    refine .region ?_
    refine .v (x := .tsl 1 (([] : List UInt8).map rB8) 0) (v_build0T Tryd.underlying32 hi5 hs5) rfl ?_
    refine .withSt (st' := ⟨[], [⟨5, 1, ([] : List UInt8).length, none⟩]⟩) rfl ?_
    refine .q (q_assign rfl) rfl ?_
    refine .nil ?_
    refine .seq ?_
    refine .seq ?_
    refine .region ?_
    refine .q (q_assign rfl) rfl ?_
    refine .nil ?_
    refine .block ?_
    obtain ⟨n1, H⟩ := loop_some H
    refine .withSt (st' := ⟨[], [⟨5, 1, ([] : List UInt8).length, none⟩]⟩) rfl <| .loop (ι := Nat × (List UInt8 × Int)) (fun p => [(0, .d (cS v0s)), (4, .tsl 1 (p.2.1.map rB8) 0), (5, .d (cI p.2.2))]) (fun p => ⟨[], [⟨5, 1, p.2.1.length, none⟩]⟩) (fun p => iter (fun s => f_billingref02_Pack_l1 v0s s.1 s.2) p.1 p.2 = some r) (·.1) (n1, (([] : List UInt8), 0)) H (.cons rfl (.rfl' _) (.cons rfl (.rfl' _) (.cons rfl (.rfl' _) (.nil)))) rfl ?_
    rintro ⟨m1, v4outl1, v5il1⟩ HI ih1
    obtain ⟨n1, q1, hm1, H, HK1⟩ := iter_succ HI
    clear HI
    replace H : f_billingref02_Pack_l1 v0s v4outl1 v5il1 = some q1 := H
    unfold f_billingref02_Pack_l1 at H
    change ARun _ _ _ _ _ _ [(0, .d (cS v0s)), (4, .tsl 1 (v4outl1.map rB8) 0), (5, .d (cI v5il1))] ⟨[], [⟨5, 1, v4outl1.length, none⟩]⟩
    refine .seq ?_
    refine .seq ?_
    refine .region ?_
    refine .q (q_move rfl) rfl ?_
    refine .q (q_move rfl) rfl ?_
    refine .q (q_lenS Tryd.underlying9 rfl) rfl ?_
    refine .q (q_lss rfl rfl) rfl ?_
    refine .nil ?_
    refine .cond rfl (fun hc => ?_) (fun hc => ?_)
    · replace H := ifT hc H; clear hc
      refine .skip ?_
      refine .seq ?_
      refine .block ?_
      refine .seq ?_
      refine .region ?_
      refine .q (q_assign rfl) rfl ?_
      refine .nil ?_
      refine .seqJoin (ι := UInt8) (fun s => [(0, .d (cS v0s)), (4, .tsl 1 (v4outl1.map rB8) 0), (5, .d (cI v5il1)), (6, .d (cU8 s))]) (fun s => ⟨[], [⟨5, 1, v4outl1.length, none⟩]⟩) (fun s => f_billingref02_Pack_j1 v0s v4outl1 v5il1 s = some q1) ?_ ?_
      · rintro v6lowj1 H
        replace H : f_billingref02_Pack_j1 v0s v4outl1 v5il1 v6lowj1 = some q1 := H
        unfold f_billingref02_Pack_j1 at H
        change ARun _ _ _ _ _ _ [(0, .d (cS v0s)), (4, .tsl 1 (v4outl1.map rB8) 0), (5, .d (cI v5il1)), (6, .d (cU8 v6lowj1))] ⟨[], [⟨5, 1, v4outl1.length, none⟩]⟩
        refine .region ?_
        refine .q (q_move rfl) rfl ?_
        refine .q (q_move rfl) rfl ?_
        refine .q (q_move rfl) rfl ?_
        obtain ⟨hk1, H⟩ := ck_some H
        refine .q (x := .d (cU8 (nth v0s (Int.toNat (v5il1))))) (q_indexL (i := v5il1) Tryd.underlying9 rfl rfl hk1) rfl ?_
        refine .q (x := .d (cU8 ((nth v0s (Int.toNat (v5il1))) - 48))) (q8_sub (a := nth v0s (Int.toNat (v5il1))) (b := 48) rfl rfl) rfl ?_
        obtain ⟨hk2, H⟩ := ck_some H
        refine .q (x := .d (cU8 (u8shl ((nth v0s (Int.toNat (v5il1))) - 48) 4))) (q8_shl (a := (nth v0s (Int.toNat (v5il1))) - 48) (n := 4) rfl rfl hk2) rfl ?_
        refine .q (q_move rfl) rfl ?_
        refine .q (x := .d (cU8 ((u8shl ((nth v0s (Int.toNat (v5il1))) - 48) 4) ||| v6lowj1))) (q8_or (a := u8shl ((nth v0s (Int.toNat (v5il1))) - 48) 4) (b := v6lowj1) rfl rfl) rfl ?_
        refine .g (x := .d (slOf 1 rB8 ([(u8shl ((nth v0s (Int.toNat (v5il1))) - 48) 4) ||| v6lowj1] : List UInt8))) (g_buildSlice1 Tryd.underlying32 hi5 hs5 hz5 rfl rfl rfl rfl rfl) rfl ?_
        obtain ⟨hk3, H⟩ := ck_some H
        refine .v (x := .tsl 1 ((v4outl1 ++ ([(u8shl ((nth v0s (Int.toNat (v5il1))) - 48) 4) ||| v6lowj1] : List UInt8)).map rB8) 0) (v_appendL (l := v4outl1) (l' := ([(u8shl ((nth v0s (Int.toNat (v5il1))) - 48) 4) ||| v6lowj1] : List UInt8)) (row := rB8) Tryd.underlying32 hi5 hz5 hs5 rfl (by rw [hb5]; decide) rfl rfl rfl rfl hk3) rfl ?_
        refine .withSt (st' := ⟨[], [⟨5, 1, (v4outl1 ++ ([(u8shl ((nth v0s (Int.toNat (v5il1))) - 48) 4) ||| v6lowj1] : List UInt8)).length, none⟩]⟩) rfl ?_
        refine .q (q_assign rfl) rfl ?_
        refine .nil ?_
        refine .inBlock ?_
        refine .region ?_
        refine .q (q_move rfl) rfl ?_
        obtain ⟨hk4, H⟩ := ck_some H
        refine .q (q_addI rfl rfl hk4.1 hk4.2) rfl ?_
        refine .q (q_assign rfl) rfl ?_
        refine .nil ?_
        cases H
        exact .withSt (st' := ⟨[], [⟨5, 1, (v4outl1 ++ ([(u8shl ((nth v0s (Int.toNat (v5il1))) - 48) 4) ||| v6lowj1] : List UInt8)).length, none⟩]⟩) rfl <| .sub (.cons rfl (.rfl' _) (.cons rfl (.rfl' _) (.cons rfl (.rfl' _) (.nil)))) (ih1 (n1, (v4outl1 ++ ([(u8shl ((nth v0s (Int.toNat (v5il1))) - 48) 4) ||| v6lowj1] : List UInt8), v5il1 + 2)) HK1 hm1)
      · intro hj1
        refine .seq ?_
        refine .region ?_
        refine .q (q_move rfl) rfl ?_
        obtain ⟨hk5, H⟩ := ck_some H
        refine .q (q_addI rfl rfl hk5.1 hk5.2) rfl ?_
        refine .q (q_move rfl) rfl ?_
        refine .q (q_lenS Tryd.underlying9 rfl) rfl ?_
        refine .q (q_lss rfl rfl) rfl ?_
        refine .nil ?_
        refine .cond rfl (fun hc => ?_) (fun hc => ?_)
        · replace H := ifT hc H; clear hc
          refine .region ?_
          refine .q (q_move rfl) rfl ?_
          refine .q (q_move rfl) rfl ?_
          obtain ⟨hk6, H⟩ := ck_some H
          refine .q (q_addI rfl rfl hk6.1 hk6.2) rfl ?_
          obtain ⟨hk7, H⟩ := ck_some H
          refine .q (x := .d (cU8 (nth v0s (Int.toNat (v5il1 + 1))))) (q_indexL (i := v5il1 + 1) Tryd.underlying9 rfl rfl hk7) rfl ?_
          refine .q (x := .d (cU8 ((nth v0s (Int.toNat (v5il1 + 1))) - 48))) (q8_sub (a := nth v0s (Int.toNat (v5il1 + 1))) (b := 48) rfl rfl) rfl ?_
          refine .q (q_assign rfl) rfl ?_
          refine .nil ?_
          exact .sub (.cons rfl (.rfl' _) (.cons rfl (.rfl' _) (.cons rfl (.rfl' _) (.cons rfl (.rfl' _) (.nil))))) (hj1 ((nth v0s (Int.toNat (v5il1 + 1))) - 48) H)
        · replace H := ifF hc H; clear hc
          refine .skip ?_
          exact .sub (.cons rfl (.rfl' _) (.cons rfl (.rfl' _) (.cons rfl (.rfl' _) (.cons rfl (.rfl' _) (.nil))))) (hj1 15 H)
    · replace H := ifF hc H; clear hc
      refine .exit rfl ?_
      refine .seq ?_
      refine .region ?_
      refine .q (q_move rfl) rfl ?_
      refine .q (q_assign rfl) rfl ?_
      refine .q (q_assign rfl) rfl ?_
      refine .nil ?_
      refine .retN [.tmp 2, .tmp 3] [.tsl 1 (v4outl1.map rB8) 0, .d (cI 0)] Tryd.func63 Tryd.results63 ⟨rfl, rfl, trivial⟩ ?_
      cases H
      cases HK1
      exact ⟨_, EVle.tupL (ds := [slOf 1 rB8 v4outl1, cI 0]) ⟨.tsl _ _ _, .rfl' _, trivial⟩, rfl⟩

set_option maxRecDepth 100000 in
set_option maxHeartbeats 1000000 in
theorem c_f_billingref10_shortest {v0n : Int} {r : (List UInt8)} (H : f_billingref10_shortest v0n = some r) : ACall Tryd.prog 64 [cI v0n] (· = slOf 1 rB8 r) := by
  obtain ⟨i5, hi5, hz5, hs5, hb5⟩ := in_5
  refine ACall.enter' Tryd.func64 rfl Tryd.ntmps64 rfl fun S hS => ?_
  unfold f_billingref10_shortest at H
  change ARun _ _ _ _ _ _ [(0, .d (cI v0n))] _
  refine .seq ?_
  refine .region ?_
  refine .q (q_assign rfl) rfl ?_
  refine .nil ?_
  refine .seq ?_
  refine .region ?_
  refine .q (q_assign rfl) rfl ?_
  refine .nil ?_
  refine .seq ?_
  refine .block ?_
  obtain ⟨n1, H⟩ := loop_some H
  refine .loop (ι := Nat × (Int × List UInt8)) (fun p => [(0, .d (cI p.2.1)), (3, .d (slOf 1 rB8 p.2.2))]) (fun p => ⟨[], []⟩) (fun p => iter (fun s => f_billingref10_shortest_l1 s.1 s.2) p.1 p.2 = some r) (·.1) (n1, (v0n, [])) H (.cons rfl (.rfl' _) (.cons rfl (.nil 1) (.nil))) rfl ?_
  rintro ⟨m1, v0nl1, v3outl1⟩ HI ih1
  obtain ⟨n1, q1, hm1, H, HK1⟩ := iter_succ HI
  clear HI
  replace H : f_billingref10_shortest_l1 v0nl1 v3outl1 = some q1 := H
  unfold f_billingref10_shortest_l1 at H
  change ARun _ _ _ _ _ _ [(0, .d (cI v0nl1)), (3, .d (slOf 1 rB8 v3outl1))] ⟨[], []⟩
  refine .seq ?_
  refine .seq ?_
  refine .region ?_
  refine .q (q_move rfl) rfl ?_
  refine .q (q_gtr rfl rfl) rfl ?_
  refine .nil ?_
  refine .cond rfl (fun hc => ?_) (fun hc => ?_)
  · replace H := ifT hc H; clear hc
    refine .skip ?_
    refine .seq ?_
    refine .block ?_
    refine .region ?_
    refine .q (q_move rfl) rfl ?_
    obtain ⟨hk1, H⟩ := ck_some H
    refine .q (x := .d (cI (Int.tmod v0nl1 256))) (q_remT rfl rfl hk1) rfl ?_
    refine .q (x := .d (cU8 (UInt8.ofInt (Int.tmod v0nl1 256)))) (q_conv8 Tryd.underlying3 Tryd.underlying5 rfl) rfl ?_
    refine .v (x := .tsl 1 (([UInt8.ofInt (Int.tmod v0nl1 256)] : List UInt8).map rB8) 0) (v_buildSliceT (n := 1) Tryd.underlying32 hi5 hs5 hz5 rfl rfl rfl rfl rfl) rfl ?_
    refine .withSt (st' := ⟨[], [⟨5, 1, ([UInt8.ofInt (Int.tmod v0nl1 256)] : List UInt8).length, none⟩]⟩) rfl ?_
    refine .q (q_move rfl) rfl ?_
    obtain ⟨hk2, H⟩ := ck_some H
    refine .v (x := .tsl 1 ((([UInt8.ofInt (Int.tmod v0nl1 256)] : List UInt8) ++ v3outl1).map rB8) 0) (v_appendL (l := ([UInt8.ofInt (Int.tmod v0nl1 256)] : List UInt8)) (l' := v3outl1) (row := rB8) Tryd.underlying32 hi5 hz5 hs5 rfl (by rw [hb5]; decide) rfl rfl rfl rfl hk2) rfl ?_
    refine .withSt (st' := ⟨[], [⟨5, 1, (([UInt8.ofInt (Int.tmod v0nl1 256)] : List UInt8) ++ v3outl1).length, none⟩]⟩) rfl ?_
    refine .q (q_assign rfl) rfl ?_
    refine .nil ?_
    refine .inBlock ?_
    refine .region ?_
    refine .q (q_move rfl) rfl ?_
    obtain ⟨hk3, H⟩ := ck_some H
    refine .q (x := .d (cI (Int.tdiv v0nl1 256))) (q_quoT rfl rfl hk3) rfl ?_
    refine .q (q_assign rfl) rfl ?_
    refine .nil ?_
    cases H
    exact .to 0 0 (env' := [(0, .d (cI (Int.tdiv v0nl1 256))), (3, .d (slOf 1 rB8 (([UInt8.ofInt (Int.tmod v0nl1 256)] : List UInt8) ++ v3outl1)))]) (st' := ⟨[], []⟩) (.cons rfl (.rfl' _) (.cons rfl (.tsl _ _ _) .nil)) rfl rfl rfl rfl rfl (by rw [hS]; exact Nat.le_of_ble_eq_true rfl) (by rw [hS]; exact Nat.le_of_ble_eq_true rfl) <| .sub (.cons rfl (.rfl' _) (.cons rfl (.rfl' _) (.nil))) (ih1 (n1, (Int.tdiv v0nl1 256, ([UInt8.ofInt (Int.tmod v0nl1 256)] : List UInt8) ++ v3outl1)) HK1 hm1)
  · replace H := ifF hc H; clear hc
    refine .exit rfl ?_
    refine .seq ?_
    refine .region ?_
    refine .q (q_move rfl) rfl ?_
    refine .q (q_assign rfl) rfl ?_
    refine .nil ?_
    refine .retN [.tmp 2] [.d (slOf 1 rB8 v3outl1)] Tryd.func64 Tryd.results64 ⟨rfl, trivial⟩ ?_
    cases H
    cases HK1
    exact ⟨_, .rfl' _, rfl⟩

set_option maxRecDepth 100000 in
set_option maxHeartbeats 1000000 in
theorem c_f_billingref10_flags {v0r : Record} {r : Int} (H : f_billingref10_flags v0r = some r) : ACall Tryd.prog 65 [.agg (Record.row v0r)] (· = cI r) := by
  refine ACall.enter' Tryd.func65 rfl Tryd.ntmps65 rfl fun S hS => ?_
  unfold f_billingref10_flags at H
  change ARun _ _ _ _ _ _ [(0, .d (.agg (Record.row v0r)))] _
  refine .seq ?_
  refine .region ?_
  refine .v (x := .ref 0 0) (v_box rfl rfl) rfl ?_
  refine .withSt (st' := ⟨[.row 39 [.d (cI v0r.source), .d (cI v0r.serial), .d (cI v0r.kind), .d (cS v0r.a), .d (cS v0r.b), .d (cI v0r.start), .d (cI v0r.units), .d (cI v0r.call), .d (cI v0r.part), .d (cB v0r.last), .d (cI v0r.trunk), .d (cB v0r.inbound)]], []⟩) rfl ?_
  refine .q (q_assign rfl) rfl ?_
  refine .nil ?_
  refine .seq ?_
  refine .region ?_
  refine .q (q_assign rfl) rfl ?_
  refine .nil ?_
  refine .seqJoin (ι := Int) (fun s => [(1, .ref 0 0), (3, .d (cI s))]) (fun s => ⟨[.row 39 [.d (cI v0r.source), .d (cI v0r.serial), .d (cI v0r.kind), .d (cS v0r.a), .d (cS v0r.b), .d (cI v0r.start), .d (cI v0r.units), .d (cI v0r.call), .d (cI v0r.part), .d (cB v0r.last), .d (cI v0r.trunk), .d (cB v0r.inbound)]], []⟩) (fun s => f_billingref10_flags_j1 v0r s = some r) ?_ ?_
  · rintro v3nj1 H
    replace H : f_billingref10_flags_j1 v0r v3nj1 = some r := H
    unfold f_billingref10_flags_j1 at H
    change ARun _ _ _ _ _ _ [(1, .ref 0 0), (3, .d (cI v3nj1))] ⟨[.row 39 [.d (cI v0r.source), .d (cI v0r.serial), .d (cI v0r.kind), .d (cS v0r.a), .d (cS v0r.b), .d (cI v0r.start), .d (cI v0r.units), .d (cI v0r.call), .d (cI v0r.part), .d (cB v0r.last), .d (cI v0r.trunk), .d (cB v0r.inbound)]], []⟩
    refine .seq ?_
    refine .seq ?_
    refine .region ?_
    refine .q (q_fieldRef fo_39_11 rfl) rfl ?_
    refine .q (x := .d (cB v0r.inbound)) (q_loadO one_4 rfl rfl rfl) rfl ?_
    refine .nil ?_
    refine .cond rfl (fun hc => ?_) (fun hc => ?_)
    · replace H := ifT hc H; clear hc
      refine .region ?_
      refine .q (q_move rfl) rfl ?_
      obtain ⟨hk1, H⟩ := ck_some H
      refine .q (q_addI rfl rfl hk1.1 hk1.2) rfl ?_
      refine .q (q_assign rfl) rfl ?_
      refine .nil ?_
      refine .seq ?_
      refine .region ?_
      refine .q (q_move rfl) rfl ?_
      refine .q (q_assign rfl) rfl ?_
      refine .nil ?_
      refine .retN [.tmp 2] [.d (cI (v3nj1 + 2))] Tryd.func65 Tryd.results65 ⟨rfl, trivial⟩ ?_
      cases H
      exact ⟨_, .rfl' _, rfl⟩
    · replace H := ifF hc H; clear hc
      refine .skip ?_
      refine .seq ?_
      refine .region ?_
      refine .q (q_move rfl) rfl ?_
      refine .q (q_assign rfl) rfl ?_
      refine .nil ?_
      refine .retN [.tmp 2] [.d (cI v3nj1)] Tryd.func65 Tryd.results65 ⟨rfl, trivial⟩ ?_
      cases H
      exact ⟨_, .rfl' _, rfl⟩
  · intro hj1
    refine .seq ?_
    refine .region ?_
    refine .q (q_fieldRef fo_39_9 rfl) rfl ?_
    refine .q (x := .d (cB v0r.last)) (q_loadO one_4 rfl rfl rfl) rfl ?_
    refine .nil ?_
    refine .cond rfl (fun hc => ?_) (fun hc => ?_)
    · replace H := ifT hc H; clear hc
      refine .region ?_
      refine .q (q_move rfl) rfl ?_
      obtain ⟨hk2, H⟩ := ck_some H
      refine .q (q_addI rfl rfl hk2.1 hk2.2) rfl ?_
      refine .q (q_assign rfl) rfl ?_
      refine .nil ?_
      exact .sub (.cons rfl (.rfl' _) (.cons rfl (.rfl' _) (.nil))) (hj1 (0 + 1) H)
    · replace H := ifF hc H; clear hc
      refine .skip ?_
      exact .sub (.cons rfl (.rfl' _) (.cons rfl (.rfl' _) (.nil))) (hj1 0 H)

set_option maxRecDepth 100000 in
set_option maxHeartbeats 1000000 in
theorem c_f_billingref10_Build {v0list : List Element} {r : (List UInt8) × Int} (H : f_billingref10_Build v0list = some r) : ACall Tryd.prog 66 [slOf 2 Element.row v0list] (· = .tup [slOf 1 rB8 r.1, cI r.2]) := by
  obtain ⟨i5, hi5, hz5, hs5, hb5⟩ := in_5
  obtain ⟨i92, hi92, hz92, hs92, hb92⟩ := in_92
  refine ACall.enter' Tryd.func66 rfl Tryd.ntmps66 rfl fun S hS => ?_
  unfold f_billingref10_Build at H
  change ARun _ _ _ _ _ _ [(0, .d (slOf 2 Element.row v0list))] _
  refine .seq ?_
  refine .region ?_
  refine .q (q_assign rfl) rfl ?_
  refine .q (q_assign rfl) rfl ?_
  refine .nil ?_
  refine .seq ?_
  refine .region ?_
  refine .q (q_assign rfl) rfl ?_
  refine .nil ?_
  refine .seq ?_
  refine .region ?_
  refine .q (q_assign rfl) rfl ?_
  refine .nil ?_
  refine .seq ?_
  refine .seq ?_
  refine .region ?_
  refine .q (q_assign rfl) rfl ?_
  refine .nil ?_
  refine .block ?_
  refine .tok (i := 4) (e := 5) (sz := 1) rfl ?_
  refine .withSt (st' := ⟨[], [⟨5, 1, ([] : List UInt8).length, none⟩]⟩) rfl ?_
  obtain ⟨n1, H⟩ := loop_some H
  refine .withSt (st' := ⟨[], [⟨5, 1, ([] : List UInt8).length, none⟩]⟩) rfl <| .loop (ι := Nat × (List UInt8 × Int × Int)) (fun p => [(0, .d (slOf 2 Element.row v0list)), (4, .tsl 1 (p.2.1.map rB8) 0), (5, .d (cI p.2.2.1)), (6, .d (cI p.2.2.2))]) (fun p => ⟨[], [⟨5, 1, p.2.1.length, none⟩]⟩) (fun p => iter (fun s => f_billingref10_Build_l1 v0list s.1 s.2.1 s.2.2) p.1 p.2 = some r) (·.1) (n1, (([] : List UInt8), 0, 0)) H (.cons rfl (.rfl' _) (.cons rfl (.rfl' _) (.cons rfl (.rfl' _) (.cons rfl (.rfl' _) (.nil))))) rfl ?_
  rintro ⟨m1, v4outl1, v5lastl1, v6il1⟩ HI ih1
  obtain ⟨n1, q1, hm1, H, HK1⟩ := iter_succ HI
  clear HI
  replace H : f_billingref10_Build_l1 v0list v4outl1 v5lastl1 v6il1 = some q1 := H
  unfold f_billingref10_Build_l1 at H
  change ARun _ _ _ _ _ _ [(0, .d (slOf 2 Element.row v0list)), (4, .tsl 1 (v4outl1.map rB8) 0), (5, .d (cI v5lastl1)), (6, .d (cI v6il1))] ⟨[], [⟨5, 1, v4outl1.length, none⟩]⟩
  refine .seq ?_
  refine .seq ?_
  refine .region ?_
  refine .q (q_move rfl) rfl ?_
  refine .q (q_move rfl) rfl ?_
  refine .q (q_lenL (l := v0list) (row := Element.row) Tryd.underlying90 rfl rfl) rfl ?_
  refine .q (q_lss rfl rfl) rfl ?_
  refine .nil ?_
  refine .cond rfl (fun hc => ?_) (fun hc => ?_)
  · replace H := ifT hc H; clear hc
    refine .skip ?_
    refine .seq ?_
    refine .block ?_
    refine .seq ?_
    refine .region ?_
    refine .q (q_move rfl) rfl ?_
    refine .q (q_move rfl) rfl ?_
    obtain ⟨hk1, H⟩ := ck_some H
    refine .q (x := .d (.ro (Element.row (nth v0list (Int.toNat (v6il1)))))) (q_idxL (row := Element.row) (l := v0list) (i := v6il1) Tryd.underlying90 hi92 hs92 rfl rfl rfl hk1) rfl ?_
    refine .q (x := .d (.agg (Element.row (nth v0list (Int.toNat (v6il1)))))) (q_loadAll one_92 sz_92 rfl rfl) rfl ?_
    refine .v (x := .ref 0 0) (v_alloc zr_92 rfl) rfl ?_
    refine .withSt (st' := ⟨[.row 92 [.d (cI 0), .d (nilD)]], [⟨5, 1, v4outl1.length, none⟩]⟩) rfl ?_
    refine .u (u_store rfl rfl rfl rfl (Nat.le_of_ble_eq_true rfl) sz_92) rfl ?_
    refine .withSt (st' := ⟨[.row 92 [.d (cI ((nth v0list (Int.toNat (v6il1))).tag)), .d (slOf 1 rB8 ((nth v0list (Int.toNat (v6il1))).value))]], [⟨5, 1, v4outl1.length, none⟩]⟩) rfl ?_
    refine .nil ?_
    refine .seq ?_
    refine .seq ?_
    refine .region ?_
    refine .q (q_fieldRef fo_92_0 rfl) rfl ?_
    refine .q (x := .d (cI ((nth v0list (Int.toNat (v6il1))).tag))) (q_loadO one_3 rfl rfl rfl) rfl ?_
    refine .q (q_lss rfl rfl) rfl ?_
    refine .q (q_move rfl) rfl ?_
    refine .guardG (env' := [(7, _)]) rfl rfl rfl ⟨.inl rfl, trivial⟩ rfl (fun hg => OpQ.g (q_fieldRef fo_92_0 rfl)) ?_
    refine .guardG (b := (!(decide (((nth v0list (Int.toNat (v6il1))).tag) < 1)))) (x := .d (cI ((nth v0list (Int.toNat (v6il1))).tag))) (env' := [(22, _)]) rfl rfl rfl ⟨.inr (.inl rfl), trivial⟩ rfl (fun hg => OpQ.g (q_loadO one_3 rfl rfl rfl)) ?_
    refine .guardG (env' := [(23, _)]) rfl rfl rfl ⟨.inr (.inl rfl), trivial⟩ rfl (fun hg => OpQ.g (q_gtr rfl rfl)) ?_
    refine .q (q_pickOrB rfl rfl rfl) rfl ?_
    refine .nil ?_
    refine .cond rfl (fun hc => ?_) (fun hc => ?_)
    · replace H := ifT hc H; clear hc
      refine .seq ?_
      refine .region ?_
      refine .q (q_assign rfl) rfl ?_
      refine .q (q_assign rfl) rfl ?_
      refine .nil ?_
      refine .retN [.tmp 2, .tmp 3] [.d (nilD), .d (cI 6)] Tryd.func66 Tryd.results66 ⟨rfl, rfl, trivial⟩ ?_
      cases H
      cases HK1
      exact ⟨_, EVle.tupL (ds := [slOf 1 rB8 ([] : List UInt8), cI 6]) ⟨.nil 1, .rfl' _, trivial⟩, rfl⟩
    · replace H := ifF hc H; clear hc
      refine .skip ?_
      refine .seq ?_
      refine .seq ?_
      refine .region ?_
      refine .q (q_fieldRef fo_92_0 rfl) rfl ?_
      refine .q (x := .d (cI ((nth v0list (Int.toNat (v6il1))).tag))) (q_loadO one_3 rfl rfl rfl) rfl ?_
      refine .q (q_move rfl) rfl ?_
      refine .q (q_leq rfl rfl) rfl ?_
      refine .nil ?_
      refine .cond rfl (fun hc => ?_) (fun hc => ?_)
      · replace H := ifT hc H; clear hc
        refine .seq ?_
        refine .region ?_
        refine .q (q_assign rfl) rfl ?_
        refine .q (q_assign rfl) rfl ?_
        refine .nil ?_
        refine .retN [.tmp 2, .tmp 3] [.d (nilD), .d (cI 9)] Tryd.func66 Tryd.results66 ⟨rfl, rfl, trivial⟩ ?_
        cases H
        cases HK1
        exact ⟨_, EVle.tupL (ds := [slOf 1 rB8 ([] : List UInt8), cI 9]) ⟨.nil 1, .rfl' _, trivial⟩, rfl⟩
      · replace H := ifF hc H; clear hc
        refine .skip ?_
        refine .seq ?_
        refine .seq ?_
        refine .region ?_
        refine .q (q_fieldRef fo_92_1 rfl) rfl ?_
        refine .q (x := .d (slOf 1 rB8 ((nth v0list (Int.toNat (v6il1))).value))) (q_loadO one_32 rfl rfl rfl) rfl ?_
        refine .q (q_lenL (l := (nth v0list (Int.toNat (v6il1))).value) (row := rB8) Tryd.underlying32 rfl rfl) rfl ?_
        refine .q (q_gtr rfl rfl) rfl ?_
        refine .nil ?_
        refine .cond rfl (fun hc => ?_) (fun hc => ?_)
        · replace H := ifT hc H; clear hc
          refine .seq ?_
          refine .region ?_
          refine .q (q_assign rfl) rfl ?_
          refine .q (q_assign rfl) rfl ?_
          refine .nil ?_
          refine .retN [.tmp 2, .tmp 3] [.d (nilD), .d (cI 5)] Tryd.func66 Tryd.results66 ⟨rfl, rfl, trivial⟩ ?_
          cases H
          cases HK1
          exact ⟨_, EVle.tupL (ds := [slOf 1 rB8 ([] : List UInt8), cI 5]) ⟨.nil 1, .rfl' _, trivial⟩, rfl⟩
        · replace H := ifF hc H; clear hc
          refine .skip ?_
          refine .seq ?_
          refine .region ?_
          refine .q (q_move rfl) rfl ?_
          refine .q (q_fieldRef fo_92_0 rfl) rfl ?_
          refine .q (x := .d (cI ((nth v0list (Int.toNat (v6il1))).tag))) (q_loadO one_3 rfl rfl rfl) rfl ?_
          refine .q (x := .d (cU8 (UInt8.ofInt ((nth v0list (Int.toNat (v6il1))).tag)))) (q_conv8 Tryd.underlying3 Tryd.underlying5 rfl) rfl ?_
          refine .q (q_fieldRef fo_92_1 rfl) rfl ?_
          refine .q (x := .d (slOf 1 rB8 ((nth v0list (Int.toNat (v6il1))).value))) (q_loadO one_32 rfl rfl rfl) rfl ?_
          refine .q (q_lenL (l := (nth v0list (Int.toNat (v6il1))).value) (row := rB8) Tryd.underlying32 rfl rfl) rfl ?_
          refine .q (x := .d (cU8 (UInt8.ofInt (((nth v0list (Int.toNat (v6il1))).value).length : Int)))) (q_conv8 Tryd.underlying3 Tryd.underlying5 rfl) rfl ?_
          refine .g (x := .d (slOf 1 rB8 ([UInt8.ofInt ((nth v0list (Int.toNat (v6il1))).tag), UInt8.ofInt (((nth v0list (Int.toNat (v6il1))).value).length : Int)] : List UInt8))) (g_buildSliceN (n := 2) (rows := ([UInt8.ofInt ((nth v0list (Int.toNat (v6il1))).tag), UInt8.ofInt (((nth v0list (Int.toNat (v6il1))).value).length : Int)] : List UInt8).map rB8) Tryd.underlying32 hi5 hs5 hz5 rfl rfl rfl rfl rfl) rfl ?_
          obtain ⟨hk2, H⟩ := ck_some H
          refine .v (x := .tsl 1 ((v4outl1 ++ ([UInt8.ofInt ((nth v0list (Int.toNat (v6il1))).tag), UInt8.ofInt (((nth v0list (Int.toNat (v6il1))).value).length : Int)] : List UInt8)).map rB8) 0) (v_appendL (l := v4outl1) (l' := ([UInt8.ofInt ((nth v0list (Int.toNat (v6il1))).tag), UInt8.ofInt (((nth v0list (Int.toNat (v6il1))).value).length : Int)] : List UInt8)) (row := rB8) Tryd.underlying32 hi5 hz5 hs5 rfl (by rw [hb5]; decide) rfl rfl rfl rfl hk2) rfl ?_
          refine .withSt (st' := ⟨[.row 92 [.d (cI ((nth v0list (Int.toNat (v6il1))).tag)), .d (slOf 1 rB8 ((nth v0list (Int.toNat (v6il1))).value))]], [⟨5, 1, (v4outl1 ++ ([UInt8.ofInt ((nth v0list (Int.toNat (v6il1))).tag), UInt8.ofInt (((nth v0list (Int.toNat (v6il1))).value).length : Int)] : List UInt8)).length, none⟩]⟩) rfl ?_
          refine .q (q_assign rfl) rfl ?_
          refine .nil ?_
          refine .seq ?_
          refine .region ?_
          refine .q (q_move rfl) rfl ?_
          refine .q (q_fieldRef fo_92_1 rfl) rfl ?_
          refine .q (x := .d (slOf 1 rB8 ((nth v0list (Int.toNat (v6il1))).value))) (q_loadO one_32 rfl rfl rfl) rfl ?_
          obtain ⟨hk3, H⟩ := ck_some H
          refine .v (x := .tsl 1 (((v4outl1 ++ ([UInt8.ofInt ((nth v0list (Int.toNat (v6il1))).tag), UInt8.ofInt (((nth v0list (Int.toNat (v6il1))).value).length : Int)] : List UInt8)) ++ ((nth v0list (Int.toNat (v6il1))).value)).map rB8) 0) (v_appendL (l := v4outl1 ++ ([UInt8.ofInt ((nth v0list (Int.toNat (v6il1))).tag), UInt8.ofInt (((nth v0list (Int.toNat (v6il1))).value).length : Int)] : List UInt8)) (l' := (nth v0list (Int.toNat (v6il1))).value) (row := rB8) Tryd.underlying32 hi5 hz5 hs5 rfl (by rw [hb5]; decide) rfl rfl rfl rfl hk3) rfl ?_
          refine .withSt (st' := ⟨[.row 92 [.d (cI ((nth v0list (Int.toNat (v6il1))).tag)), .d (slOf 1 rB8 ((nth v0list (Int.toNat (v6il1))).value))]], [⟨5, 1, ((v4outl1 ++ ([UInt8.ofInt ((nth v0list (Int.toNat (v6il1))).tag), UInt8.ofInt (((nth v0list (Int.toNat (v6il1))).value).length : Int)] : List UInt8)) ++ ((nth v0list (Int.toNat (v6il1))).value)).length, none⟩]⟩) rfl ?_
          refine .q (q_assign rfl) rfl ?_
          refine .nil ?_
          refine .region ?_
          refine .q (q_fieldRef fo_92_0 rfl) rfl ?_
          refine .q (x := .d (cI ((nth v0list (Int.toNat (v6il1))).tag))) (q_loadO one_3 rfl rfl rfl) rfl ?_
          refine .q (q_assign rfl) rfl ?_
          refine .nil ?_
          refine .inBlock ?_
          refine .region ?_
          refine .q (q_move rfl) rfl ?_
          obtain ⟨hk4, H⟩ := ck_some H
          refine .q (q_addI rfl rfl hk4.1 hk4.2) rfl ?_
          refine .q (q_assign rfl) rfl ?_
          refine .nil ?_
          cases H
          exact .to 0 1 (env' := [(0, .d (slOf 2 Element.row v0list)), (4, .tsl 1 (((v4outl1 ++ ([UInt8.ofInt ((nth v0list (Int.toNat (v6il1))).tag), UInt8.ofInt (((nth v0list (Int.toNat (v6il1))).value).length : Int)] : List UInt8)) ++ ((nth v0list (Int.toNat (v6il1))).value)).map rB8) 0), (5, .d (cI ((nth v0list (Int.toNat (v6il1))).tag))), (6, .d (cI (v6il1 + 1)))]) (st' := ⟨[], [⟨5, 1, ((v4outl1 ++ ([UInt8.ofInt ((nth v0list (Int.toNat (v6il1))).tag), UInt8.ofInt (((nth v0list (Int.toNat (v6il1))).value).length : Int)] : List UInt8)) ++ ((nth v0list (Int.toNat (v6il1))).value)).length, none⟩]⟩) (.cons rfl (.rfl' _) (.cons rfl (.rfl' _) (.cons rfl (.rfl' _) (.cons rfl (.rfl' _) (.nil))))) rfl rfl rfl rfl rfl (by rw [hS]; exact Nat.le_of_ble_eq_true rfl) (by rw [hS]; exact Nat.le_of_ble_eq_true rfl) <| .sub (.cons rfl (.rfl' _) (.cons rfl (.rfl' _) (.cons rfl (.rfl' _) (.cons rfl (.rfl' _) (.nil))))) (ih1 (n1, ((v4outl1 ++ ([UInt8.ofInt ((nth v0list (Int.toNat (v6il1))).tag), UInt8.ofInt (((nth v0list (Int.toNat (v6il1))).value).length : Int)] : List UInt8)) ++ ((nth v0list (Int.toNat (v6il1))).value), (nth v0list (Int.toNat (v6il1))).tag, v6il1 + 1)) HK1 hm1)
  · replace H := ifF hc H; clear hc
    refine .exit rfl ?_
    refine .seq ?_
    refine .region ?_
    refine .q (q_move rfl) rfl ?_
    refine .q (q_assign rfl) rfl ?_
    refine .q (q_assign rfl) rfl ?_
    refine .nil ?_
    refine .retN [.tmp 2, .tmp 3] [.tsl 1 (v4outl1.map rB8) 0, .d (cI 0)] Tryd.func66 Tryd.results66 ⟨rfl, rfl, trivial⟩ ?_
    cases H
    cases HK1
    exact ⟨_, EVle.tupL (ds := [slOf 1 rB8 v4outl1, cI 0]) ⟨.tsl _ _ _, .rfl' _, trivial⟩, rfl⟩

set_option maxRecDepth 100000 in
set_option maxHeartbeats 1000000 in
theorem c_f_billingref10_Encode {v0 : Record} {r : (List UInt8) × Int} (H : f_billingref10_Encode v0 = some r) : ACall Tryd.prog 37 [.agg (Record.row v0)] (· = .tup [slOf 1 rB8 r.1, cI r.2]) := by
  obtain ⟨i5, hi5, hz5, hs5, hb5⟩ := in_5
  obtain ⟨i32, hi32, hz32, hs32, hb32⟩ := in_32
  obtain ⟨i92, hi92, hz92, hs92, hb92⟩ := in_92
  refine ACall.enter' Tryd.func37 rfl Tryd.ntmps37 rfl fun S hS => ?_
  unfold f_billingref10_Encode at H
  change ARun _ _ _ _ _ _ [(0, .d (.agg (Record.row v0)))] _
  refine .seq ?_
  refine .region ?_
  refine .v (x := .ref 0 0) (v_box rfl rfl) rfl ?_
  refine .withSt (st' := ⟨[.row 39 [.d (cI v0.source), .d (cI v0.serial), .d (cI v0.kind), .d (cS v0.a), .d (cS v0.b), .d (cI v0.start), .d (cI v0.units), .d (cI v0.call), .d (cI v0.part), .d (cB v0.last), .d (cI v0.trunk), .d (cB v0.inbound)]], []⟩) rfl ?_
  refine .q (q_assign rfl) rfl ?_
  refine .q (q_assign rfl) rfl ?_
  refine .nil ?_
  refine .seq ?_
  refine .seq ?_
  refine .region ?_
  refine .q (x := .d (.agg (Record.row v0))) (q_loadOA one_39 sz_39 rfl rfl (Nat.le_of_ble_eq_true rfl) rfl) rfl ?_
  obtain ⟨y1, hy1, H⟩ := bind_some' H
  refine .g (x := .d (cI y1)) (g_call en_26 rfl rfl (c_f_billingref09_Error (hy1))) rfl ?_
  refine .q (q_assign rfl) rfl ?_
  refine .nil ?_
  refine .seq ?_
  refine .region ?_
  refine .q (q_move rfl) rfl ?_
  refine .q (q_neq rfl rfl) rfl ?_
  refine .nil ?_
  refine .cond rfl (fun hc => ?_) (fun hc => ?_)
  · replace H := ifT hc H; clear hc
    refine .seq ?_
    refine .region ?_
    refine .q (q_move rfl) rfl ?_
    refine .q (q_assign rfl) rfl ?_
    refine .q (q_assign rfl) rfl ?_
    refine .nil ?_
    refine .retN [.tmp 2, .tmp 3] [.d (nilD), .d (cI y1)] Tryd.func37 Tryd.results37 ⟨rfl, rfl, trivial⟩ ?_
    cases H
    exact ⟨_, EVle.tupL (ds := [slOf 1 rB8 ([] : List UInt8), cI y1]) ⟨.nil 1, .rfl' _, trivial⟩, rfl⟩
  · replace H := ifF hc H; clear hc
    refine .skip ?_
    refine .seq ?_
    refine .region ?_
    refine .q (q_fieldRef fo_39_3 rfl) rfl ?_
    refine .q (x := .d (cS v0.a)) (q_loadO one_9 rfl rfl rfl) rfl ?_
    obtain ⟨y2, hy2, H⟩ := bind_some' H
    refine .g (x := .d (.tup [slOf 1 rB8 y2.1, cI y2.2])) (g_call en_63 rfl rfl (c_f_billingref02_Pack (hy2))) rfl ?_
    refine .q (q_move rfl) rfl ?_
    refine .q (q_extract rfl rfl) rfl ?_
    refine .q (q_extract rfl rfl) rfl ?_
    refine .q (q_assign rfl) rfl ?_
    refine .q (q_assign rfl) rfl ?_
    refine .nil ?_
    refine .seq ?_
    refine .region ?_
    refine .q (q_assign rfl) rfl ?_
    refine .nil ?_
    refine .seqJoin (ι := List UInt8) (fun s => [(1, .ref 0 0), (5, .d (slOf 1 rB8 y2.1)), (7, .d (slOf 1 rB8 s))]) (fun s => ⟨[.row 39 [.d (cI v0.source), .d (cI v0.serial), .d (cI v0.kind), .d (cS v0.a), .d (cS v0.b), .d (cI v0.start), .d (cI v0.units), .d (cI v0.call), .d (cI v0.part), .d (cB v0.last), .d (cI v0.trunk), .d (cB v0.inbound)]], []⟩) (fun s => f_billingref10_Encode_j1 v0 y2 s = some r) ?_ ?_
    · rintro v7j1 H
      replace H : f_billingref10_Encode_j1 v0 y2 v7j1 = some r := H
      unfold f_billingref10_Encode_j1 at H
      change ARun _ _ _ _ _ _ [(1, .ref 0 0), (5, .d (slOf 1 rB8 y2.1)), (7, .d (slOf 1 rB8 v7j1))] ⟨[.row 39 [.d (cI v0.source), .d (cI v0.serial), .d (cI v0.kind), .d (cS v0.a), .d (cS v0.b), .d (cI v0.start), .d (cI v0.units), .d (cI v0.call), .d (cI v0.part), .d (cB v0.last), .d (cI v0.trunk), .d (cB v0.inbound)]], []⟩
      refine .seq ?_
      refine .drawn 31 hMix (by kernel_rfl) ?_
      show DOps _ _ _ _ _ _ _ (_ :: _) _ _ _
      refine .q (q_fieldRef fo_39_2 rfl) rfl ?_
      refine .q (x := .d (cI v0.kind)) (q_loadO one_3 rfl rfl rfl) rfl ?_
      obtain ⟨y3, hy3, H⟩ := bind_some' H
      refine .g (x := .d (slOf 1 rB8 y3)) (g_call en_64 rfl rfl (c_f_billingref10_shortest (hy3))) rfl ?_
      refine .q (q_fieldRef fo_39_0 rfl) rfl ?_
      refine .q (x := .d (cI v0.source)) (q_loadO one_3 rfl rfl rfl) rfl ?_
      obtain ⟨y4, hy4, H⟩ := bind_some' H
      refine .g (x := .d (slOf 1 rB8 y4)) (g_call en_64 rfl rfl (c_f_billingref10_shortest (hy4))) rfl ?_
      refine .q (q_fieldRef fo_39_1 rfl) rfl ?_
      refine .q (x := .d (cI v0.serial)) (q_loadO one_3 rfl rfl rfl) rfl ?_
      obtain ⟨y5, hy5, H⟩ := bind_some' H
      refine .g (x := .d (slOf 1 rB8 y5)) (g_call en_64 rfl rfl (c_f_billingref10_shortest (hy5))) rfl ?_
      refine .q (q_move rfl) rfl ?_
      refine .q (q_move rfl) rfl ?_
      refine .q (q_fieldRef fo_39_5 rfl) rfl ?_
      refine .q (x := .d (cI v0.start)) (q_loadO one_3 rfl rfl rfl) rfl ?_
      obtain ⟨y6, hy6, H⟩ := bind_some' H
      refine .g (x := .d (slOf 1 rB8 y6)) (g_call en_64 rfl rfl (c_f_billingref10_shortest (hy6))) rfl ?_
      refine .q (q_fieldRef fo_39_6 rfl) rfl ?_
      refine .q (x := .d (cI v0.units)) (q_loadO one_3 rfl rfl rfl) rfl ?_
      obtain ⟨y7, hy7, H⟩ := bind_some' H
      refine .g (x := .d (slOf 1 rB8 y7)) (g_call en_64 rfl rfl (c_f_billingref10_shortest (hy7))) rfl ?_
      refine .q (q_fieldRef fo_39_7 rfl) rfl ?_
      refine .q (x := .d (cI v0.call)) (q_loadO one_3 rfl rfl rfl) rfl ?_
      obtain ⟨y8, hy8, H⟩ := bind_some' H
      refine .g (x := .d (slOf 1 rB8 y8)) (g_call en_64 rfl rfl (c_f_billingref10_shortest (hy8))) rfl ?_
      refine .q (q_fieldRef fo_39_8 rfl) rfl ?_
      refine .q (x := .d (cI v0.part)) (q_loadO one_3 rfl rfl rfl) rfl ?_
      obtain ⟨y9, hy9, H⟩ := bind_some' H
      refine .g (x := .d (slOf 1 rB8 y9)) (g_call en_64 rfl rfl (c_f_billingref10_shortest (hy9))) rfl ?_
      refine .q (q_fieldRef fo_39_10 rfl) rfl ?_
      refine .q (x := .d (cI v0.trunk)) (q_loadO one_3 rfl rfl rfl) rfl ?_
      obtain ⟨y10, hy10, H⟩ := bind_some' H
      refine .g (x := .d (slOf 1 rB8 y10)) (g_call en_64 rfl rfl (c_f_billingref10_shortest (hy10))) rfl ?_
      refine .q (x := .d (.agg (Record.row v0))) (q_loadOA one_39 sz_39 rfl rfl (Nat.le_of_ble_eq_true rfl) rfl) rfl ?_
      obtain ⟨y11, hy11, H⟩ := bind_some' H
      refine .g (x := .d (cI y11)) (g_call en_65 rfl rfl (c_f_billingref10_flags (hy11))) rfl ?_
      obtain ⟨y12, hy12, H⟩ := bind_some' H
      refine .g (x := .d (slOf 1 rB8 y12)) (g_call en_64 rfl rfl (c_f_billingref10_shortest (hy12))) rfl ?_
      refine .g (x := .d (slOf 1 (rSl 1 rB8) ([([] : List UInt8), y3, y4, y5, y2.1, v7j1, y6, y7, y8, y9, y10, y12] : List (List UInt8)))) (OpG.le (g_buildSliceN (n := 12) (rows := [[nilD], [slOf 1 rB8 y3], [slOf 1 rB8 y4], [slOf 1 rB8 y5], [slOf 1 rB8 y2.1], [slOf 1 rB8 v7j1], [slOf 1 rB8 y6], [slOf 1 rB8 y7], [slOf 1 rB8 y8], [slOf 1 rB8 y9], [slOf 1 rB8 y10], [slOf 1 rB8 y12]]) Tryd.underlying52 hi32 hs32 hz32 rfl rfl rfl (by kernel_rfl) rfl) (EVle.d (.sl ⟨⟨.nil 1, trivial⟩, ⟨.rfl' _, trivial⟩, ⟨.rfl' _, trivial⟩, ⟨.rfl' _, trivial⟩, ⟨.rfl' _, trivial⟩, ⟨.rfl' _, trivial⟩, ⟨.rfl' _, trivial⟩, ⟨.rfl' _, trivial⟩, ⟨.rfl' _, trivial⟩, ⟨.rfl' _, trivial⟩, ⟨.rfl' _, trivial⟩, ⟨.rfl' _, trivial⟩, trivial⟩))) rfl ?_
      refine .q (q_assign rfl) rfl ?_
      refine .nil ?_
      show AOps _ _ _ _ _ _ [] _ _ _
      refine .nil ?_
      refine .seq ?_
      refine .region ?_
      refine .q (q_assign rfl) rfl ?_
      refine .nil ?_
      refine .seq ?_
      refine .seq ?_
      refine .region ?_
      refine .q (q_assign rfl) rfl ?_
      refine .nil ?_
      refine .tok (i := 9) (e := 92) (sz := 2) rfl ?_
      refine .withSt (st' := ⟨[.row 39 [.d (cI v0.source), .d (cI v0.serial), .d (cI v0.kind), .d (cS v0.a), .d (cS v0.b), .d (cI v0.start), .d (cI v0.units), .d (cI v0.call), .d (cI v0.part), .d (cB v0.last), .d (cI v0.trunk), .d (cB v0.inbound)]], [⟨92, 2, ([] : List Element).length, none⟩]⟩) rfl ?_
      refine .blockJoin2 (ι := List Element) (fun s => [(9, .tsl 2 (s.map Element.row) 0)]) (fun s => ⟨[.row 39 [.d (cI v0.source), .d (cI v0.serial), .d (cI v0.kind), .d (cS v0.a), .d (cS v0.b), .d (cI v0.start), .d (cI v0.units), .d (cI v0.call), .d (cI v0.part), .d (cB v0.last), .d (cI v0.trunk), .d (cB v0.inbound)]], [⟨92, 2, s.length, none⟩]⟩) (fun s => f_billingref10_Encode_j2 s = some r) ?_ ?_
      · rintro v9j2 H
        replace H : f_billingref10_Encode_j2 v9j2 = some r := H
        unfold f_billingref10_Encode_j2 at H
        change ARun _ _ _ _ _ _ [(9, .tsl 2 (v9j2.map Element.row) 0)] ⟨[.row 39 [.d (cI v0.source), .d (cI v0.serial), .d (cI v0.kind), .d (cS v0.a), .d (cS v0.b), .d (cI v0.start), .d (cI v0.units), .d (cI v0.call), .d (cI v0.part), .d (cB v0.last), .d (cI v0.trunk), .d (cB v0.inbound)]], [⟨92, 2, v9j2.length, none⟩]⟩
        refine .seq ?_
        refine .region ?_
        refine .q (q_move rfl) rfl ?_
        obtain ⟨y13, hy13, H⟩ := bind_some' H
        refine .g (x := .d (.tup [slOf 1 rB8 y13.1, cI y13.2])) (g_call en_66 rfl rfl (c_f_billingref10_Build (hy13))) rfl ?_
        refine .q (q_move rfl) rfl ?_
        refine .q (q_extract rfl rfl) rfl ?_
        refine .q (q_extract rfl rfl) rfl ?_
        refine .q (q_assign rfl) rfl ?_
        refine .q (q_assign rfl) rfl ?_
        refine .nil ?_
        refine .seq ?_
        refine .region ?_
        refine .q (q_move rfl) rfl ?_
        refine .q (q_lenL (l := y13.1) (row := rB8) Tryd.underlying32 rfl rfl) rfl ?_
        obtain ⟨hk1, H⟩ := ck_some H
        refine .q (x := .d (cI (Int.tdiv (y13.1.length : Int) 256))) (q_quoT rfl rfl hk1) rfl ?_
        refine .q (x := .d (cU8 (UInt8.ofInt (Int.tdiv (y13.1.length : Int) 256)))) (q_conv8 Tryd.underlying3 Tryd.underlying5 rfl) rfl ?_
        refine .q (q_move rfl) rfl ?_
        refine .q (q_lenL (l := y13.1) (row := rB8) Tryd.underlying32 rfl rfl) rfl ?_
        obtain ⟨hk2, H⟩ := ck_some H
        refine .q (x := .d (cI (Int.tmod (y13.1.length : Int) 256))) (q_remT rfl rfl hk2) rfl ?_
        refine .q (x := .d (cU8 (UInt8.ofInt (Int.tmod (y13.1.length : Int) 256)))) (q_conv8 Tryd.underlying3 Tryd.underlying5 rfl) rfl ?_
        refine .v (x := .tsl 1 (([UInt8.ofInt (Int.tdiv (y13.1.length : Int) 256), UInt8.ofInt (Int.tmod (y13.1.length : Int) 256)] : List UInt8).map rB8) 1) (v_buildSliceT (n := 2) Tryd.underlying32 hi5 hs5 hz5 rfl rfl rfl rfl rfl) rfl ?_
        refine .withSt (st' := ⟨[.row 39 [.d (cI v0.source), .d (cI v0.serial), .d (cI v0.kind), .d (cS v0.a), .d (cS v0.b), .d (cI v0.start), .d (cI v0.units), .d (cI v0.call), .d (cI v0.part), .d (cB v0.last), .d (cI v0.trunk), .d (cB v0.inbound)]], [⟨92, 2, v9j2.length, none⟩, ⟨5, 1, ([UInt8.ofInt (Int.tdiv (y13.1.length : Int) 256), UInt8.ofInt (Int.tmod (y13.1.length : Int) 256)] : List UInt8).length, none⟩]⟩) rfl ?_
        refine .q (q_move rfl) rfl ?_
        obtain ⟨hk3, H⟩ := ck_some H
        refine .v (x := .tsl 1 ((([UInt8.ofInt (Int.tdiv (y13.1.length : Int) 256), UInt8.ofInt (Int.tmod (y13.1.length : Int) 256)] : List UInt8) ++ y13.1).map rB8) 1) (v_appendL (l := ([UInt8.ofInt (Int.tdiv (y13.1.length : Int) 256), UInt8.ofInt (Int.tmod (y13.1.length : Int) 256)] : List UInt8)) (l' := y13.1) (row := rB8) Tryd.underlying32 hi5 hz5 hs5 rfl (by rw [hb5]; decide) rfl rfl rfl rfl hk3) rfl ?_
        refine .withSt (st' := ⟨[.row 39 [.d (cI v0.source), .d (cI v0.serial), .d (cI v0.kind), .d (cS v0.a), .d (cS v0.b), .d (cI v0.start), .d (cI v0.units), .d (cI v0.call), .d (cI v0.part), .d (cB v0.last), .d (cI v0.trunk), .d (cB v0.inbound)]], [⟨92, 2, v9j2.length, none⟩, ⟨5, 1, (([UInt8.ofInt (Int.tdiv (y13.1.length : Int) 256), UInt8.ofInt (Int.tmod (y13.1.length : Int) 256)] : List UInt8) ++ y13.1).length, none⟩]⟩) rfl ?_
        refine .q (q_assign rfl) rfl ?_
        refine .q (q_assign rfl) rfl ?_
        refine .nil ?_
        refine .retN [.tmp 2, .tmp 3] [.tsl 1 ((([UInt8.ofInt (Int.tdiv (y13.1.length : Int) 256), UInt8.ofInt (Int.tmod (y13.1.length : Int) 256)] : List UInt8) ++ y13.1).map rB8) 1, .d (cI 0)] Tryd.func37 Tryd.results37 ⟨rfl, rfl, trivial⟩ ?_
        cases H
        exact ⟨_, EVle.tupL (ds := [slOf 1 rB8 (([UInt8.ofInt (Int.tdiv (y13.1.length : Int) 256), UInt8.ofInt (Int.tmod (y13.1.length : Int) 256)] : List UInt8) ++ y13.1), cI 0]) ⟨.tsl _ _ _, .rfl' _, trivial⟩, rfl⟩
      · intro hj2 hj2x
        obtain ⟨n1, H⟩ := loop_some H
        refine .withSt (st' := ⟨[.row 39 [.d (cI v0.source), .d (cI v0.serial), .d (cI v0.kind), .d (cS v0.a), .d (cS v0.b), .d (cI v0.start), .d (cI v0.units), .d (cI v0.call), .d (cI v0.part), .d (cB v0.last), .d (cI v0.trunk), .d (cB v0.inbound)]], [⟨92, 2, ([] : List Element).length, none⟩]⟩) rfl <| .loop (ι := Nat × (List Element × Int)) (fun p => [(8, .d (slOf 1 (rSl 1 rB8) ([([] : List UInt8), y3, y4, y5, y2.1, v7j1, y6, y7, y8, y9, y10, y12] : List (List UInt8)))), (9, .tsl 2 (p.2.1.map Element.row) 0), (10, .d (cI p.2.2))]) (fun p => ⟨[.row 39 [.d (cI v0.source), .d (cI v0.serial), .d (cI v0.kind), .d (cS v0.a), .d (cS v0.b), .d (cI v0.start), .d (cI v0.units), .d (cI v0.call), .d (cI v0.part), .d (cB v0.last), .d (cI v0.trunk), .d (cB v0.inbound)]], [⟨92, 2, p.2.1.length, none⟩]⟩) (fun p => iter (fun s => f_billingref10_Encode_l1 y2 v7j1 y3 y4 y5 y6 y7 y8 y9 y10 y12 s.1 s.2) p.1 p.2 = some r) (·.1) (n1, (([] : List Element), 1)) H (.cons rfl (.rfl' _) (.cons rfl (.rfl' _) (.cons rfl (.rfl' _) (.nil)))) rfl ?_
        rintro ⟨m1, v9l1, v10l1⟩ HI ih1
        obtain ⟨n1, q1, hm1, H, HK1⟩ := iter_succ HI
        clear HI
        replace H : f_billingref10_Encode_l1 y2 v7j1 y3 y4 y5 y6 y7 y8 y9 y10 y12 v9l1 v10l1 = some q1 := H
        unfold f_billingref10_Encode_l1 at H
        change ARun _ _ _ _ _ _ [(8, .d (slOf 1 (rSl 1 rB8) ([([] : List UInt8), y3, y4, y5, y2.1, v7j1, y6, y7, y8, y9, y10, y12] : List (List UInt8)))), (9, .tsl 2 (v9l1.map Element.row) 0), (10, .d (cI v10l1))] ⟨[.row 39 [.d (cI v0.source), .d (cI v0.serial), .d (cI v0.kind), .d (cS v0.a), .d (cS v0.b), .d (cI v0.start), .d (cI v0.units), .d (cI v0.call), .d (cI v0.part), .d (cB v0.last), .d (cI v0.trunk), .d (cB v0.inbound)]], [⟨92, 2, v9l1.length, none⟩]⟩
        refine .seq ?_
        refine .seq ?_
        refine .region ?_
        refine .q (q_move rfl) rfl ?_
        refine .q (q_move rfl) rfl ?_
        refine .q (q_lenL (l := ([([] : List UInt8), y3, y4, y5, y2.1, v7j1, y6, y7, y8, y9, y10, y12] : List (List UInt8))) (row := (rSl 1 rB8)) Tryd.underlying52 rfl rfl) rfl ?_
        refine .q (q_lss rfl rfl) rfl ?_
        refine .nil ?_
        refine .cond rfl (fun hc => ?_) (fun hc => ?_)
        · replace H := ifT hc H; clear hc
          refine .skip ?_
          refine .seq ?_
          refine .block ?_
          refine .seq ?_
          refine .region ?_
          refine .q (q_move rfl) rfl ?_
          refine .q (q_move rfl) rfl ?_
          obtain ⟨hk4, H⟩ := ck_some H
          refine .q (x := .d (.ro ((rSl 1 rB8) (nth ([([] : List UInt8), y3, y4, y5, y2.1, v7j1, y6, y7, y8, y9, y10, y12] : List (List UInt8)) (Int.toNat (v10l1)))))) (q_idxL (row := (rSl 1 rB8)) (l := ([([] : List UInt8), y3, y4, y5, y2.1, v7j1, y6, y7, y8, y9, y10, y12] : List (List UInt8))) (i := v10l1) Tryd.underlying52 hi32 hs32 rfl rfl rfl hk4) rfl ?_
          refine .q (x := .d (slOf 1 rB8 (nth ([([] : List UInt8), y3, y4, y5, y2.1, v7j1, y6, y7, y8, y9, y10, y12] : List (List UInt8)) (Int.toNat (v10l1))))) (q_load one_32 rfl) rfl ?_
          refine .q (q_lenL (l := nth ([([] : List UInt8), y3, y4, y5, y2.1, v7j1, y6, y7, y8, y9, y10, y12] : List (List UInt8)) (Int.toNat (v10l1))) (row := rB8) Tryd.underlying32 rfl rfl) rfl ?_
          refine .q (q_gtr rfl rfl) rfl ?_
          refine .nil ?_
          refine .cond rfl (fun hc => ?_) (fun hc => ?_)
          · replace H := ifT hc H; clear hc
            refine .region ?_
            refine .q (q_move rfl) rfl ?_
            refine .q (q_move rfl) rfl ?_
            refine .q (q_move rfl) rfl ?_
            refine .q (q_move rfl) rfl ?_
            obtain ⟨hk5, H⟩ := ck_some H
            refine .q (x := .d (.ro ((rSl 1 rB8) (nth ([([] : List UInt8), y3, y4, y5, y2.1, v7j1, y6, y7, y8, y9, y10, y12] : List (List UInt8)) (Int.toNat (v10l1)))))) (q_idxL (row := (rSl 1 rB8)) (l := ([([] : List UInt8), y3, y4, y5, y2.1, v7j1, y6, y7, y8, y9, y10, y12] : List (List UInt8))) (i := v10l1) Tryd.underlying52 hi32 hs32 rfl rfl rfl hk5) rfl ?_
            refine .q (x := .d (slOf 1 rB8 (nth ([([] : List UInt8), y3, y4, y5, y2.1, v7j1, y6, y7, y8, y9, y10, y12] : List (List UInt8)) (Int.toNat (v10l1))))) (q_load one_32 rfl) rfl ?_
            refine .q (x := .d (.agg (Element.row (⟨v10l1, nth ([([] : List UInt8), y3, y4, y5, y2.1, v7j1, y6, y7, y8, y9, y10, y12] : List (List UInt8)) (Int.toNat (v10l1))⟩ : Element)))) (q_buildP pl_92 hi92 hz92 rfl rfl) rfl ?_
            refine .g (x := .d (slOf 2 Element.row ([(⟨v10l1, nth ([([] : List UInt8), y3, y4, y5, y2.1, v7j1, y6, y7, y8, y9, y10, y12] : List (List UInt8)) (Int.toNat (v10l1))⟩ : Element)] : List Element))) (g_buildSlice1 Tryd.underlying90 hi92 hs92 hz92 rfl rfl rfl rfl rfl) rfl ?_
            obtain ⟨hk6, H⟩ := ck_some H
            refine .v (x := .tsl 2 ((v9l1 ++ ([(⟨v10l1, nth ([([] : List UInt8), y3, y4, y5, y2.1, v7j1, y6, y7, y8, y9, y10, y12] : List (List UInt8)) (Int.toNat (v10l1))⟩ : Element)] : List Element)).map Element.row) 0) (v_appendL (l := v9l1) (l' := ([(⟨v10l1, nth ([([] : List UInt8), y3, y4, y5, y2.1, v7j1, y6, y7, y8, y9, y10, y12] : List (List UInt8)) (Int.toNat (v10l1))⟩ : Element)] : List Element)) (row := Element.row) Tryd.underlying90 hi92 hz92 hs92 rfl (by rw [hb92]; decide) rfl rfl rfl rfl hk6) rfl ?_
            refine .withSt (st' := ⟨[.row 39 [.d (cI v0.source), .d (cI v0.serial), .d (cI v0.kind), .d (cS v0.a), .d (cS v0.b), .d (cI v0.start), .d (cI v0.units), .d (cI v0.call), .d (cI v0.part), .d (cB v0.last), .d (cI v0.trunk), .d (cB v0.inbound)]], [⟨92, 2, (v9l1 ++ ([(⟨v10l1, nth ([([] : List UInt8), y3, y4, y5, y2.1, v7j1, y6, y7, y8, y9, y10, y12] : List (List UInt8)) (Int.toNat (v10l1))⟩ : Element)] : List Element)).length, none⟩]⟩) rfl ?_
            refine .q (q_assign rfl) rfl ?_
            refine .nil ?_
            refine .inBlock ?_
            refine .region ?_
            refine .q (q_move rfl) rfl ?_
            obtain ⟨hk7, H⟩ := ck_some H
            refine .q (q_addI rfl rfl hk7.1 hk7.2) rfl ?_
            refine .q (q_assign rfl) rfl ?_
            refine .nil ?_
            cases H
            exact .withSt (st' := ⟨[.row 39 [.d (cI v0.source), .d (cI v0.serial), .d (cI v0.kind), .d (cS v0.a), .d (cS v0.b), .d (cI v0.start), .d (cI v0.units), .d (cI v0.call), .d (cI v0.part), .d (cB v0.last), .d (cI v0.trunk), .d (cB v0.inbound)]], [⟨92, 2, (v9l1 ++ ([(⟨v10l1, nth ([([] : List UInt8), y3, y4, y5, y2.1, v7j1, y6, y7, y8, y9, y10, y12] : List (List UInt8)) (Int.toNat (v10l1))⟩ : Element)] : List Element)).length, none⟩]⟩) rfl <| .sub (.cons rfl (.rfl' _) (.cons rfl (.rfl' _) (.cons rfl (.rfl' _) (.nil)))) (ih1 (n1, (v9l1 ++ ([(⟨v10l1, nth ([([] : List UInt8), y3, y4, y5, y2.1, v7j1, y6, y7, y8, y9, y10, y12] : List (List UInt8)) (Int.toNat (v10l1))⟩ : Element)] : List Element), v10l1 + 1)) HK1 hm1)
          · replace H := ifF hc H; clear hc
            refine .skip ?_
            refine .inBlock ?_
            refine .region ?_
            refine .q (q_move rfl) rfl ?_
            obtain ⟨hk8, H⟩ := ck_some H
            refine .q (q_addI rfl rfl hk8.1 hk8.2) rfl ?_
            refine .q (q_assign rfl) rfl ?_
            refine .nil ?_
            cases H
            exact .sub (.cons rfl (.rfl' _) (.cons rfl (.rfl' _) (.cons rfl (.rfl' _) (.nil)))) (ih1 (n1, (v9l1, v10l1 + 1)) HK1 hm1)
        · replace H := ifF hc H; clear hc
          refine .exit rfl ?_
          obtain ⟨q0, H9, hq0⟩ := map_some' H; clear H; cases hq0
          cases HK1
          have H := H9
          exact .withSt (st' := ⟨[.row 39 [.d (cI v0.source), .d (cI v0.serial), .d (cI v0.kind), .d (cS v0.a), .d (cS v0.b), .d (cI v0.start), .d (cI v0.units), .d (cI v0.call), .d (cI v0.part), .d (cB v0.last), .d (cI v0.trunk), .d (cB v0.inbound)]], [⟨92, 2, v9l1.length, none⟩]⟩) rfl <| .sub (.cons rfl (.rfl' _) (.nil)) (hj2x v9l1 H)
    · intro hj1
      refine .seq ?_
      refine .region ?_
      refine .q (q_fieldRef fo_39_4 rfl) rfl ?_
      refine .q (x := .d (cS v0.b)) (q_loadO one_9 rfl rfl rfl) rfl ?_
      refine .q (q_sneq rfl rfl) rfl ?_
      refine .nil ?_
      refine .cond rfl (fun hc => ?_) (fun hc => ?_)
      · replace H := ifT hc H; clear hc
        refine .region ?_
        refine .q (q_fieldRef fo_39_4 rfl) rfl ?_
        refine .q (x := .d (cS v0.b)) (q_loadO one_9 rfl rfl rfl) rfl ?_
        obtain ⟨y14, hy14, H⟩ := bind_some' H
        refine .g (x := .d (.tup [slOf 1 rB8 y14.1, cI y14.2])) (g_call en_63 rfl rfl (c_f_billingref02_Pack (hy14))) rfl ?_
        refine .q (q_move rfl) rfl ?_
        refine .q (q_extract rfl rfl) rfl ?_
        refine .q (q_extract rfl rfl) rfl ?_
        refine .q (q_assign rfl) rfl ?_
        refine .nil ?_
        exact .sub (.cons rfl (.rfl' _) (.cons rfl (.rfl' _) (.cons rfl (.rfl' _) (.nil)))) (hj1 y14.1 H)
      · replace H := ifF hc H; clear hc
        refine .skip ?_
        exact .sub (.cons rfl (.rfl' _) (.cons rfl (.rfl' _) (.cons rfl (.nil 1) (.nil)))) (hj1 [] H)

set_option maxRecDepth 100000 in
set_option maxHeartbeats 1000000 in
theorem c_f_billingref11_digits {v0s : List UInt8} {r : (List UInt8)} (H : f_billingref11_digits v0s = some r) : ACall Tryd.prog 68 [cS v0s] (· = slOf 1 rB8 r) := by
  obtain ⟨i5, hi5, hz5, hs5, hb5⟩ := in_5
  refine ACall.enter' Tryd.func68 rfl Tryd.ntmps68 rfl fun S hS => ?_
  unfold f_billingref11_digits at H
  change ARun _ _ _ _ _ _ [(0, .d (cS v0s))] _
  refine .seq ?_
  refine .region ?_
  refine .q (q_assign rfl) rfl ?_
  refine .nil ?_
  refine .seq ?_
  refine .region ?_
  obtain ⟨hk1, H⟩ := ck_some H
  refine .v (x := .vc 0 ((List.replicate (Int.toNat (8)) 0 : List UInt8).length)) (v_makeV (row := rB8) (a := 8) (b := 8) (a0 := 0) Tryd.underlying32 hi5 hz5 hs5 rfl (by rw [hb5]; decide) rfl rfl rfl hk1) rfl ?_
  refine .withSt (st' := ⟨[], [⟨5, 1, ((List.replicate (Int.toNat (8)) 0 : List UInt8).length), some ((List.replicate (Int.toNat (8)) 0 : List UInt8).map rB8)⟩]⟩) rfl ?_
  refine .q (q_assign rfl) rfl ?_
  refine .nil ?_
  refine .seq ?_
  refine .region ?_
  refine .q (q_move rfl) rfl ?_
  refine .q (q_move rfl) rfl ?_
  refine .q (q_lenS Tryd.underlying9 rfl) rfl ?_
  obtain ⟨hk2, H⟩ := ck_some H
  refine .q (q_mulI rfl rfl hk2.1 hk2.2) rfl ?_
  refine .q (x := .d (cU8 (UInt8.ofInt ((v0s.length : Int) * 16)))) (q_conv8 Tryd.underlying3 Tryd.underlying5 rfl) rfl ?_
  obtain ⟨hk3, H⟩ := ck_some H
  refine .q (x := .vp 0 ((List.replicate (Int.toNat (8)) 0 : List UInt8).length) (Int.toNat (0)) 0) (q_idxV (l := (List.replicate (Int.toNat (8)) 0 : List UInt8)) (row := rB8) (i := 0) Tryd.underlying32 hi5 hs5 rfl rfl rfl hk3) rfl ?_
  obtain ⟨hk4, H⟩ := ck_some H
  refine .u (u_storeV (l := (List.replicate (Int.toNat (8)) 0 : List UInt8)) (row := rB8) (a := UInt8.ofInt ((v0s.length : Int) * 16)) rfl rfl hk4 rfl rfl sz_5 rfl (Nat.le_of_ble_eq_true rfl) rfl) rfl ?_
  refine .withSt (st' := ⟨[], [⟨5, 1, ((List.replicate (Int.toNat (8)) 0 : List UInt8).length), some (((List.replicate (Int.toNat (8)) 0 : List UInt8).set (Int.toNat (0)) (UInt8.ofInt ((v0s.length : Int) * 16))).map rB8)⟩]⟩) rfl ?_
  refine .nil ?_
  refine .seq ?_
  refine .seq ?_
  refine .region ?_
  refine .q (q_assign rfl) rfl ?_
  refine .nil ?_
  refine .block ?_
  obtain ⟨n1, H⟩ := loop_some H
  refine .normV (l := (List.replicate (Int.toNat (8)) 0 : List UInt8).set (Int.toNat (0)) (UInt8.ofInt ((v0s.length : Int) * 16))) (row := rB8) (tk := 0) (fun z => [(0, .d (cS v0s)), (3, .vc 0 z), (4, .d (cI 0))]) (fun z => ⟨[], [⟨5, 1, z, some (((List.replicate (Int.toNat (8)) 0 : List UInt8).set (Int.toNat (0)) (UInt8.ofInt ((v0s.length : Int) * 16))).map rB8)⟩]⟩) rfl (.cons rfl (.rfl' _) (.cons rfl (.rfl' _) (.cons rfl (.rfl' _) (.nil)))) rfl ?_
  refine .withSt (st' := ⟨[], [⟨5, 1, ((List.replicate (Int.toNat (8)) 0 : List UInt8).set (Int.toNat (0)) (UInt8.ofInt ((v0s.length : Int) * 16))).length, some (((List.replicate (Int.toNat (8)) 0 : List UInt8).set (Int.toNat (0)) (UInt8.ofInt ((v0s.length : Int) * 16))).map rB8)⟩]⟩) rfl <| .loop (ι := Nat × (List UInt8 × Int)) (fun p => [(0, .d (cS v0s)), (3, .vc 0 p.2.1.length), (4, .d (cI p.2.2))]) (fun p => ⟨[], [⟨5, 1, p.2.1.length, some (p.2.1.map rB8)⟩]⟩) (fun p => iter (fun s => f_billingref11_digits_l1 v0s s.1 s.2) p.1 p.2 = some r) (·.1) (n1, ((List.replicate (Int.toNat (8)) 0 : List UInt8).set (Int.toNat (0)) (UInt8.ofInt ((v0s.length : Int) * 16)), 0)) H (.cons rfl (.rfl' _) (.cons rfl (.rfl' _) (.cons rfl (.rfl' _) (.nil)))) rfl ?_
  rintro ⟨m1, y0tl1, v4il1⟩ HI ih1
  obtain ⟨n1, q1, hm1, H, HK1⟩ := iter_succ HI
  clear HI
  replace H : f_billingref11_digits_l1 v0s y0tl1 v4il1 = some q1 := H
  unfold f_billingref11_digits_l1 at H
  change ARun _ _ _ _ _ _ [(0, .d (cS v0s)), (3, .vc 0 y0tl1.length), (4, .d (cI v4il1))] ⟨[], [⟨5, 1, y0tl1.length, some (y0tl1.map rB8)⟩]⟩
  refine .seq ?_
  refine .seq ?_
  refine .region ?_
  refine .q (q_move rfl) rfl ?_
  refine .q (q_move rfl) rfl ?_
  refine .q (q_lenS Tryd.underlying9 rfl) rfl ?_
  refine .q (q_lss rfl rfl) rfl ?_
  refine .nil ?_
  refine .cond rfl (fun hc => ?_) (fun hc => ?_)
  · replace H := ifT hc H; clear hc
    refine .skip ?_
    refine .seq ?_
    refine .block ?_
    refine .seq ?_
    refine .region ?_
    refine .q (q_move rfl) rfl ?_
    obtain ⟨hk5, H⟩ := ck_some H
    refine .q (q_addI rfl rfl hk5.1 hk5.2) rfl ?_
    refine .q (q_assign rfl) rfl ?_
    refine .nil ?_
    refine .seq ?_
    refine .region ?_
    refine .q (q_move rfl) rfl ?_
    obtain ⟨hk6, H⟩ := ck_some H
    refine .q (x := .d (cI (Int.tmod (v4il1 + 1) 2))) (q_remT rfl rfl hk6) rfl ?_
    refine .q (q_eql rfl rfl) rfl ?_
    refine .nil ?_
    refine .cond rfl (fun hc => ?_) (fun hc => ?_)
    · replace H := ifT hc H; clear hc
      refine .drawn 15 hMix (by kernel_rfl) ?_
      show DOps _ _ _ _ _ _ _ (_ :: _) _ _ _
      refine .q (q_move rfl) rfl ?_
      refine .q (q_move rfl) rfl ?_
      obtain ⟨hk7, H⟩ := ck_some H
      refine .q (x := .d (cI (Int.tdiv (v4il1 + 1) 2))) (q_quoT rfl rfl hk7) rfl ?_
      refine .q (q_move rfl) rfl ?_
      refine .q (q_move rfl) rfl ?_
      obtain ⟨hk8, H⟩ := ck_some H
      refine .q (x := .d (cI (Int.tdiv (v4il1 + 1) 2))) (q_quoT rfl rfl hk8) rfl ?_
      obtain ⟨hk9, H⟩ := ck_some H
      refine .q (x := .vp 0 y0tl1.length (Int.toNat (Int.tdiv (v4il1 + 1) 2)) 0) (q_idxV (l := y0tl1) (row := rB8) (i := Int.tdiv (v4il1 + 1) 2) Tryd.underlying32 hi5 hs5 rfl rfl rfl hk9) rfl ?_
      obtain ⟨hk10, H⟩ := ck_some H
      refine .q (x := .d (cU8 (nth y0tl1 (Int.toNat (Int.tdiv (v4il1 + 1) 2))))) (q_loadVp (l := y0tl1) (row := rB8) one_5 rfl rfl hk10 rfl) rfl ?_
      refine .q (q_move rfl) rfl ?_
      refine .q (q_move rfl) rfl ?_
      obtain ⟨hk11, H⟩ := ck_some H
      refine .q (x := .d (cU8 (nth v0s (Int.toNat (v4il1))))) (q_indexL (i := v4il1) Tryd.underlying9 rfl rfl hk11) rfl ?_
      refine .q (x := .d (cU8 ((nth v0s (Int.toNat (v4il1))) - 48))) (q8_sub (a := nth v0s (Int.toNat (v4il1))) (b := 48) rfl rfl) rfl ?_
      refine .q (x := .d (cU8 (((nth v0s (Int.toNat (v4il1))) - 48) * 16))) (q8_mul (a := (nth v0s (Int.toNat (v4il1))) - 48) (b := 16) rfl rfl) rfl ?_
      refine .q (x := .d (cU8 ((nth y0tl1 (Int.toNat (Int.tdiv (v4il1 + 1) 2))) + (((nth v0s (Int.toNat (v4il1))) - 48) * 16)))) (q8_add (a := nth y0tl1 (Int.toNat (Int.tdiv (v4il1 + 1) 2))) (b := ((nth v0s (Int.toNat (v4il1))) - 48) * 16) rfl rfl) rfl ?_
      obtain ⟨hk12, H⟩ := ck_some H
      refine .q (x := .vp 0 y0tl1.length (Int.toNat (Int.tdiv (v4il1 + 1) 2)) 0) (q_idxV (l := y0tl1) (row := rB8) (i := Int.tdiv (v4il1 + 1) 2) Tryd.underlying32 hi5 hs5 rfl rfl rfl hk12) rfl ?_
      refine .nil ?_
      show AOps _ _ _ _ _ _ (_ :: _) _ _ _
      obtain ⟨hk13, H⟩ := ck_some H
      refine .u (u_storeV (l := y0tl1) (row := rB8) (a := (nth y0tl1 (Int.toNat (Int.tdiv (v4il1 + 1) 2))) + (((nth v0s (Int.toNat (v4il1))) - 48) * 16)) rfl rfl hk13 rfl rfl sz_5 rfl (Nat.le_of_ble_eq_true rfl) rfl) rfl ?_
      refine .withSt (st' := ⟨[], [⟨5, 1, y0tl1.length, some ((y0tl1.set (Int.toNat (Int.tdiv (v4il1 + 1) 2)) ((nth y0tl1 (Int.toNat (Int.tdiv (v4il1 + 1) 2))) + (((nth v0s (Int.toNat (v4il1))) - 48) * 16))).map rB8)⟩]⟩) rfl ?_
      refine .nil ?_
      refine .inBlock ?_
      refine .region ?_
      refine .q (q_move rfl) rfl ?_
      obtain ⟨hk14, H⟩ := ck_some H
      refine .q (q_addI rfl rfl hk14.1 hk14.2) rfl ?_
      refine .q (q_assign rfl) rfl ?_
      refine .nil ?_
      cases H
      refine .normV (l := y0tl1.set (Int.toNat (Int.tdiv (v4il1 + 1) 2)) ((nth y0tl1 (Int.toNat (Int.tdiv (v4il1 + 1) 2))) + (((nth v0s (Int.toNat (v4il1))) - 48) * 16))) (row := rB8) (tk := 0) (fun z => [(0, .d (cS v0s)), (3, .vc 0 z), (4, .d (cI (v4il1 + 1)))]) (fun z => ⟨[], [⟨5, 1, z, some ((y0tl1.set (Int.toNat (Int.tdiv (v4il1 + 1) 2)) ((nth y0tl1 (Int.toNat (Int.tdiv (v4il1 + 1) 2))) + (((nth v0s (Int.toNat (v4il1))) - 48) * 16))).map rB8)⟩]⟩) rfl (.cons rfl (.rfl' _) (.cons rfl (.rfl' _) (.cons rfl (.rfl' _) (.nil)))) rfl ?_
      exact .withSt (st' := ⟨[], [⟨5, 1, (y0tl1.set (Int.toNat (Int.tdiv (v4il1 + 1) 2)) ((nth y0tl1 (Int.toNat (Int.tdiv (v4il1 + 1) 2))) + (((nth v0s (Int.toNat (v4il1))) - 48) * 16))).length, some ((y0tl1.set (Int.toNat (Int.tdiv (v4il1 + 1) 2)) ((nth y0tl1 (Int.toNat (Int.tdiv (v4il1 + 1) 2))) + (((nth v0s (Int.toNat (v4il1))) - 48) * 16))).map rB8)⟩]⟩) rfl <| .sub (.cons rfl (.rfl' _) (.cons rfl (.rfl' _) (.cons rfl (.rfl' _) (.nil)))) (ih1 (n1, (y0tl1.set (Int.toNat (Int.tdiv (v4il1 + 1) 2)) ((nth y0tl1 (Int.toNat (Int.tdiv (v4il1 + 1) 2))) + (((nth v0s (Int.toNat (v4il1))) - 48) * 16)), v4il1 + 1)) HK1 hm1)
    · replace H := ifF hc H; clear hc
      refine .drawn 14 hMix (by kernel_rfl) ?_
      show DOps _ _ _ _ _ _ _ (_ :: _) _ _ _
      refine .q (q_move rfl) rfl ?_
      refine .q (q_move rfl) rfl ?_
      obtain ⟨hk15, H⟩ := ck_some H
      refine .q (x := .d (cI (Int.tdiv (v4il1 + 1) 2))) (q_quoT rfl rfl hk15) rfl ?_
      refine .q (q_move rfl) rfl ?_
      refine .q (q_move rfl) rfl ?_
      obtain ⟨hk16, H⟩ := ck_some H
      refine .q (x := .d (cI (Int.tdiv (v4il1 + 1) 2))) (q_quoT rfl rfl hk16) rfl ?_
      obtain ⟨hk17, H⟩ := ck_some H
      refine .q (x := .vp 0 y0tl1.length (Int.toNat (Int.tdiv (v4il1 + 1) 2)) 0) (q_idxV (l := y0tl1) (row := rB8) (i := Int.tdiv (v4il1 + 1) 2) Tryd.underlying32 hi5 hs5 rfl rfl rfl hk17) rfl ?_
      obtain ⟨hk18, H⟩ := ck_some H
      refine .q (x := .d (cU8 (nth y0tl1 (Int.toNat (Int.tdiv (v4il1 + 1) 2))))) (q_loadVp (l := y0tl1) (row := rB8) one_5 rfl rfl hk18 rfl) rfl ?_
      refine .q (q_move rfl) rfl ?_
      refine .q (q_move rfl) rfl ?_
      obtain ⟨hk19, H⟩ := ck_some H
      refine .q (x := .d (cU8 (nth v0s (Int.toNat (v4il1))))) (q_indexL (i := v4il1) Tryd.underlying9 rfl rfl hk19) rfl ?_
      refine .q (x := .d (cU8 ((nth v0s (Int.toNat (v4il1))) - 48))) (q8_sub (a := nth v0s (Int.toNat (v4il1))) (b := 48) rfl rfl) rfl ?_
      refine .q (x := .d (cU8 ((nth y0tl1 (Int.toNat (Int.tdiv (v4il1 + 1) 2))) + ((nth v0s (Int.toNat (v4il1))) - 48)))) (q8_add (a := nth y0tl1 (Int.toNat (Int.tdiv (v4il1 + 1) 2))) (b := (nth v0s (Int.toNat (v4il1))) - 48) rfl rfl) rfl ?_
      obtain ⟨hk20, H⟩ := ck_some H
      refine .q (x := .vp 0 y0tl1.length (Int.toNat (Int.tdiv (v4il1 + 1) 2)) 0) (q_idxV (l := y0tl1) (row := rB8) (i := Int.tdiv (v4il1 + 1) 2) Tryd.underlying32 hi5 hs5 rfl rfl rfl hk20) rfl ?_
      refine .nil ?_
      show AOps _ _ _ _ _ _ (_ :: _) _ _ _
      obtain ⟨hk21, H⟩ := ck_some H
      refine .u (u_storeV (l := y0tl1) (row := rB8) (a := (nth y0tl1 (Int.toNat (Int.tdiv (v4il1 + 1) 2))) + ((nth v0s (Int.toNat (v4il1))) - 48)) rfl rfl hk21 rfl rfl sz_5 rfl (Nat.le_of_ble_eq_true rfl) rfl) rfl ?_
      refine .withSt (st' := ⟨[], [⟨5, 1, y0tl1.length, some ((y0tl1.set (Int.toNat (Int.tdiv (v4il1 + 1) 2)) ((nth y0tl1 (Int.toNat (Int.tdiv (v4il1 + 1) 2))) + ((nth v0s (Int.toNat (v4il1))) - 48))).map rB8)⟩]⟩) rfl ?_
      refine .nil ?_
      refine .inBlock ?_
      refine .region ?_
      refine .q (q_move rfl) rfl ?_
      obtain ⟨hk22, H⟩ := ck_some H
      refine .q (q_addI rfl rfl hk22.1 hk22.2) rfl ?_
      refine .q (q_assign rfl) rfl ?_
      refine .nil ?_
      cases H
      refine .normV (l := y0tl1.set (Int.toNat (Int.tdiv (v4il1 + 1) 2)) ((nth y0tl1 (Int.toNat (Int.tdiv (v4il1 + 1) 2))) + ((nth v0s (Int.toNat (v4il1))) - 48))) (row := rB8) (tk := 0) (fun z => [(0, .d (cS v0s)), (3, .vc 0 z), (4, .d (cI (v4il1 + 1)))]) (fun z => ⟨[], [⟨5, 1, z, some ((y0tl1.set (Int.toNat (Int.tdiv (v4il1 + 1) 2)) ((nth y0tl1 (Int.toNat (Int.tdiv (v4il1 + 1) 2))) + ((nth v0s (Int.toNat (v4il1))) - 48))).map rB8)⟩]⟩) rfl (.cons rfl (.rfl' _) (.cons rfl (.rfl' _) (.cons rfl (.rfl' _) (.nil)))) rfl ?_
      exact .withSt (st' := ⟨[], [⟨5, 1, (y0tl1.set (Int.toNat (Int.tdiv (v4il1 + 1) 2)) ((nth y0tl1 (Int.toNat (Int.tdiv (v4il1 + 1) 2))) + ((nth v0s (Int.toNat (v4il1))) - 48))).length, some ((y0tl1.set (Int.toNat (Int.tdiv (v4il1 + 1) 2)) ((nth y0tl1 (Int.toNat (Int.tdiv (v4il1 + 1) 2))) + ((nth v0s (Int.toNat (v4il1))) - 48))).map rB8)⟩]⟩) rfl <| .sub (.cons rfl (.rfl' _) (.cons rfl (.rfl' _) (.cons rfl (.rfl' _) (.nil)))) (ih1 (n1, (y0tl1.set (Int.toNat (Int.tdiv (v4il1 + 1) 2)) ((nth y0tl1 (Int.toNat (Int.tdiv (v4il1 + 1) 2))) + ((nth v0s (Int.toNat (v4il1))) - 48)), v4il1 + 1)) HK1 hm1)
  · replace H := ifF hc H; clear hc
    refine .exit rfl ?_
    refine .seq ?_
    refine .region ?_
    refine .q (q_move rfl) rfl ?_
    refine .q (q_assign rfl) rfl ?_
    refine .nil ?_
    refine .freezeL (l := y0tl1) (row := rB8) (i := 2) rfl rfl ?_
    refine .withSt (st' := ⟨[], [⟨5, 1, y0tl1.length, none⟩]⟩) rfl ?_
    refine .retN [.tmp 2] [.tsl 1 (y0tl1.map rB8) 0] Tryd.func68 Tryd.results68 ⟨rfl, trivial⟩ ?_
    cases H
    cases HK1
    exact ⟨_, .tsl _ _ _, rfl⟩

end Go.Proofs.YtccmaffefdcikaaDoor

set_option linter.unusedSimpArgs false
set_option linter.unusedVariables false
namespace Go.Proofs.YtccmaffefdcikaaDoor
open Go.RowKit Go.Abs
set_option maxRecDepth 100000 in
set_option maxHeartbeats 1000000 in
theorem c_f_billingref11_sum {v0b : List UInt8} {r : UInt8} (H : f_billingref11_sum v0b = some r) : ACall Tryd.prog 69 [slOf 1 rB8 v0b] (· = cU8 r) := by
  obtain ⟨i5, hi5, hz5, hs5, hb5⟩ := in_5
  refine ACall.enter' Tryd.func69 rfl Tryd.ntmps69 rfl fun S hS => ?_
  unfold f_billingref11_sum at H
  change ARun _ _ _ _ _ _ [(0, .d (slOf 1 rB8 v0b))] _
  refine .seq ?_
  refine .region ?_
  refine .q (q_assign rfl) rfl ?_
  refine .nil ?_
  refine .seq ?_
  refine .region ?_
  refine .q (q_assign rfl) rfl ?_
  refine .nil ?_
  refine .seq ?_
  refine .seq ?_
  refine .region ?_
  refine .q (q_assign rfl) rfl ?_
  refine .nil ?_
  refine .block ?_
  obtain ⟨n1, H⟩ := loop_some H
  refine .loop (ι := Nat × (Int × Int)) (fun p => [(0, .d (slOf 1 rB8 v0b)), (3, .d (cI p.2.1)), (4, .d (cI p.2.2))]) (fun p => ⟨[], []⟩) (fun p => iter (fun s => f_billingref11_sum_l1 v0b s.1 s.2) p.1 p.2 = some r) (·.1) (n1, (0, 0)) H (.cons rfl (.rfl' _) (.cons rfl (.rfl' _) (.cons rfl (.rfl' _) (.nil)))) rfl ?_
  rintro ⟨m1, v3nl1, v4il1⟩ HI ih1
  obtain ⟨n1, q1, hm1, H, HK1⟩ := iter_succ HI
  clear HI
  replace H : f_billingref11_sum_l1 v0b v3nl1 v4il1 = some q1 := H
  unfold f_billingref11_sum_l1 at H
  change ARun _ _ _ _ _ _ [(0, .d (slOf 1 rB8 v0b)), (3, .d (cI v3nl1)), (4, .d (cI v4il1))] ⟨[], []⟩
  refine .seq ?_
  refine .seq ?_
  refine .region ?_
  refine .q (q_move rfl) rfl ?_
  refine .q (q_move rfl) rfl ?_
  refine .q (q_lenL (l := v0b) (row := rB8) Tryd.underlying32 rfl rfl) rfl ?_
  refine .q (q_lss rfl rfl) rfl ?_
  refine .nil ?_
  refine .cond rfl (fun hc => ?_) (fun hc => ?_)
  · replace H := ifT hc H; clear hc
    refine .skip ?_
    refine .seq ?_
    refine .block ?_
    refine .region ?_
    refine .q (q_move rfl) rfl ?_
    refine .q (q_move rfl) rfl ?_
    refine .q (q_move rfl) rfl ?_
    obtain ⟨hk1, H⟩ := ck_some H
    refine .q (x := .d (.ro (rB8 (nth v0b (Int.toNat (v4il1)))))) (q_idxL (row := rB8) (l := v0b) (i := v4il1) Tryd.underlying32 hi5 hs5 rfl rfl rfl hk1) rfl ?_
    refine .q (x := .d (cU8 (nth v0b (Int.toNat (v4il1))))) (q_load one_5 rfl) rfl ?_
    refine .q (x := .d (cI ((nth v0b (Int.toNat (v4il1))).toNat : Int))) (q_conv8i (a := nth v0b (Int.toNat (v4il1))) Tryd.underlying5 Tryd.underlying3 rfl) rfl ?_
    obtain ⟨hk2, H⟩ := ck_some H
    refine .q (q_addI rfl rfl hk2.1 hk2.2) rfl ?_
    obtain ⟨hk3, H⟩ := ck_some H
    refine .q (x := .d (cI (Int.tmod (v3nl1 + ((nth v0b (Int.toNat (v4il1))).toNat : Int)) 256))) (q_remT rfl rfl hk3) rfl ?_
    refine .q (q_assign rfl) rfl ?_
    refine .nil ?_
    refine .inBlock ?_
    refine .region ?_
    refine .q (q_move rfl) rfl ?_
    obtain ⟨hk4, H⟩ := ck_some H
    refine .q (q_addI rfl rfl hk4.1 hk4.2) rfl ?_
    refine .q (q_assign rfl) rfl ?_
    refine .nil ?_
    cases H
    exact .sub (.cons rfl (.rfl' _) (.cons rfl (.rfl' _) (.cons rfl (.rfl' _) (.nil)))) (ih1 (n1, (Int.tmod (v3nl1 + ((nth v0b (Int.toNat (v4il1))).toNat : Int)) 256, v4il1 + 1)) HK1 hm1)
  · replace H := ifF hc H; clear hc
    refine .exit rfl ?_
    refine .seq ?_
    refine .region ?_
    refine .q (q_move rfl) rfl ?_
    refine .q (x := .d (cU8 (UInt8.ofInt v3nl1))) (q_conv8 Tryd.underlying3 Tryd.underlying5 rfl) rfl ?_
    refine .q (q_assign rfl) rfl ?_
    refine .nil ?_
    refine .retN [.tmp 2] [.d (cU8 (UInt8.ofInt v3nl1))] Tryd.func69 Tryd.results69 ⟨rfl, trivial⟩ ?_
    cases H
    cases HK1
    exact ⟨_, .rfl' _, rfl⟩

set_option maxRecDepth 100000 in
set_option maxHeartbeats 1000000 in
theorem c_g_billingref11_PutDecimal {v0b : List UInt8} {v1n : Int} {v2size : Int} {r : (List UInt8) × Int} (H : f_billingref11_PutDecimal v0b v1n v2size = some r) : ACallS Tryd.prog 67 [.d (slOf 1 rB8 v0b), .d (cI v1n), .d (cI v2size)] ⟨[], []⟩ (QE (.tup [.tsl 1 (r.1.map rB8) 0, .d (cI r.2)]) ⟨[], [⟨5, 1, r.1.length, none⟩]⟩) := by
  obtain ⟨i5, hi5, hz5, hs5, hb5⟩ := in_5
  refine ACallS.keep ?_
  refine ACallS.enter Tryd.func67 rfl Tryd.ntmps67 rfl fun S hS => ?_
  unfold f_billingref11_PutDecimal at H
  change ARun _ _ _ _ _ _ [(0, .d (slOf 1 rB8 v0b)), (1, .d (cI v1n)), (2, .d (cI v2size))] _
  refine .seq ?_
  refine .region ?_
  refine .q (q_assign rfl) rfl ?_
  refine .q (q_assign rfl) rfl ?_
  refine .nil ?_
  refine .seq ?_
  refine .seq ?_
  refine .region ?_
  refine .q (q_move rfl) rfl ?_
  refine .q (q_lss rfl rfl) rfl ?_
  refine .q (q_move rfl) rfl ?_
  refine .guardG (env' := [(2, _)]) rfl rfl rfl ⟨.inl rfl, trivial⟩ rfl (fun hg => OpQ.g (q_move rfl)) ?_
  refine .guardG (env' := [(13, _)]) rfl rfl rfl ⟨.inr (.inl rfl), trivial⟩ rfl (fun hg => OpQ.g (q_gtr rfl rfl)) ?_
  refine .q (q_pickOrB rfl rfl rfl) rfl ?_
  refine .q (q_move rfl) rfl ?_
  refine .guardG (env' := [(1, _)]) rfl rfl rfl ⟨.inl rfl, trivial⟩ rfl (fun hg => OpQ.g (q_move rfl)) ?_
  refine .guardG (env' := [(17, _)]) rfl rfl rfl ⟨.inr (.inl rfl), trivial⟩ rfl (fun hg => OpQ.g (q_lss rfl rfl)) ?_
  refine .q (q_pickOrB rfl rfl rfl) rfl ?_
  refine .nil ?_
  refine .cond rfl (fun hc => ?_) (fun hc => ?_)
  · replace H := ifT hc H; clear hc
    refine .seq ?_
    refine .region ?_
    refine .q (q_assign rfl) rfl ?_
    refine .q (q_assign rfl) rfl ?_
    refine .nil ?_
    refine .tok (i := 6) (e := 5) (sz := 1) rfl ?_
    refine .withSt (st' := ⟨[], [⟨5, 1, ([] : List UInt8).length, none⟩]⟩) rfl ?_
    refine .retN [.tmp 6, .tmp 7] [.tsl 1 (([] : List UInt8).map rB8) 0, .d (cI 6)] Tryd.func67 Tryd.results67 ⟨rfl, rfl, trivial⟩ ?_
    cases H
    exact ⟨[], [0], rfl, rfl, rfl, rfl, rfl, rfl, rfl, rfl, .tupE ⟨.rfl' _, .rfl' _, trivial⟩⟩
  · replace H := ifF hc H; clear hc
    refine .skip ?_
    refine .seq ?_
    refine .region ?_
    refine .q (q_move rfl) rfl ?_
    obtain ⟨hk1, H⟩ := ck_some H
    refine .v (x := .vc 0 ((List.replicate (Int.toNat (v2size)) 0 : List UInt8).length)) (v_makeV (row := rB8) (a := v2size) (b := v2size) (a0 := 0) Tryd.underlying32 hi5 hz5 hs5 rfl (by rw [hb5]; decide) rfl rfl rfl hk1) rfl ?_
    refine .withSt (st' := ⟨[], [⟨5, 1, ((List.replicate (Int.toNat (v2size)) 0 : List UInt8).length), some ((List.replicate (Int.toNat (v2size)) 0 : List UInt8).map rB8)⟩]⟩) rfl ?_
    refine .q (q_assign rfl) rfl ?_
    refine .nil ?_
    refine .seq ?_
    refine .seq ?_
    refine .region ?_
    refine .q (q_move rfl) rfl ?_
    obtain ⟨hk2, H⟩ := ck_some H
    refine .q (q_subI rfl rfl hk2.1 hk2.2) rfl ?_
    refine .q (q_assign rfl) rfl ?_
    refine .nil ?_
    refine .blockJoin2 (ι := List UInt8 × Int) (fun s => [(0, .d (slOf 1 rB8 v0b)), (1, .d (cI s.2)), (8, .vc 0 s.1.length)]) (fun s => ⟨[], [⟨5, 1, s.1.length, some (s.1.map rB8)⟩]⟩) (fun s => f_billingref11_PutDecimal_j1 v0b s.1 s.2 = some r) ?_ ?_
    · rintro ⟨y0tj1, v1nj1⟩ H
      replace H : f_billingref11_PutDecimal_j1 v0b y0tj1 v1nj1 = some r := H
      unfold f_billingref11_PutDecimal_j1 at H
      change ARun _ _ _ _ _ _ [(0, .d (slOf 1 rB8 v0b)), (1, .d (cI v1nj1)), (8, .vc 0 y0tj1.length)] ⟨[], [⟨5, 1, y0tj1.length, some (y0tj1.map rB8)⟩]⟩
      refine .seq ?_
      refine .seq ?_
      refine .region ?_
      refine .q (q_move rfl) rfl ?_
      refine .q (q_gtr rfl rfl) rfl ?_
      refine .nil ?_
      refine .cond rfl (fun hc => ?_) (fun hc => ?_)
      · replace H := ifT hc H; clear hc
        refine .seq ?_
        refine .region ?_
        refine .q (q_assign rfl) rfl ?_
        refine .q (q_assign rfl) rfl ?_
        refine .nil ?_
        refine .tok (i := 6) (e := 5) (sz := 1) rfl ?_
        refine .withSt (st' := ⟨[], [⟨5, 1, y0tj1.length, some (y0tj1.map rB8)⟩, ⟨5, 1, ([] : List UInt8).length, none⟩]⟩) rfl ?_
        refine .retN [.tmp 6, .tmp 7] [.tsl 1 (([] : List UInt8).map rB8) 1, .d (cI 6)] Tryd.func67 Tryd.results67 ⟨rfl, rfl, trivial⟩ ?_
        cases H
        exact ⟨[], [1], rfl, rfl, rfl, rfl, rfl, rfl, rfl, rfl, .tupE ⟨.rfl' _, .rfl' _, trivial⟩⟩
      · replace H := ifF hc H; clear hc
        refine .skip ?_
        refine .seq ?_
        refine .region ?_
        refine .v (x := .tsl 1 (([] : List UInt8).map rB8) 1) (v_build0T Tryd.underlying32 hi5 hs5) rfl ?_
        refine .withSt (st' := ⟨[], [⟨5, 1, y0tj1.length, some (y0tj1.map rB8)⟩, ⟨5, 1, ([] : List UInt8).length, none⟩]⟩) rfl ?_
        refine .q (q_move rfl) rfl ?_
        obtain ⟨hk3, H⟩ := ck_some H
        refine .v (x := .tsl 1 ((([] : List UInt8) ++ v0b).map rB8) 1) (v_appendL (l := ([] : List UInt8)) (l' := v0b) (row := rB8) Tryd.underlying32 hi5 hz5 hs5 rfl (by rw [hb5]; decide) rfl rfl rfl rfl hk3) rfl ?_
        refine .withSt (st' := ⟨[], [⟨5, 1, y0tj1.length, some (y0tj1.map rB8)⟩, ⟨5, 1, (([] : List UInt8) ++ v0b).length, none⟩]⟩) rfl ?_
        refine .q (q_move rfl) rfl ?_
        refine .freezeL (l := y0tj1) (row := rB8) (i := 46) rfl rfl ?_
        refine .withSt (st' := ⟨[], [⟨5, 1, y0tj1.length, none⟩, ⟨5, 1, (([] : List UInt8) ++ v0b).length, none⟩]⟩) rfl ?_
        obtain ⟨hk4, H⟩ := ck_some H
        refine .v (x := .tsl 1 (((([] : List UInt8) ++ v0b) ++ y0tj1).map rB8) 1) (v_appendL (l := ([] : List UInt8) ++ v0b) (l' := y0tj1) (row := rB8) Tryd.underlying32 hi5 hz5 hs5 rfl (by rw [hb5]; decide) rfl rfl rfl rfl hk4) rfl ?_
        refine .withSt (st' := ⟨[], [⟨5, 1, y0tj1.length, none⟩, ⟨5, 1, ((([] : List UInt8) ++ v0b) ++ y0tj1).length, none⟩]⟩) rfl ?_
        refine .q (q_assign rfl) rfl ?_
        refine .q (q_assign rfl) rfl ?_
        refine .nil ?_
        refine .retN [.tmp 6, .tmp 7] [.tsl 1 (((([] : List UInt8) ++ v0b) ++ y0tj1).map rB8) 1, .d (cI 0)] Tryd.func67 Tryd.results67 ⟨rfl, rfl, trivial⟩ ?_
        cases H
        exact ⟨[], [1], rfl, rfl, rfl, rfl, rfl, rfl, rfl, rfl, .tupE ⟨.rfl' _, .rfl' _, trivial⟩⟩
    · intro hj1 hj1x
      obtain ⟨n1, H⟩ := loop_some H
      refine .withSt (st' := ⟨[], [⟨5, 1, (List.replicate (Int.toNat (v2size)) 0 : List UInt8).length, some ((List.replicate (Int.toNat (v2size)) 0 : List UInt8).map rB8)⟩]⟩) rfl <| .loop (ι := Nat × (List UInt8 × Int × Int)) (fun p => [(0, .d (slOf 1 rB8 v0b)), (1, .d (cI p.2.2.1)), (8, .vc 0 p.2.1.length), (9, .d (cI p.2.2.2))]) (fun p => ⟨[], [⟨5, 1, p.2.1.length, some (p.2.1.map rB8)⟩]⟩) (fun p => iter (fun s => f_billingref11_PutDecimal_l1 v0b s.1 s.2.1 s.2.2) p.1 p.2 = some r) (·.1) (n1, ((List.replicate (Int.toNat (v2size)) 0 : List UInt8), v1n, v2size - 1)) H (.cons rfl (.rfl' _) (.cons rfl (.rfl' _) (.cons rfl (.rfl' _) (.cons rfl (.rfl' _) (.nil))))) rfl ?_
      rintro ⟨m1, y0tl1, v1nl1, v9il1⟩ HI ih1
      obtain ⟨n1, q1, hm1, H, HK1⟩ := iter_succ HI
      clear HI
      replace H : f_billingref11_PutDecimal_l1 v0b y0tl1 v1nl1 v9il1 = some q1 := H
      unfold f_billingref11_PutDecimal_l1 at H
      change ARun _ _ _ _ _ _ [(0, .d (slOf 1 rB8 v0b)), (1, .d (cI v1nl1)), (8, .vc 0 y0tl1.length), (9, .d (cI v9il1))] ⟨[], [⟨5, 1, y0tl1.length, some (y0tl1.map rB8)⟩]⟩
      refine .seq ?_
      refine .seq ?_
      refine .region ?_
      refine .q (q_move rfl) rfl ?_
      refine .q (q_geq rfl rfl) rfl ?_
      refine .nil ?_
      refine .cond rfl (fun hc => ?_) (fun hc => ?_)
      · replace H := ifT hc H; clear hc
        refine .skip ?_
        refine .seq ?_
        refine .block ?_
        refine .seq ?_
        refine .region ?_
        refine .q (q_move rfl) rfl ?_
        refine .q (q_move rfl) rfl ?_
        refine .q (q_move rfl) rfl ?_
        obtain ⟨hk5, H⟩ := ck_some H
        refine .q (x := .d (cI (Int.tdiv v1nl1 10))) (q_quoT rfl rfl hk5) rfl ?_
        obtain ⟨hk6, H⟩ := ck_some H
        refine .q (x := .d (cI (Int.tmod (Int.tdiv v1nl1 10) 10))) (q_remT rfl rfl hk6) rfl ?_
        obtain ⟨hk7, H⟩ := ck_some H
        refine .q (q_mulI rfl rfl hk7.1 hk7.2) rfl ?_
        refine .q (q_move rfl) rfl ?_
        obtain ⟨hk8, H⟩ := ck_some H
        refine .q (x := .d (cI (Int.tmod v1nl1 10))) (q_remT rfl rfl hk8) rfl ?_
        obtain ⟨hk9, H⟩ := ck_some H
        refine .q (q_addI rfl rfl hk9.1 hk9.2) rfl ?_
        refine .q (x := .d (cU8 (UInt8.ofInt (((Int.tmod (Int.tdiv v1nl1 10) 10) * 16) + (Int.tmod v1nl1 10))))) (q_conv8 Tryd.underlying3 Tryd.underlying5 rfl) rfl ?_
        obtain ⟨hk10, H⟩ := ck_some H
        refine .q (x := .vp 0 y0tl1.length (Int.toNat (v9il1)) 0) (q_idxV (l := y0tl1) (row := rB8) (i := v9il1) Tryd.underlying32 hi5 hs5 rfl rfl rfl hk10) rfl ?_
        obtain ⟨hk11, H⟩ := ck_some H
        refine .u (u_storeV (l := y0tl1) (row := rB8) (a := UInt8.ofInt (((Int.tmod (Int.tdiv v1nl1 10) 10) * 16) + (Int.tmod v1nl1 10))) rfl rfl hk11 rfl rfl sz_5 rfl (Nat.le_of_ble_eq_true rfl) rfl) rfl ?_
        refine .withSt (st' := ⟨[], [⟨5, 1, y0tl1.length, some ((y0tl1.set (Int.toNat (v9il1)) (UInt8.ofInt (((Int.tmod (Int.tdiv v1nl1 10) 10) * 16) + (Int.tmod v1nl1 10)))).map rB8)⟩]⟩) rfl ?_
        refine .nil ?_
        refine .region ?_
        refine .q (q_move rfl) rfl ?_
        obtain ⟨hk12, H⟩ := ck_some H
        refine .q (x := .d (cI (Int.tdiv v1nl1 100))) (q_quoT rfl rfl hk12) rfl ?_
        refine .q (q_assign rfl) rfl ?_
        refine .nil ?_
        refine .inBlock ?_
        refine .region ?_
        refine .q (q_move rfl) rfl ?_
        obtain ⟨hk13, H⟩ := ck_some H
        refine .q (q_subI rfl rfl hk13.1 hk13.2) rfl ?_
        refine .q (q_assign rfl) rfl ?_
        refine .nil ?_
        cases H
        refine .normV (l := y0tl1.set (Int.toNat (v9il1)) (UInt8.ofInt (((Int.tmod (Int.tdiv v1nl1 10) 10) * 16) + (Int.tmod v1nl1 10)))) (row := rB8) (tk := 0) (fun z => [(0, .d (slOf 1 rB8 v0b)), (1, .d (cI (Int.tdiv v1nl1 100))), (8, .vc 0 z), (9, .d (cI (v9il1 - 1)))]) (fun z => ⟨[], [⟨5, 1, z, some ((y0tl1.set (Int.toNat (v9il1)) (UInt8.ofInt (((Int.tmod (Int.tdiv v1nl1 10) 10) * 16) + (Int.tmod v1nl1 10)))).map rB8)⟩]⟩) rfl (.cons rfl (.rfl' _) (.cons rfl (.rfl' _) (.cons rfl (.rfl' _) (.cons rfl (.rfl' _) (.nil))))) rfl ?_
        exact .withSt (st' := ⟨[], [⟨5, 1, (y0tl1.set (Int.toNat (v9il1)) (UInt8.ofInt (((Int.tmod (Int.tdiv v1nl1 10) 10) * 16) + (Int.tmod v1nl1 10)))).length, some ((y0tl1.set (Int.toNat (v9il1)) (UInt8.ofInt (((Int.tmod (Int.tdiv v1nl1 10) 10) * 16) + (Int.tmod v1nl1 10)))).map rB8)⟩]⟩) rfl <| .sub (.cons rfl (.rfl' _) (.cons rfl (.rfl' _) (.cons rfl (.rfl' _) (.cons rfl (.rfl' _) (.nil))))) (ih1 (n1, (y0tl1.set (Int.toNat (v9il1)) (UInt8.ofInt (((Int.tmod (Int.tdiv v1nl1 10) 10) * 16) + (Int.tmod v1nl1 10))), Int.tdiv v1nl1 100, v9il1 - 1)) HK1 hm1)
      · replace H := ifF hc H; clear hc
        refine .exit rfl ?_
        obtain ⟨q0, H9, hq0⟩ := map_some' H; clear H; cases hq0
        cases HK1
        have H := H9
        exact .withSt (st' := ⟨[], [⟨5, 1, y0tl1.length, some (y0tl1.map rB8)⟩]⟩) rfl <| .sub (.cons rfl (.rfl' _) (.cons rfl (.rfl' _) (.cons rfl (.rfl' _) (.nil)))) (hj1x (y0tl1, v1nl1) H)

set_option maxRecDepth 100000 in
set_option maxHeartbeats 1000000 in
theorem c_f_billingref11_Encode {v0 : Record} {r : (List UInt8) × Int} (H : f_billingref11_Encode v0 = some r) : ACall Tryd.prog 38 [.agg (Record.row v0)] (· = .tup [slOf 1 rB8 r.1, cI r.2]) := by
  obtain ⟨i5, hi5, hz5, hs5, hb5⟩ := in_5
  refine ACall.enter' Tryd.func38 rfl Tryd.ntmps38 rfl fun S hS => ?_
  unfold f_billingref11_Encode at H
  change ARun _ _ _ _ _ _ [(0, .d (.agg (Record.row v0)))] _
  refine .seq ?_
  refine .region ?_
  refine .v (x := .ref 0 0) (v_box rfl rfl) rfl ?_
  refine .withSt (st' := ⟨[.row 39 [.d (cI v0.source), .d (cI v0.serial), .d (cI v0.kind), .d (cS v0.a), .d (cS v0.b), .d (cI v0.start), .d (cI v0.units), .d (cI v0.call), .d (cI v0.part), .d (cB v0.last), .d (cI v0.trunk), .d (cB v0.inbound)]], []⟩) rfl ?_
  refine .q (q_assign rfl) rfl ?_
  refine .q (q_assign rfl) rfl ?_
  refine .nil ?_
  refine .seq ?_
  refine .seq ?_
  refine .region ?_
  refine .q (x := .d (.agg (Record.row v0))) (q_loadOA one_39 sz_39 rfl rfl (Nat.le_of_ble_eq_true rfl) rfl) rfl ?_
  obtain ⟨y1, hy1, H⟩ := bind_some' H
  refine .g (x := .d (cI y1)) (g_call en_26 rfl rfl (c_f_billingref09_Error (hy1))) rfl ?_
  refine .q (q_assign rfl) rfl ?_
  refine .nil ?_
  refine .seq ?_
  refine .region ?_
  refine .q (q_move rfl) rfl ?_
  refine .q (q_neq rfl rfl) rfl ?_
  refine .nil ?_
  refine .cond rfl (fun hc => ?_) (fun hc => ?_)
  · replace H := ifT hc H; clear hc
    refine .seq ?_
    refine .region ?_
    refine .q (q_move rfl) rfl ?_
    refine .q (q_assign rfl) rfl ?_
    refine .q (q_assign rfl) rfl ?_
    refine .nil ?_
    refine .retN [.tmp 2, .tmp 3] [.d (nilD), .d (cI y1)] Tryd.func38 Tryd.results38 ⟨rfl, rfl, trivial⟩ ?_
    cases H
    exact ⟨_, EVle.tupL (ds := [slOf 1 rB8 ([] : List UInt8), cI y1]) ⟨.nil 1, .rfl' _, trivial⟩, rfl⟩
  · replace H := ifF hc H; clear hc
    refine .skip ?_
    refine .seq ?_
    refine .region ?_
    refine .q (q_assign rfl) rfl ?_
    refine .nil ?_
    refine .seqJoin (ι := Int) (fun s => [(1, .ref 0 0), (5, .d (cI s))]) (fun s => ⟨[.row 39 [.d (cI v0.source), .d (cI v0.serial), .d (cI v0.kind), .d (cS v0.a), .d (cS v0.b), .d (cI v0.start), .d (cI v0.units), .d (cI v0.call), .d (cI v0.part), .d (cB v0.last), .d (cI v0.trunk), .d (cB v0.inbound)]], []⟩) (fun s => f_billingref11_Encode_j1 v0 s = some r) ?_ ?_
    · rintro v5j1 H
      replace H : f_billingref11_Encode_j1 v0 v5j1 = some r := H
      unfold f_billingref11_Encode_j1 at H
      change ARun _ _ _ _ _ _ [(1, .ref 0 0), (5, .d (cI v5j1))] ⟨[.row 39 [.d (cI v0.source), .d (cI v0.serial), .d (cI v0.kind), .d (cS v0.a), .d (cS v0.b), .d (cI v0.start), .d (cI v0.units), .d (cI v0.call), .d (cI v0.part), .d (cB v0.last), .d (cI v0.trunk), .d (cB v0.inbound)]], []⟩
      refine .seqJoin (ι := Int) (fun s => [(1, .ref 0 0), (5, .d (cI s))]) (fun s => ⟨[.row 39 [.d (cI v0.source), .d (cI v0.serial), .d (cI v0.kind), .d (cS v0.a), .d (cS v0.b), .d (cI v0.start), .d (cI v0.units), .d (cI v0.call), .d (cI v0.part), .d (cB v0.last), .d (cI v0.trunk), .d (cB v0.inbound)]], []⟩) (fun s => f_billingref11_Encode_j2 v0 s = some r) ?_ ?_
      · rintro v5j2 H
        replace H : f_billingref11_Encode_j2 v0 v5j2 = some r := H
        unfold f_billingref11_Encode_j2 at H
        change ARun _ _ _ _ _ _ [(1, .ref 0 0), (5, .d (cI v5j2))] ⟨[.row 39 [.d (cI v0.source), .d (cI v0.serial), .d (cI v0.kind), .d (cS v0.a), .d (cS v0.b), .d (cI v0.start), .d (cI v0.units), .d (cI v0.call), .d (cI v0.part), .d (cB v0.last), .d (cI v0.trunk), .d (cB v0.inbound)]], []⟩
        refine .seq ?_
        refine .region ?_
        refine .q (q_fieldRef fo_39_0 rfl) rfl ?_
        refine .q (x := .d (cI v0.source)) (q_loadO one_3 rfl rfl rfl) rfl ?_
        obtain ⟨y2, hy2, H⟩ := bind_some' H
        refine .callF en_67 rfl [] [] (x := .tup [.tsl 1 (y2.1.map rB8) 0, .d (cI y2.2)]) (st' := ⟨[.row 39 [.d (cI v0.source), .d (cI v0.serial), .d (cI v0.kind), .d (cS v0.a), .d (cS v0.b), .d (cI v0.start), .d (cI v0.units), .d (cI v0.call), .d (cI v0.part), .d (cB v0.last), .d (cI v0.trunk), .d (cB v0.inbound)]], [⟨5, 1, y2.1.length, none⟩]⟩) rfl (c_g_billingref11_PutDecimal (hy2)) ⟨.nil 1, .rfl' _, .rfl' _, trivial⟩ rfl rfl rfl rfl rfl rfl ?_
        refine .withSt (st' := ⟨[.row 39 [.d (cI v0.source), .d (cI v0.serial), .d (cI v0.kind), .d (cS v0.a), .d (cS v0.b), .d (cI v0.start), .d (cI v0.units), .d (cI v0.call), .d (cI v0.part), .d (cB v0.last), .d (cI v0.trunk), .d (cB v0.inbound)]], [⟨5, 1, y2.1.length, none⟩]⟩) rfl ?_
        refine .q (q_move rfl) rfl ?_
        refine .q (x := .tsl 1 (y2.1.map rB8) 0) (q_extractE rfl rfl) rfl ?_
        refine .q (x := .d (cI y2.2)) (q_extractE rfl rfl) rfl ?_
        refine .q (q_assign rfl) rfl ?_
        refine .q (q_assign rfl) rfl ?_
        refine .nil ?_
        refine .seq ?_
        refine .region ?_
        refine .q (q_move rfl) rfl ?_
        refine .q (q_fieldRef fo_39_1 rfl) rfl ?_
        refine .q (x := .d (cI v0.serial)) (q_loadO one_3 rfl rfl rfl) rfl ?_
        obtain ⟨y3, hy3, H⟩ := bind_some' H
        refine .callF en_67 rfl [] [] (x := .tup [.tsl 1 (y3.1.map rB8) 1, .d (cI y3.2)]) (st' := ⟨[.row 39 [.d (cI v0.source), .d (cI v0.serial), .d (cI v0.kind), .d (cS v0.a), .d (cS v0.b), .d (cI v0.start), .d (cI v0.units), .d (cI v0.call), .d (cI v0.part), .d (cB v0.last), .d (cI v0.trunk), .d (cB v0.inbound)]], [⟨5, 1, y2.1.length, none⟩, ⟨5, 1, y3.1.length, none⟩]⟩) rfl (c_g_billingref11_PutDecimal (hy3)) ⟨.tsl _ _ _, .rfl' _, .rfl' _, trivial⟩ rfl rfl rfl rfl rfl rfl ?_
        refine .withSt (st' := ⟨[.row 39 [.d (cI v0.source), .d (cI v0.serial), .d (cI v0.kind), .d (cS v0.a), .d (cS v0.b), .d (cI v0.start), .d (cI v0.units), .d (cI v0.call), .d (cI v0.part), .d (cB v0.last), .d (cI v0.trunk), .d (cB v0.inbound)]], [⟨5, 1, y2.1.length, none⟩, ⟨5, 1, y3.1.length, none⟩]⟩) rfl ?_
        refine .q (q_move rfl) rfl ?_
        refine .q (x := .tsl 1 (y3.1.map rB8) 1) (q_extractE rfl rfl) rfl ?_
        refine .q (x := .d (cI y3.2)) (q_extractE rfl rfl) rfl ?_
        refine .q (q_assign rfl) rfl ?_
        refine .nil ?_
        refine .seq ?_
        refine .region ?_
        refine .q (q_move rfl) rfl ?_
        refine .q (q_fieldRef fo_39_2 rfl) rfl ?_
        refine .q (x := .d (cI v0.kind)) (q_loadO one_3 rfl rfl rfl) rfl ?_
        obtain ⟨hk1, H⟩ := ck_some H
        refine .q (q_mulI rfl rfl hk1.1 hk1.2) rfl ?_
        refine .q (q_move rfl) rfl ?_
        obtain ⟨hk2, H⟩ := ck_some H
        refine .q (q_addI rfl rfl hk2.1 hk2.2) rfl ?_
        refine .q (x := .d (cU8 (UInt8.ofInt ((v0.kind * 16) + v5j2)))) (q_conv8 Tryd.underlying3 Tryd.underlying5 rfl) rfl ?_
        refine .g (x := .d (slOf 1 rB8 ([UInt8.ofInt ((v0.kind * 16) + v5j2)] : List UInt8))) (g_buildSlice1 Tryd.underlying32 hi5 hs5 hz5 rfl rfl rfl rfl rfl) rfl ?_
        obtain ⟨hk3, H⟩ := ck_some H
        refine .v (x := .tsl 1 ((y3.1 ++ ([UInt8.ofInt ((v0.kind * 16) + v5j2)] : List UInt8)).map rB8) 1) (v_appendL (l := y3.1) (l' := ([UInt8.ofInt ((v0.kind * 16) + v5j2)] : List UInt8)) (row := rB8) Tryd.underlying32 hi5 hz5 hs5 rfl (by rw [hb5]; decide) rfl rfl rfl rfl hk3) rfl ?_
        refine .withSt (st' := ⟨[.row 39 [.d (cI v0.source), .d (cI v0.serial), .d (cI v0.kind), .d (cS v0.a), .d (cS v0.b), .d (cI v0.start), .d (cI v0.units), .d (cI v0.call), .d (cI v0.part), .d (cB v0.last), .d (cI v0.trunk), .d (cB v0.inbound)]], [⟨5, 1, y2.1.length, none⟩, ⟨5, 1, (y3.1 ++ ([UInt8.ofInt ((v0.kind * 16) + v5j2)] : List UInt8)).length, none⟩]⟩) rfl ?_
        refine .q (q_assign rfl) rfl ?_
        refine .nil ?_
        refine .seq ?_
        refine .region ?_
        refine .q (q_move rfl) rfl ?_
        refine .q (q_fieldRef fo_39_3 rfl) rfl ?_
        refine .q (x := .d (cS v0.a)) (q_loadO one_9 rfl rfl rfl) rfl ?_
        obtain ⟨y4, hy4, H⟩ := bind_some' H
        refine .g (x := .d (slOf 1 rB8 y4)) (g_call en_68 rfl rfl (c_f_billingref11_digits (hy4))) rfl ?_
        obtain ⟨hk4, H⟩ := ck_some H
        refine .v (x := .tsl 1 (((y3.1 ++ ([UInt8.ofInt ((v0.kind * 16) + v5j2)] : List UInt8)) ++ y4).map rB8) 1) (v_appendL (l := y3.1 ++ ([UInt8.ofInt ((v0.kind * 16) + v5j2)] : List UInt8)) (l' := y4) (row := rB8) Tryd.underlying32 hi5 hz5 hs5 rfl (by rw [hb5]; decide) rfl rfl rfl rfl hk4) rfl ?_
        refine .withSt (st' := ⟨[.row 39 [.d (cI v0.source), .d (cI v0.serial), .d (cI v0.kind), .d (cS v0.a), .d (cS v0.b), .d (cI v0.start), .d (cI v0.units), .d (cI v0.call), .d (cI v0.part), .d (cB v0.last), .d (cI v0.trunk), .d (cB v0.inbound)]], [⟨5, 1, y2.1.length, none⟩, ⟨5, 1, ((y3.1 ++ ([UInt8.ofInt ((v0.kind * 16) + v5j2)] : List UInt8)) ++ y4).length, none⟩]⟩) rfl ?_
        refine .q (q_assign rfl) rfl ?_
        refine .nil ?_
        refine .seq ?_
        refine .region ?_
        refine .q (q_move rfl) rfl ?_
        refine .q (q_fieldRef fo_39_4 rfl) rfl ?_
        refine .q (x := .d (cS v0.b)) (q_loadO one_9 rfl rfl rfl) rfl ?_
        obtain ⟨y5, hy5, H⟩ := bind_some' H
        refine .g (x := .d (slOf 1 rB8 y5)) (g_call en_68 rfl rfl (c_f_billingref11_digits (hy5))) rfl ?_
        obtain ⟨hk5, H⟩ := ck_some H
        refine .v (x := .tsl 1 ((((y3.1 ++ ([UInt8.ofInt ((v0.kind * 16) + v5j2)] : List UInt8)) ++ y4) ++ y5).map rB8) 1) (v_appendL (l := (y3.1 ++ ([UInt8.ofInt ((v0.kind * 16) + v5j2)] : List UInt8)) ++ y4) (l' := y5) (row := rB8) Tryd.underlying32 hi5 hz5 hs5 rfl (by rw [hb5]; decide) rfl rfl rfl rfl hk5) rfl ?_
        refine .withSt (st' := ⟨[.row 39 [.d (cI v0.source), .d (cI v0.serial), .d (cI v0.kind), .d (cS v0.a), .d (cS v0.b), .d (cI v0.start), .d (cI v0.units), .d (cI v0.call), .d (cI v0.part), .d (cB v0.last), .d (cI v0.trunk), .d (cB v0.inbound)]], [⟨5, 1, y2.1.length, none⟩, ⟨5, 1, (((y3.1 ++ ([UInt8.ofInt ((v0.kind * 16) + v5j2)] : List UInt8)) ++ y4) ++ y5).length, none⟩]⟩) rfl ?_
        refine .q (q_assign rfl) rfl ?_
        refine .nil ?_
        refine .seq ?_
        refine .region ?_
        refine .q (q_move rfl) rfl ?_
        refine .q (q_fieldRef fo_39_5 rfl) rfl ?_
        refine .q (x := .d (cI v0.start)) (q_loadO one_3 rfl rfl rfl) rfl ?_
        obtain ⟨y6, hy6, H⟩ := bind_some' H
        refine .callF en_67 rfl [] [] (x := .tup [.tsl 1 (y6.1.map rB8) 2, .d (cI y6.2)]) (st' := ⟨[.row 39 [.d (cI v0.source), .d (cI v0.serial), .d (cI v0.kind), .d (cS v0.a), .d (cS v0.b), .d (cI v0.start), .d (cI v0.units), .d (cI v0.call), .d (cI v0.part), .d (cB v0.last), .d (cI v0.trunk), .d (cB v0.inbound)]], [⟨5, 1, y2.1.length, none⟩, ⟨5, 1, (((y3.1 ++ ([UInt8.ofInt ((v0.kind * 16) + v5j2)] : List UInt8)) ++ y4) ++ y5).length, none⟩, ⟨5, 1, y6.1.length, none⟩]⟩) rfl (c_g_billingref11_PutDecimal (hy6)) ⟨.tsl _ _ _, .rfl' _, .rfl' _, trivial⟩ rfl rfl rfl rfl rfl rfl ?_
        refine .withSt (st' := ⟨[.row 39 [.d (cI v0.source), .d (cI v0.serial), .d (cI v0.kind), .d (cS v0.a), .d (cS v0.b), .d (cI v0.start), .d (cI v0.units), .d (cI v0.call), .d (cI v0.part), .d (cB v0.last), .d (cI v0.trunk), .d (cB v0.inbound)]], [⟨5, 1, y2.1.length, none⟩, ⟨5, 1, (((y3.1 ++ ([UInt8.ofInt ((v0.kind * 16) + v5j2)] : List UInt8)) ++ y4) ++ y5).length, none⟩, ⟨5, 1, y6.1.length, none⟩]⟩) rfl ?_
        refine .q (q_move rfl) rfl ?_
        refine .q (x := .tsl 1 (y6.1.map rB8) 2) (q_extractE rfl rfl) rfl ?_
        refine .q (x := .d (cI y6.2)) (q_extractE rfl rfl) rfl ?_
        refine .q (q_assign rfl) rfl ?_
        refine .nil ?_
        refine .seq ?_
        refine .region ?_
        refine .q (q_move rfl) rfl ?_
        refine .q (q_fieldRef fo_39_6 rfl) rfl ?_
        refine .q (x := .d (cI v0.units)) (q_loadO one_3 rfl rfl rfl) rfl ?_
        obtain ⟨y7, hy7, H⟩ := bind_some' H
        refine .callF en_67 rfl [] [] (x := .tup [.tsl 1 (y7.1.map rB8) 3, .d (cI y7.2)]) (st' := ⟨[.row 39 [.d (cI v0.source), .d (cI v0.serial), .d (cI v0.kind), .d (cS v0.a), .d (cS v0.b), .d (cI v0.start), .d (cI v0.units), .d (cI v0.call), .d (cI v0.part), .d (cB v0.last), .d (cI v0.trunk), .d (cB v0.inbound)]], [⟨5, 1, y2.1.length, none⟩, ⟨5, 1, (((y3.1 ++ ([UInt8.ofInt ((v0.kind * 16) + v5j2)] : List UInt8)) ++ y4) ++ y5).length, none⟩, ⟨5, 1, y6.1.length, none⟩, ⟨5, 1, y7.1.length, none⟩]⟩) rfl (c_g_billingref11_PutDecimal (hy7)) ⟨.tsl _ _ _, .rfl' _, .rfl' _, trivial⟩ rfl rfl rfl rfl rfl rfl ?_
        refine .withSt (st' := ⟨[.row 39 [.d (cI v0.source), .d (cI v0.serial), .d (cI v0.kind), .d (cS v0.a), .d (cS v0.b), .d (cI v0.start), .d (cI v0.units), .d (cI v0.call), .d (cI v0.part), .d (cB v0.last), .d (cI v0.trunk), .d (cB v0.inbound)]], [⟨5, 1, y2.1.length, none⟩, ⟨5, 1, (((y3.1 ++ ([UInt8.ofInt ((v0.kind * 16) + v5j2)] : List UInt8)) ++ y4) ++ y5).length, none⟩, ⟨5, 1, y6.1.length, none⟩, ⟨5, 1, y7.1.length, none⟩]⟩) rfl ?_
        refine .q (q_move rfl) rfl ?_
        refine .q (x := .tsl 1 (y7.1.map rB8) 3) (q_extractE rfl rfl) rfl ?_
        refine .q (x := .d (cI y7.2)) (q_extractE rfl rfl) rfl ?_
        refine .q (q_assign rfl) rfl ?_
        refine .nil ?_
        refine .seq ?_
        refine .region ?_
        refine .q (q_move rfl) rfl ?_
        refine .q (q_fieldRef fo_39_7 rfl) rfl ?_
        refine .q (x := .d (cI v0.call)) (q_loadO one_3 rfl rfl rfl) rfl ?_
        obtain ⟨y8, hy8, H⟩ := bind_some' H
        refine .callF en_67 rfl [] [] (x := .tup [.tsl 1 (y8.1.map rB8) 4, .d (cI y8.2)]) (st' := ⟨[.row 39 [.d (cI v0.source), .d (cI v0.serial), .d (cI v0.kind), .d (cS v0.a), .d (cS v0.b), .d (cI v0.start), .d (cI v0.units), .d (cI v0.call), .d (cI v0.part), .d (cB v0.last), .d (cI v0.trunk), .d (cB v0.inbound)]], [⟨5, 1, y2.1.length, none⟩, ⟨5, 1, (((y3.1 ++ ([UInt8.ofInt ((v0.kind * 16) + v5j2)] : List UInt8)) ++ y4) ++ y5).length, none⟩, ⟨5, 1, y6.1.length, none⟩, ⟨5, 1, y7.1.length, none⟩, ⟨5, 1, y8.1.length, none⟩]⟩) rfl (c_g_billingref11_PutDecimal (hy8)) ⟨.tsl _ _ _, .rfl' _, .rfl' _, trivial⟩ rfl rfl rfl rfl rfl rfl ?_
        refine .withSt (st' := ⟨[.row 39 [.d (cI v0.source), .d (cI v0.serial), .d (cI v0.kind), .d (cS v0.a), .d (cS v0.b), .d (cI v0.start), .d (cI v0.units), .d (cI v0.call), .d (cI v0.part), .d (cB v0.last), .d (cI v0.trunk), .d (cB v0.inbound)]], [⟨5, 1, y2.1.length, none⟩, ⟨5, 1, (((y3.1 ++ ([UInt8.ofInt ((v0.kind * 16) + v5j2)] : List UInt8)) ++ y4) ++ y5).length, none⟩, ⟨5, 1, y6.1.length, none⟩, ⟨5, 1, y7.1.length, none⟩, ⟨5, 1, y8.1.length, none⟩]⟩) rfl ?_
        refine .q (q_move rfl) rfl ?_
        refine .q (x := .tsl 1 (y8.1.map rB8) 4) (q_extractE rfl rfl) rfl ?_
        refine .q (x := .d (cI y8.2)) (q_extractE rfl rfl) rfl ?_
        refine .q (q_assign rfl) rfl ?_
        refine .nil ?_
        refine .seq ?_
        refine .region ?_
        refine .q (q_move rfl) rfl ?_
        refine .q (q_fieldRef fo_39_8 rfl) rfl ?_
        refine .q (x := .d (cI v0.part)) (q_loadO one_3 rfl rfl rfl) rfl ?_
        obtain ⟨y9, hy9, H⟩ := bind_some' H
        refine .callF en_67 rfl [] [] (x := .tup [.tsl 1 (y9.1.map rB8) 5, .d (cI y9.2)]) (st' := ⟨[.row 39 [.d (cI v0.source), .d (cI v0.serial), .d (cI v0.kind), .d (cS v0.a), .d (cS v0.b), .d (cI v0.start), .d (cI v0.units), .d (cI v0.call), .d (cI v0.part), .d (cB v0.last), .d (cI v0.trunk), .d (cB v0.inbound)]], [⟨5, 1, y2.1.length, none⟩, ⟨5, 1, (((y3.1 ++ ([UInt8.ofInt ((v0.kind * 16) + v5j2)] : List UInt8)) ++ y4) ++ y5).length, none⟩, ⟨5, 1, y6.1.length, none⟩, ⟨5, 1, y7.1.length, none⟩, ⟨5, 1, y8.1.length, none⟩, ⟨5, 1, y9.1.length, none⟩]⟩) rfl (c_g_billingref11_PutDecimal (hy9)) ⟨.tsl _ _ _, .rfl' _, .rfl' _, trivial⟩ rfl rfl rfl rfl rfl rfl ?_
        refine .withSt (st' := ⟨[.row 39 [.d (cI v0.source), .d (cI v0.serial), .d (cI v0.kind), .d (cS v0.a), .d (cS v0.b), .d (cI v0.start), .d (cI v0.units), .d (cI v0.call), .d (cI v0.part), .d (cB v0.last), .d (cI v0.trunk), .d (cB v0.inbound)]], [⟨5, 1, y2.1.length, none⟩, ⟨5, 1, (((y3.1 ++ ([UInt8.ofInt ((v0.kind * 16) + v5j2)] : List UInt8)) ++ y4) ++ y5).length, none⟩, ⟨5, 1, y6.1.length, none⟩, ⟨5, 1, y7.1.length, none⟩, ⟨5, 1, y8.1.length, none⟩, ⟨5, 1, y9.1.length, none⟩]⟩) rfl ?_
        refine .q (q_move rfl) rfl ?_
        refine .q (x := .tsl 1 (y9.1.map rB8) 5) (q_extractE rfl rfl) rfl ?_
        refine .q (x := .d (cI y9.2)) (q_extractE rfl rfl) rfl ?_
        refine .q (q_assign rfl) rfl ?_
        refine .nil ?_
        refine .seq ?_
        refine .region ?_
        refine .q (q_move rfl) rfl ?_
        refine .q (q_fieldRef fo_39_10 rfl) rfl ?_
        refine .q (x := .d (cI v0.trunk)) (q_loadO one_3 rfl rfl rfl) rfl ?_
        obtain ⟨y10, hy10, H⟩ := bind_some' H
        refine .callF en_67 rfl [] [] (x := .tup [.tsl 1 (y10.1.map rB8) 6, .d (cI y10.2)]) (st' := ⟨[.row 39 [.d (cI v0.source), .d (cI v0.serial), .d (cI v0.kind), .d (cS v0.a), .d (cS v0.b), .d (cI v0.start), .d (cI v0.units), .d (cI v0.call), .d (cI v0.part), .d (cB v0.last), .d (cI v0.trunk), .d (cB v0.inbound)]], [⟨5, 1, y2.1.length, none⟩, ⟨5, 1, (((y3.1 ++ ([UInt8.ofInt ((v0.kind * 16) + v5j2)] : List UInt8)) ++ y4) ++ y5).length, none⟩, ⟨5, 1, y6.1.length, none⟩, ⟨5, 1, y7.1.length, none⟩, ⟨5, 1, y8.1.length, none⟩, ⟨5, 1, y9.1.length, none⟩, ⟨5, 1, y10.1.length, none⟩]⟩) rfl (c_g_billingref11_PutDecimal (hy10)) ⟨.tsl _ _ _, .rfl' _, .rfl' _, trivial⟩ rfl rfl rfl rfl rfl rfl ?_
        refine .withSt (st' := ⟨[.row 39 [.d (cI v0.source), .d (cI v0.serial), .d (cI v0.kind), .d (cS v0.a), .d (cS v0.b), .d (cI v0.start), .d (cI v0.units), .d (cI v0.call), .d (cI v0.part), .d (cB v0.last), .d (cI v0.trunk), .d (cB v0.inbound)]], [⟨5, 1, y2.1.length, none⟩, ⟨5, 1, (((y3.1 ++ ([UInt8.ofInt ((v0.kind * 16) + v5j2)] : List UInt8)) ++ y4) ++ y5).length, none⟩, ⟨5, 1, y6.1.length, none⟩, ⟨5, 1, y7.1.length, none⟩, ⟨5, 1, y8.1.length, none⟩, ⟨5, 1, y9.1.length, none⟩, ⟨5, 1, y10.1.length, none⟩]⟩) rfl ?_
        refine .q (q_move rfl) rfl ?_
        refine .q (x := .tsl 1 (y10.1.map rB8) 6) (q_extractE rfl rfl) rfl ?_
        refine .q (x := .d (cI y10.2)) (q_extractE rfl rfl) rfl ?_
        refine .q (q_assign rfl) rfl ?_
        refine .nil ?_
        refine .seq ?_
        refine .region ?_
        refine .q (q_move rfl) rfl ?_
        refine .q (q_move rfl) rfl ?_
        obtain ⟨y11, hy11, H⟩ := bind_some' H
        refine .g (x := .d (cU8 y11)) (g_call en_69 rfl rfl (c_f_billingref11_sum (hy11))) rfl ?_
        refine .g (x := .d (slOf 1 rB8 ([y11] : List UInt8))) (g_buildSlice1 Tryd.underlying32 hi5 hs5 hz5 rfl rfl rfl rfl rfl) rfl ?_
        obtain ⟨hk6, H⟩ := ck_some H
        refine .v (x := .tsl 1 ((y10.1 ++ ([y11] : List UInt8)).map rB8) 6) (v_appendL (l := y10.1) (l' := ([y11] : List UInt8)) (row := rB8) Tryd.underlying32 hi5 hz5 hs5 rfl (by rw [hb5]; decide) rfl rfl rfl rfl hk6) rfl ?_
        refine .withSt (st' := ⟨[.row 39 [.d (cI v0.source), .d (cI v0.serial), .d (cI v0.kind), .d (cS v0.a), .d (cS v0.b), .d (cI v0.start), .d (cI v0.units), .d (cI v0.call), .d (cI v0.part), .d (cB v0.last), .d (cI v0.trunk), .d (cB v0.inbound)]], [⟨5, 1, y2.1.length, none⟩, ⟨5, 1, (((y3.1 ++ ([UInt8.ofInt ((v0.kind * 16) + v5j2)] : List UInt8)) ++ y4) ++ y5).length, none⟩, ⟨5, 1, y6.1.length, none⟩, ⟨5, 1, y7.1.length, none⟩, ⟨5, 1, y8.1.length, none⟩, ⟨5, 1, y9.1.length, none⟩, ⟨5, 1, (y10.1 ++ ([y11] : List UInt8)).length, none⟩]⟩) rfl ?_
        refine .q (q_assign rfl) rfl ?_
        refine .q (q_assign rfl) rfl ?_
        refine .nil ?_
        refine .retN [.tmp 2, .tmp 3] [.tsl 1 ((y10.1 ++ ([y11] : List UInt8)).map rB8) 6, .d (cI 0)] Tryd.func38 Tryd.results38 ⟨rfl, rfl, trivial⟩ ?_
        cases H
        exact ⟨_, EVle.tupL (ds := [slOf 1 rB8 (y10.1 ++ ([y11] : List UInt8)), cI 0]) ⟨.tsl _ _ _, .rfl' _, trivial⟩, rfl⟩
      · intro hj2
        refine .seq ?_
        refine .region ?_
        refine .q (q_fieldRef fo_39_11 rfl) rfl ?_
        refine .q (x := .d (cB v0.inbound)) (q_loadO one_4 rfl rfl rfl) rfl ?_
        refine .nil ?_
        refine .cond rfl (fun hc => ?_) (fun hc => ?_)
        · replace H := ifT hc H; clear hc
          refine .region ?_
          refine .q (q_move rfl) rfl ?_
          obtain ⟨hk7, H⟩ := ck_some H
          refine .q (q_addI rfl rfl hk7.1 hk7.2) rfl ?_
          refine .q (q_assign rfl) rfl ?_
          refine .nil ?_
          exact .sub (.cons rfl (.rfl' _) (.cons rfl (.rfl' _) (.nil))) (hj2 (v5j1 + 2) H)
        · replace H := ifF hc H; clear hc
          refine .skip ?_
          exact .sub (.cons rfl (.rfl' _) (.cons rfl (.rfl' _) (.nil))) (hj2 v5j1 H)
    · intro hj1
      refine .seq ?_
      refine .region ?_
      refine .q (q_fieldRef fo_39_9 rfl) rfl ?_
      refine .q (x := .d (cB v0.last)) (q_loadO one_4 rfl rfl rfl) rfl ?_
      refine .nil ?_
      refine .cond rfl (fun hc => ?_) (fun hc => ?_)
      · replace H := ifT hc H; clear hc
        refine .region ?_
        refine .q (q_move rfl) rfl ?_
        obtain ⟨hk8, H⟩ := ck_some H
        refine .q (q_addI rfl rfl hk8.1 hk8.2) rfl ?_
        refine .q (q_assign rfl) rfl ?_
        refine .nil ?_
        exact .sub (.cons rfl (.rfl' _) (.cons rfl (.rfl' _) (.nil))) (hj1 (0 + 1) H)
      · replace H := ifF hc H; clear hc
        refine .skip ?_
        exact .sub (.cons rfl (.rfl' _) (.cons rfl (.rfl' _) (.nil))) (hj1 0 H)

set_option maxRecDepth 100000 in
set_option maxHeartbeats 1000000 in
theorem c_f_billingref07_Bytes {v0n : Int} {r : (List UInt8)} (H : f_billingref07_Bytes v0n = some r) : ACall Tryd.prog 81 [cI v0n] (· = slOf 1 rB8 r) := by
  obtain ⟨i5, hi5, hz5, hs5, hb5⟩ := in_5
  refine ACall.enter' Tryd.func81 rfl Tryd.ntmps81 rfl fun S hS => ?_
  unfold f_billingref07_Bytes at H
  change ARun _ _ _ _ _ _ [(0, .d (cI v0n))] _
  refine .seq ?_
  refine .region ?_
  refine .q (q_assign rfl) rfl ?_
  refine .nil ?_
  refine .seq ?_
  refine .region ?_
  refine .q (q_move rfl) rfl ?_
  refine .q (x := .d (cK .u64 (IntKind.wrap .u64 v0n))) (q_conv Tryd.underlying3 Tryd.underlying110 rfl rfl) rfl ?_
  refine .q (x := .d (cK .u64 (IntKind.wrap .u64 (2 * (IntKind.wrap .u64 v0n))))) (q_mul rfl rfl rfl) rfl ?_
  refine .q (q_assign rfl) rfl ?_
  refine .nil ?_
  refine .seqJoin (ι := Int) (fun s => [(3, .d (cK .u64 s))]) (fun s => ⟨[], []⟩) (fun s => f_billingref07_Bytes_j1 s = some r) ?_ ?_
  · rintro v3uj1 H
    replace H : f_billingref07_Bytes_j1 v3uj1 = some r := H
    unfold f_billingref07_Bytes_j1 at H
    change ARun _ _ _ _ _ _ [(3, .d (cK .u64 v3uj1))] ⟨[], []⟩
    refine .seq ?_
    refine .region ?_
    refine .q (q_assign rfl) rfl ?_
    refine .nil ?_
    refine .seq ?_
    refine .tok (i := 4) (e := 5) (sz := 1) rfl ?_
    refine .withSt (st' := ⟨[], [⟨5, 1, ([] : List UInt8).length, none⟩]⟩) rfl ?_
    refine .blockJoin2 (ι := Int × List UInt8) (fun s => [(3, .d (cK .u64 s.1)), (4, .tsl 1 (s.2.map rB8) 0)]) (fun s => ⟨[], [⟨5, 1, s.2.length, none⟩]⟩) (fun s => f_billingref07_Bytes_j2 s.1 s.2 = some r) ?_ ?_
    · rintro ⟨v3uj2, v4outj2⟩ H
      replace H : f_billingref07_Bytes_j2 v3uj2 v4outj2 = some r := H
      unfold f_billingref07_Bytes_j2 at H
      change ARun _ _ _ _ _ _ [(3, .d (cK .u64 v3uj2)), (4, .tsl 1 (v4outj2.map rB8) 0)] ⟨[], [⟨5, 1, v4outj2.length, none⟩]⟩
      refine .seq ?_
      refine .region ?_
      refine .q (q_move rfl) rfl ?_
      refine .q (q_move rfl) rfl ?_
      refine .q (x := .d (cU8 (UInt8.ofInt v3uj2))) (q_conv8 Tryd.underlying110 Tryd.underlying5 rfl) rfl ?_
      refine .g (x := .d (slOf 1 rB8 ([UInt8.ofInt v3uj2] : List UInt8))) (g_buildSlice1 Tryd.underlying32 hi5 hs5 hz5 rfl rfl rfl rfl rfl) rfl ?_
      obtain ⟨hk1, H⟩ := ck_some H
      refine .v (x := .tsl 1 ((v4outj2 ++ ([UInt8.ofInt v3uj2] : List UInt8)).map rB8) 0) (v_appendL (l := v4outj2) (l' := ([UInt8.ofInt v3uj2] : List UInt8)) (row := rB8) Tryd.underlying32 hi5 hz5 hs5 rfl (by rw [hb5]; decide) rfl rfl rfl rfl hk1) rfl ?_
      refine .withSt (st' := ⟨[], [⟨5, 1, (v4outj2 ++ ([UInt8.ofInt v3uj2] : List UInt8)).length, none⟩]⟩) rfl ?_
      refine .q (q_assign rfl) rfl ?_
      refine .nil ?_
      refine .retN [.tmp 2] [.tsl 1 ((v4outj2 ++ ([UInt8.ofInt v3uj2] : List UInt8)).map rB8) 0] Tryd.func81 Tryd.results81 ⟨rfl, trivial⟩ ?_
      cases H
      exact ⟨_, .tsl _ _ _, rfl⟩
    · intro hj2 hj2x
      obtain ⟨n1, H⟩ := loop_some H
      refine .withSt (st' := ⟨[], [⟨5, 1, ([] : List UInt8).length, none⟩]⟩) rfl <| .loop (ι := Nat × (Int × List UInt8)) (fun p => [(3, .d (cK .u64 p.2.1)), (4, .tsl 1 (p.2.2.map rB8) 0)]) (fun p => ⟨[], [⟨5, 1, p.2.2.length, none⟩]⟩) (fun p => iter (fun s => f_billingref07_Bytes_l1 s.1 s.2) p.1 p.2 = some r) (·.1) (n1, (v3uj1, ([] : List UInt8))) H (.cons rfl (.rfl' _) (.cons rfl (.rfl' _) (.nil))) rfl ?_
      rintro ⟨m1, v3ul1, v4outl1⟩ HI ih1
      obtain ⟨n1, q1, hm1, H, HK1⟩ := iter_succ HI
      clear HI
      replace H : f_billingref07_Bytes_l1 v3ul1 v4outl1 = some q1 := H
      unfold f_billingref07_Bytes_l1 at H
      change ARun _ _ _ _ _ _ [(3, .d (cK .u64 v3ul1)), (4, .tsl 1 (v4outl1.map rB8) 0)] ⟨[], [⟨5, 1, v4outl1.length, none⟩]⟩
      refine .seq ?_
      refine .seq ?_
      refine .region ?_
      refine .q (q_move rfl) rfl ?_
      refine .q (q_gtr rfl rfl) rfl ?_
      refine .nil ?_
      refine .cond rfl (fun hc => ?_) (fun hc => ?_)
      · replace H := ifT hc H; clear hc
        refine .skip ?_
        refine .block ?_
        refine .seq ?_
        refine .region ?_
        refine .q (q_move rfl) rfl ?_
        refine .q (q_move rfl) rfl ?_
        obtain ⟨hk2, H⟩ := ck_some H
        refine .q (x := .d (cK .u64 (Int.tmod v3ul1 128))) (q_rem rfl rfl hk2 rfl) rfl ?_
        refine .q (x := .d (cK .u64 (IntKind.wrap .u64 (128 + (Int.tmod v3ul1 128))))) (q_add rfl rfl rfl) rfl ?_
        refine .q (x := .d (cU8 (UInt8.ofInt (IntKind.wrap .u64 (128 + (Int.tmod v3ul1 128)))))) (q_conv8 Tryd.underlying110 Tryd.underlying5 rfl) rfl ?_
        refine .g (x := .d (slOf 1 rB8 ([UInt8.ofInt (IntKind.wrap .u64 (128 + (Int.tmod v3ul1 128)))] : List UInt8))) (g_buildSlice1 Tryd.underlying32 hi5 hs5 hz5 rfl rfl rfl rfl rfl) rfl ?_
        obtain ⟨hk3, H⟩ := ck_some H
        refine .v (x := .tsl 1 ((v4outl1 ++ ([UInt8.ofInt (IntKind.wrap .u64 (128 + (Int.tmod v3ul1 128)))] : List UInt8)).map rB8) 0) (v_appendL (l := v4outl1) (l' := ([UInt8.ofInt (IntKind.wrap .u64 (128 + (Int.tmod v3ul1 128)))] : List UInt8)) (row := rB8) Tryd.underlying32 hi5 hz5 hs5 rfl (by rw [hb5]; decide) rfl rfl rfl rfl hk3) rfl ?_
        refine .withSt (st' := ⟨[], [⟨5, 1, (v4outl1 ++ ([UInt8.ofInt (IntKind.wrap .u64 (128 + (Int.tmod v3ul1 128)))] : List UInt8)).length, none⟩]⟩) rfl ?_
        refine .q (q_assign rfl) rfl ?_
        refine .nil ?_
        refine .region ?_
        refine .q (q_move rfl) rfl ?_
        obtain ⟨hk4, H⟩ := ck_some H
        refine .q (x := .d (cK .u64 (IntKind.wrap .u64 (Int.tdiv v3ul1 128)))) (q_quo rfl rfl hk4 rfl) rfl ?_
        refine .q (q_assign rfl) rfl ?_
        refine .nil ?_
        refine .inBlock ?_
        cases H
        exact .withSt (st' := ⟨[], [⟨5, 1, (v4outl1 ++ ([UInt8.ofInt (IntKind.wrap .u64 (128 + (Int.tmod v3ul1 128)))] : List UInt8)).length, none⟩]⟩) rfl <| .sub (.cons rfl (.rfl' _) (.cons rfl (.rfl' _) (.nil))) (ih1 (n1, (IntKind.wrap .u64 (Int.tdiv v3ul1 128), v4outl1 ++ ([UInt8.ofInt (IntKind.wrap .u64 (128 + (Int.tmod v3ul1 128)))] : List UInt8))) HK1 hm1)
      · replace H := ifF hc H; clear hc
        refine .exit rfl ?_
        obtain ⟨q0, H9, hq0⟩ := map_some' H; clear H; cases hq0
        cases HK1
        have H := H9
        exact .withSt (st' := ⟨[], [⟨5, 1, v4outl1.length, none⟩]⟩) rfl <| .sub (.cons rfl (.rfl' _) (.cons rfl (.rfl' _) (.nil))) (hj2x (v3ul1, v4outl1) H)
  · intro hj1
    refine .seq ?_
    refine .region ?_
    refine .q (q_move rfl) rfl ?_
    refine .q (q_lss rfl rfl) rfl ?_
    refine .nil ?_
    refine .cond rfl (fun hc => ?_) (fun hc => ?_)
    · replace H := ifT hc H; clear hc
      refine .region ?_
      refine .q (q_move rfl) rfl ?_
      obtain ⟨hk5, H⟩ := ck_some H
      refine .q (q_addI rfl rfl hk5.1 hk5.2) rfl ?_
      obtain ⟨hk6, H⟩ := ck_some H
      refine .q (x := .d (cI (-(v0n + 1)))) (q_negI rfl hk6.1 hk6.2) rfl ?_
      refine .q (x := .d (cK .u64 (IntKind.wrap .u64 (-(v0n + 1))))) (q_conv Tryd.underlying3 Tryd.underlying110 rfl rfl) rfl ?_
      refine .q (x := .d (cK .u64 (IntKind.wrap .u64 (2 * (IntKind.wrap .u64 (-(v0n + 1))))))) (q_mul rfl rfl rfl) rfl ?_
      refine .q (x := .d (cK .u64 (IntKind.wrap .u64 ((IntKind.wrap .u64 (2 * (IntKind.wrap .u64 (-(v0n + 1))))) + 1)))) (q_add rfl rfl rfl) rfl ?_
      refine .q (q_assign rfl) rfl ?_
      refine .nil ?_
      exact .sub (.cons rfl (.rfl' _) (.nil)) (hj1 (IntKind.wrap .u64 ((IntKind.wrap .u64 (2 * (IntKind.wrap .u64 (-(v0n + 1))))) + 1)) H)
    · replace H := ifF hc H; clear hc
      refine .skip ?_
      exact .sub (.cons rfl (.rfl' _) (.nil)) (hj1 (IntKind.wrap .u64 (2 * (IntKind.wrap .u64 v0n))) H)

set_option maxRecDepth 100000 in
set_option maxHeartbeats 1000000 in
theorem c_f_billingref07_join {v0a : List UInt8} {v1b : List UInt8} {r : (List UInt8)} (H : f_billingref07_join v0a v1b = some r) : ACall Tryd.prog 80 [slOf 1 rB8 v0a, slOf 1 rB8 v1b] (· = slOf 1 rB8 r) := by
  obtain ⟨i5, hi5, hz5, hs5, hb5⟩ := in_5
  refine ACall.enter' Tryd.func80 rfl Tryd.ntmps80 rfl fun S hS => ?_
  unfold f_billingref07_join at H
  change ARun _ _ _ _ _ _ [(0, .d (slOf 1 rB8 v0a)), (1, .d (slOf 1 rB8 v1b))] _
  refine .seq ?_
  refine .region ?_
  refine .q (q_assign rfl) rfl ?_
  refine .nil ?_
  refine .seq ?_
  refine .region ?_
  refine .v (x := .tsl 1 (([] : List UInt8).map rB8) 0) (v_build0T Tryd.underlying32 hi5 hs5) rfl ?_
  refine .withSt (st' := ⟨[], [⟨5, 1, ([] : List UInt8).length, none⟩]⟩) rfl ?_
  refine .q (q_move rfl) rfl ?_
  obtain ⟨hk1, H⟩ := ck_some H
  refine .v (x := .tsl 1 ((([] : List UInt8) ++ v0a).map rB8) 0) (v_appendL (l := ([] : List UInt8)) (l' := v0a) (row := rB8) Tryd.underlying32 hi5 hz5 hs5 rfl (by rw [hb5]; decide) rfl rfl rfl rfl hk1) rfl ?_
  refine .withSt (st' := ⟨[], [⟨5, 1, (([] : List UInt8) ++ v0a).length, none⟩]⟩) rfl ?_
  refine .q (q_assign rfl) rfl ?_
  refine .nil ?_
  refine .seq ?_
  refine .region ?_
  refine .q (q_move rfl) rfl ?_
  refine .q (q_move rfl) rfl ?_
  obtain ⟨hk2, H⟩ := ck_some H
  refine .v (x := .tsl 1 (((([] : List UInt8) ++ v0a) ++ v1b).map rB8) 0) (v_appendL (l := ([] : List UInt8) ++ v0a) (l' := v1b) (row := rB8) Tryd.underlying32 hi5 hz5 hs5 rfl (by rw [hb5]; decide) rfl rfl rfl rfl hk2) rfl ?_
  refine .withSt (st' := ⟨[], [⟨5, 1, ((([] : List UInt8) ++ v0a) ++ v1b).length, none⟩]⟩) rfl ?_
  refine .q (q_assign rfl) rfl ?_
  refine .nil ?_
  refine .retN [.tmp 4] [.tsl 1 (((([] : List UInt8) ++ v0a) ++ v1b).map rB8) 0] Tryd.func80 Tryd.results80 ⟨rfl, trivial⟩ ?_
  cases H
  exact ⟨_, .tsl _ _ _, rfl⟩

set_option maxRecDepth 100000 in
set_option maxHeartbeats 1000000 in
theorem c_f_billingref07_PutNumber {v0b : List UInt8} {v1n : Int} {r : (List UInt8)} (H : f_billingref07_PutNumber v0b v1n = some r) : ACall Tryd.prog 61 [slOf 1 rB8 v0b, cI v1n] (· = slOf 1 rB8 r) := by
  refine ACall.enter' Tryd.func61 rfl Tryd.ntmps61 rfl fun S hS => ?_
  unfold f_billingref07_PutNumber at H
  change ARun _ _ _ _ _ _ [(0, .d (slOf 1 rB8 v0b)), (1, .d (cI v1n))] _
  refine .seq ?_
  refine .region ?_
  refine .q (q_assign rfl) rfl ?_
  refine .nil ?_
  refine .seq ?_
  refine .region ?_
  refine .q (q_move rfl) rfl ?_
  refine .q (q_move rfl) rfl ?_
  obtain ⟨y1, hy1, H⟩ := bind_some' H
  refine .g (x := .d (slOf 1 rB8 y1)) (g_call en_81 rfl rfl (c_f_billingref07_Bytes (hy1))) rfl ?_
  obtain ⟨y2, hy2, H⟩ := bind_some' H
  refine .g (x := .d (slOf 1 rB8 y2)) (g_call en_80 rfl rfl (c_f_billingref07_join (hy2))) rfl ?_
  refine .q (q_assign rfl) rfl ?_
  refine .nil ?_
  refine .retN [.tmp 4] [.d (slOf 1 rB8 y2)] Tryd.func61 Tryd.results61 ⟨rfl, trivial⟩ ?_
  cases H
  exact ⟨_, .rfl' _, rfl⟩

set_option maxRecDepth 100000 in
set_option maxHeartbeats 1000000 in
theorem c_f_billingref12_numbers {v0l : List Int} {r : (List UInt8)} (H : f_billingref12_numbers v0l = some r) : ACall Tryd.prog 39 [slOf 1 rI v0l] (· = slOf 1 rB8 r) := by
  obtain ⟨i3, hi3, hz3, hs3, hb3⟩ := in_3
  refine ACall.enter' Tryd.func39 rfl Tryd.ntmps39 rfl fun S hS => ?_
  unfold f_billingref12_numbers at H
  change ARun _ _ _ _ _ _ [(0, .d (slOf 1 rI v0l))] _
  refine .seq ?_
  refine .region ?_
  refine .q (q_assign rfl) rfl ?_
  refine .nil ?_
  refine .seq ?_
  refine .region ?_
  refine .q (q_assign rfl) rfl ?_
  refine .nil ?_
  refine .seq ?_
  refine .seq ?_
  refine .region ?_
  refine .q (q_assign rfl) rfl ?_
  refine .nil ?_
  refine .block ?_
  obtain ⟨n1, H⟩ := loop_some H
  refine .loop (ι := Nat × (List UInt8 × Int)) (fun p => [(0, .d (slOf 1 rI v0l)), (3, .d (slOf 1 rB8 p.2.1)), (4, .d (cI p.2.2))]) (fun p => ⟨[], []⟩) (fun p => iter (fun s => f_billingref12_numbers_l1 v0l s.1 s.2) p.1 p.2 = some r) (·.1) (n1, ([], 0)) H (.cons rfl (.rfl' _) (.cons rfl (.nil 1) (.cons rfl (.rfl' _) (.nil)))) rfl ?_
  rintro ⟨m1, v3outl1, v4il1⟩ HI ih1
  obtain ⟨n1, q1, hm1, H, HK1⟩ := iter_succ HI
  clear HI
  replace H : f_billingref12_numbers_l1 v0l v3outl1 v4il1 = some q1 := H
  unfold f_billingref12_numbers_l1 at H
  change ARun _ _ _ _ _ _ [(0, .d (slOf 1 rI v0l)), (3, .d (slOf 1 rB8 v3outl1)), (4, .d (cI v4il1))] ⟨[], []⟩
  refine .seq ?_
  refine .seq ?_
  refine .region ?_
  refine .q (q_move rfl) rfl ?_
  refine .q (q_move rfl) rfl ?_
  refine .q (q_lenL (l := v0l) (row := rI) Tryd.underlying49 rfl rfl) rfl ?_
  refine .q (q_lss rfl rfl) rfl ?_
  refine .nil ?_
  refine .cond rfl (fun hc => ?_) (fun hc => ?_)
  · replace H := ifT hc H; clear hc
    refine .skip ?_
    refine .seq ?_
    refine .block ?_
    refine .region ?_
    refine .q (q_move rfl) rfl ?_
    refine .q (q_move rfl) rfl ?_
    refine .q (q_move rfl) rfl ?_
    obtain ⟨hk1, H⟩ := ck_some H
    refine .q (x := .d (.ro (rI (nth v0l (Int.toNat (v4il1)))))) (q_idxL (row := rI) (l := v0l) (i := v4il1) Tryd.underlying49 hi3 hs3 rfl rfl rfl hk1) rfl ?_
    refine .q (x := .d (cI (nth v0l (Int.toNat (v4il1))))) (q_load one_3 rfl) rfl ?_
    obtain ⟨y1, hy1, H⟩ := bind_some' H
    refine .g (x := .d (slOf 1 rB8 y1)) (g_call en_61 rfl rfl (c_f_billingref07_PutNumber (hy1))) rfl ?_
    refine .q (q_assign rfl) rfl ?_
    refine .nil ?_
    refine .inBlock ?_
    refine .region ?_
    refine .q (q_move rfl) rfl ?_
    obtain ⟨hk2, H⟩ := ck_some H
    refine .q (q_addI rfl rfl hk2.1 hk2.2) rfl ?_
    refine .q (q_assign rfl) rfl ?_
    refine .nil ?_
    cases H
    exact .sub (.cons rfl (.rfl' _) (.cons rfl (.rfl' _) (.cons rfl (.rfl' _) (.nil)))) (ih1 (n1, (y1, v4il1 + 1)) HK1 hm1)
  · replace H := ifF hc H; clear hc
    refine .exit rfl ?_
    refine .seq ?_
    refine .region ?_
    refine .q (q_move rfl) rfl ?_
    refine .q (q_assign rfl) rfl ?_
    refine .nil ?_
    refine .retN [.tmp 2] [.d (slOf 1 rB8 v3outl1)] Tryd.func39 Tryd.results39 ⟨rfl, trivial⟩ ?_
    cases H
    cases HK1
    exact ⟨_, .rfl' _, rfl⟩

set_option maxRecDepth 100000 in
set_option maxHeartbeats 1000000 in
theorem c_f_billingref12_Payloads {v0 : Batch} {r : (List (List UInt8))} (H : f_billingref12_Payloads v0 = some r) : ACall Tryd.prog 22 [.agg (Batch.row v0)] (· = slOf 1 (rSl 1 rB8) r) := by
  obtain ⟨i3, hi3, hz3, hs3, hb3⟩ := in_3
  obtain ⟨i5, hi5, hz5, hs5, hb5⟩ := in_5
  obtain ⟨i32, hi32, hz32, hs32, hb32⟩ := in_32
  obtain ⟨i39, hi39, hz39, hs39, hb39⟩ := in_39
  refine ACall.enter' Tryd.func22 rfl Tryd.ntmps22 rfl fun S hS => ?_
  unfold f_billingref12_Payloads at H
  change ARun _ _ _ _ _ _ [(0, .d (.agg (Batch.row v0)))] _
  refine .seq ?_
  refine .region ?_
  refine .v (x := .ref 0 0) (v_box rfl rfl) rfl ?_
  refine .withSt (st' := ⟨[.row 31 [.d (cI v0.source), .d (cI v0.number), .d (cI v0.format), .d (slOf 12 Record.row v0.records)]], []⟩) rfl ?_
  refine .q (q_assign rfl) rfl ?_
  refine .nil ?_
  refine .seq ?_
  refine .region ?_
  refine .q (q_assign rfl) rfl ?_
  refine .nil ?_
  refine .seq ?_
  refine .seq ?_
  refine .region ?_
  refine .q (q_assign rfl) rfl ?_
  refine .nil ?_
  refine .tok (i := 3) (e := 5) (sz := 1) rfl ?_
  refine .withSt (st' := ⟨[.row 31 [.d (cI v0.source), .d (cI v0.number), .d (cI v0.format), .d (slOf 12 Record.row v0.records)]], [⟨5, 1, ([] : List UInt8).length, none⟩]⟩) rfl ?_
  refine .blockJoin2 (ι := List UInt8) (fun s => [(1, .ref 0 0), (3, .tsl 1 (s.map rB8) 0)]) (fun s => ⟨[.row 31 [.d (cI v0.source), .d (cI v0.number), .d (cI v0.format), .d (slOf 12 Record.row v0.records)]], [⟨5, 1, s.length, none⟩]⟩) (fun s => f_billingref12_Payloads_j1 v0 s = some r) ?_ ?_
  · rintro v3j1 H
    replace H : f_billingref12_Payloads_j1 v0 v3j1 = some r := H
    unfold f_billingref12_Payloads_j1 at H
    change ARun _ _ _ _ _ _ [(1, .ref 0 0), (3, .tsl 1 (v3j1.map rB8) 0)] ⟨[.row 31 [.d (cI v0.source), .d (cI v0.number), .d (cI v0.format), .d (slOf 12 Record.row v0.records)]], [⟨5, 1, v3j1.length, none⟩]⟩
    refine .seq ?_
    refine .region ?_
    refine .q (q_fieldRef fo_31_3 rfl) rfl ?_
    refine .q (x := .d (slOf 12 Record.row v0.records)) (q_loadO one_22 rfl rfl rfl) rfl ?_
    obtain ⟨y1, hy1, H⟩ := bind_some' H
    refine .g (x := .d (.agg (Totals.row y1))) (g_call en_9 rfl rfl (c_f_billingref12_Totals (hy1))) rfl ?_
    refine .v (x := .ref 1 0) (v_alloc zr_27 rfl) rfl ?_
    refine .withSt (st' := ⟨[.row 31 [.d (cI v0.source), .d (cI v0.number), .d (cI v0.format), .d (slOf 12 Record.row v0.records)], .row 27 [.d (cI 0), .d (cI 0), .d (cI 0), .d (cI 0), .d (cI 0), .d (cI 0)]], [⟨5, 1, v3j1.length, none⟩]⟩) rfl ?_
    refine .u (u_store rfl rfl rfl rfl (Nat.le_of_ble_eq_true rfl) sz_27) rfl ?_
    refine .withSt (st' := ⟨[.row 31 [.d (cI v0.source), .d (cI v0.number), .d (cI v0.format), .d (slOf 12 Record.row v0.records)], .row 27 [.d (cI y1.count), .d (cI (nth y1.units 0)), .d (cI (nth y1.units 1)), .d (cI (nth y1.units 2)), .d (cI (nth y1.units 3)), .d (cI (nth y1.units 4))]], [⟨5, 1, v3j1.length, none⟩]⟩) rfl ?_
    refine .nil ?_
    refine .seq ?_
    refine .drawn 29 hMix (by kernel_rfl) ?_
    show DOps _ _ _ _ _ _ _ (_ :: _) _ _ _
    refine .q (q_fieldRef fo_31_0 rfl) rfl ?_
    refine .q (x := .d (cI v0.source)) (q_loadO one_3 rfl rfl rfl) rfl ?_
    refine .q (q_fieldRef fo_31_1 rfl) rfl ?_
    refine .q (x := .d (cI v0.number)) (q_loadO one_3 rfl rfl rfl) rfl ?_
    refine .q (q_fieldRef fo_31_2 rfl) rfl ?_
    refine .q (x := .d (cI v0.format)) (q_loadO one_3 rfl rfl rfl) rfl ?_
    refine .q (q_fieldRef fo_27_0 rfl) rfl ?_
    refine .q (x := .d (cI y1.count)) (q_loadO one_3 rfl rfl rfl) rfl ?_
    refine .g (x := .d (slOf 1 rI ([v0.source, v0.number, v0.format, y1.count] : List Int))) (g_buildSliceN (n := 4) (rows := ([v0.source, v0.number, v0.format, y1.count] : List Int).map rI) Tryd.underlying49 hi3 hs3 hz3 rfl rfl rfl rfl rfl) rfl ?_
    obtain ⟨y2, hy2, H⟩ := bind_some' H
    refine .g (x := .d (slOf 1 rB8 y2)) (g_call en_39 rfl rfl (c_f_billingref12_numbers (hy2))) rfl ?_
    refine .q (q_move rfl) rfl ?_
    refine .q (q_fieldRef fo_27_0 rfl) rfl ?_
    refine .q (x := .d (cI y1.count)) (q_loadO one_3 rfl rfl rfl) rfl ?_
    refine .q (q_fieldRef fo_27_1 rfl) rfl ?_
    refine .q (x := .ref 1 2) (q_idxArr (m := 1) (sz := 1) Tryd.underlying25 ⟨_, hi3, hs3⟩ rfl rfl rfl (by decide)) rfl ?_
    refine .q (x := .d (cI (nth y1.units 1))) (q_loadO one_3 rfl rfl rfl) rfl ?_
    refine .q (q_fieldRef fo_27_1 rfl) rfl ?_
    refine .q (x := .ref 1 3) (q_idxArr (m := 2) (sz := 1) Tryd.underlying25 ⟨_, hi3, hs3⟩ rfl rfl rfl (by decide)) rfl ?_
    refine .q (x := .d (cI (nth y1.units 2))) (q_loadO one_3 rfl rfl rfl) rfl ?_
    refine .q (q_fieldRef fo_27_1 rfl) rfl ?_
    refine .q (x := .ref 1 4) (q_idxArr (m := 3) (sz := 1) Tryd.underlying25 ⟨_, hi3, hs3⟩ rfl rfl rfl (by decide)) rfl ?_
    refine .q (x := .d (cI (nth y1.units 3))) (q_loadO one_3 rfl rfl rfl) rfl ?_
    refine .q (q_fieldRef fo_27_1 rfl) rfl ?_
    refine .q (x := .ref 1 5) (q_idxArr (m := 4) (sz := 1) Tryd.underlying25 ⟨_, hi3, hs3⟩ rfl rfl rfl (by decide)) rfl ?_
    refine .q (x := .d (cI (nth y1.units 4))) (q_loadO one_3 rfl rfl rfl) rfl ?_
    refine .g (x := .d (slOf 1 rI ([y1.count, nth y1.units 1, nth y1.units 2, nth y1.units 3, nth y1.units 4] : List Int))) (g_buildSliceN (n := 5) (rows := ([y1.count, nth y1.units 1, nth y1.units 2, nth y1.units 3, nth y1.units 4] : List Int).map rI) Tryd.underlying49 hi3 hs3 hz3 rfl rfl rfl rfl rfl) rfl ?_
    obtain ⟨y3, hy3, H⟩ := bind_some' H
    refine .g (x := .d (slOf 1 rB8 y3)) (g_call en_39 rfl rfl (c_f_billingref12_numbers (hy3))) rfl ?_
    refine .g (x := .d (slOf 1 (rSl 1 rB8) ([y2, v3j1, y3] : List (List UInt8)))) (g_buildSliceN (n := 3) (rows := ([y2, v3j1, y3] : List (List UInt8)).map (rSl 1 rB8)) Tryd.underlying52 hi32 hs32 hz32 rfl rfl rfl rfl rfl) rfl ?_
    refine .q (q_assign rfl) rfl ?_
    refine .nil ?_
    show AOps _ _ _ _ _ _ [] _ _ _
    refine .nil ?_
    refine .retN [.tmp 2] [.d (slOf 1 (rSl 1 rB8) ([y2, v3j1, y3] : List (List UInt8)))] Tryd.func22 Tryd.results22 ⟨rfl, trivial⟩ ?_
    cases H
    exact ⟨_, .rfl' _, rfl⟩
  · intro hj1 hj1x
    obtain ⟨n1, H⟩ := loop_some H
    refine .withSt (st' := ⟨[.row 31 [.d (cI v0.source), .d (cI v0.number), .d (cI v0.format), .d (slOf 12 Record.row v0.records)]], [⟨5, 1, ([] : List UInt8).length, none⟩]⟩) rfl <| .loop (ι := Nat × (List UInt8 × Int)) (fun p => [(1, .ref 0 0), (3, .tsl 1 (p.2.1.map rB8) 0), (4, .d (cI p.2.2))]) (fun p => ⟨[.row 31 [.d (cI v0.source), .d (cI v0.number), .d (cI v0.format), .d (slOf 12 Record.row v0.records)]], [⟨5, 1, p.2.1.length, none⟩]⟩) (fun p => iter (fun s => f_billingref12_Payloads_l1 v0 s.1 s.2) p.1 p.2 = some r) (·.1) (n1, (([] : List UInt8), 0)) H (.cons rfl (.rfl' _) (.cons rfl (.rfl' _) (.cons rfl (.rfl' _) (.nil)))) rfl ?_
    rintro ⟨m1, v3l1, v4l1⟩ HI ih1
    obtain ⟨n1, q1, hm1, H, HK1⟩ := iter_succ HI
    clear HI
    replace H : f_billingref12_Payloads_l1 v0 v3l1 v4l1 = some q1 := H
    unfold f_billingref12_Payloads_l1 at H
    change ARun _ _ _ _ _ _ [(1, .ref 0 0), (3, .tsl 1 (v3l1.map rB8) 0), (4, .d (cI v4l1))] ⟨[.row 31 [.d (cI v0.source), .d (cI v0.number), .d (cI v0.format), .d (slOf 12 Record.row v0.records)]], [⟨5, 1, v3l1.length, none⟩]⟩
    refine .seq ?_
    refine .seq ?_
    refine .region ?_
    refine .q (q_move rfl) rfl ?_
    refine .q (q_fieldRef fo_31_3 rfl) rfl ?_
    refine .q (x := .d (slOf 12 Record.row v0.records)) (q_loadO one_22 rfl rfl rfl) rfl ?_
    refine .q (q_lenL (l := v0.records) (row := Record.row) Tryd.underlying22 rfl rfl) rfl ?_
    refine .q (q_lss rfl rfl) rfl ?_
    refine .nil ?_
    refine .cond rfl (fun hc => ?_) (fun hc => ?_)
    · replace H := ifT hc H; clear hc
      refine .skip ?_
      refine .seq ?_
      refine .block ?_
      refine .seq ?_
      refine .region ?_
      refine .q (q_fieldRef fo_31_3 rfl) rfl ?_
      refine .q (x := .d (slOf 12 Record.row v0.records)) (q_loadO one_22 rfl rfl rfl) rfl ?_
      refine .q (q_move rfl) rfl ?_
      obtain ⟨hk1, H⟩ := ck_some H
      refine .q (x := .d (.ro (Record.row (nth v0.records (Int.toNat (v4l1)))))) (q_idxL (row := Record.row) (l := v0.records) (i := v4l1) Tryd.underlying22 hi39 hs39 rfl rfl rfl hk1) rfl ?_
      refine .q (x := .d (.agg (Record.row (nth v0.records (Int.toNat (v4l1)))))) (q_loadAll one_39 sz_39 rfl rfl) rfl ?_
      refine .v (x := .ref 1 0) (v_alloc zr_39 rfl) rfl ?_
      refine .withSt (st' := ⟨[.row 31 [.d (cI v0.source), .d (cI v0.number), .d (cI v0.format), .d (slOf 12 Record.row v0.records)], .row 39 [.d (cI 0), .d (cI 0), .d (cI 0), .d (cS ([] : List UInt8)), .d (cS ([] : List UInt8)), .d (cI 0), .d (cI 0), .d (cI 0), .d (cI 0), .d (cB false), .d (cI 0), .d (cB false)]], [⟨5, 1, v3l1.length, none⟩]⟩) rfl ?_
      refine .u (u_store rfl rfl rfl rfl (Nat.le_of_ble_eq_true rfl) sz_39) rfl ?_
      refine .withSt (st' := ⟨[.row 31 [.d (cI v0.source), .d (cI v0.number), .d (cI v0.format), .d (slOf 12 Record.row v0.records)], .row 39 [.d (cI ((nth v0.records (Int.toNat (v4l1))).source)), .d (cI ((nth v0.records (Int.toNat (v4l1))).serial)), .d (cI ((nth v0.records (Int.toNat (v4l1))).kind)), .d (cS ((nth v0.records (Int.toNat (v4l1))).a)), .d (cS ((nth v0.records (Int.toNat (v4l1))).b)), .d (cI ((nth v0.records (Int.toNat (v4l1))).start)), .d (cI ((nth v0.records (Int.toNat (v4l1))).units)), .d (cI ((nth v0.records (Int.toNat (v4l1))).call)), .d (cI ((nth v0.records (Int.toNat (v4l1))).part)), .d (cB ((nth v0.records (Int.toNat (v4l1))).last)), .d (cI ((nth v0.records (Int.toNat (v4l1))).trunk)), .d (cB ((nth v0.records (Int.toNat (v4l1))).inbound))]], [⟨5, 1, v3l1.length, none⟩]⟩) rfl ?_
      refine .nil ?_
      refine .seq ?_
      refine .region ?_
      refine .q (q_fieldRef fo_31_2 rfl) rfl ?_
      refine .q (x := .d (cI v0.format)) (q_loadO one_3 rfl rfl rfl) rfl ?_
      refine .nil ?_
      refine .block ?_
      refine .seq ?_
      refine .region ?_
      refine .q (q_eql rfl rfl) rfl ?_
      refine .q (q_assign rfl) rfl ?_
      refine .nil ?_
      refine .cond rfl (fun hc => ?_) (fun hc => ?_)
      · replace H := ifT hc H; clear hc
        refine .seq ?_
        refine .region ?_
        refine .q (x := .d (.agg (Record.row (nth v0.records (Int.toNat (v4l1)))))) (q_loadOA one_39 sz_39 rfl rfl (Nat.le_of_ble_eq_true rfl) rfl) rfl ?_
        obtain ⟨y4, hy4, H⟩ := bind_some' H
        refine .g (x := .d (.tup [cS y4.1, cI y4.2])) (g_call en_36 rfl rfl (c_f_billingref09_Encode (hy4))) rfl ?_
        refine .q (q_move rfl) rfl ?_
        refine .q (q_extract rfl rfl) rfl ?_
        refine .q (q_extract rfl rfl) rfl ?_
        refine .q (q_assign rfl) rfl ?_
        refine .q (q_assign rfl) rfl ?_
        refine .nil ?_
        refine .region ?_
        refine .q (q_move rfl) rfl ?_
        refine .q (q_move rfl) rfl ?_
        obtain ⟨hk2, H⟩ := ck_some H
        refine .q (x := .d (cS (y4.1 ++ ([10] : List UInt8)))) (q_sadd rfl rfl hk2) rfl ?_
        obtain ⟨hk3, H⟩ := ck_some H
        refine .v (x := .tsl 1 ((v3l1 ++ (y4.1 ++ ([10] : List UInt8))).map rB8) 0) (v_appendStrL (l := v3l1) (a := y4.1 ++ ([10] : List UInt8)) Tryd.underlying32 Tryd.underlying9 hi5 hz5 hs5 rfl (by rw [hb5]; decide) rfl rfl rfl hk3) rfl ?_
        refine .withSt (st' := ⟨[.row 31 [.d (cI v0.source), .d (cI v0.number), .d (cI v0.format), .d (slOf 12 Record.row v0.records)], .row 39 [.d (cI ((nth v0.records (Int.toNat (v4l1))).source)), .d (cI ((nth v0.records (Int.toNat (v4l1))).serial)), .d (cI ((nth v0.records (Int.toNat (v4l1))).kind)), .d (cS ((nth v0.records (Int.toNat (v4l1))).a)), .d (cS ((nth v0.records (Int.toNat (v4l1))).b)), .d (cI ((nth v0.records (Int.toNat (v4l1))).start)), .d (cI ((nth v0.records (Int.toNat (v4l1))).units)), .d (cI ((nth v0.records (Int.toNat (v4l1))).call)), .d (cI ((nth v0.records (Int.toNat (v4l1))).part)), .d (cB ((nth v0.records (Int.toNat (v4l1))).last)), .d (cI ((nth v0.records (Int.toNat (v4l1))).trunk)), .d (cB ((nth v0.records (Int.toNat (v4l1))).inbound))]], [⟨5, 1, (v3l1 ++ (y4.1 ++ ([10] : List UInt8))).length, none⟩]⟩) rfl ?_
        refine .q (q_assign rfl) rfl ?_
        refine .nil ?_
        refine .inBlock ?_
        refine .inBlock ?_
        refine .region ?_
        refine .q (q_move rfl) rfl ?_
        obtain ⟨hk4, H⟩ := ck_some H
        refine .q (q_addI rfl rfl hk4.1 hk4.2) rfl ?_
        refine .q (q_assign rfl) rfl ?_
        refine .nil ?_
        cases H
        exact .to 1 1 (env' := [(1, .ref 0 0), (3, .tsl 1 ((v3l1 ++ (y4.1 ++ ([10] : List UInt8))).map rB8) 0), (4, .d (cI (v4l1 + 1)))]) (st' := ⟨[.row 31 [.d (cI v0.source), .d (cI v0.number), .d (cI v0.format), .d (slOf 12 Record.row v0.records)]], [⟨5, 1, (v3l1 ++ (y4.1 ++ ([10] : List UInt8))).length, none⟩]⟩) (.cons rfl (.rfl' _) (.cons rfl (.rfl' _) (.cons rfl (.rfl' _) (.nil)))) rfl rfl rfl rfl rfl (by rw [hS]; exact Nat.le_of_ble_eq_true rfl) (by rw [hS]; exact Nat.le_of_ble_eq_true rfl) <| .sub (.cons rfl (.rfl' _) (.cons rfl (.rfl' _) (.cons rfl (.rfl' _) (.nil)))) (ih1 (n1, (v3l1 ++ (y4.1 ++ ([10] : List UInt8)), v4l1 + 1)) HK1 hm1)
      · replace H := ifF hc H; clear hc
        refine .seq ?_
        refine .region ?_
        refine .q (q_eql rfl rfl) rfl ?_
        refine .q (q_assign rfl) rfl ?_
        refine .nil ?_
        refine .cond rfl (fun hc => ?_) (fun hc => ?_)
        · replace H := ifT hc H; clear hc
          refine .seq ?_
          refine .region ?_
          refine .q (x := .d (.agg (Record.row (nth v0.records (Int.toNat (v4l1)))))) (q_loadOA one_39 sz_39 rfl rfl (Nat.le_of_ble_eq_true rfl) rfl) rfl ?_
          obtain ⟨y5, hy5, H⟩ := bind_some' H
          refine .g (x := .d (.tup [slOf 1 rB8 y5.1, cI y5.2])) (g_call en_37 rfl rfl (c_f_billingref10_Encode (hy5))) rfl ?_
          refine .q (q_move rfl) rfl ?_
          refine .q (q_extract rfl rfl) rfl ?_
          refine .q (q_extract rfl rfl) rfl ?_
          refine .q (q_assign rfl) rfl ?_
          refine .q (q_assign rfl) rfl ?_
          refine .nil ?_
          refine .region ?_
          refine .q (q_move rfl) rfl ?_
          refine .q (q_move rfl) rfl ?_
          obtain ⟨hk5, H⟩ := ck_some H
          refine .v (x := .tsl 1 ((v3l1 ++ y5.1).map rB8) 0) (v_appendL (l := v3l1) (l' := y5.1) (row := rB8) Tryd.underlying32 hi5 hz5 hs5 rfl (by rw [hb5]; decide) rfl rfl rfl rfl hk5) rfl ?_
          refine .withSt (st' := ⟨[.row 31 [.d (cI v0.source), .d (cI v0.number), .d (cI v0.format), .d (slOf 12 Record.row v0.records)], .row 39 [.d (cI ((nth v0.records (Int.toNat (v4l1))).source)), .d (cI ((nth v0.records (Int.toNat (v4l1))).serial)), .d (cI ((nth v0.records (Int.toNat (v4l1))).kind)), .d (cS ((nth v0.records (Int.toNat (v4l1))).a)), .d (cS ((nth v0.records (Int.toNat (v4l1))).b)), .d (cI ((nth v0.records (Int.toNat (v4l1))).start)), .d (cI ((nth v0.records (Int.toNat (v4l1))).units)), .d (cI ((nth v0.records (Int.toNat (v4l1))).call)), .d (cI ((nth v0.records (Int.toNat (v4l1))).part)), .d (cB ((nth v0.records (Int.toNat (v4l1))).last)), .d (cI ((nth v0.records (Int.toNat (v4l1))).trunk)), .d (cB ((nth v0.records (Int.toNat (v4l1))).inbound))]], [⟨5, 1, (v3l1 ++ y5.1).length, none⟩]⟩) rfl ?_
          refine .q (q_assign rfl) rfl ?_
          refine .nil ?_
          refine .inBlock ?_
          refine .inBlock ?_
          refine .region ?_
          refine .q (q_move rfl) rfl ?_
          obtain ⟨hk6, H⟩ := ck_some H
          refine .q (q_addI rfl rfl hk6.1 hk6.2) rfl ?_
          refine .q (q_assign rfl) rfl ?_
          refine .nil ?_
          cases H
          exact .to 1 1 (env' := [(1, .ref 0 0), (3, .tsl 1 ((v3l1 ++ y5.1).map rB8) 0), (4, .d (cI (v4l1 + 1)))]) (st' := ⟨[.row 31 [.d (cI v0.source), .d (cI v0.number), .d (cI v0.format), .d (slOf 12 Record.row v0.records)]], [⟨5, 1, (v3l1 ++ y5.1).length, none⟩]⟩) (.cons rfl (.rfl' _) (.cons rfl (.rfl' _) (.cons rfl (.rfl' _) (.nil)))) rfl rfl rfl rfl rfl (by rw [hS]; exact Nat.le_of_ble_eq_true rfl) (by rw [hS]; exact Nat.le_of_ble_eq_true rfl) <| .sub (.cons rfl (.rfl' _) (.cons rfl (.rfl' _) (.cons rfl (.rfl' _) (.nil)))) (ih1 (n1, (v3l1 ++ y5.1, v4l1 + 1)) HK1 hm1)
        · replace H := ifF hc H; clear hc
          refine .seq ?_
          refine .region ?_
          refine .q (x := .d (.agg (Record.row (nth v0.records (Int.toNat (v4l1)))))) (q_loadOA one_39 sz_39 rfl rfl (Nat.le_of_ble_eq_true rfl) rfl) rfl ?_
          obtain ⟨y6, hy6, H⟩ := bind_some' H
          refine .g (x := .d (.tup [slOf 1 rB8 y6.1, cI y6.2])) (g_call en_38 rfl rfl (c_f_billingref11_Encode (hy6))) rfl ?_
          refine .q (q_move rfl) rfl ?_
          refine .q (q_extract rfl rfl) rfl ?_
          refine .q (q_extract rfl rfl) rfl ?_
          refine .q (q_assign rfl) rfl ?_
          refine .q (q_assign rfl) rfl ?_
          refine .nil ?_
          refine .region ?_
          refine .q (q_move rfl) rfl ?_
          refine .q (q_move rfl) rfl ?_
          obtain ⟨hk7, H⟩ := ck_some H
          refine .v (x := .tsl 1 ((v3l1 ++ y6.1).map rB8) 0) (v_appendL (l := v3l1) (l' := y6.1) (row := rB8) Tryd.underlying32 hi5 hz5 hs5 rfl (by rw [hb5]; decide) rfl rfl rfl rfl hk7) rfl ?_
          refine .withSt (st' := ⟨[.row 31 [.d (cI v0.source), .d (cI v0.number), .d (cI v0.format), .d (slOf 12 Record.row v0.records)], .row 39 [.d (cI ((nth v0.records (Int.toNat (v4l1))).source)), .d (cI ((nth v0.records (Int.toNat (v4l1))).serial)), .d (cI ((nth v0.records (Int.toNat (v4l1))).kind)), .d (cS ((nth v0.records (Int.toNat (v4l1))).a)), .d (cS ((nth v0.records (Int.toNat (v4l1))).b)), .d (cI ((nth v0.records (Int.toNat (v4l1))).start)), .d (cI ((nth v0.records (Int.toNat (v4l1))).units)), .d (cI ((nth v0.records (Int.toNat (v4l1))).call)), .d (cI ((nth v0.records (Int.toNat (v4l1))).part)), .d (cB ((nth v0.records (Int.toNat (v4l1))).last)), .d (cI ((nth v0.records (Int.toNat (v4l1))).trunk)), .d (cB ((nth v0.records (Int.toNat (v4l1))).inbound))]], [⟨5, 1, (v3l1 ++ y6.1).length, none⟩]⟩) rfl ?_
          refine .q (q_assign rfl) rfl ?_
          refine .nil ?_
          refine .inBlock ?_
          refine .inBlock ?_
          refine .region ?_
          refine .q (q_move rfl) rfl ?_
          obtain ⟨hk8, H⟩ := ck_some H
          refine .q (q_addI rfl rfl hk8.1 hk8.2) rfl ?_
          refine .q (q_assign rfl) rfl ?_
          refine .nil ?_
          cases H
          exact .to 1 1 (env' := [(1, .ref 0 0), (3, .tsl 1 ((v3l1 ++ y6.1).map rB8) 0), (4, .d (cI (v4l1 + 1)))]) (st' := ⟨[.row 31 [.d (cI v0.source), .d (cI v0.number), .d (cI v0.format), .d (slOf 12 Record.row v0.records)]], [⟨5, 1, (v3l1 ++ y6.1).length, none⟩]⟩) (.cons rfl (.rfl' _) (.cons rfl (.rfl' _) (.cons rfl (.rfl' _) (.nil)))) rfl rfl rfl rfl rfl (by rw [hS]; exact Nat.le_of_ble_eq_true rfl) (by rw [hS]; exact Nat.le_of_ble_eq_true rfl) <| .sub (.cons rfl (.rfl' _) (.cons rfl (.rfl' _) (.cons rfl (.rfl' _) (.nil)))) (ih1 (n1, (v3l1 ++ y6.1, v4l1 + 1)) HK1 hm1)
    · replace H := ifF hc H; clear hc
      refine .exit rfl ?_
      obtain ⟨q0, H9, hq0⟩ := map_some' H; clear H; cases hq0
      cases HK1
      have H := H9
      exact .withSt (st' := ⟨[.row 31 [.d (cI v0.source), .d (cI v0.number), .d (cI v0.format), .d (slOf 12 Record.row v0.records)]], [⟨5, 1, v3l1.length, none⟩]⟩) rfl <| .sub (.cons rfl (.rfl' _) (.cons rfl (.rfl' _) (.nil))) (hj1x v3l1 H)

set_option maxRecDepth 100000 in
set_option maxHeartbeats 1000000 in
theorem c_f_billingref08_Sum {v0b : List UInt8} {r : Int} (H : f_billingref08_Sum v0b = some r) : ACall Tryd.prog 60 [slOf 1 rB8 v0b] (· = cK .u32 r) := by
  obtain ⟨i5, hi5, hz5, hs5, hb5⟩ := in_5
  refine ACall.enter' Tryd.func60 rfl Tryd.ntmps60 rfl fun S hS => ?_
  unfold f_billingref08_Sum at H
  change ARun _ _ _ _ _ _ [(0, .d (slOf 1 rB8 v0b))] _
  refine .seq ?_
  refine .region ?_
  refine .q (q_assign rfl) rfl ?_
  refine .nil ?_
  refine .seq ?_
  refine .region ?_
  refine .q (q_assign rfl) rfl ?_
  refine .nil ?_
  refine .seq ?_
  refine .seq ?_
  refine .region ?_
  refine .q (q_assign rfl) rfl ?_
  refine .nil ?_
  refine .block ?_
  obtain ⟨n1, H⟩ := loop_some H
  refine .loop (ι := Nat × (Int × Int)) (fun p => [(0, .d (slOf 1 rB8 v0b)), (3, .d (cK .u32 p.2.1)), (4, .d (cI p.2.2))]) (fun p => ⟨[], []⟩) (fun p => iter (fun s => f_billingref08_Sum_l1 v0b s.1 s.2) p.1 p.2 = some r) (·.1) (n1, (2166136261, 0)) H (.cons rfl (.rfl' _) (.cons rfl (.rfl' _) (.cons rfl (.rfl' _) (.nil)))) rfl ?_
  rintro ⟨m1, v3nl1, v4il1⟩ HI ih1
  obtain ⟨n1, q1, hm1, H, HK1⟩ := iter_succ HI
  clear HI
  replace H : f_billingref08_Sum_l1 v0b v3nl1 v4il1 = some q1 := H
  unfold f_billingref08_Sum_l1 at H
  change ARun _ _ _ _ _ _ [(0, .d (slOf 1 rB8 v0b)), (3, .d (cK .u32 v3nl1)), (4, .d (cI v4il1))] ⟨[], []⟩
  refine .seq ?_
  refine .seq ?_
  refine .region ?_
  refine .q (q_move rfl) rfl ?_
  refine .q (q_move rfl) rfl ?_
  refine .q (q_lenL (l := v0b) (row := rB8) Tryd.underlying32 rfl rfl) rfl ?_
  refine .q (q_lss rfl rfl) rfl ?_
  refine .nil ?_
  refine .cond rfl (fun hc => ?_) (fun hc => ?_)
  · replace H := ifT hc H; clear hc
    refine .skip ?_
    refine .seq ?_
    refine .block ?_
    refine .region ?_
    refine .q (q_move rfl) rfl ?_
    refine .q (q_move rfl) rfl ?_
    refine .q (q_move rfl) rfl ?_
    obtain ⟨hk1, H⟩ := ck_some H
    refine .q (x := .d (.ro (rB8 (nth v0b (Int.toNat (v4il1)))))) (q_idxL (row := rB8) (l := v0b) (i := v4il1) Tryd.underlying32 hi5 hs5 rfl rfl rfl hk1) rfl ?_
    refine .q (x := .d (cU8 (nth v0b (Int.toNat (v4il1))))) (q_load one_5 rfl) rfl ?_
    refine .q (x := .d (cK .u32 (IntKind.wrap .u32 ((nth v0b (Int.toNat (v4il1))).toNat : Int)))) (q_conv (n := ((nth v0b (Int.toNat (v4il1))).toNat : Int)) Tryd.underlying5 Tryd.underlying76 rfl rfl) rfl ?_
    refine .q (x := .d (cK .u32 (bXor .u32 v3nl1 (IntKind.wrap .u32 ((nth v0b (Int.toNat (v4il1))).toNat : Int))))) (q_xor rfl rfl) rfl ?_
    refine .q (x := .d (cK .u32 (IntKind.wrap .u32 ((bXor .u32 v3nl1 (IntKind.wrap .u32 ((nth v0b (Int.toNat (v4il1))).toNat : Int))) * 16777619)))) (q_mul rfl rfl rfl) rfl ?_
    refine .q (q_assign rfl) rfl ?_
    refine .nil ?_
    refine .inBlock ?_
    refine .region ?_
    refine .q (q_move rfl) rfl ?_
    obtain ⟨hk2, H⟩ := ck_some H
    refine .q (q_addI rfl rfl hk2.1 hk2.2) rfl ?_
    refine .q (q_assign rfl) rfl ?_
    refine .nil ?_
    cases H
    exact .sub (.cons rfl (.rfl' _) (.cons rfl (.rfl' _) (.cons rfl (.rfl' _) (.nil)))) (ih1 (n1, (IntKind.wrap .u32 ((bXor .u32 v3nl1 (IntKind.wrap .u32 ((nth v0b (Int.toNat (v4il1))).toNat : Int))) * 16777619), v4il1 + 1)) HK1 hm1)
  · replace H := ifF hc H; clear hc
    refine .exit rfl ?_
    refine .seq ?_
    refine .region ?_
    refine .q (q_move rfl) rfl ?_
    refine .q (q_assign rfl) rfl ?_
    refine .nil ?_
    refine .retN [.tmp 2] [.d (cK .u32 v3nl1)] Tryd.func60 Tryd.results60 ⟨rfl, trivial⟩ ?_
    cases H
    cases HK1
    exact ⟨_, .rfl' _, rfl⟩

set_option maxRecDepth 100000 in
set_option maxHeartbeats 1000000 in
theorem c_g_billingref07_join {v0a : List UInt8} {v1b : List UInt8} {r : (List UInt8)} (H : f_billingref07_join v0a v1b = some r) : ACallS Tryd.prog 80 [.d (slOf 1 rB8 v0a), .d (slOf 1 rB8 v1b)] ⟨[], []⟩ (QE (.tsl 1 (r.map rB8) 0) ⟨[], [⟨5, 1, r.length, none⟩]⟩) := by
  obtain ⟨i5, hi5, hz5, hs5, hb5⟩ := in_5
  refine ACallS.keep ?_
  refine ACallS.enter Tryd.func80 rfl Tryd.ntmps80 rfl fun S hS => ?_
  unfold f_billingref07_join at H
  change ARun _ _ _ _ _ _ [(0, .d (slOf 1 rB8 v0a)), (1, .d (slOf 1 rB8 v1b))] _
  refine .seq ?_
  refine .region ?_
  refine .q (q_assign rfl) rfl ?_
  refine .nil ?_
  refine .seq ?_
  refine .region ?_
  refine .v (x := .tsl 1 (([] : List UInt8).map rB8) 0) (v_build0T Tryd.underlying32 hi5 hs5) rfl ?_
  refine .withSt (st' := ⟨[], [⟨5, 1, ([] : List UInt8).length, none⟩]⟩) rfl ?_
  refine .q (q_move rfl) rfl ?_
  obtain ⟨hk1, H⟩ := ck_some H
  refine .v (x := .tsl 1 ((([] : List UInt8) ++ v0a).map rB8) 0) (v_appendL (l := ([] : List UInt8)) (l' := v0a) (row := rB8) Tryd.underlying32 hi5 hz5 hs5 rfl (by rw [hb5]; decide) rfl rfl rfl rfl hk1) rfl ?_
  refine .withSt (st' := ⟨[], [⟨5, 1, (([] : List UInt8) ++ v0a).length, none⟩]⟩) rfl ?_
  refine .q (q_assign rfl) rfl ?_
  refine .nil ?_
  refine .seq ?_
  refine .region ?_
  refine .q (q_move rfl) rfl ?_
  refine .q (q_move rfl) rfl ?_
  obtain ⟨hk2, H⟩ := ck_some H
  refine .v (x := .tsl 1 (((([] : List UInt8) ++ v0a) ++ v1b).map rB8) 0) (v_appendL (l := ([] : List UInt8) ++ v0a) (l' := v1b) (row := rB8) Tryd.underlying32 hi5 hz5 hs5 rfl (by rw [hb5]; decide) rfl rfl rfl rfl hk2) rfl ?_
  refine .withSt (st' := ⟨[], [⟨5, 1, ((([] : List UInt8) ++ v0a) ++ v1b).length, none⟩]⟩) rfl ?_
  refine .q (q_assign rfl) rfl ?_
  refine .nil ?_
  refine .retN [.tmp 4] [.tsl 1 (((([] : List UInt8) ++ v0a) ++ v1b).map rB8) 0] Tryd.func80 Tryd.results80 ⟨rfl, trivial⟩ ?_
  cases H
  exact ⟨[], [0], rfl, rfl, rfl, rfl, rfl, rfl, rfl, rfl, .rfl' _⟩

end Go.Proofs.YtccmaffefdcikaaDoor

set_option linter.unusedSimpArgs false
set_option linter.unusedVariables false
namespace Go.Proofs.YtccmaffefdcikaaDoor
open Go.RowKit Go.Abs
set_option maxRecDepth 100000 in
set_option maxHeartbeats 1000000 in
theorem c_g_billingref07_PutNumber {v0b : List UInt8} {v1n : Int} {r : (List UInt8)} (H : f_billingref07_PutNumber v0b v1n = some r) : ACallS Tryd.prog 61 [.d (slOf 1 rB8 v0b), .d (cI v1n)] ⟨[], []⟩ (QE (.tsl 1 (r.map rB8) 0) ⟨[], [⟨5, 1, r.length, none⟩]⟩) := by
  refine ACallS.keep ?_
  refine ACallS.enter Tryd.func61 rfl Tryd.ntmps61 rfl fun S hS => ?_
  unfold f_billingref07_PutNumber at H
  change ARun _ _ _ _ _ _ [(0, .d (slOf 1 rB8 v0b)), (1, .d (cI v1n))] _
  refine .seq ?_
  refine .region ?_
  refine .q (q_assign rfl) rfl ?_
  refine .nil ?_
  refine .seq ?_
  refine .region ?_
  refine .q (q_move rfl) rfl ?_
  refine .q (q_move rfl) rfl ?_
  obtain ⟨y1, hy1, H⟩ := bind_some' H
  refine .g (x := .d (slOf 1 rB8 y1)) (g_call en_81 rfl rfl (c_f_billingref07_Bytes (hy1))) rfl ?_
  obtain ⟨y2, hy2, H⟩ := bind_some' H
  refine .callF en_80 rfl [] [] (x := .tsl 1 (y2.map rB8) 0) (st' := ⟨[], [⟨5, 1, y2.length, none⟩]⟩) rfl (c_g_billingref07_join (hy2)) ⟨.rfl' _, .rfl' _, trivial⟩ rfl rfl rfl rfl rfl rfl ?_
  refine .withSt (st' := ⟨[], [⟨5, 1, y2.length, none⟩]⟩) rfl ?_
  refine .q (q_assign rfl) rfl ?_
  refine .nil ?_
  refine .retN [.tmp 4] [.tsl 1 (y2.map rB8) 0] Tryd.func61 Tryd.results61 ⟨rfl, trivial⟩ ?_
  cases H
  exact ⟨[], [0], rfl, rfl, rfl, rfl, rfl, rfl, rfl, rfl, .rfl' _⟩

set_option maxRecDepth 100000 in
set_option maxHeartbeats 1000000 in
theorem c_f_billingref08_Wrap {v0b : List UInt8} {r : (List UInt8) × Int} (H : f_billingref08_Wrap v0b = some r) : ACall Tryd.prog 35 [slOf 1 rB8 v0b] (· = .tup [slOf 1 rB8 r.1, cI r.2]) := by
  obtain ⟨i5, hi5, hz5, hs5, hb5⟩ := in_5
  refine ACall.enter' Tryd.func35 rfl Tryd.ntmps35 rfl fun S hS => ?_
  unfold f_billingref08_Wrap at H
  change ARun _ _ _ _ _ _ [(0, .d (slOf 1 rB8 v0b))] _
  refine .seq ?_
  refine .region ?_
  refine .q (q_assign rfl) rfl ?_
  refine .q (q_assign rfl) rfl ?_
  refine .nil ?_
  refine .seq ?_
  refine .seq ?_
  refine .region ?_
  refine .q (q_move rfl) rfl ?_
  refine .q (q_lenL (l := v0b) (row := rB8) Tryd.underlying32 rfl rfl) rfl ?_
  refine .q (q_gtr rfl rfl) rfl ?_
  refine .nil ?_
  refine .cond rfl (fun hc => ?_) (fun hc => ?_)
  · replace H := ifT hc H; clear hc
    refine .seq ?_
    refine .region ?_
    refine .q (q_assign rfl) rfl ?_
    refine .q (q_assign rfl) rfl ?_
    refine .nil ?_
    refine .retN [.tmp 2, .tmp 3] [.d (nilD), .d (cI 5)] Tryd.func35 Tryd.results35 ⟨rfl, rfl, trivial⟩ ?_
    cases H
    exact ⟨_, EVle.tupL (ds := [slOf 1 rB8 ([] : List UInt8), cI 5]) ⟨.nil 1, .rfl' _, trivial⟩, rfl⟩
  · replace H := ifF hc H; clear hc
    refine .skip ?_
    refine .seq ?_
    refine .region ?_
    refine .q (q_move rfl) rfl ?_
    obtain ⟨y1, hy1, H⟩ := bind_some' H
    refine .g (x := .d (cK .u32 y1)) (g_call en_60 rfl rfl (c_f_billingref08_Sum (hy1))) rfl ?_
    refine .q (q_assign rfl) rfl ?_
    refine .nil ?_
    refine .seq ?_
    refine .region ?_
    refine .q (q_move rfl) rfl ?_
    refine .q (q_lenL (l := v0b) (row := rB8) Tryd.underlying32 rfl rfl) rfl ?_
    obtain ⟨y2, hy2, H⟩ := bind_some' H
    refine .callF en_61 rfl [] [] (x := .tsl 1 (y2.map rB8) 0) (st' := ⟨[], [⟨5, 1, y2.length, none⟩]⟩) rfl (c_g_billingref07_PutNumber (hy2)) ⟨.nil 1, .rfl' _, trivial⟩ rfl rfl rfl rfl rfl rfl ?_
    refine .withSt (st' := ⟨[], [⟨5, 1, y2.length, none⟩]⟩) rfl ?_
    refine .q (q_assign rfl) rfl ?_
    refine .nil ?_
    refine .seq ?_
    refine .region ?_
    refine .q (q_move rfl) rfl ?_
    refine .q (q_move rfl) rfl ?_
    obtain ⟨hk1, H⟩ := ck_some H
    refine .q (x := .d (cK .u32 (Int.fdiv y1 (2 ^ (min (Int.toNat (24)) 32))))) (q_shr (a := y1) (b := 24) rfl rfl hk1 rfl) rfl ?_
    refine .q (x := .d (cU8 (UInt8.ofInt (Int.fdiv y1 (2 ^ (min (Int.toNat (24)) 32)))))) (q_conv8 Tryd.underlying76 Tryd.underlying5 rfl) rfl ?_
    refine .q (q_move rfl) rfl ?_
    obtain ⟨hk2, H⟩ := ck_some H
    refine .q (x := .d (cK .u32 (Int.fdiv y1 (2 ^ (min (Int.toNat (16)) 32))))) (q_shr (a := y1) (b := 16) rfl rfl hk2 rfl) rfl ?_
    refine .q (x := .d (cU8 (UInt8.ofInt (Int.fdiv y1 (2 ^ (min (Int.toNat (16)) 32)))))) (q_conv8 Tryd.underlying76 Tryd.underlying5 rfl) rfl ?_
    refine .q (q_move rfl) rfl ?_
    obtain ⟨hk3, H⟩ := ck_some H
    refine .q (x := .d (cK .u32 (Int.fdiv y1 (2 ^ (min (Int.toNat (8)) 32))))) (q_shr (a := y1) (b := 8) rfl rfl hk3 rfl) rfl ?_
    refine .q (x := .d (cU8 (UInt8.ofInt (Int.fdiv y1 (2 ^ (min (Int.toNat (8)) 32)))))) (q_conv8 Tryd.underlying76 Tryd.underlying5 rfl) rfl ?_
    refine .q (q_move rfl) rfl ?_
    refine .q (x := .d (cU8 (UInt8.ofInt y1))) (q_conv8 Tryd.underlying76 Tryd.underlying5 rfl) rfl ?_
    refine .g (x := .d (slOf 1 rB8 ([UInt8.ofInt (Int.fdiv y1 (2 ^ (min (Int.toNat (24)) 32))), UInt8.ofInt (Int.fdiv y1 (2 ^ (min (Int.toNat (16)) 32))), UInt8.ofInt (Int.fdiv y1 (2 ^ (min (Int.toNat (8)) 32))), UInt8.ofInt y1] : List UInt8))) (g_buildSliceN (n := 4) (rows := ([UInt8.ofInt (Int.fdiv y1 (2 ^ (min (Int.toNat (24)) 32))), UInt8.ofInt (Int.fdiv y1 (2 ^ (min (Int.toNat (16)) 32))), UInt8.ofInt (Int.fdiv y1 (2 ^ (min (Int.toNat (8)) 32))), UInt8.ofInt y1] : List UInt8).map rB8) Tryd.underlying32 hi5 hs5 hz5 rfl rfl rfl rfl rfl) rfl ?_
    obtain ⟨hk4, H⟩ := ck_some H
    refine .v (x := .tsl 1 ((y2 ++ ([UInt8.ofInt (Int.fdiv y1 (2 ^ (min (Int.toNat (24)) 32))), UInt8.ofInt (Int.fdiv y1 (2 ^ (min (Int.toNat (16)) 32))), UInt8.ofInt (Int.fdiv y1 (2 ^ (min (Int.toNat (8)) 32))), UInt8.ofInt y1] : List UInt8)).map rB8) 0) (v_appendL (l := y2) (l' := ([UInt8.ofInt (Int.fdiv y1 (2 ^ (min (Int.toNat (24)) 32))), UInt8.ofInt (Int.fdiv y1 (2 ^ (min (Int.toNat (16)) 32))), UInt8.ofInt (Int.fdiv y1 (2 ^ (min (Int.toNat (8)) 32))), UInt8.ofInt y1] : List UInt8)) (row := rB8) Tryd.underlying32 hi5 hz5 hs5 rfl (by rw [hb5]; decide) rfl rfl rfl rfl hk4) rfl ?_
    refine .withSt (st' := ⟨[], [⟨5, 1, (y2 ++ ([UInt8.ofInt (Int.fdiv y1 (2 ^ (min (Int.toNat (24)) 32))), UInt8.ofInt (Int.fdiv y1 (2 ^ (min (Int.toNat (16)) 32))), UInt8.ofInt (Int.fdiv y1 (2 ^ (min (Int.toNat (8)) 32))), UInt8.ofInt y1] : List UInt8)).length, none⟩]⟩) rfl ?_
    refine .q (q_assign rfl) rfl ?_
    refine .nil ?_
    refine .seq ?_
    refine .region ?_
    refine .q (q_move rfl) rfl ?_
    refine .q (q_move rfl) rfl ?_
    obtain ⟨hk5, H⟩ := ck_some H
    refine .v (x := .tsl 1 (((y2 ++ ([UInt8.ofInt (Int.fdiv y1 (2 ^ (min (Int.toNat (24)) 32))), UInt8.ofInt (Int.fdiv y1 (2 ^ (min (Int.toNat (16)) 32))), UInt8.ofInt (Int.fdiv y1 (2 ^ (min (Int.toNat (8)) 32))), UInt8.ofInt y1] : List UInt8)) ++ v0b).map rB8) 0) (v_appendL (l := y2 ++ ([UInt8.ofInt (Int.fdiv y1 (2 ^ (min (Int.toNat (24)) 32))), UInt8.ofInt (Int.fdiv y1 (2 ^ (min (Int.toNat (16)) 32))), UInt8.ofInt (Int.fdiv y1 (2 ^ (min (Int.toNat (8)) 32))), UInt8.ofInt y1] : List UInt8)) (l' := v0b) (row := rB8) Tryd.underlying32 hi5 hz5 hs5 rfl (by rw [hb5]; decide) rfl rfl rfl rfl hk5) rfl ?_
    refine .withSt (st' := ⟨[], [⟨5, 1, ((y2 ++ ([UInt8.ofInt (Int.fdiv y1 (2 ^ (min (Int.toNat (24)) 32))), UInt8.ofInt (Int.fdiv y1 (2 ^ (min (Int.toNat (16)) 32))), UInt8.ofInt (Int.fdiv y1 (2 ^ (min (Int.toNat (8)) 32))), UInt8.ofInt y1] : List UInt8)) ++ v0b).length, none⟩]⟩) rfl ?_
    refine .q (q_assign rfl) rfl ?_
    refine .q (q_assign rfl) rfl ?_
    refine .nil ?_
    refine .retN [.tmp 2, .tmp 3] [.tsl 1 (((y2 ++ ([UInt8.ofInt (Int.fdiv y1 (2 ^ (min (Int.toNat (24)) 32))), UInt8.ofInt (Int.fdiv y1 (2 ^ (min (Int.toNat (16)) 32))), UInt8.ofInt (Int.fdiv y1 (2 ^ (min (Int.toNat (8)) 32))), UInt8.ofInt y1] : List UInt8)) ++ v0b).map rB8) 0, .d (cI 0)] Tryd.func35 Tryd.results35 ⟨rfl, rfl, trivial⟩ ?_
    cases H
    exact ⟨_, EVle.tupL (ds := [slOf 1 rB8 ((y2 ++ ([UInt8.ofInt (Int.fdiv y1 (2 ^ (min (Int.toNat (24)) 32))), UInt8.ofInt (Int.fdiv y1 (2 ^ (min (Int.toNat (16)) 32))), UInt8.ofInt (Int.fdiv y1 (2 ^ (min (Int.toNat (8)) 32))), UInt8.ofInt y1] : List UInt8)) ++ v0b), cI 0]) ⟨.tsl _ _ _, .rfl' _, trivial⟩, rfl⟩

set_option maxRecDepth 100000 in
set_option maxHeartbeats 1000000 in
theorem c_f_billingref08_Join {v0list : List (List UInt8)} {r : (List UInt8) × Int} (H : f_billingref08_Join v0list = some r) : ACall Tryd.prog 21 [slOf 1 (rSl 1 rB8) v0list] (· = .tup [slOf 1 rB8 r.1, cI r.2]) := by
  obtain ⟨i5, hi5, hz5, hs5, hb5⟩ := in_5
  obtain ⟨i32, hi32, hz32, hs32, hb32⟩ := in_32
  refine ACall.enter' Tryd.func21 rfl Tryd.ntmps21 rfl fun S hS => ?_
  unfold f_billingref08_Join at H
  change ARun _ _ _ _ _ _ [(0, .d (slOf 1 (rSl 1 rB8) v0list))] _
  refine .seq ?_
  refine .region ?_
  refine .q (q_assign rfl) rfl ?_
  refine .q (q_assign rfl) rfl ?_
  refine .nil ?_
  refine .seq ?_
  refine .region ?_
  refine .q (q_assign rfl) rfl ?_
  refine .nil ?_
  refine .seq ?_
  refine .seq ?_
  refine .region ?_
  refine .q (q_assign rfl) rfl ?_
  refine .nil ?_
  refine .block ?_
  refine .tok (i := 4) (e := 5) (sz := 1) rfl ?_
  refine .withSt (st' := ⟨[], [⟨5, 1, ([] : List UInt8).length, none⟩]⟩) rfl ?_
  obtain ⟨n1, H⟩ := loop_some H
  refine .withSt (st' := ⟨[], [⟨5, 1, ([] : List UInt8).length, none⟩]⟩) rfl <| .loop (ι := Nat × (List UInt8 × Int)) (fun p => [(0, .d (slOf 1 (rSl 1 rB8) v0list)), (4, .tsl 1 (p.2.1.map rB8) 0), (5, .d (cI p.2.2))]) (fun p => ⟨[], [⟨5, 1, p.2.1.length, none⟩]⟩) (fun p => iter (fun s => f_billingref08_Join_l1 v0list s.1 s.2) p.1 p.2 = some r) (·.1) (n1, (([] : List UInt8), 0)) H (.cons rfl (.rfl' _) (.cons rfl (.rfl' _) (.cons rfl (.rfl' _) (.nil)))) rfl ?_
  rintro ⟨m1, v4outl1, v5il1⟩ HI ih1
  obtain ⟨n1, q1, hm1, H, HK1⟩ := iter_succ HI
  clear HI
  replace H : f_billingref08_Join_l1 v0list v4outl1 v5il1 = some q1 := H
  unfold f_billingref08_Join_l1 at H
  change ARun _ _ _ _ _ _ [(0, .d (slOf 1 (rSl 1 rB8) v0list)), (4, .tsl 1 (v4outl1.map rB8) 0), (5, .d (cI v5il1))] ⟨[], [⟨5, 1, v4outl1.length, none⟩]⟩
  refine .seq ?_
  refine .seq ?_
  refine .region ?_
  refine .q (q_move rfl) rfl ?_
  refine .q (q_move rfl) rfl ?_
  refine .q (q_lenL (l := v0list) (row := (rSl 1 rB8)) Tryd.underlying52 rfl rfl) rfl ?_
  refine .q (q_lss rfl rfl) rfl ?_
  refine .nil ?_
  refine .cond rfl (fun hc => ?_) (fun hc => ?_)
  · replace H := ifT hc H; clear hc
    refine .skip ?_
    refine .seq ?_
    refine .block ?_
    refine .seq ?_
    refine .region ?_
    refine .q (q_move rfl) rfl ?_
    refine .q (q_move rfl) rfl ?_
    obtain ⟨hk1, H⟩ := ck_some H
    refine .q (x := .d (.ro ((rSl 1 rB8) (nth v0list (Int.toNat (v5il1)))))) (q_idxL (row := (rSl 1 rB8)) (l := v0list) (i := v5il1) Tryd.underlying52 hi32 hs32 rfl rfl rfl hk1) rfl ?_
    refine .q (x := .d (slOf 1 rB8 (nth v0list (Int.toNat (v5il1))))) (q_load one_32 rfl) rfl ?_
    obtain ⟨y1, hy1, H⟩ := bind_some' H
    refine .g (x := .d (.tup [slOf 1 rB8 y1.1, cI y1.2])) (g_call en_35 rfl rfl (c_f_billingref08_Wrap (hy1))) rfl ?_
    refine .q (q_move rfl) rfl ?_
    refine .q (q_extract rfl rfl) rfl ?_
    refine .q (q_extract rfl rfl) rfl ?_
    refine .q (q_assign rfl) rfl ?_
    refine .q (q_assign rfl) rfl ?_
    refine .nil ?_
    refine .seq ?_
    refine .seq ?_
    refine .region ?_
    refine .q (q_move rfl) rfl ?_
    refine .q (q_neq rfl rfl) rfl ?_
    refine .nil ?_
    refine .cond rfl (fun hc => ?_) (fun hc => ?_)
    · replace H := ifT hc H; clear hc
      refine .seq ?_
      refine .region ?_
      refine .q (q_move rfl) rfl ?_
      refine .q (q_assign rfl) rfl ?_
      refine .q (q_assign rfl) rfl ?_
      refine .nil ?_
      refine .retN [.tmp 2, .tmp 3] [.d (nilD), .d (cI y1.2)] Tryd.func21 Tryd.results21 ⟨rfl, rfl, trivial⟩ ?_
      cases H
      cases HK1
      exact ⟨_, EVle.tupL (ds := [slOf 1 rB8 ([] : List UInt8), cI y1.2]) ⟨.nil 1, .rfl' _, trivial⟩, rfl⟩
    · replace H := ifF hc H; clear hc
      refine .skip ?_
      refine .region ?_
      refine .q (q_move rfl) rfl ?_
      refine .q (q_move rfl) rfl ?_
      obtain ⟨hk2, H⟩ := ck_some H
      refine .v (x := .tsl 1 ((v4outl1 ++ y1.1).map rB8) 0) (v_appendL (l := v4outl1) (l' := y1.1) (row := rB8) Tryd.underlying32 hi5 hz5 hs5 rfl (by rw [hb5]; decide) rfl rfl rfl rfl hk2) rfl ?_
      refine .withSt (st' := ⟨[], [⟨5, 1, (v4outl1 ++ y1.1).length, none⟩]⟩) rfl ?_
      refine .q (q_assign rfl) rfl ?_
      refine .nil ?_
      refine .inBlock ?_
      refine .region ?_
      refine .q (q_move rfl) rfl ?_
      obtain ⟨hk3, H⟩ := ck_some H
      refine .q (q_addI rfl rfl hk3.1 hk3.2) rfl ?_
      refine .q (q_assign rfl) rfl ?_
      refine .nil ?_
      cases H
      exact .withSt (st' := ⟨[], [⟨5, 1, (v4outl1 ++ y1.1).length, none⟩]⟩) rfl <| .sub (.cons rfl (.rfl' _) (.cons rfl (.rfl' _) (.cons rfl (.rfl' _) (.nil)))) (ih1 (n1, (v4outl1 ++ y1.1, v5il1 + 1)) HK1 hm1)
  · replace H := ifF hc H; clear hc
    refine .exit rfl ?_
    refine .seq ?_
    refine .region ?_
    refine .q (q_move rfl) rfl ?_
    refine .q (q_assign rfl) rfl ?_
    refine .q (q_assign rfl) rfl ?_
    refine .nil ?_
    refine .retN [.tmp 2, .tmp 3] [.tsl 1 (v4outl1.map rB8) 0, .d (cI 0)] Tryd.func21 Tryd.results21 ⟨rfl, rfl, trivial⟩ ?_
    cases H
    cases HK1
    exact ⟨_, EVle.tupL (ds := [slOf 1 rB8 v4outl1, cI 0]) ⟨.tsl _ _ _, .rfl' _, trivial⟩, rfl⟩

set_option maxRecDepth 100000 in
set_option maxHeartbeats 1000000 in
theorem c_f_billingref12_Write {v0b : Batch} {r : (List UInt8) × Int} (H : f_billingref12_Write v0b = some r) : ACall Tryd.prog 11 [.agg (Batch.row v0b)] (· = .tup [slOf 1 rB8 r.1, cI r.2]) := by
  refine ACall.enter' Tryd.func11 rfl Tryd.ntmps11 rfl fun S hS => ?_
  unfold f_billingref12_Write at H
  change ARun _ _ _ _ _ _ [(0, .d (.agg (Batch.row v0b)))] _
  refine .seq ?_
  refine .region ?_
  refine .v (x := .ref 0 0) (v_box rfl rfl) rfl ?_
  refine .withSt (st' := ⟨[.row 31 [.d (cI v0b.source), .d (cI v0b.number), .d (cI v0b.format), .d (slOf 12 Record.row v0b.records)]], []⟩) rfl ?_
  refine .q (q_assign rfl) rfl ?_
  refine .q (q_assign rfl) rfl ?_
  refine .nil ?_
  refine .seq ?_
  refine .seq ?_
  refine .region ?_
  refine .q (x := .d (.agg (Batch.row v0b))) (q_loadOA one_31 sz_31 rfl rfl (Nat.le_of_ble_eq_true rfl) rfl) rfl ?_
  obtain ⟨y1, hy1, H⟩ := bind_some' H
  refine .g (x := .d (cI y1)) (g_call en_13 rfl rfl (c_f_billingref12_Check (hy1))) rfl ?_
  refine .q (q_assign rfl) rfl ?_
  refine .nil ?_
  refine .seq ?_
  refine .region ?_
  refine .q (q_move rfl) rfl ?_
  refine .q (q_neq rfl rfl) rfl ?_
  refine .nil ?_
  refine .cond rfl (fun hc => ?_) (fun hc => ?_)
  · replace H := ifT hc H; clear hc
    refine .seq ?_
    refine .region ?_
    refine .q (q_move rfl) rfl ?_
    refine .q (q_assign rfl) rfl ?_
    refine .q (q_assign rfl) rfl ?_
    refine .nil ?_
    refine .retN [.tmp 2, .tmp 3] [.d (nilD), .d (cI y1)] Tryd.func11 Tryd.results11 ⟨rfl, rfl, trivial⟩ ?_
    cases H
    exact ⟨_, EVle.tupL (ds := [slOf 1 rB8 ([] : List UInt8), cI y1]) ⟨.nil 1, .rfl' _, trivial⟩, rfl⟩
  · replace H := ifF hc H; clear hc
    refine .skip ?_
    refine .seq ?_
    refine .region ?_
    refine .q (x := .d (.agg (Batch.row v0b))) (q_loadOA one_31 sz_31 rfl rfl (Nat.le_of_ble_eq_true rfl) rfl) rfl ?_
    obtain ⟨y2, hy2, H⟩ := bind_some' H
    refine .g (x := .d (slOf 1 (rSl 1 rB8) y2)) (g_call en_22 rfl rfl (c_f_billingref12_Payloads (hy2))) rfl ?_
    obtain ⟨y3, hy3, H⟩ := bind_some' H
    refine .g (x := .d (.tup [slOf 1 rB8 y3.1, cI y3.2])) (g_call en_21 rfl rfl (c_f_billingref08_Join (hy3))) rfl ?_
    refine .q (q_extract rfl rfl) rfl ?_
    refine .q (q_extract rfl rfl) rfl ?_
    refine .q (q_assign rfl) rfl ?_
    refine .q (q_assign rfl) rfl ?_
    refine .nil ?_
    refine .retN [.tmp 2, .tmp 3] [.d (slOf 1 rB8 y3.1), .d (cI y3.2)] Tryd.func11 Tryd.results11 ⟨rfl, rfl, trivial⟩ ?_
    cases H
    exact ⟨_, EVle.tupL (ds := [slOf 1 rB8 y3.1, cI y3.2]) ⟨.rfl' _, .rfl' _, trivial⟩, rfl⟩

set_option maxRecDepth 100000 in
set_option maxHeartbeats 1000000 in
theorem c_f_billinglaw12_BatchWrites {v0b : Batch} {r : Bool} (H : f_billinglaw12_BatchWrites v0b = some r) : ACall Tryd.prog 4 [.agg (Batch.row v0b)] (· = cB r) := by
  refine ACall.enter' Tryd.func4 rfl Tryd.ntmps4 rfl fun S hS => ?_
  unfold f_billinglaw12_BatchWrites at H
  change ARun _ _ _ _ _ _ [(0, .d (.agg (Batch.row v0b)))] _
  refine .seq ?_
  refine .region ?_
  refine .v (x := .ref 0 0) (v_box rfl rfl) rfl ?_
  refine .withSt (st' := ⟨[.row 31 [.d (cI v0b.source), .d (cI v0b.number), .d (cI v0b.format), .d (slOf 12 Record.row v0b.records)]], []⟩) rfl ?_
  refine .q (q_assign rfl) rfl ?_
  refine .nil ?_
  refine .seq ?_
  refine .seq ?_
  refine .region ?_
  refine .q (q_fieldRef fo_31_3 rfl) rfl ?_
  refine .q (x := .d (slOf 12 Record.row v0b.records)) (q_loadO one_22 rfl rfl rfl) rfl ?_
  obtain ⟨y1, hy1, H⟩ := bind_some' H
  refine .g (x := .d (cB y1)) (g_call en_6 rfl rfl (c_f_billinglaw12_few (hy1))) rfl ?_
  refine .q (q_not rfl) rfl ?_
  refine .nil ?_
  refine .cond rfl (fun hc => ?_) (fun hc => ?_)
  · replace H := ifT hc H; clear hc
    refine .seq ?_
    refine .region ?_
    obtain ⟨y2, hy2, H⟩ := bind_some' H
    refine .g (x := .d (cB y2)) (g_call en_7 rfl rfl (c_f_billinglaw12_awake (hy2))) rfl ?_
    refine .q (q_assign rfl) rfl ?_
    refine .nil ?_
    refine .retN [.tmp 2] [.d (cB y2)] Tryd.func4 Tryd.results4 ⟨rfl, trivial⟩ ?_
    cases H
    exact ⟨_, .rfl' _, rfl⟩
  · replace H := ifF hc H; clear hc
    refine .skip ?_
    refine .seq ?_
    refine .region ?_
    refine .q (x := .d (.agg (Batch.row v0b))) (q_loadOA one_31 sz_31 rfl rfl (Nat.le_of_ble_eq_true rfl) rfl) rfl ?_
    obtain ⟨y3, hy3, H⟩ := bind_some' H
    refine .g (x := .d (.tup [slOf 1 rB8 y3.1, cI y3.2])) (g_call en_10 rfl rfl (c_f_batch_Write (hy3))) rfl ?_
    refine .q (q_move rfl) rfl ?_
    refine .q (q_extract rfl rfl) rfl ?_
    refine .q (q_extract rfl rfl) rfl ?_
    refine .q (q_assign rfl) rfl ?_
    refine .q (q_assign rfl) rfl ?_
    refine .nil ?_
    refine .seq ?_
    refine .region ?_
    refine .q (x := .d (.agg (Batch.row v0b))) (q_loadOA one_31 sz_31 rfl rfl (Nat.le_of_ble_eq_true rfl) rfl) rfl ?_
    obtain ⟨y4, hy4, H⟩ := bind_some' H
    refine .g (x := .d (.tup [slOf 1 rB8 y4.1, cI y4.2])) (g_call en_11 rfl rfl (c_f_billingref12_Write (hy4))) rfl ?_
    refine .q (q_move rfl) rfl ?_
    refine .q (q_extract rfl rfl) rfl ?_
    refine .q (q_extract rfl rfl) rfl ?_
    refine .q (q_assign rfl) rfl ?_
    refine .q (q_assign rfl) rfl ?_
    refine .nil ?_
    refine .seq ?_
    refine .drawn 21 hMix (by kernel_rfl) ?_
    show DOps _ _ _ _ _ _ _ (_ :: _) _ _ _
    refine .q (x := .d (.agg (Batch.row v0b))) (q_loadOA one_31 sz_31 rfl rfl (Nat.le_of_ble_eq_true rfl) rfl) rfl ?_
    obtain ⟨y5, hy5, H⟩ := bind_some' H
    refine .g (x := .d (cI y5)) (g_call en_12 rfl rfl (c_f_batch_Check (hy5))) rfl ?_
    refine .q (x := .d (.agg (Batch.row v0b))) (q_loadOA one_31 sz_31 rfl rfl (Nat.le_of_ble_eq_true rfl) rfl) rfl ?_
    obtain ⟨y6, hy6, H⟩ := bind_some' H
    refine .g (x := .d (cI y6)) (g_call en_13 rfl rfl (c_f_billingref12_Check (hy6))) rfl ?_
    refine .q (q_eql rfl rfl) rfl ?_
    refine .q (q_move rfl) rfl ?_
    refine .guardG (env' := [(3, _)]) rfl rfl rfl ⟨.inl rfl, trivial⟩ rfl (fun hg => OpQ.g (q_move rfl)) ?_
    refine .guardG (b := (y5 == y6)) (x := .d (cS y3.1)) (env' := [(28, _)]) rfl rfl rfl ⟨.inr (.inl rfl), trivial⟩ rfl (fun hg => OpQ.g (q_bytesStrL (a := y3.1) Tryd.underlying32 Tryd.underlying5 Tryd.underlying9 rfl rfl)) ?_
    refine .guardG (env' := [(5, _)]) rfl rfl rfl ⟨.inl rfl, trivial⟩ rfl (fun hg => OpQ.g (q_move rfl)) ?_
    refine .guardG (b := (y5 == y6)) (x := .d (cS y4.1)) (env' := [(30, _)]) rfl rfl rfl ⟨.inr (.inl rfl), trivial⟩ rfl (fun hg => OpQ.g (q_bytesStrL (a := y4.1) Tryd.underlying32 Tryd.underlying5 Tryd.underlying9 rfl rfl)) ?_
    refine .guardG (env' := [(29, _), (31, _)]) rfl rfl rfl ⟨.inr (.inl rfl), ⟨.inr (.inl rfl), trivial⟩⟩ rfl (fun hg => OpQ.g (q_seql rfl rfl)) ?_
    refine .q (q_pickAndB rfl rfl rfl) rfl ?_
    refine .q (q_move rfl) rfl ?_
    refine .guardG (env' := [(4, _)]) rfl rfl rfl ⟨.inl rfl, trivial⟩ rfl (fun hg => OpQ.g (q_move rfl)) ?_
    refine .guardG (env' := [(6, _)]) rfl rfl rfl ⟨.inl rfl, trivial⟩ rfl (fun hg => OpQ.g (q_move rfl)) ?_
    refine .guardG (env' := [(35, _), (36, _)]) rfl rfl rfl ⟨.inr (.inl rfl), ⟨.inr (.inl rfl), trivial⟩⟩ rfl (fun hg => OpQ.g (q_eql rfl rfl)) ?_
    refine .q (q_pickAndB rfl rfl rfl) rfl ?_
    refine .q (q_move rfl) rfl ?_
    obtain ⟨y7, hy7, H⟩ := bind_some' H
    refine .guardG (b := (((y5 == y6) && (y3.1 == y4.1)) && (y3.2 == y4.2))) (x := .d (cB y7)) (env' := []) rfl rfl rfl trivial rfl (fun hg => (g_call en_7 rfl rfl (c_f_billinglaw12_awake (gcall_some hy7 hg)))) ?_
    refine .q (q_pickAndB rfl rfl rfl) rfl ?_
    refine .q (q_assign rfl) rfl ?_
    refine .nil ?_
    show AOps _ _ _ _ _ _ [] _ _ _
    refine .nil ?_
    refine .retN [.tmp 2] [.d (cB ((((y5 == y6) && (y3.1 == y4.1)) && (y3.2 == y4.2)) && y7))] Tryd.func4 Tryd.results4 ⟨rfl, trivial⟩ ?_
    cases H
    exact ⟨_, .rfl' _, rfl⟩

end Go.Proofs.YtccmaffefdcikaaDoor

set_option linter.unusedSimpArgs false
set_option linter.unusedVariables false
namespace Go.Proofs.YtccmaffefdcikaaDoor
open Go.RowKit Go.Abs
theorem gcall_mk {α : Type} [Inhabited α] {b : Bool} {x : α} : gcall b (some x) = some (if b = true then x else default) := by
  unfold gcall; split <;> rfl
/-- A loop over a list that stops at the first element that is not as wanted. -/
theorem loop_all {α R : Type} [Inhabited α] {step : Int → Option (Int ⊕ R)} (l : List α) (p : α → Bool) (fin bad : R) (hl : l.length < 18446744073709551616)
    (h1 : ∀ i : Int, 0 ≤ i → i < (l.length : Int) → step i = some (if p (nth l i.toNat) = true then .inl (i + 1) else .inr bad)) (h2 : ∀ i : Int, i = (l.length : Int) → step i = some (.inr fin)) : loop step 0 = some (if l.all p = true then fin else bad) := by
  have := loop_spec (step := step) (fun i : Int => some (if (l.drop i.toNat).all p = true then fin else bad)) (fun i => 0 ≤ i ∧ i ≤ (l.length : Int)) (fun i => ((l.length : Int) - i).toNat) (fun i hI => by
    by_cases hi : i < (l.length : Int)
    · have hd := drop_nth (l := l) (k := i.toNat) (by omega)
      rw [h1 i hI.1 hi]
      by_cases hp : p (nth l i.toNat) = true
      · rw [if_pos hp]
        refine .inr ⟨i + 1, rfl, ⟨by omega, by omega⟩, by omega, ?_⟩
        rw [show (i + 1).toNat = i.toNat + 1 from by omega, hd]
        simp [hp]
      · rw [if_neg hp]
        refine .inl ⟨bad, rfl, ?_⟩
        rw [hd]
        simp [hp]
    · have : i = (l.length : Int) := by omega
      refine .inl ⟨fin, h2 i this, ?_⟩
      rw [List.drop_of_length_le (by omega)]
      simp) (s := 0) ⟨by omega, by omega⟩ (by omega)
  simpa using this

def isDig (c : UInt8) : Bool := decide (48 ≤ c) && decide (c ≤ 57)
def validB (s : List UInt8) : Bool := s.all isDig && decide (1 ≤ s.length) && decide (s.length ≤ 15)
theorem p_Valid (s : List UInt8) (hl : s.length < 1000000000) : f_digits_Valid s = some (validB s) := by
  unfold f_digits_Valid
  rw [loop_all s isDig (decide ((s.length : Int) ≥ 1) && decide ((s.length : Int) ≤ 15)) false (by omega) (fun i h0 h1 => ?_) (fun i hi => ?_)]
  · unfold validB
    cases s.all isDig <;> simp
    rw [Bool.eq_iff_iff]; simp; omega
  · unfold f_digits_Valid_l1 f_digits_digit
    rw [if_pos (by simpa using h1), ck_pos (by omega)]
    simp only [Option.bind_some]
    rw [ck_pos (by omega)]
    unfold isDig
    simp only [ge_iff_le]
    cases decide (48 ≤ nth s i.toNat) <;> cases decide (nth s i.toNat ≤ 57) <;> rfl
  · unfold f_digits_Valid_l1 f_digits_Valid_j1
    rw [if_neg (by simp; omega)]
    rfl
theorem p_rValid (s : List UInt8) (hl : s.length < 1000000000) : f_billingref02_Valid s = some (validB s) := by
  unfold f_billingref02_Valid
  rw [loop_all s isDig (decide ((s.length : Int) ≥ 1) && decide ((s.length : Int) ≤ 15)) false (by omega) (fun i h0 h1 => ?_) (fun i hi => ?_)]
  · unfold validB
    cases s.all isDig <;> simp
    rw [Bool.eq_iff_iff]; simp; omega
  · unfold f_billingref02_Valid_l1
    rw [if_pos (by simpa using h1), ck_pos (by omega), ck_pos (by omega), ck_pos (by omega)]
    unfold isDig
    have e1 : decide (nth s i.toNat < 48) = !decide (48 ≤ nth s i.toNat) := by rw [← decide_not]; simp
    have e2 : decide (nth s i.toNat > 57) = !decide (nth s i.toNat ≤ 57) := by rw [← decide_not]; simp
    rw [e1, e2]
    cases decide (48 ≤ nth s i.toNat) <;> cases decide (nth s i.toNat ≤ 57) <;> rfl
  · unfold f_billingref02_Valid_l1 f_billingref02_Valid_j1
    rw [if_neg (by simp; omega)]
    rfl

def errF (r : Record) : Int :=
  if ¬(1 ≤ r.source ∧ r.source ≤ 99 ∧ 1 ≤ r.serial ∧ r.serial ≤ 999999999) then 6
  else if ¬(1 ≤ r.kind ∧ r.kind ≤ 4) then 7
  else if validB r.a = false ∨ (validB r.b = false ∧ ¬((r.kind = 3 ∨ r.kind = 4) ∧ r.b = [])) then 12
  else if ¬(0 ≤ r.start ∧ r.start ≤ 12622780799) then 15
  else if ¬(0 ≤ r.units ∧ r.units ≤ 1099511627776) ∨ (r.kind = 1 ∧ r.units > 604800) then 6
  else if r.kind = 1 ∧ r.start + r.units > 12622780800 then 15
  else if ¬(0 ≤ r.call ∧ r.call ≤ 999999999 ∧ 0 ≤ r.part ∧ r.part ≤ 99) then 6
  else if ¬(r.part = 0 ↔ r.call = 0) ∨ (r.last = true ∧ r.part = 0) then 8
  else if ¬(0 ≤ r.trunk ∧ r.trunk ≤ 999) then 6
  else if r.inbound = true ∧ r.trunk = 0 then 8
  else 0
theorem ite_same {α : Type} {b : Bool} {p : Prop} [Decidable p] {x y x' y' : α} (h : b = true ↔ p) (hx : p → x = x') (hy : ¬p → y = y') : (if b = true then x else y) = if p then x' else y' := by
  by_cases hp : p
  · rw [if_pos hp, if_pos (h.2 hp), hx hp]
  · rw [if_neg hp, if_neg (fun hb => hp (h.1 hb)), hy hp]
theorem ite_some {α : Type} {p : Prop} [Decidable p] {x y : α} : (if p then some x else some y) = some (if p then x else y) := by split <;> rfl
theorem p_check (r : Record) (ha : r.a.length < 1000000000) (hb : r.b.length < 1000000000) : f_textual_check r = some (errF r) := by
  have key : ∀ m, (m = 1099511627776 ∧ r.kind ≠ 1) ∨ (m = 604800 ∧ r.kind = 1) → f_textual_check_j1 r m = some (errF r) := by
    intro m hm
    unfold f_textual_check_j1 errF
    simp only [f_textual_within, p_Valid _ ha, p_Valid _ hb, Option.bind_some, gcall_mk]
    simp only [← ite_some]
    refine ite_same (by simp; grind) (fun _ => rfl) (fun h1 => ?_)
    refine ite_same (by simp; grind) (fun _ => rfl) (fun h2 => ?_)
    refine ite_same (by simp; grind) (fun _ => rfl) (fun h3 => ?_)
    refine ite_same (by simp; grind) (fun _ => rfl) (fun h4 => ?_)
    refine ite_same (by simp; grind) (fun _ => rfl) (fun h5 => ?_)
    rw [ck_pos (by omega)]
    refine ite_same (by simp) (fun _ => rfl) (fun h6 => ?_)
    refine ite_same (by simp; grind) (fun _ => rfl) (fun h7 => ?_)
    refine ite_same (by simp; grind) (fun _ => rfl) (fun h8 => ?_)
    refine ite_same (by simp; grind) (fun _ => rfl) (fun h9 => ?_)
    refine ite_same (by simp) (fun _ => rfl) (fun h10 => rfl)
  unfold f_textual_check
  split
  · rename_i h
    exact key _ (.inr ⟨rfl, by simpa using h⟩)
  · rename_i h
    exact key _ (.inl ⟨rfl, by simpa using h⟩)
theorem p_rError (r : Record) (ha : r.a.length < 1000000000) (hb : r.b.length < 1000000000) : f_billingref09_Error r = some (errF r) := by
  unfold f_billingref09_Error errF
  simp only [f_billingref09_in, p_rValid _ ha, p_rValid _ hb, Option.bind_some, gcall_mk]
  simp only [← ite_some]
  refine ite_same (by simp; grind) (fun _ => rfl) (fun h1 => ?_)
  refine ite_same (by simp; grind) (fun _ => rfl) (fun h2 => ?_)
  by_cases hva : validB r.a = true
  · rw [if_neg (by simp [hva])]
    refine ite_same (by simp [hva]; grind) (fun _ => rfl) (fun h3 => ?_)
    refine ite_same (by simp; grind) (fun _ => rfl) (fun h4 => ?_)
    refine ite_same (by simp; grind) (fun _ => rfl) (fun h5 => ?_)
    rw [ck_pos (by omega)]
    refine ite_same (by simp) (fun _ => rfl) (fun h6 => ?_)
    refine ite_same (by simp; grind) (fun _ => rfl) (fun h7 => ?_)
    refine ite_same (by simp; grind) (fun _ => rfl) (fun h8 => ?_)
    refine ite_same (by simp; grind) (fun _ => rfl) (fun h9 => ?_)
    refine ite_same (by simp) (fun _ => rfl) (fun h10 => rfl)
  · rw [if_pos (by simp [hva]), if_pos (by simp [hva])]
structure Good (r : Record) : Prop where
  source : 1 ≤ r.source ∧ r.source ≤ 99
  serial : 1 ≤ r.serial ∧ r.serial ≤ 999999999
  kind : 1 ≤ r.kind ∧ r.kind ≤ 4
  a : validB r.a = true
  b : validB r.b = true ∨ (r.kind = 3 ∨ r.kind = 4) ∧ r.b = []
  start : 0 ≤ r.start ∧ r.start ≤ 12622780799
  units : 0 ≤ r.units ∧ r.units ≤ 1099511627776
  call : 0 ≤ r.call ∧ r.call ≤ 999999999
  part : 0 ≤ r.part ∧ r.part ≤ 99
  trunk : 0 ≤ r.trunk ∧ r.trunk ≤ 999
theorem errF_good {r : Record} (h : errF r = 0) : Good r := by
  unfold errF at h
  split at h; · cases h
  split at h; · cases h
  split at h; · cases h
  split at h; · cases h
  split at h; · cases h
  split at h; · cases h
  split at h; · cases h
  split at h; · cases h
  split at h; · cases h
  split at h; · cases h
  rename_i h1 h2 h3 h4 h5 h6 h7 h8 h9 h10
  refine ⟨by omega, by omega, by omega, ?_, ?_, by omega, by omega, by omega, by omega, by omega⟩
  · cases hv : validB r.a with
    | true => rfl
    | false => exact absurd (.inl hv) h3
  · cases hv : validB r.b with
    | true => exact .inl rfl
    | false =>
      right
      by_cases hh : (r.kind = 3 ∨ r.kind = 4) ∧ r.b = []
      · exact hh
      · exact absurd (.inr ⟨hv, hh⟩) h3
theorem validB_len {s : List UInt8} (h : validB s = true) : s.length ≤ 15 := by
  unfold validB at h
  simp at h
  exact h.2
/-- The words of a line. -/
def headF (r : Record) : List (List UInt8) := [(([118, 116, 100, 99] : List UInt8).take r.kind.toNat).drop (r.kind - 1).toNat, Go.Lib.itoa r.source, Go.Lib.itoa r.serial, r.a, if r.b = [] then [45] else r.b, Go.Lib.itoa r.start, Go.Lib.itoa r.units]
def partF (r : Record) : List (List UInt8) := if r.part = 0 then [] else [[112, 97, 114, 116], Go.Lib.itoa r.call, Go.Lib.itoa r.part] ++ if r.last = true then [[108, 97, 115, 116]] else []
def trunkF (r : Record) : List (List UInt8) := if r.trunk = 0 then [] else [if r.inbound = true then [105, 110] else [111, 117, 116], Go.Lib.itoa r.trunk]
def wordsF (r : Record) : List (List UInt8) := headF r ++ partF r ++ trunkF r
def lineF (r : Record) : List UInt8 := Go.Lib.join (wordsF r) [32]
theorem join_len (sep : List UInt8) (xs : List (List UInt8)) (m : Nat) (h : ∀ x, x ∈ xs → x.length ≤ m) : (Go.Lib.join xs sep).length ≤ xs.length * (m + sep.length) := by
  cases xs with
  | nil => simp [Go.Lib.join]
  | cons x r =>
    rw [Go.Lib.join_cons]
    have h1 : ∀ (r : List (List UInt8)), (∀ x, x ∈ r → x.length ≤ m) → (Go.Lib.joinTail sep r).length ≤ r.length * (m + sep.length) := by
      intro r
      induction r with
      | nil => simp [Go.Lib.joinTail]
      | cons y r ih =>
        intro hr
        have := ih fun z hz => hr z (List.mem_cons_of_mem _ hz)
        have h2 := hr y List.mem_cons_self
        simp only [Go.Lib.joinTail, List.map_cons, List.flatten_cons, List.length_append, List.length_cons, Nat.add_mul] at *
        omega
    have h3 := h1 r fun z hz => h z (List.mem_cons_of_mem _ hz)
    have h4 := h x List.mem_cons_self
    simp only [List.length_append, List.length_cons, Nat.add_mul] at *
    omega
theorem itoa_le {n : Int} (h0 : 0 ≤ n) (h1 : n ≤ 9223372036854775807) : (Go.Lib.itoa n).length ≤ 21 := Go.Lib.itoa_length_le n (by omega) h1
theorem words_le {r : Record} (g : Good r) : (wordsF r).length ≤ 13 ∧ ∀ x, x ∈ wordsF r → x.length ≤ 21 := by
  have ha := validB_len g.a
  have hb : r.b.length ≤ 15 := by
    rcases g.b with h | h
    · exact validB_len h
    · rw [h.2]; simp
  obtain ⟨gs, ge, gk, _, _, gst, gu, gc, gp, gt⟩ := g
  refine ⟨?_, fun x hx => ?_⟩
  · have h1 : (partF r).length ≤ 4 := by unfold partF; split; simp; split <;> simp
    have h2 : (trunkF r).length ≤ 2 := by unfold trunkF; split <;> simp
    have h3 : (headF r).length = 7 := rfl
    simp only [wordsF, List.length_append]; omega
  · unfold wordsF at hx
    rcases List.mem_append.1 hx with hx | hx
    · rcases List.mem_append.1 hx with hx | hx
      · unfold headF at hx
        simp only [List.mem_cons, List.not_mem_nil, or_false] at hx
        rcases hx with rfl | rfl | rfl | rfl | rfl | rfl | rfl
        · simp; omega
        · exact itoa_le (by omega) (by omega)
        · exact itoa_le (by omega) (by omega)
        · omega
        · split
          · simp
          · omega
        · exact itoa_le (by omega) (by omega)
        · exact itoa_le (by omega) (by omega)
      · unfold partF at hx
        split at hx
        · cases hx
        · rcases List.mem_append.1 hx with hx | hx
          · simp only [List.mem_cons, List.not_mem_nil, or_false] at hx
            rcases hx with rfl | rfl | rfl
            · simp
            · exact itoa_le (by omega) (by omega)
            · exact itoa_le (by omega) (by omega)
          · split at hx
            · simp only [List.mem_cons, List.not_mem_nil, or_false] at hx
              subst hx; simp
            · cases hx
    · unfold trunkF at hx
      split at hx
      · cases hx
      · simp only [List.mem_cons, List.not_mem_nil, or_false] at hx
        rcases hx with rfl | rfl
        · split <;> simp
        · exact itoa_le (by omega) (by omega)
theorem p_Itoa {n : Int} (h0 : 0 ≤ n) (h1 : n ≤ 9223372036854775807) : x_Itoa n = some (Go.Lib.itoa n) := by
  unfold x_Itoa; rw [ck_pos (by omega)]
theorem p_Encode_ok (r : Record) (h : errF r = 0) : f_textual_Encode r = some (lineF r, 0) := by
  have g := errF_good h
  have ha := validB_len g.a
  have hb : r.b.length ≤ 15 := by
    rcases g.b with h | h
    · exact validB_len h
    · rw [h.2]; simp
  have hj3 : ∀ ws, ws = wordsF r → f_textual_Encode_j3 ws = some (lineF r, 0) := by
    rintro ws rfl
    unfold f_textual_Encode_j3 x_Join
    obtain ⟨w1, w2⟩ := words_le g
    have := join_len [32] (wordsF r) 21 w2
    simp only [List.length_cons, List.length_nil] at this
    have h3 : (wordsF r).length * 22 ≤ 13 * 22 := Nat.mul_le_mul_right _ w1
    rw [ck_pos ⟨by omega, by omega⟩]
    rfl
  have hj2 : ∀ ws, ws = headF r ++ partF r → ws.length ≤ 11 → f_textual_Encode_j2 r ws = some (lineF r, 0) := by
    intro ws hw hl
    unfold f_textual_Encode_j2
    by_cases ht : r.trunk = 0
    · rw [if_neg (by simp [ht])]
      exact hj3 _ (by rw [hw, wordsF, trunkF, if_pos ht]; simp)
    · rw [if_pos (by simp [ht])]
      unfold f_textual_Encode_j4
      rw [p_Itoa g.trunk.1 (by have := g.trunk.2; omega)]
      simp only [Option.bind_some]
      split
      · rename_i hi
        rw [ck_pos (by simp; omega)]
        exact hj3 _ (by rw [hw, wordsF, trunkF, if_neg ht, if_pos hi])
      · rename_i hi
        rw [ck_pos (by simp; omega)]
        exact hj3 _ (by rw [hw, wordsF, trunkF, if_neg ht, if_neg hi])
  have hj1 : ∀ b, b = (if r.b = [] then [45] else r.b) → f_textual_Encode_j1 r b = some (lineF r, 0) := by
    rintro b rfl
    unfold f_textual_Encode_j1
    have gk := g.kind
    rw [ck_pos (by omega), ck_pos (by simp; omega), p_Itoa (by have := g.source; omega) (by have := g.source; omega), p_Itoa (by have := g.serial; omega) (by have := g.serial; omega), p_Itoa g.start.1 (by have := g.start; omega), p_Itoa g.units.1 (by have := g.units; omega)]
    simp only [Option.bind_some]
    by_cases hp : r.part = 0
    · rw [if_neg (by simp [hp])]
      exact hj2 _ (by rw [partF, if_pos hp]; simp [headF]) (by simp)
    · rw [if_pos (by simp [hp]), p_Itoa g.call.1 (by have := g.call; omega), p_Itoa g.part.1 (by have := g.part; omega)]
      simp only [Option.bind_some]
      rw [ck_pos (by simp)]
      split
      · rename_i hl
        rw [ck_pos (by simp)]
        exact hj2 _ (by rw [partF, if_neg hp, if_pos hl]; simp [headF]) (by simp)
      · rename_i hl
        exact hj2 _ (by rw [partF, if_neg hp, if_neg hl]; simp [headF]) (by simp)
  unfold f_textual_Encode
  rw [p_check r (by omega) (by omega), h]
  simp only [Option.bind_some]
  rw [if_neg (by simp)]
  split
  · rename_i hb0
    exact hj1 _ (by rw [if_pos (by simpa using hb0)])
  · rename_i hb0
    exact hj1 _ (by rw [if_neg (by simpa using hb0)])
theorem p_Encode (r : Record) (ha : r.a.length < 1000000000) (hb : r.b.length < 1000000000) : f_textual_Encode r = some (if errF r = 0 then lineF r else [], errF r) := by
  by_cases h : errF r = 0
  · rw [p_Encode_ok r h, if_pos h, h]
  · unfold f_textual_Encode
    rw [p_check r ha hb, if_neg h]
    simp only [Option.bind_some]
    rw [if_pos (by simpa using h)]
end Go.Proofs.YtccmaffefdcikaaDoor

set_option linter.unusedSimpArgs false
set_option linter.unusedVariables false
namespace Go.Proofs.YtccmaffefdcikaaDoor
open Go.RowKit Go.Abs
def pk (n : Int) : UInt8 := UInt8.ofInt (n / 10 % 10 * 16 + n % 10)
def packF : Nat → Int → List UInt8
  | 0, _ => []
  | k + 1, n => pk (n / 100 ^ k) :: packF k n
theorem packF_len : ∀ (k : Nat) (n : Int), (packF k n).length = k
  | 0, _ => rfl
  | k + 1, n => by simp [packF, packF_len k n]
def putF (b : List UInt8) (n size : Int) : List UInt8 × Int :=
  if size < 1 ∨ size > 9 ∨ n < 0 then ([], 6) else if n / 100 ^ size.toNat > 0 then ([], 6) else (b ++ packF size.toNat n, 0)
theorem tdiv_nn {n m : Int} (h : 0 ≤ n) : Int.tdiv n m = n / m := Int.tdiv_eq_ediv_of_nonneg h
theorem tmod_nn {n m : Int} (h : 0 ≤ n) : Int.tmod n m = n % m := Int.tmod_eq_emod_of_nonneg h
theorem or_tab : ∀ x y : Fin 10, bOr .i64 ((x.val : Int) * 2 ^ 4) (y.val : Int) = (x.val : Int) * 16 + (y.val : Int) := by decide +kernel
theorem or_dig {x y : Int} (hx : 0 ≤ x ∧ x < 10) (hy : 0 ≤ y ∧ y < 10) : bOr .i64 (x * 2 ^ (Int.toNat 4)) y = x * 16 + y := by
  have := or_tab ⟨x.toNat, by omega⟩ ⟨y.toNat, by omega⟩
  simpa [Int.toNat_of_nonneg hx.1, Int.toNat_of_nonneg hy.1] using this
theorem pow100_succ (k : Nat) : (100 : Int) ^ (k + 1) = 100 ^ k * 100 := by rw [Int.pow_succ]
theorem pow100_pos (k : Nat) : (0 : Int) < 100 ^ k := Int.pow_pos (by decide)
theorem div_pow {n : Int} (k : Nat) : n / 100 ^ k / 100 = n / 100 ^ (k + 1) := by
  rw [pow100_succ, Int.ediv_ediv_of_nonneg (Int.le_of_lt (pow100_pos k))]
theorem div_pow_nn {n : Int} (h : 0 ≤ n) (k : Nat) : 0 ≤ n / 100 ^ k := Int.ediv_nonneg h (Int.le_of_lt (pow100_pos k))
theorem div_pow_le {n : Int} (h : 0 ≤ n) (k : Nat) : n / 100 ^ k ≤ n := Int.ediv_le_self _ h
/-- The zeros that are written over from behind. -/
theorem set_last (b t : List UInt8) (m : Nat) (x : UInt8) : ((b ++ List.replicate (m + 1) 0) ++ t).set (b.length + m) x = (b ++ List.replicate m 0) ++ (x :: t) := by
  rw [List.replicate_succ', ← List.append_assoc, List.append_assoc (b ++ List.replicate m 0), List.set_append_right _ _ (by simp)]
  simp
theorem p_PutDecimal (b : List UInt8) (n size : Int) (hb : b.length ≤ 100000000) (hn : n ≤ 9223372036854775807) : f_packed_PutDecimal b n size = some (putF b n size) := by
  unfold f_packed_PutDecimal putF
  by_cases h : size < 1 ∨ size > 9 ∨ n < 0
  · rw [if_pos (by simpa [or_assoc] using h), if_pos h]
  · rw [if_neg (by simpa [or_assoc] using h), if_neg h]
    have h1 : 1 ≤ size ∧ size ≤ 9 ∧ 0 ≤ n := by omega
    obtain ⟨k, rfl⟩ : ∃ k : Nat, size = k := ⟨size.toNat, by omega⟩
    have e0 : Int.toNat ((b.length : Int) + (k : Int)) = b.length + k := by omega
    have e1 : b.take (min b.length (List.replicate (Int.toNat ((b.length : Int) + (k : Int))) 0 : List UInt8).length) ++ (List.replicate (Int.toNat ((b.length : Int) + (k : Int))) 0 : List UInt8).drop (min b.length (List.replicate (Int.toNat ((b.length : Int) + (k : Int))) 0 : List UInt8).length) = b ++ List.replicate k 0 := by
      rw [e0, List.length_replicate, Nat.min_eq_left (by omega), List.take_length, List.drop_replicate]
      congr 2; omega
    rw [e1, ck_pos (by omega), ck_pos (by omega), ck_pos (by simp; omega)]
    have := loop_post (step := fun s => f_packed_PutDecimal_l1 b s.1 s.2.1 s.2.2) (fun r => r = if n / 100 ^ (k : Int).toNat > 0 then ([], 6) else (b ++ packF (k : Int).toNat n, 0))
      (fun s : List UInt8 × Int × Int => ∃ j, j ≤ k ∧ s = ((b ++ List.replicate (k - j) 0) ++ packF j n, n / 100 ^ j, ((b.length + k - j : Nat) : Int) - 1)) (fun s => (s.2.2 + 1).toNat) (fun s hI => by
        obtain ⟨j, hj, rfl⟩ := hI
        simp only []
        have hnn := div_pow_nn h1.2.2 j
        have hle := div_pow_le h1.2.2 j
        unfold f_packed_PutDecimal_l1
        by_cases hjk : j = k
        · subst hjk
          rw [if_neg (by simp; omega)]
          refine .inl ⟨_, ?_, rfl⟩
          unfold f_packed_PutDecimal_j1
          simp only [Nat.sub_self, List.replicate_zero, List.append_nil, Int.toNat_natCast]
          by_cases hp : n / 100 ^ j > 0
          · rw [if_pos (by simpa using hp), if_pos hp]; rfl
          · rw [if_neg (by simpa using hp), if_neg hp]; rfl
        · obtain ⟨m, hm⟩ : ∃ m, k - j = m + 1 := ⟨k - j - 1, by omega⟩
          rw [if_pos (by simp; omega)]
          generalize hq : n / 100 ^ j = q at hnn hle
          have hq10 : 0 ≤ q / 10 := by omega
          rw [tdiv_nn hnn, tdiv_nn hnn, tmod_nn hq10, tmod_nn hnn]
          have hx : 0 ≤ q / 10 % 10 ∧ q / 10 % 10 < 10 := by omega
          have e4 : (2 : Int) ^ (Int.toNat 4) = 16 := by decide
          rw [or_dig hx (by omega), e4]
          have hlen : ((b ++ List.replicate (k - j) 0) ++ packF j n).length = b.length + k := by simp [packF_len]; omega
          have ei : Int.toNat (((b.length + k - j : Nat) : Int) - 1) = b.length + m := by omega
          rw [ck_pos (by omega), ck_pos (by omega), ck_pos (by omega), ck_pos (by omega), ck_pos (by rw [hlen]; omega), ck_pos (by rw [hlen]; omega), ck_pos (by omega), ck_pos (by omega)]
          refine .inr ⟨_, rfl, ⟨j + 1, by omega, ?_⟩, ?_⟩
          · have e5 : k - (j + 1) = m := by omega
            rw [ei, hm, set_last, e5]
            refine Prod.ext ?_ (Prod.ext ?_ ?_)
            · show _ = _ ++ packF (j + 1) n
              rw [packF, hq]; rfl
            · show q / 100 = n / 100 ^ (j + 1)
              rw [← hq, div_pow]
            · simp only []; omega
          · simp only []; omega) (s := (b ++ List.replicate k 0, n, ((b ++ List.replicate k 0).length : Int) - 1)) ⟨0, by omega, by simp [packF]⟩ (by simp; omega)
    obtain ⟨r, hr, rfl⟩ := this
    exact hr
theorem p_rPutDecimal (b : List UInt8) (n size : Int) (hb : b.length ≤ 100000000) (hn : n ≤ 9223372036854775807) : f_billingref11_PutDecimal b n size = some (putF b n size) := by
  unfold f_billingref11_PutDecimal putF
  by_cases h : size < 1 ∨ size > 9 ∨ n < 0
  · rw [if_pos (by simpa [or_assoc] using h), if_pos h]
  · rw [if_neg (by simpa [or_assoc] using h), if_neg h]
    have h1 : 1 ≤ size ∧ size ≤ 9 ∧ 0 ≤ n := by omega
    obtain ⟨k, rfl⟩ : ∃ k : Nat, size = k := ⟨size.toNat, by omega⟩
    rw [ck_pos (by omega), ck_pos (by omega)]
    have := loop_post (step := fun s => f_billingref11_PutDecimal_l1 b s.1 s.2.1 s.2.2) (fun r => r = if n / 100 ^ (k : Int).toNat > 0 then ([], 6) else (b ++ packF (k : Int).toNat n, 0))
      (fun s : List UInt8 × Int × Int => ∃ j, j ≤ k ∧ s = (([] ++ List.replicate (k - j) 0) ++ packF j n, n / 100 ^ j, ((k - j : Nat) : Int) - 1)) (fun s => (s.2.2 + 1).toNat) (fun s hI => by
        obtain ⟨j, hj, rfl⟩ := hI
        simp only []
        have hnn := div_pow_nn h1.2.2 j
        have hle := div_pow_le h1.2.2 j
        unfold f_billingref11_PutDecimal_l1
        by_cases hjk : j = k
        · subst hjk
          rw [if_neg (by simp)]
          refine .inl ⟨_, ?_, rfl⟩
          unfold f_billingref11_PutDecimal_j1
          simp only [Nat.sub_self, List.replicate_zero, List.append_nil, List.nil_append, Int.toNat_natCast]
          by_cases hp : n / 100 ^ j > 0
          · rw [if_pos (by simpa using hp), if_pos hp]; rfl
          · rw [if_neg (by simpa using hp), if_neg hp, ck_pos (by simp; omega), ck_pos (by simp [packF_len]; omega)]; rfl
        · obtain ⟨m, hm⟩ : ∃ m, k - j = m + 1 := ⟨k - j - 1, by omega⟩
          rw [if_pos (by simp; omega)]
          generalize hq : n / 100 ^ j = q at hnn hle
          have hq10 : 0 ≤ q / 10 := by omega
          rw [tdiv_nn hnn, tdiv_nn hnn, tmod_nn hq10, tmod_nn hnn]
          have hx : 0 ≤ q / 10 % 10 ∧ q / 10 % 10 < 10 := by omega
          have hlen : (([] ++ List.replicate (k - j) 0) ++ packF j n).length = k := by simp [packF_len]; omega
          have ei : Int.toNat (((k - j : Nat) : Int) - 1) = ([] : List UInt8).length + m := by simp; omega
          rw [ck_pos (by omega), ck_pos (by omega), ck_pos (by omega), ck_pos (by omega), ck_pos (by omega), ck_pos (by rw [hlen]; omega), ck_pos (by rw [hlen]; omega), ck_pos (by omega), ck_pos (by omega)]
          refine .inr ⟨_, rfl, ⟨j + 1, by omega, ?_⟩, ?_⟩
          · have e5 : k - (j + 1) = m := by omega
            rw [ei, hm, set_last, e5]
            refine Prod.ext ?_ (Prod.ext ?_ ?_)
            · show _ = _ ++ packF (j + 1) n
              rw [packF, hq]; rfl
            · show q / 100 = n / 100 ^ (j + 1)
              rw [← hq, div_pow]
            · simp only []; omega
          · simp only []; omega) (s := (List.replicate (Int.toNat (k : Int)) 0, n, (k : Int) - 1)) ⟨0, by omega, by simp [packF]⟩ (by simp; omega)
    obtain ⟨r, hr, rfl⟩ := this
    exact hr
theorem u8_all {p : UInt8 → Prop} (h : ∀ n : Fin 256, p (UInt8.ofNat n.val)) (x : UInt8) : p x := by
  have := h ⟨x.toNat, x.toNat_lt⟩
  simpa using this
def decS : Int → List UInt8 → Int × Int
  | n, [] => (n, 0)
  | n, x :: xs => if 9 < x.toNat / 16 ∨ 9 < x.toNat % 16 then (0, 1) else decS (100 * n + ((x.toNat / 16 : Nat) : Int) * 10 + ((x.toNat % 16 : Nat) : Int)) xs
def decD (b : List UInt8) : Int × Int := if b.length < 1 ∨ b.length > 9 then (0, 6) else decS 0 b
/-- What has been read is small. -/
def decI (b : List UInt8) (n i : Int) : Prop := 0 ≤ i ∧ i ≤ (b.length : Int) ∧ 0 ≤ n ∧ n < 100 ^ i.toNat
end Go.Proofs.YtccmaffefdcikaaDoor

set_option linter.unusedSimpArgs false
set_option linter.unusedVariables false
namespace Go.Proofs.YtccmaffefdcikaaDoor
open Go.RowKit Go.Abs
/-- Nibble number k of a field, when the first i digits of s are in. -/
def nibI (s : List UInt8) (i k : Nat) : UInt8 := if k = 0 then UInt8.ofNat s.length else if k ≤ i then nth s (k - 1) - 48 else 0
def telI (s : List UInt8) (i : Nat) : List UInt8 := (List.range 8).map fun j => nibI s i (2 * j) * 16 + nibI s i (2 * j + 1)
def telF (s : List UInt8) : List UInt8 := telI s s.length
theorem telI_len (s : List UInt8) (i : Nat) : (telI s i).length = 8 := by simp [telI]
theorem telI_nth {s : List UInt8} {i j : Nat} (h : j < 8) : nth (telI s i) j = nibI s i (2 * j) * 16 + nibI s i (2 * j + 1) := by
  rw [nth_eq (by rw [telI_len]; exact h)]
  simp [telI]
theorem telI_next {s : List UInt8} {i : Nat} (hi : i < 15) : telI s (i + 1) = (telI s i).set ((i + 1) / 2) (nibI s (i + 1) (2 * ((i + 1) / 2)) * 16 + nibI s (i + 1) (2 * ((i + 1) / 2) + 1)) := by
  apply List.ext_getElem?
  intro j
  rw [List.getElem?_set, telI_len]
  by_cases hj : j < 8
  · by_cases e : (i + 1) / 2 = j
    · subst e
      rw [if_pos rfl, if_pos hj]
      simp [telI, hj]
    · rw [if_neg e]
      simp only [telI, List.getElem?_map, List.getElem?_range hj, Option.map_some, Option.some.injEq]
      have a : ∀ k, k ≠ i + 1 → nibI s (i + 1) k = nibI s i k := fun k hk => by
        unfold nibI
        by_cases h0 : k = 0
        · rw [if_pos h0, if_pos h0]
        · rw [if_neg h0, if_neg h0]
          by_cases h1 : k ≤ i
          · rw [if_pos h1, if_pos (by omega)]
          · rw [if_neg h1, if_neg (by omega)]
      rw [a _ (by omega), a _ (by omega)]
  · rw [List.getElem?_eq_none (by rw [telI_len]; omega)]
    rw [if_neg (by omega), List.getElem?_eq_none (by rw [telI_len]; omega)]
theorem nib_digs {s : List UInt8} (hs : s.all isDig = true) {i k : Nat} (hk : 1 ≤ k) (hi : i ≤ s.length) : (nibI s i k).toNat ≤ 9 := by
  unfold nibI
  rw [if_neg (by omega)]
  by_cases h : k ≤ i
  · rw [if_pos h]
    have hm : nth s (k - 1) ∈ s := by rw [nth_eq (by omega)]; exact List.getElem_mem _
    have := List.all_eq_true.1 hs _ hm
    simp only [isDig, Bool.and_eq_true, decide_eq_true_eq, UInt8.le_iff_toNat_le] at this
    have e : (nth s (k - 1) - 48).toNat = (nth s (k - 1)).toNat - 48 := UInt8.toNat_sub_of_le _ _ (by rw [UInt8.le_iff_toNat_le]; exact this.1)
    rw [e]
    have h2 : (nth s (k - 1)).toNat ≤ 57 := this.2
    omega
  · rw [if_neg h]; decide
theorem or_lo : ∀ x y : Fin 16, (UInt8.ofNat x.val * 16 + 0) ||| UInt8.ofNat y.val = UInt8.ofNat x.val * 16 + UInt8.ofNat y.val := by decide +kernel
theorem or_nib {x y : UInt8} (hx : x.toNat < 16) (hy : y.toNat < 16) : (x * 16 + 0) ||| y = x * 16 + y := by
  have := or_lo ⟨x.toNat, hx⟩ ⟨y.toNat, hy⟩
  simpa using this
theorem shl4 (x : UInt8) : u8shl x 4 = x * 16 := u8_all (p := fun x => u8shl x 4 = x * 16) (by decide +kernel) x
theorem len16 {n : Nat} (h : n ≤ 15) : UInt8.ofInt ((n : Int) * 16) = UInt8.ofNat n * 16 := by
  have : ∀ j : Fin 16, UInt8.ofInt ((j.val : Int) * 16) = UInt8.ofNat j.val * 16 := by decide +kernel
  exact this ⟨n, by omega⟩
theorem nib_lt {s : List UInt8} (hs : s.all isDig = true) (hl : s.length ≤ 15) {i k : Nat} (hi : i ≤ s.length) : (nibI s i k).toNat < 16 := by
  by_cases h : k = 0
  · subst h
    unfold nibI
    rw [if_pos rfl]
    simp; omega
  · have := nib_digs hs (i := i) (k := k) (by omega) hi; omega
theorem telI_zero {s : List UInt8} (hl : s.length ≤ 15) : telI s 0 = (List.replicate 8 0 : List UInt8).set 0 (UInt8.ofInt ((s.length : Int) * 16)) := by
  rw [len16 hl]
  simp [telI, nibI, List.range_succ, List.replicate]
theorem nib_new {s : List UInt8} {i : Nat} : nibI s (i + 1) (i + 1) = nth s i - 48 := by simp [nibI]
theorem nib_zero {s : List UInt8} {i k : Nat} (h : i < k) : nibI s i k = 0 := by unfold nibI; rw [if_neg (by omega), if_neg (by omega)]
theorem nib_old {s : List UInt8} {i k : Nat} (h : k ≠ i + 1) : nibI s (i + 1) k = nibI s i k := by
  unfold nibI
  by_cases h0 : k = 0
  · rw [if_pos h0, if_pos h0]
  · rw [if_neg h0, if_neg h0]
    by_cases h1 : k ≤ i
    · rw [if_pos h1, if_pos (by omega)]
    · rw [if_neg h1, if_neg (by omega)]
theorem p_putNumber (s out : List UInt8) (hs : s.all isDig = true) (hl : s.length ≤ 15) (ho : out.length ≤ 100000000) : g_packed_putNumber s out = some (out ++ telF s) := by
  unfold g_packed_putNumber
  have e4 : (2 : Int) ^ (Int.toNat 4) = 16 := by decide
  rw [e4, ck_pos (by omega), ck_pos (by decide), ck_pos (by decide), show Int.toNat 0 = 0 from rfl, ← telI_zero hl]
  have := loop_post (step := fun q => g_packed_putNumber_l1 s out q.1 q.2) (fun r => r = out ++ telF s) (fun q : Int × List UInt8 => ∃ i : Nat, i ≤ s.length ∧ q = ((i : Int), telI s i)) (fun q => ((s.length : Int) - q.1).toNat) (fun q hI => by
    obtain ⟨i, hi, rfl⟩ := hI
    simp only []
    unfold g_packed_putNumber_l1
    by_cases h : i < s.length
    · rw [if_pos (by simpa using h), ck_pos (by omega), ck_pos (by decide), tmod_nn (by omega)]
      have hlen := telI_len s i
      have hnx := telI_next (s := s) (i := i) (by omega)
      refine .inr ⟨((i : Int) + 1, telI s (i + 1)), ?_, ⟨i + 1, by omega, by simp⟩, by simp only []; omega⟩
      by_cases hp : i % 2 = 0
      · rw [if_pos (by simp; omega), tdiv_nn (by omega)]
        have ei : Int.toNat ((i : Int) / 2) = (i + 1) / 2 := by omega
        rw [ck_pos (by omega), ck_pos (by omega), ck_pos (by rw [hlen]; omega), ck_pos (by omega), ck_pos (by rw [hlen]; omega), ck_pos (by omega), ei, telI_nth (by omega), Int.toNat_natCast]
        have e1 : 2 * ((i + 1) / 2) = i := by omega
        rw [hnx, e1, nib_zero (by omega : i < i + 1), nib_new, nib_old (by omega : i ≠ i + 1), or_nib (nib_lt hs hl (by omega)) (by rw [← nib_new (i := i)]; exact nib_lt hs hl (by omega))]
      · rw [if_neg (by simp; omega), tdiv_nn (by omega)]
        have ei : Int.toNat (((i : Int) + 1) / 2) = (i + 1) / 2 := by omega
        rw [ck_pos (by omega), ck_pos (by omega), ck_pos (by decide), ck_pos (by omega), ck_pos (by rw [hlen]; omega), ck_pos (by omega), ei, Int.toNat_natCast]
        have e1 : 2 * ((i + 1) / 2) = i + 1 := by omega
        rw [hnx, e1, nib_zero (by omega : i + 1 < i + 1 + 1), nib_new, shl4]
        simp
    · have : i = s.length := by omega
      subst this
      rw [if_neg (by simp)]
      refine .inl ⟨_, ?_, rfl⟩
      unfold g_packed_putNumber_j1
      rw [ck_pos ⟨telI_len _ _, by rw [telI_len]; omega⟩]
      rfl) (s := (0, telI s 0)) ⟨0, by omega, by simp⟩ (by simp; omega)
  obtain ⟨r, hr, rfl⟩ := this
  exact hr
theorem p_digits (s : List UInt8) (hs : s.all isDig = true) (hl : s.length ≤ 15) : f_billingref11_digits s = some (telF s) := by
  unfold f_billingref11_digits
  rw [ck_pos (by decide), ck_pos (by omega), ck_pos (by decide), ck_pos (by decide), show Int.toNat 0 = 0 from rfl, show Int.toNat 8 = 8 from rfl, ← telI_zero hl]
  have := loop_post (step := fun q => f_billingref11_digits_l1 s q.1 q.2) (fun r => r = telF s) (fun q : List UInt8 × Int => ∃ i : Nat, i ≤ s.length ∧ q = (telI s i, (i : Int))) (fun q => ((s.length : Int) - q.2).toNat) (fun q hI => by
    obtain ⟨i, hi, rfl⟩ := hI
    simp only []
    unfold f_billingref11_digits_l1
    by_cases h : i < s.length
    · rw [if_pos (by simpa using h), ck_pos (by omega), ck_pos (by decide), tmod_nn (by omega)]
      have hlen := telI_len s i
      have hnx := telI_next (s := s) (i := i) (by omega)
      refine .inr ⟨(telI s (i + 1), (i : Int) + 1), ?_, ⟨i + 1, by omega, by simp⟩, by simp only []; omega⟩
      have ei : Int.toNat (((i : Int) + 1) / 2) = (i + 1) / 2 := by omega
      by_cases hp : i % 2 = 0
      · rw [if_neg (by simp; omega), tdiv_nn (by omega)]
        rw [ck_pos (by omega), ck_pos (by omega), ck_pos (by rw [hlen]; omega), ck_pos (by rw [hlen]; omega), ck_pos (by omega), ck_pos (by rw [hlen]; omega), ck_pos (by rw [hlen]; omega), ck_pos (by omega), ei, telI_nth (by omega), Int.toNat_natCast]
        have e1 : 2 * ((i + 1) / 2) = i := by omega
        rw [hnx, e1, nib_zero (by omega : i < i + 1), nib_new, nib_old (by omega : i ≠ i + 1)]
        simp
      · rw [if_pos (by simp; omega), tdiv_nn (by omega)]
        rw [ck_pos (by omega), ck_pos (by omega), ck_pos (by rw [hlen]; omega), ck_pos (by rw [hlen]; omega), ck_pos (by omega), ck_pos (by rw [hlen]; omega), ck_pos (by rw [hlen]; omega), ck_pos (by omega), ei, telI_nth (by omega), Int.toNat_natCast]
        have e1 : 2 * ((i + 1) / 2) = i + 1 := by omega
        rw [hnx, e1, nib_zero (by omega : i < i + 1 + 1), nib_zero (by omega : i + 1 < i + 1 + 1), nib_new, nib_zero (by omega : i < i + 1)]
        simp
    · have : i = s.length := by omega
      subst this
      rw [if_neg (by simp)]
      exact .inl ⟨_, rfl, rfl⟩) (s := (telI s 0, 0)) ⟨0, by omega, by simp⟩ (by simp; omega)
  obtain ⟨r, hr, rfl⟩ := this
  exact hr
def sumF (b : List UInt8) : UInt8 := b.foldl (· + ·) 0
theorem foldl_drop {b : List UInt8} {i : Nat} (n : UInt8) (h : i < b.length) : (b.drop i).foldl (· + ·) n = (b.drop (i + 1)).foldl (· + ·) (n + nth b i) := by
  rw [nth_eq h, List.drop_eq_getElem_cons h, List.foldl_cons]
theorem p_sum (b : List UInt8) (hb : b.length ≤ 1000000000) : f_packed_sum b = some (sumF b) := by
  unfold f_packed_sum
  refine loop_spec (fun s => some ((b.drop s.2.toNat).foldl (· + ·) s.1)) (fun s : UInt8 × Int => 0 ≤ s.2 ∧ s.2 ≤ (b.length : Int)) (fun s => ((b.length : Int) - s.2).toNat) (fun s hI => ?_) ⟨by omega, by omega⟩ (by simp; omega)
  obtain ⟨n, i⟩ := s
  simp only [] at hI ⊢
  unfold f_packed_sum_l1
  by_cases hi : i < (b.length : Int)
  · rw [if_pos (by simpa using hi), ck_pos ⟨hI.1, hi⟩, ck_pos (by omega)]
    refine .inr ⟨_, rfl, by simp only []; omega, by simp only []; omega, ?_⟩
    rw [foldl_drop n (by omega : i.toNat < b.length), show (i + 1).toNat = i.toNat + 1 by omega]
  · rw [if_neg (by simpa using hi)]
    refine .inl ⟨_, rfl, ?_⟩
    rw [List.drop_of_length_le (by omega)]; rfl
theorem add_mod (n : Int) (x : UInt8) (h : 0 ≤ n) : UInt8.ofInt ((n + (x.toNat : Int)) % 256) = UInt8.ofInt n + x := by
  have e1 : ∀ m : Int, 0 ≤ m → UInt8.ofInt m = UInt8.ofNat m.toNat := fun m hm => by
    apply UInt8.toNat_inj.1
    simp [UInt8.ofInt]
    omega
  rw [e1 _ (by omega), e1 n h]
  apply UInt8.toNat_inj.1
  simp only [UInt8.toNat_add, UInt8.toNat_ofNat']
  have := x.toNat_lt
  omega
theorem p_rsum (b : List UInt8) (hb : b.length ≤ 1000000000) : f_billingref11_sum b = some (sumF b) := by
  unfold f_billingref11_sum
  refine loop_spec (fun s => some ((b.drop s.2.toNat).foldl (· + ·) (UInt8.ofInt s.1))) (fun s : Int × Int => 0 ≤ s.2 ∧ s.2 ≤ (b.length : Int) ∧ 0 ≤ s.1 ∧ s.1 < 256) (fun s => ((b.length : Int) - s.2).toNat) (fun s hI => ?_) ⟨by omega, by omega, by omega, by omega⟩ (by simp; omega)
  obtain ⟨n, i⟩ := s
  simp only [] at hI ⊢
  unfold f_billingref11_sum_l1
  by_cases hi : i < (b.length : Int)
  · have hx := (nth b i.toNat).toNat_lt
    rw [if_pos (by simpa using hi), ck_pos ⟨hI.1, hi⟩, ck_pos (by omega), ck_pos (by decide), ck_pos (by omega), tmod_nn (by omega)]
    refine .inr ⟨_, rfl, ⟨by simp only []; omega, by simp only []; omega, by simp only []; omega, by simp only []; omega⟩, by simp only []; omega, ?_⟩
    rw [foldl_drop _ (by omega : i.toNat < b.length), show (i + 1).toNat = i.toNat + 1 by omega]
    simp only []
    rw [add_mod n _ hI.2.2.1]
  · rw [if_neg (by simpa using hi)]
    refine .inl ⟨_, rfl, ?_⟩
    rw [List.drop_of_length_le (by omega)]; rfl
end Go.Proofs.YtccmaffefdcikaaDoor

set_option linter.unusedSimpArgs false
set_option linter.unusedVariables false
namespace Go.Proofs.YtccmaffefdcikaaDoor
open Go.RowKit Go.Abs
def flagF (r : Record) : UInt8 := UInt8.ofInt (r.kind * 16 + ((if r.last = true then 1 else 0) + (if r.inbound = true then 2 else 0)))
def headB (r : Record) : List UInt8 := packF 1 r.source ++ packF 5 r.serial ++ [flagF r] ++ telF r.a ++ telF r.b
def bodyF (r : Record) : List UInt8 := headB r ++ packF 6 r.start ++ packF 7 r.units ++ packF 5 r.call ++ packF 1 r.part ++ packF 2 r.trunk
def bytesF (r : Record) : List UInt8 := bodyF r ++ [sumF (bodyF r)]
theorem telF_len (s : List UInt8) : (telF s).length = 8 := telI_len _ _
theorem headB_len (r : Record) : (headB r).length = 23 := by simp [headB, packF_len, telF_len]
theorem bodyF_len (r : Record) : (bodyF r).length = 44 := by simp [bodyF, headB_len, packF_len]
theorem putF_ok {b : List UInt8} {n : Int} {k : Nat} (hk : 1 ≤ k ∧ k ≤ 9) (h0 : 0 ≤ n) (h1 : n < 100 ^ k) : putF b n (k : Int) = (b ++ packF k n, 0) := by
  unfold putF
  rw [if_neg (by omega), Int.toNat_natCast, Int.ediv_eq_zero_of_lt h0 h1, if_neg (by omega)]
theorem good_tel {r : Record} (g : Good r) : (r.a.all isDig = true ∧ r.a.length ≤ 15) ∧ r.b.all isDig = true ∧ r.b.length ≤ 15 := by
  have key : ∀ s : List UInt8, validB s = true → s.all isDig = true ∧ s.length ≤ 15 := fun s h => by
    unfold validB at h
    simp only [Bool.and_eq_true, decide_eq_true_eq] at h
    exact ⟨h.1.1, h.2⟩
  refine ⟨key _ g.a, ?_⟩
  rcases g.b with h | ⟨_, h⟩
  · exact key _ h
  · rw [h]; exact ⟨rfl, by simp⟩
theorem put1 {b : List UInt8} {n : Int} {k : Nat} (hb : b.length ≤ 100000) (hk : 1 ≤ k ∧ k ≤ 9) (h0 : 0 ≤ n) (h1 : n < 100 ^ k) : g_packed_Encode_1_v1 n (k : Int) b = some (b ++ packF k n) := by
  have h2 : (100 : Int) ^ k ≤ 1000000000000000000 := by
    have : ∀ j : Fin 10, (100 : Int) ^ j.val ≤ 1000000000000000000 := by decide +kernel
    exact this ⟨k, by omega⟩
  unfold g_packed_Encode_1_v1
  rw [p_PutDecimal b n k (by omega) (by omega), putF_ok hk h0 h1]
  rfl
theorem rput1 {b : List UInt8} {n : Int} {k : Nat} (hb : b.length ≤ 100000) (hk : 1 ≤ k ∧ k ≤ 9) (h0 : 0 ≤ n) (h1 : n < 100 ^ k) : f_billingref11_PutDecimal b n (k : Int) = some (b ++ packF k n, 0) := by
  have h2 : (100 : Int) ^ k ≤ 1000000000000000000 := by
    have : ∀ j : Fin 10, (100 : Int) ^ j.val ≤ 1000000000000000000 := by decide +kernel
    exact this ⟨k, by omega⟩
  rw [p_rPutDecimal b n k (by omega) (by omega), putF_ok hk h0 h1]
theorem flag_or {r : Record} (hk : 1 ≤ r.kind ∧ r.kind ≤ 4) : (UInt8.ofInt (r.kind * 2 ^ (Int.toNat 4)) ||| (if r.last = true then 1 else 0)) ||| (if r.inbound = true then 2 else 0) = flagF r := by
  unfold flagF
  obtain ⟨h1, h2⟩ := hk
  have : r.kind = 1 ∨ r.kind = 2 ∨ r.kind = 3 ∨ r.kind = 4 := by omega
  rcases this with h | h | h | h <;> rw [h] <;> cases r.last <;> cases r.inbound <;> decide
theorem p_bit (b : Bool) (n : UInt8) : f_packed_bit b n = some (if b = true then n else 0) := by unfold f_packed_bit; cases b <;> rfl
theorem p_Encode11 (r : Record) (ha : r.a.length < 1000000000) (hb : r.b.length < 1000000000) : f_packed_Encode r = some (if errF r = 0 then bytesF r else [], errF r) := by
  unfold f_packed_Encode
  rw [p_Encode r ha hb]
  simp only [Option.bind_some]
  by_cases h : errF r = 0
  · have g := errF_good h
    obtain ⟨⟨a1, a2⟩, b1, b2⟩ := good_tel g
    have e1 : g_packed_Encode_1 r.source 1 = some (packF 1 r.source) := by
      unfold g_packed_Encode_1
      rw [p_PutDecimal [] _ 1 (by simp) (by have := g.source; omega)]
      rw [show ((1 : Int)) = ((1 : Nat) : Int) from rfl, putF_ok ⟨by omega, by omega⟩ (by have := g.source; omega) (by have := g.source; omega)]
      rfl
    have e4 : (2 : Int) ^ (Int.toNat 4) = 16 := by decide
    rw [if_neg (by simpa using h), e1, if_pos h, h]
    simp only [Option.bind_some]
    rw [show (5 : Int) = ((5 : Nat) : Int) from rfl, put1 (by simp [packF_len]) ⟨by omega, by omega⟩ (by have := g.serial; omega) (by have := g.serial; omega)]
    simp only [Option.bind_some]
    rw [ck_pos (by rw [e4]; have := g.kind; omega), p_bit, p_bit]
    simp only [Option.bind_some]
    rw [ck_pos (by simp [packF_len]), flag_or g.kind, p_putNumber r.a _ a1 a2 (by simp [packF_len])]
    simp only [Option.bind_some]
    rw [p_putNumber r.b _ b1 b2 (by simp [packF_len, telF_len])]
    simp only [Option.bind_some]
    rw [show packF 1 r.source ++ packF 5 r.serial ++ [flagF r] ++ telF r.a ++ telF r.b = headB r from rfl]
    rw [show (6 : Int) = ((6 : Nat) : Int) from rfl, put1 (by simp [headB_len]) ⟨by omega, by omega⟩ (by have := g.start; omega) (by have := g.start; omega)]
    simp only [Option.bind_some]
    rw [show (7 : Int) = ((7 : Nat) : Int) from rfl, put1 (by simp [headB_len, packF_len]) ⟨by omega, by omega⟩ (by have := g.units; omega) (by have := g.units; omega)]
    simp only [Option.bind_some]
    rw [put1 (by simp [headB_len, packF_len]) ⟨by omega, by omega⟩ (by have := g.call; omega) (by have := g.call; omega)]
    simp only [Option.bind_some]
    rw [show (1 : Int) = ((1 : Nat) : Int) from rfl, put1 (by simp [headB_len, packF_len]) ⟨by omega, by omega⟩ (by have := g.part; omega) (by have := g.part; omega)]
    simp only [Option.bind_some]
    rw [show (2 : Int) = ((2 : Nat) : Int) from rfl, put1 (by simp [headB_len, packF_len]) ⟨by omega, by omega⟩ (by have := g.trunk; omega) (by have := g.trunk; omega)]
    simp only [Option.bind_some]
    rw [show headB r ++ packF 6 r.start ++ packF 7 r.units ++ packF 5 r.call ++ packF 1 r.part ++ packF 2 r.trunk = bodyF r from rfl, p_sum _ (by rw [bodyF_len]; omega)]
    simp only [Option.bind_some]
    rw [ck_pos (by simp [bodyF_len])]
    rfl
  · rw [if_pos (by simpa using h), if_neg h]
theorem p_rEncode11 (r : Record) (ha : r.a.length < 1000000000) (hb : r.b.length < 1000000000) : f_billingref11_Encode r = some (if errF r = 0 then bytesF r else [], errF r) := by
  unfold f_billingref11_Encode
  rw [p_rError r ha hb]
  simp only [Option.bind_some]
  by_cases h : errF r = 0
  · have g := errF_good h
    obtain ⟨⟨a1, a2⟩, b1, b2⟩ := good_tel g
    have key : ∀ fl : Int, 0 ≤ fl → fl ≤ 3 → UInt8.ofInt (r.kind * 16 + fl) = flagF r → f_billingref11_Encode_j2 r fl = some (bytesF r, 0) := by
      intro fl f0 f1 hf
      unfold f_billingref11_Encode_j2
      rw [show (1 : Int) = ((1 : Nat) : Int) from rfl, rput1 (by simp) ⟨by omega, by omega⟩ (by have := g.source; omega) (by have := g.source; omega)]
      simp only [Option.bind_some]
      rw [show (5 : Int) = ((5 : Nat) : Int) from rfl, rput1 (by simp [packF_len]) ⟨by omega, by omega⟩ (by have := g.serial; omega) (by have := g.serial; omega)]
      simp only [Option.bind_some]
      rw [ck_pos (by have := g.kind; omega), ck_pos (by have := g.kind; omega), hf, ck_pos (by simp [packF_len]), p_digits r.a a1 a2]
      simp only [Option.bind_some]
      rw [ck_pos (by simp [packF_len, telF_len]), p_digits r.b b1 b2]
      simp only [Option.bind_some]
      rw [ck_pos (by simp [packF_len, telF_len]), List.nil_append]
      rw [show packF 1 r.source ++ packF 5 r.serial ++ [flagF r] ++ telF r.a ++ telF r.b = headB r from rfl]
      rw [show (6 : Int) = ((6 : Nat) : Int) from rfl, rput1 (by simp [headB_len]) ⟨by omega, by omega⟩ (by have := g.start; omega) (by have := g.start; omega)]
      simp only [Option.bind_some]
      rw [show (7 : Int) = ((7 : Nat) : Int) from rfl, rput1 (by simp [headB_len, packF_len]) ⟨by omega, by omega⟩ (by have := g.units; omega) (by have := g.units; omega)]
      simp only [Option.bind_some]
      rw [rput1 (by simp [headB_len, packF_len]) ⟨by omega, by omega⟩ (by have := g.call; omega) (by have := g.call; omega)]
      simp only [Option.bind_some]
      rw [rput1 (by simp [headB_len, packF_len]) ⟨by omega, by omega⟩ (by have := g.part; omega) (by have := g.part; omega)]
      simp only [Option.bind_some]
      rw [show (2 : Int) = ((2 : Nat) : Int) from rfl, rput1 (by simp [headB_len, packF_len]) ⟨by omega, by omega⟩ (by have := g.trunk; omega) (by have := g.trunk; omega)]
      simp only [Option.bind_some]
      rw [show headB r ++ packF 6 r.start ++ packF 7 r.units ++ packF 5 r.call ++ packF 1 r.part ++ packF 2 r.trunk = bodyF r from rfl, p_rsum _ (by rw [bodyF_len]; omega)]
      simp only [Option.bind_some]
      rw [ck_pos (by simp [bodyF_len])]
      rfl
    rw [if_neg (by simpa using h), if_pos h, h]
    unfold flagF at key
    unfold f_billingref11_Encode_j1
    cases hl : r.last <;> cases hi : r.inbound
    · exact key 0 (by omega) (by omega) (by rw [hl, hi]; rfl)
    · rw [if_neg (by decide), if_pos rfl, ck_pos (by decide)]
      exact key 2 (by omega) (by omega) (by rw [hl, hi]; rfl)
    · rw [if_pos rfl, ck_pos (by decide), if_neg (by decide)]
      exact key 1 (by omega) (by omega) (by rw [hl, hi]; rfl)
    · rw [if_pos rfl, ck_pos (by decide), if_pos rfl, ck_pos (by decide)]
      exact key 3 (by omega) (by omega) (by rw [hl, hi]; rfl)
  · rw [if_pos (by simpa using h), if_neg h]
end Go.Proofs.YtccmaffefdcikaaDoor

set_option linter.unusedSimpArgs false
set_option linter.unusedVariables false
namespace Go.Proofs.YtccmaffefdcikaaDoor
open Go.RowKit Go.Abs
def bldF : Int → List UInt8 → List Element → List UInt8 × Int
  | _, out, [] => (out, 0)
  | last, out, x :: r => if x.tag < 1 ∨ x.tag > 255 then ([], 6) else if x.tag ≤ last then ([], 9) else if x.value.length > 255 then ([], 5)
    else bldF x.tag (out ++ [UInt8.ofInt x.tag, UInt8.ofInt (x.value.length : Int)] ++ x.value) r
theorem p_rBuild (l : List Element) (hl : l.length ≤ 100000) : f_billingref10_Build l = some (bldF 0 [] l) := by
  unfold f_billingref10_Build
  have := loop_spec (step := fun st => f_billingref10_Build_l1 l st.1 st.2.1 st.2.2) (fun st : List UInt8 × Int × Int => some (bldF st.2.1 st.1 (l.drop st.2.2.toNat)))
    (fun st => 0 ≤ st.2.2 ∧ st.2.2 ≤ (l.length : Int) ∧ (st.1.length : Int) ≤ 257 * st.2.2) (fun st => ((l.length : Int) - st.2.2).toNat) (fun st hI => by
      obtain ⟨out, last, i⟩ := st
      obtain ⟨i0, i1, i2⟩ := hI
      simp only at i0 i1 i2 ⊢
      unfold f_billingref10_Build_l1
      by_cases hi : i < (l.length : Int)
      · rw [if_pos (by simpa using hi), ck_pos (by omega), drop_nth (show i.toNat < l.length by omega), bldF]
        generalize nth l i.toNat = x
        by_cases h1 : x.tag < 1 ∨ x.tag > 255
        · rw [if_pos (by simpa using h1), if_pos h1]; exact .inl ⟨_, rfl, rfl⟩
        · rw [if_neg (by simpa using h1), if_neg h1]
          by_cases h2 : x.tag ≤ last
          · rw [if_pos (by simpa using h2), if_pos h2]; exact .inl ⟨_, rfl, rfl⟩
          · rw [if_neg (by simpa using h2), if_neg h2]
            by_cases h3 : x.value.length > 255
            · rw [if_pos (by simp; omega), if_pos h3]; exact .inl ⟨_, rfl, rfl⟩
            · rw [if_neg (by simp; omega), if_neg h3, ck_pos (by simp; omega), ck_pos (by simp; omega), ck_pos (by omega)]
              refine .inr ⟨_, rfl, ⟨by simp only; omega, by simp only; omega, by simp; omega⟩, by simp only; omega, ?_⟩
              simp only
              rw [show (i + 1).toNat = i.toNat + 1 by omega]
      · rw [if_neg (by simpa using hi)]
        refine .inl ⟨_, rfl, ?_⟩
        rw [List.drop_of_length_le (by omega), bldF]) (s := ([], 0, 0)) ⟨by simp, by simp, by simp⟩ (by simp only; omega)
  rw [this]
  simp
def okL : Int → List Element → Prop
  | _, [] => True
  | last, x :: r => 1 ≤ x.tag ∧ x.tag ≤ 255 ∧ last < x.tag ∧ x.value.length ≤ 255 ∧ okL x.tag r
def encL : List Element → List UInt8
  | [] => []
  | x :: r => [UInt8.ofInt x.tag, UInt8.ofInt (x.value.length : Int)] ++ x.value ++ encL r
theorem bld_of_ok : ∀ (l : List Element) (last : Int) (out : List UInt8), okL last l → bldF last out l = (out ++ encL l, 0)
  | [], last, out, _ => by simp [bldF, encL]
  | x :: r, last, out, h => by
    obtain ⟨h1, h2, h3, h4, h5⟩ := h
    rw [bldF, if_neg (by omega), if_neg (by omega), if_neg (by omega), bld_of_ok r _ _ h5, encL]
    simp
end Go.Proofs.YtccmaffefdcikaaDoor

set_option linter.unusedSimpArgs false
set_option linter.unusedVariables false
namespace Go.Proofs.YtccmaffefdcikaaDoor
open Go.RowKit Go.Abs
def byG (n : Int) (out : List UInt8) : List UInt8 := if n > 0 then byG (n / 256) (UInt8.ofInt n :: out) else out
termination_by n.toNat
decreasing_by omega
def byF (n : Int) : List UInt8 := byG n []
theorem pow256 (k : Nat) : (256 : Int) ^ (k + 1) = 256 ^ k * 256 := Int.pow_succ _ _
theorem byG_len : ∀ (k : Nat) (n : Int) (out : List UInt8), n < 256 ^ k → (byG n out).length ≤ out.length + k
  | k, n, out, h => by
    rw [byG]
    split
    · match k, h with
      | 0, h => simp at h; omega
      | k + 1, h =>
        have := byG_len k (n / 256) (UInt8.ofInt n :: out) (by rw [pow256] at h; exact Int.ediv_lt_of_lt_mul (by omega) h)
        simp at this ⊢; omega
    · omega
theorem byF_len {n : Int} (h : n ≤ 9223372036854775807) : (byF n).length ≤ 8 := by
  have := byG_len 8 n [] (by rw [show (256 : Int) ^ 8 = 18446744073709551616 from by decide]; omega)
  simpa [byF] using this
theorem ofInt_mod {n : Int} (h : 0 ≤ n) : UInt8.ofInt (n % 256) = UInt8.ofInt n := by
  apply UInt8.toNat_inj.1
  simp [UInt8.ofInt]
theorem p_bytes (n : Int) (h : n ≤ 9223372036854775807) : f_tagged_bytes n = some (byF n) := by
  unfold f_tagged_bytes byF
  exact loop_spec (step := fun st => f_tagged_bytes_l1 st.1 st.2) (fun st : Int × List UInt8 => some (byG st.1 st.2)) (fun st => ∃ k, st.2.length + k ≤ 8 ∧ st.1 < 256 ^ k) (fun st => st.1.toNat) (fun st hI => by
    obtain ⟨n, out⟩ := st
    obtain ⟨k, i0, i1⟩ := hI
    simp only at i0 i1 ⊢
    unfold f_tagged_bytes_l1
    rw [byG]
    by_cases hn : n > 0
    · rw [if_pos (by simpa using hn), if_pos hn, ck_pos (by simp; omega), ck_pos (by decide), show (2 : Int) ^ Int.toNat 8 = 256 from rfl]
      match k, i1 with
      | 0, i1 => simp at i1; omega
      | k + 1, i1 => exact .inr ⟨_, rfl, ⟨k, by simp; omega, by rw [pow256] at i1; exact Int.ediv_lt_of_lt_mul (by omega) i1⟩, by simp only; omega, rfl⟩
    · rw [if_neg (by simpa using hn), if_neg hn]
      exact .inl ⟨_, rfl, rfl⟩) ⟨8, by simp, by simp only; rw [show (256 : Int) ^ 8 = 18446744073709551616 from by decide]; omega⟩ (by simp only; omega)
theorem p_shortest (n : Int) (h : n ≤ 9223372036854775807) : f_billingref10_shortest n = some (byF n) := by
  unfold f_billingref10_shortest byF
  exact loop_spec (step := fun st => f_billingref10_shortest_l1 st.1 st.2) (fun st : Int × List UInt8 => some (byG st.1 st.2)) (fun st => st.1 ≤ 9223372036854775807 ∧ ∃ k, st.2.length + k ≤ 8 ∧ st.1 < 256 ^ k) (fun st => st.1.toNat) (fun st hI => by
    obtain ⟨n, out⟩ := st
    obtain ⟨i2, k, i0, i1⟩ := hI
    simp only at i0 i1 i2 ⊢
    unfold f_billingref10_shortest_l1
    rw [byG]
    by_cases hn : n > 0
    · have ht : Int.tdiv n 256 = n / 256 := Int.tdiv_eq_ediv_of_nonneg (by omega)
      have hm : Int.tmod n 256 = n % 256 := Int.tmod_eq_emod_of_nonneg (by omega)
      rw [if_pos (by simpa using hn), if_pos hn, ht, hm, ofInt_mod (by omega), ck_pos (by decide), ck_pos (by simp; omega), ck_pos (by omega)]
      match k, i1 with
      | 0, i1 => simp at i1; omega
      | k + 1, i1 => exact .inr ⟨_, rfl, ⟨by simp only; omega, k, by simp; omega, by rw [pow256] at i1; exact Int.ediv_lt_of_lt_mul (by omega) i1⟩, by simp only; omega, rfl⟩
    · rw [if_neg (by simpa using hn), if_neg hn]
      exact .inl ⟨_, rfl, rfl⟩) ⟨h, 8, by simp, by simp only; rw [show (256 : Int) ^ 8 = 18446744073709551616 from by decide]; omega⟩ (by simp only; omega)
theorem pack_post (s : List UInt8) (hs : s.length < 1000000000) : ∃ r, f_digits_Pack s = some r ∧ r.1.length ≤ 8 ∧ (validB s = false → r.1 = []) := by
  unfold f_digits_Pack
  rw [p_Valid s hs, Option.bind_some]
  cases hv : validB s with
  | false => exact ⟨_, by rw [if_pos (by rfl)], by simp, fun _ => rfl⟩
  | true =>
    have hl := validB_len hv
    rw [if_neg (by simp)]
    have := loop_post (step := fun st => f_digits_Pack_l1 s st.1 st.2) (fun r : List UInt8 × Int => r.1.length ≤ 8) (fun st : List UInt8 × Int => 0 ≤ st.2 ∧ (2 * st.1.length : Int) = st.2 ∧ st.2 ≤ (s.length : Int) + 1) (fun st => ((s.length : Int) - st.2).toNat) (fun st hI => by
      obtain ⟨b, i⟩ := st
      obtain ⟨i0, i1, i2⟩ := hI
      simp only at i0 i1 i2 ⊢
      unfold f_digits_Pack_l1
      by_cases hi : i < (s.length : Int)
      · rw [if_pos (by simpa using hi), ck_pos (by omega)]
        by_cases hj : i + 1 < (s.length : Int)
        · rw [if_pos (by simpa using hj), ck_pos (by omega), ck_pos (by omega)]
          unfold f_digits_Pack_j1
          rw [ck_pos (by omega), ck_pos (by decide), ck_pos (by simp; omega), ck_pos (by omega)]
          exact .inr ⟨_, rfl, ⟨by simp only; omega, by simp; omega, by simp only; omega⟩, by simp only; omega⟩
        · rw [if_neg (by simpa using hj)]
          unfold f_digits_Pack_j1
          rw [ck_pos (by omega), ck_pos (by decide), ck_pos (by simp; omega), ck_pos (by omega)]
          exact .inr ⟨_, rfl, ⟨by simp only; omega, by simp; omega, by simp only; omega⟩, by simp only; omega⟩
      · rw [if_neg (by simpa using hi)]
        refine .inl ⟨_, rfl, ?_⟩
        simp only
        omega) (s := ([], 0)) ⟨by simp, by simp, by simp; omega⟩ (by simp only; omega)
    obtain ⟨r, h1, h2⟩ := this
    exact ⟨r, h1, h2, fun h => by cases h⟩
theorem pack_same (s : List UInt8) (hs : s.length < 1000000000) : f_billingref02_Pack s = f_digits_Pack s := by
  unfold f_billingref02_Pack f_digits_Pack
  rw [p_Valid s hs, p_rValid s hs]
  rfl
def pkF (s : List UInt8) : List UInt8 := ((f_digits_Pack s).getD ([], 0)).1
theorem p_Pack (s : List UInt8) (hs : s.length < 1000000000) : ∃ e, f_digits_Pack s = some (pkF s, e) := by
  obtain ⟨r, h, _⟩ := pack_post s hs
  exact ⟨r.2, by unfold pkF; rw [h]; rfl⟩
theorem pkF_len (s : List UInt8) (hs : s.length < 1000000000) : (pkF s).length ≤ 8 := by
  obtain ⟨r, h, h1, _⟩ := pack_post s hs
  unfold pkF; rw [h]; exact h1
theorem pkF_nil : pkF [] = [] := by
  obtain ⟨r, h, _, h2⟩ := pack_post [] (by simp)
  unfold pkF; rw [h]; exact h2 rfl
def one (tag : Int) (v : List UInt8) : List Element := if v.length = 0 then [] else [⟨tag, v⟩]
theorem encL_app : ∀ x y : List Element, encL (x ++ y) = encL x ++ encL y
  | [], y => rfl
  | a :: x, y => by rw [List.cons_append, encL, encL, encL_app x y]; simp only [List.append_assoc]
theorem one_len (tag : Int) (v : List UInt8) (h : v.length ≤ 8) : (encL (one tag v)).length ≤ 10 := by
  unfold one; split
  · simp [encL]
  · simp [encL]; omega
theorem p_add (tag : Int) (v out : List UInt8) (h : out.length + v.length ≤ 900000000) : g_tagged_Encode_1 tag v out = some (out ++ encL (one tag v)) := by
  unfold g_tagged_Encode_1 one
  by_cases hv : v.length = 0
  · rw [if_neg (by simp; exact List.length_eq_zero_iff.1 hv), if_pos hv]; simp [encL]
  · rw [if_pos (by simp; omega), if_neg hv]
    unfold g_tagged_put
    rw [ck_pos (by simp; omega), ck_pos (by simp; omega)]
    simp [encL]
def flI (r : Record) : Int := (if r.last = true then 1 else 0) + (if r.inbound = true then 2 else 0)
def valsF (r : Record) : List (List UInt8) := [[], byF r.kind, byF r.source, byF r.serial, pkF r.a, pkF r.b, byF r.start, byF r.units, byF r.call, byF r.part, byF r.trunk, byF (flI r)]
def elsF (r : Record) : List Element := one 1 (byF r.kind) ++ one 2 (byF r.source) ++ one 3 (byF r.serial) ++ one 4 (pkF r.a) ++ one 5 (pkF r.b) ++ one 6 (byF r.start) ++ one 7 (byF r.units) ++ one 8 (byF r.call) ++ one 9 (byF r.part) ++ one 10 (byF r.trunk) ++ one 11 (byF (flI r))
def bytesT (r : Record) : List UInt8 := [UInt8.ofInt (((encL (elsF r)).length : Int) / 256), UInt8.ofInt ((encL (elsF r)).length : Int)] ++ encL (elsF r)
theorem p_flag (b : Bool) (n : Int) : f_tagged_flag b n = some (if b = true then n else 0) := by unfold f_tagged_flag; cases b <;> rfl
theorem p_flags (r : Record) : f_billingref10_flags r = some (flI r) := by
  unfold f_billingref10_flags flI f_billingref10_flags_j1
  cases r.last <;> cases r.inbound <;> rfl
theorem flI_le (r : Record) : 0 ≤ flI r ∧ flI r ≤ 3 := by unfold flI; cases r.last <;> cases r.inbound <;> decide
theorem p_Encode10 (r : Record) (ha : r.a.length < 1000000000) (hb : r.b.length < 1000000000) : f_tagged_Encode r = some (if errF r = 0 then bytesT r else [], errF r) := by
  unfold f_tagged_Encode
  rw [p_Encode r ha hb, Option.bind_some]
  by_cases he : errF r = 0
  · have g := errF_good he
    have gs := g.source; have gr := g.serial; have gk := g.kind; have gt := g.start; have gu := g.units; have gc := g.call; have gp := g.part; have gkk := g.trunk
    obtain ⟨e1, h1⟩ := p_Pack r.a ha
    obtain ⟨e2, h2⟩ := p_Pack r.b hb
    have k1 := pkF_len r.a ha
    have k2 := pkF_len r.b hb
    have hf := flI_le r
    have b1 := byF_len (n := r.kind) (by omega); have b2 := byF_len (n := r.source) (by omega); have b3 := byF_len (n := r.serial) (by omega); have b4 := byF_len (n := r.start) (by omega)
    have b5 := byF_len (n := r.units) (by omega); have b6 := byF_len (n := r.call) (by omega); have b7 := byF_len (n := r.part) (by omega); have b8 := byF_len (n := r.trunk) (by omega); have b9 := byF_len (n := flI r) (by omega)
    have o1 := one_len 1 _ b1; have o2 := one_len 2 _ b2; have o3 := one_len 3 _ b3; have o4 := one_len 4 _ k1; have o5 := one_len 5 _ k2; have o6 := one_len 6 _ b4
    have o7 := one_len 7 _ b5; have o8 := one_len 8 _ b6; have o9 := one_len 9 _ b7; have o10 := one_len 10 _ b8; have o11 := one_len 11 _ b9
    rw [if_neg (by simp [he]), h1, h2, if_pos he, he]
    simp only [Option.bind_some, p_flag]
    rw [ck_pos (by decide), show (List.replicate (Int.toNat 2) 0 : List UInt8) = [0, 0] from rfl]
    rw [p_bytes _ (by omega), Option.bind_some, p_add _ _ _ (by simp; omega), Option.bind_some, p_bytes _ (by omega), Option.bind_some, p_add _ _ _ (by simp; omega), Option.bind_some]
    rw [p_bytes _ (by omega), Option.bind_some, p_add _ _ _ (by simp; omega), Option.bind_some, p_add _ _ _ (by simp; omega), Option.bind_some, p_add _ _ _ (by simp; omega), Option.bind_some]
    rw [p_bytes _ (by omega), Option.bind_some, p_add _ _ _ (by simp; omega), Option.bind_some, p_bytes _ (by omega), Option.bind_some, p_add _ _ _ (by simp; omega), Option.bind_some]
    rw [p_bytes _ (by omega), Option.bind_some, p_add _ _ _ (by simp; omega), Option.bind_some, p_bytes _ (by omega), Option.bind_some, p_add _ _ _ (by simp; omega), Option.bind_some]
    rw [p_bytes _ (by omega), Option.bind_some, p_add _ _ _ (by simp; omega), Option.bind_some]
    rw [show ((if r.last = true then 1 else 0) + (if r.inbound = true then 2 else 0) : Int) = flI r from rfl]
    rw [ck_pos (by omega), p_bytes _ (by omega), Option.bind_some, p_add _ _ _ (by simp; omega), Option.bind_some]
    have e : ([0, 0] ++ encL (one 1 (byF r.kind)) ++ encL (one 2 (byF r.source)) ++ encL (one 3 (byF r.serial)) ++ encL (one 4 (pkF r.a)) ++ encL (one 5 (pkF r.b)) ++ encL (one 6 (byF r.start)) ++ encL (one 7 (byF r.units)) ++ encL (one 8 (byF r.call)) ++ encL (one 9 (byF r.part)) ++ encL (one 10 (byF r.trunk)) ++ encL (one 11 (byF (flI r))) : List UInt8) = 0 :: 0 :: encL (elsF r) := by
      unfold elsF
      simp only [encL_app, List.append_assoc, List.cons_append, List.nil_append]
    have hl : (encL (elsF r)).length ≤ 110 := by
      unfold elsF
      simp only [encL_app, List.length_append]
      omega
    rw [e]
    rw [ck_pos (by simp; omega), ck_pos (by decide), ck_pos (by simp; omega), ck_pos (by simp), ck_pos (by simp; omega), ck_pos (by simp)]
    have e3 : (((0 :: 0 :: encL (elsF r) : List UInt8).length : Int) - 2) = ((encL (elsF r)).length : Int) := by simp; omega
    rw [e3, show (2 : Int) ^ Int.toNat 8 = 256 from rfl]
    rfl
  · rw [if_pos (by simpa using he)]; simp [he]
theorem okL_app : ∀ (x y : List Element) (last m : Int), okL last x → (∀ e, e ∈ x → e.tag ≤ m) → last ≤ m → okL m y → okL last (x ++ y)
  | [], y, last, m, _, _, hm, hy => by
    cases y with
    | nil => trivial
    | cons a y => exact ⟨hy.1, hy.2.1, by have := hy.2.2.1; omega, hy.2.2.2⟩
  | a :: x, y, last, m, hx, hm, hl, hy => ⟨hx.1, hx.2.1, hx.2.2.1, hx.2.2.2.1, okL_app x y a.tag m hx.2.2.2.2 (fun e he => hm e (List.mem_cons_of_mem _ he)) (hm a List.mem_cons_self) hy⟩
theorem okL_one {tag last : Int} {v : List UInt8} (h : 1 ≤ tag ∧ tag ≤ 255 ∧ last < tag) (hv : v.length ≤ 8) : okL last (one tag v) := by
  unfold one; split
  · trivial
  · exact ⟨h.1, h.2.1, h.2.2, by simp only; omega, trivial⟩
theorem one_tag {tag m : Int} {v : List UInt8} (h : tag ≤ m) : ∀ e, e ∈ one tag v → e.tag ≤ m := by
  intro e he
  unfold one at he
  split at he
  · cases he
  · rw [List.mem_singleton] at he; subst he; exact h
theorem els_ok {r : Record} (g : Good r) (ha : r.a.length < 1000000000) (hb : r.b.length < 1000000000) : okL 0 (elsF r) := by
  have gs := g.source; have gr := g.serial; have gk := g.kind; have gt := g.start; have gu := g.units; have gc := g.call; have gp := g.part; have gkk := g.trunk
  have k1 := pkF_len r.a ha
  have k2 := pkF_len r.b hb
  have hf := flI_le r
  have b1 := byF_len (n := r.kind) (by omega); have b2 := byF_len (n := r.source) (by omega); have b3 := byF_len (n := r.serial) (by omega); have b4 := byF_len (n := r.start) (by omega)
  have b5 := byF_len (n := r.units) (by omega); have b6 := byF_len (n := r.call) (by omega); have b7 := byF_len (n := r.part) (by omega); have b8 := byF_len (n := r.trunk) (by omega); have b9 := byF_len (n := flI r) (by omega)
  unfold elsF
  simp only [List.append_assoc]
  refine okL_app _ _ 0 1 (okL_one (by omega) b1) (one_tag (by omega)) (by omega) ?_
  refine okL_app _ _ 1 2 (okL_one (by omega) b2) (one_tag (by omega)) (by omega) ?_
  refine okL_app _ _ 2 3 (okL_one (by omega) b3) (one_tag (by omega)) (by omega) ?_
  refine okL_app _ _ 3 4 (okL_one (by omega) k1) (one_tag (by omega)) (by omega) ?_
  refine okL_app _ _ 4 5 (okL_one (by omega) k2) (one_tag (by omega)) (by omega) ?_
  refine okL_app _ _ 5 6 (okL_one (by omega) b4) (one_tag (by omega)) (by omega) ?_
  refine okL_app _ _ 6 7 (okL_one (by omega) b5) (one_tag (by omega)) (by omega) ?_
  refine okL_app _ _ 7 8 (okL_one (by omega) b6) (one_tag (by omega)) (by omega) ?_
  refine okL_app _ _ 8 9 (okL_one (by omega) b7) (one_tag (by omega)) (by omega) ?_
  refine okL_app _ _ 9 10 (okL_one (by omega) b8) (one_tag (by omega)) (by omega) ?_
  exact okL_one (by omega) b9
theorem els_count (r : Record) : (elsF r).length ≤ 11 := by
  have : ∀ t v, (one t v).length ≤ 1 := fun t v => by unfold one; split <;> simp
  unfold elsF
  simp only [List.length_append]
  have h1 := this 1 (byF r.kind); have h2 := this 2 (byF r.source); have h3 := this 3 (byF r.serial); have h4 := this 4 (pkF r.a); have h5 := this 5 (pkF r.b); have h6 := this 6 (byF r.start)
  have h7 := this 7 (byF r.units); have h8 := this 8 (byF r.call); have h9 := this 9 (byF r.part); have h10 := this 10 (byF r.trunk); have h11 := this 11 (byF (flI r))
  omega
theorem enc_len {r : Record} (g : Good r) (ha : r.a.length < 1000000000) (hb : r.b.length < 1000000000) : (encL (elsF r)).length ≤ 110 := by
  have gs := g.source; have gr := g.serial; have gk := g.kind; have gt := g.start; have gu := g.units; have gc := g.call; have gp := g.part; have gkk := g.trunk
  have hf := flI_le r
  have o1 := one_len 1 _ (byF_len (n := r.kind) (by omega)); have o2 := one_len 2 _ (byF_len (n := r.source) (by omega)); have o3 := one_len 3 _ (byF_len (n := r.serial) (by omega)); have o4 := one_len 4 _ (pkF_len r.a ha); have o5 := one_len 5 _ (pkF_len r.b hb); have o6 := one_len 6 _ (byF_len (n := r.start) (by omega))
  have o7 := one_len 7 _ (byF_len (n := r.units) (by omega)); have o8 := one_len 8 _ (byF_len (n := r.call) (by omega)); have o9 := one_len 9 _ (byF_len (n := r.part) (by omega)); have o10 := one_len 10 _ (byF_len (n := r.trunk) (by omega)); have o11 := one_len 11 _ (byF_len (n := flI r) (by omega))
  unfold elsF
  simp only [encL_app, List.length_append]
  omega
theorem p_j2 {r : Record} (g : Good r) (ha : r.a.length < 1000000000) (hb : r.b.length < 1000000000) : f_billingref10_Encode_j2 (elsF r) = some (bytesT r, 0) := by
  have hl := enc_len g ha hb
  unfold f_billingref10_Encode_j2
  rw [p_rBuild _ (by have := els_count r; omega), bld_of_ok _ 0 [] (els_ok g ha hb), Option.bind_some, List.nil_append]
  have ht : Int.tdiv ((encL (elsF r)).length : Int) 256 = ((encL (elsF r)).length : Int) / 256 := Int.tdiv_eq_ediv_of_nonneg (by omega)
  have hm : Int.tmod ((encL (elsF r)).length : Int) 256 = ((encL (elsF r)).length : Int) % 256 := Int.tmod_eq_emod_of_nonneg (by omega)
  rw [ht, hm, ofInt_mod (by omega), ck_pos (by omega), ck_pos (by decide), ck_pos (by simp; omega)]
  rfl
theorem p_rEncode10 (r : Record) (ha : r.a.length < 1000000000) (hb : r.b.length < 1000000000) : f_billingref10_Encode r = some (if errF r = 0 then bytesT r else [], errF r) := by
  unfold f_billingref10_Encode
  rw [p_rError r ha hb, Option.bind_some]
  by_cases he : errF r = 0
  · have g := errF_good he
    have gs := g.source; have gr := g.serial; have gk := g.kind; have gt := g.start; have gu := g.units; have gc := g.call; have gp := g.part; have gkk := g.trunk
    have hf := flI_le r
    rw [if_neg (by simp [he]), if_pos he, he, pack_same _ ha, pack_same _ hb]
    obtain ⟨e1, h1⟩ := p_Pack r.a ha
    obtain ⟨e2, h2⟩ := p_Pack r.b hb
    rw [h1, Option.bind_some]
    have hj : f_billingref10_Encode_j1 r (pkF r.a, e1) (pkF r.b) = some (bytesT r, 0) := by
      unfold f_billingref10_Encode_j1
      rw [p_shortest _ (by omega), Option.bind_some, p_shortest _ (by omega), Option.bind_some, p_shortest _ (by omega), Option.bind_some, p_shortest _ (by omega), Option.bind_some, p_shortest _ (by omega), Option.bind_some, p_shortest _ (by omega), Option.bind_some, p_shortest _ (by omega), Option.bind_some, p_shortest _ (by omega), Option.bind_some, p_flags, Option.bind_some, p_shortest _ (by omega), Option.bind_some]
      have step : ∀ (acc : List Element) (k : Nat), acc.length ≤ 12 → 1 ≤ k → k < 12 → f_billingref10_Encode_l1 (pkF r.a, e1) (pkF r.b) (byF r.kind) (byF r.source) (byF r.serial) (byF r.start) (byF r.units) (byF r.call) (byF r.part) (byF r.trunk) (byF (flI r)) acc (k : Int) = some (.inl (acc ++ one (k : Int) (nth (valsF r) k), (k : Int) + 1)) := by
        intro acc k ha h1 h2
        unfold f_billingref10_Encode_l1
        rw [if_pos (by simp; omega), ck_pos (by simp; omega), Int.toNat_natCast]
        show (if (decide (((nth (valsF r) k).length : Int) > 0)) = true then _ else _) = _
        unfold one
        by_cases hv : (nth (valsF r) k).length = 0
        · rw [if_neg (by simp; exact List.length_eq_zero_iff.1 hv), if_pos hv, ck_pos (by omega), List.append_nil]
        · rw [if_pos (by simp; omega), if_neg hv, ck_pos (by simp; omega), ck_pos (by simp; omega), ck_pos (by omega)]
          rfl
      have oneS : ∀ (n : Nat) (acc : List Element) (k : Nat), acc.length ≤ 12 → 1 ≤ k → k < 12 →
          iter (fun s => f_billingref10_Encode_l1 (pkF r.a, e1) (pkF r.b) (byF r.kind) (byF r.source) (byF r.serial) (byF r.start) (byF r.units) (byF r.call) (byF r.part) (byF r.trunk) (byF (flI r)) s.1 s.2) (n + 1) (acc, (k : Int)) =
          iter (fun s => f_billingref10_Encode_l1 (pkF r.a, e1) (pkF r.b) (byF r.kind) (byF r.source) (byF r.serial) (byF r.start) (byF r.units) (byF r.call) (byF r.part) (byF r.trunk) (byF (flI r)) s.1 s.2) n (acc ++ one (k : Int) (nth (valsF r) k), ((k + 1 : Nat) : Int)) := by
        intro n acc k ha h1 h2
        conv => lhs; unfold iter
        rw [step acc k ha h1 h2]
        rfl
      have stop : ∀ (n : Nat) (acc : List Element) (q : List UInt8 × Int), f_billingref10_Encode_l1 (pkF r.a, e1) (pkF r.b) (byF r.kind) (byF r.source) (byF r.serial) (byF r.start) (byF r.units) (byF r.call) (byF r.part) (byF r.trunk) (byF (flI r)) acc 12 = some (.inr q) → iter (fun s => f_billingref10_Encode_l1 (pkF r.a, e1) (pkF r.b) (byF r.kind) (byF r.source) (byF r.serial) (byF r.start) (byF r.units) (byF r.call) (byF r.part) (byF r.trunk) (byF (flI r)) s.1 s.2) (n + 1) (acc, ((11 + 1 : Nat) : Int)) = some q := by
        intro n acc q h
        unfold iter
        simp only [show ((11 + 1 : Nat) : Int) = 12 from rfl, h]
      have len1 : ∀ t v, (one t v).length ≤ 1 := fun t v => by unfold one; split <;> simp
      have l1 := len1 1 (byF r.kind); have l2 := len1 2 (byF r.source); have l3 := len1 3 (byF r.serial); have l4 := len1 4 (pkF r.a); have l5 := len1 5 (pkF r.b); have l6 := len1 6 (byF r.start)
      have l7 := len1 7 (byF r.units); have l8 := len1 8 (byF r.call); have l9 := len1 9 (byF r.part); have l10 := len1 10 (byF r.trunk); have l11 := len1 11 (byF (flI r))
      unfold loop
      rw [show (18446744073709551616 : Nat) = 18446744073709551604 + 12 from rfl]
      rw [show (([] : List Element), (1 : Int)) = (([] : List Element), ((1 : Nat) : Int)) from rfl]
      rw [oneS _ _ 1 (by simp) (by omega) (by omega), show nth (valsF r) 1 = byF r.kind from rfl, oneS _ _ 2 (by simp; omega) (by omega) (by omega), show nth (valsF r) (1 + 1) = byF r.source from rfl]
      rw [oneS _ _ 3 (by simp; omega) (by omega) (by omega), show nth (valsF r) (2 + 1) = byF r.serial from rfl, oneS _ _ 4 (by simp; omega) (by omega) (by omega), show nth (valsF r) (3 + 1) = pkF r.a from rfl]
      rw [oneS _ _ 5 (by simp; omega) (by omega) (by omega), show nth (valsF r) (4 + 1) = pkF r.b from rfl, oneS _ _ 6 (by simp; omega) (by omega) (by omega), show nth (valsF r) (5 + 1) = byF r.start from rfl]
      rw [oneS _ _ 7 (by simp; omega) (by omega) (by omega), show nth (valsF r) (6 + 1) = byF r.units from rfl, oneS _ _ 8 (by simp; omega) (by omega) (by omega), show nth (valsF r) (7 + 1) = byF r.call from rfl]
      rw [oneS _ _ 9 (by simp; omega) (by omega) (by omega), show nth (valsF r) (8 + 1) = byF r.part from rfl, oneS _ _ 10 (by simp; omega) (by omega) (by omega), show nth (valsF r) (9 + 1) = byF r.trunk from rfl]
      rw [oneS _ _ 11 (by simp; omega) (by omega) (by omega), show nth (valsF r) (10 + 1) = byF (flI r) from rfl]
      refine stop _ _ _ ?_
      unfold f_billingref10_Encode_l1
      rw [if_neg (by simp)]
      exact (congrArg (Option.map fun z => Sum.inr z) (p_j2 g ha hb)).trans rfl
    by_cases hbn : r.b = []
    · rw [if_neg (by simp [hbn])]
      rw [hbn, pkF_nil] at hj
      exact hj
    · rw [if_pos (by simpa using hbn), h2, Option.bind_some]
      exact hj
  · rw [if_pos (by simpa using he), if_neg he]
end Go.Proofs.YtccmaffefdcikaaDoor

set_option linter.unusedSimpArgs false
set_option linter.unusedVariables false
namespace Go.Proofs.YtccmaffefdcikaaDoor
open Go.RowKit Go.Abs
theorem itoa_dec {n : Int} (h : 0 ≤ n) : Go.Lib.itoa n = Go.Lib.decDigits n.toNat := by unfold Go.Lib.itoa; rw [if_neg (by omega)]
theorem errF_last {r : Record} (h : errF r = 0) : (r.last = true → r.part ≠ 0) ∧ (r.part = 0 ↔ r.call = 0) ∧ (r.inbound = true → r.trunk ≠ 0) := by
  unfold errF at h
  split at h; · cases h
  split at h; · cases h
  split at h; · cases h
  split at h; · cases h
  split at h; · cases h
  split at h; · cases h
  split at h; · cases h
  split at h; · cases h
  split at h; · cases h
  split at h; · cases h
  rename_i h8 h9 h10
  refine ⟨fun a b => h8 (.inr ⟨a, b⟩), ?_, fun a b => h10 ⟨a, b⟩⟩
  by_cases hp : r.part = 0 ↔ r.call = 0
  · exact hp
  · exact absurd (.inl hp) h8
theorem byte_digit {n : Int} (h : 0 ≤ n) : UInt8.ofInt (48 + Int.tmod n 10) = UInt8.ofNat (48 + n.toNat % 10) := by
  have e : 48 + Int.tmod n 10 = ((48 + n.toNat % 10 : Nat) : Int) := by
    rw [Int.tmod_eq_emod_of_nonneg h]; omega
  rw [e]
  generalize hk : 48 + n.toNat % 10 = k
  have hk2 : ((k : Int) % 2 ^ 8).toNat = k := by omega
  unfold UInt8.ofInt
  rw [hk2]
theorem p_Number {n : Int} (h : 0 ≤ n) (h1 : n ≤ 9223372036854775807) : f_billingref09_Number n = some (Go.Lib.itoa n) := by
  unfold f_billingref09_Number
  have e0 : Int.tdiv n 10 = n / 10 := Int.tdiv_eq_ediv_of_nonneg h
  have em : Int.tmod n 10 = n % 10 := Int.tmod_eq_emod_of_nonneg h
  rw [ck_pos (by omega), ck_pos (by omega), ck_pos (by omega)]
  have := loop_spec (step := fun s => f_billingref09_Number_l1 s.1 s.2) (fun s : Int × List UInt8 => some (if s.1 > 0 then Go.Lib.decDigits s.1.toNat ++ s.2 else s.2)) (fun s => 0 ≤ s.1 ∧ s.1 ≤ 9223372036854775807 ∧ s.2.length + s.1.toNat ≤ 922337203685477581) (fun s => s.1.toNat) (fun s hI => by
    obtain ⟨m, t⟩ := s
    obtain ⟨i0, i1, i2⟩ := hI
    simp only at i0 i1 i2 ⊢
    unfold f_billingref09_Number_l1
    by_cases hm : m > 0
    · rw [if_pos (by simpa using hm)]
      have d0 : Int.tdiv m 10 = m / 10 := Int.tdiv_eq_ediv_of_nonneg i0
      have dm : Int.tmod m 10 = m % 10 := Int.tmod_eq_emod_of_nonneg i0
      rw [ck_pos (by omega), ck_pos (by omega), ck_pos (by simp; omega), ck_pos (by omega)]
      refine .inr ⟨_, rfl, ⟨by simp only; omega, by simp only; omega, by simp; omega⟩, by simp only; omega, ?_⟩
      simp only
      rw [byte_digit i0, d0, if_pos hm]
      congr 1
      by_cases h10 : m.toNat < 10
      · rw [if_neg (by omega)]
        conv => rhs; rw [Go.Lib.decDigits, dif_pos h10]
        have : m.toNat % 10 = m.toNat := Nat.mod_eq_of_lt h10
        rw [this]
      · rw [if_pos (by omega)]
        conv => rhs; rw [Go.Lib.decDigits, dif_neg h10]
        have : (m / 10).toNat = m.toNat / 10 := by omega
        rw [this]
        simp
    · rw [if_neg (by simpa using hm)]
      exact .inl ⟨_, rfl, by rw [if_neg hm]⟩) (s := (Int.tdiv n 10, [UInt8.ofInt (48 + Int.tmod n 10)])) ⟨by simp only; omega, by simp only; omega, by simp; omega⟩ (by simp only; omega)
  rw [this, itoa_dec h]
  simp only
  rw [byte_digit h, e0]
  congr 1
  by_cases h10 : n.toNat < 10
  · rw [if_neg (by omega)]
    conv => rhs; rw [Go.Lib.decDigits, dif_pos h10]
    have : n.toNat % 10 = n.toNat := Nat.mod_eq_of_lt h10
    rw [this]
  · rw [if_pos (by omega)]
    conv => rhs; rw [Go.Lib.decDigits, dif_neg h10]
    have : (n / 10).toNat = n.toNat / 10 := by omega
    rw [this]
theorem join_app (sep : List UInt8) : ∀ (x : List UInt8) (r ys : List (List UInt8)), Go.Lib.join (x :: r ++ ys) sep = Go.Lib.join (x :: r) sep ++ Go.Lib.joinTail sep ys := by
  intro x r ys
  rw [List.cons_append, Go.Lib.join_cons, Go.Lib.join_cons, Go.Lib.joinTail, Go.Lib.joinTail, Go.Lib.joinTail]
  simp
theorem itoa_l {n : Int} (h : 0 ≤ n) (h1 : n ≤ 9223372036854775807) : (Go.Lib.itoa n).length ≤ 21 := itoa_le h h1
theorem p_rEncode_ok (r : Record) (h : errF r = 0) : f_billingref09_Encode r = some (lineF r, 0) := by
  have g := errF_good h
  obtain ⟨hlast, hpc, hin⟩ := errF_last h
  have ha := validB_len g.a
  have hb : r.b.length ≤ 15 := by
    rcases g.b with h | h
    · exact validB_len h
    · rw [h.2]; simp
  obtain ⟨gs, ge, gk, _, _, gst, gu, gc, gp, gt⟩ := g
  have l1 := itoa_l (n := r.source) (by omega) (by omega)
  have l2 := itoa_l (n := r.serial) (by omega) (by omega)
  have l3 := itoa_l (n := r.start) (by omega) (by omega)
  have l4 := itoa_l (n := r.units) (by omega) (by omega)
  have l5 := itoa_l (n := r.call) (by omega) (by omega)
  have l6 := itoa_l (n := r.part) (by omega) (by omega)
  have l7 := itoa_l (n := r.trunk) (by omega) (by omega)
  have n1 := p_Number (n := r.source) (by omega) (by omega)
  have n2 := p_Number (n := r.serial) (by omega) (by omega)
  have n3 := p_Number (n := r.start) (by omega) (by omega)
  have n4 := p_Number (n := r.units) (by omega) (by omega)
  have n5 := p_Number (n := r.call) (by omega) (by omega)
  have n6 := p_Number (n := r.part) (by omega) (by omega)
  have n7 := p_Number (n := r.trunk) (by omega) (by omega)
  have hline : lineF r = Go.Lib.join (headF r) [32] ++ Go.Lib.joinTail [32] (partF r) ++ Go.Lib.joinTail [32] (trunkF r) := by
    unfold lineF wordsF
    obtain ⟨x, t, hx⟩ : ∃ x t, headF r = x :: t := ⟨_, _, rfl⟩
    rw [hx, List.append_assoc, join_app]
    simp [Go.Lib.joinTail]
  have hj4 : ∀ s : List UInt8, s.length ≤ 1000 → (r.trunk > 0 ∧ r.inbound = true → s = lineF r) → (¬(r.trunk > 0 ∧ r.inbound = true) → s = Go.Lib.join (headF r) [32] ++ Go.Lib.joinTail [32] (partF r)) → f_billingref09_Encode_j4 r s = some (lineF r, 0) := by
    intro s hs h1 h2
    unfold f_billingref09_Encode_j4
    by_cases ht : r.trunk > 0 ∧ r.inbound = false
    · rw [if_pos (by simp [ht]), ck_pos (by simp; omega), n7, Option.bind_some, ck_pos (by simp; omega)]
      rw [h2 (by simp [ht]), hline, trunkF, if_neg (by omega), if_neg (by simp [ht])]
      simp [Go.Lib.joinTail]
    · rw [if_neg (by simpa using ht)]
      by_cases hi : r.trunk > 0 ∧ r.inbound = true
      · rw [h1 hi]
      · have h0 : r.trunk = 0 := by
          by_cases h0 : r.trunk > 0
          · cases hh : r.inbound with
            | true => exact absurd ⟨h0, hh⟩ hi
            | false => exact absurd ⟨h0, hh⟩ ht
          · omega
        rw [h2 hi, hline, trunkF, if_pos h0]
        simp [Go.Lib.joinTail]
  have hj3 : ∀ s : List UInt8, s.length ≤ 900 → s = Go.Lib.join (headF r) [32] ++ Go.Lib.joinTail [32] (partF r) → f_billingref09_Encode_j3 r s = some (lineF r, 0) := by
    intro s hs h1
    unfold f_billingref09_Encode_j3
    by_cases hi : r.trunk > 0 ∧ r.inbound = true
    · rw [if_pos (by simp [hi]), ck_pos (by simp; omega), n7, Option.bind_some, ck_pos (by simp; omega)]
      refine hj4 _ (by simp; omega) (fun _ => ?_) (fun hh => absurd hi hh)
      rw [h1, hline, trunkF, if_neg (by omega), if_pos hi.2]
      simp [Go.Lib.joinTail]
    · rw [if_neg (by simpa using hi)]
      exact hj4 _ (by omega) (fun hh => absurd hh hi) (fun _ => h1)
  have hj2 : ∀ s : List UInt8, s.length ≤ 800 → s = Go.Lib.join (headF r) [32] ++ Go.Lib.joinTail [32] (if r.part = 0 then [] else [[112, 97, 114, 116], Go.Lib.itoa r.call, Go.Lib.itoa r.part]) → f_billingref09_Encode_j2 r s = some (lineF r, 0) := by
    intro s hs h1
    unfold f_billingref09_Encode_j2
    by_cases hl : r.last = true
    · have hp := hlast hl
      rw [if_pos hl, ck_pos (by simp; omega)]
      refine hj3 _ (by simp; omega) ?_
      rw [h1, partF, if_neg hp, if_neg hp, if_pos hl]
      simp [Go.Lib.joinTail]
    · rw [if_neg hl]
      refine hj3 _ (by omega) ?_
      rw [h1, partF]
      by_cases hp : r.part = 0
      · rw [if_pos hp, if_pos hp]
      · rw [if_neg hp, if_neg hp, if_neg hl]; simp
  have hj1 : ∀ b, b = (if r.b = [] then [45] else r.b) → f_billingref09_Encode_j1 r b = some (lineF r, 0) := by
    intro b hbb
    have lb : b.length ≤ 15 := by rw [hbb]; split; simp; exact hb
    unfold f_billingref09_Encode_j1
    have lk : ((([118, 116, 100, 99] : List UInt8).take r.kind.toNat).drop (r.kind - 1).toNat).length ≤ 4 := by simp; omega
    have hhead : Go.Lib.join (headF r) [32] = (([118, 116, 100, 99] : List UInt8).take r.kind.toNat).drop (r.kind - 1).toNat ++ [32] ++ Go.Lib.itoa r.source ++ [32] ++ Go.Lib.itoa r.serial ++ [32] ++ r.a ++ [32] ++ b ++ [32] ++ Go.Lib.itoa r.start ++ [32] ++ Go.Lib.itoa r.units := by
      rw [hbb, headF, Go.Lib.join_cons]
      simp [Go.Lib.joinTail]
    generalize hK : (([118, 116, 100, 99] : List UInt8).take r.kind.toNat).drop (r.kind - 1).toNat = K at lk hhead ⊢
    rw [ck_pos (by omega), ck_pos (by simp; omega)]
    simp only [n1, n2, n3, n4, n5, n6, Option.bind_some]
    rw [ck_pos (by simp only [List.length_append, List.length_cons, List.length_nil]; omega)]
    rw [ck_pos (by simp only [List.length_append, List.length_cons, List.length_nil]; omega)]
    rw [ck_pos (by simp only [List.length_append, List.length_cons, List.length_nil]; omega)]
    rw [ck_pos (by simp only [List.length_append, List.length_cons, List.length_nil]; omega)]
    rw [ck_pos (by simp only [List.length_append, List.length_cons, List.length_nil]; omega)]
    rw [ck_pos (by simp only [List.length_append, List.length_cons, List.length_nil]; omega)]
    rw [ck_pos (by simp only [List.length_append, List.length_cons, List.length_nil]; omega)]
    rw [ck_pos (by simp only [List.length_append, List.length_cons, List.length_nil]; omega)]
    rw [ck_pos (by simp only [List.length_append, List.length_cons, List.length_nil]; omega)]
    rw [ck_pos (by simp only [List.length_append, List.length_cons, List.length_nil]; omega)]
    rw [ck_pos (by simp only [List.length_append, List.length_cons, List.length_nil]; omega)]
    rw [ck_pos (by simp only [List.length_append, List.length_cons, List.length_nil]; omega)]
    by_cases hp : r.part > 0
    · rw [if_pos (by simpa using hp)]
      rw [ck_pos (by simp only [List.length_append, List.length_cons, List.length_nil]; omega)]
      rw [ck_pos (by simp only [List.length_append, List.length_cons, List.length_nil]; omega)]
      rw [ck_pos (by simp only [List.length_append, List.length_cons, List.length_nil]; omega)]
      rw [ck_pos (by simp only [List.length_append, List.length_cons, List.length_nil]; omega)]
      refine hj2 _ (by simp only [List.length_append, List.length_cons, List.length_nil]; omega) ?_
      rw [if_neg (by omega), hhead]
      simp [Go.Lib.joinTail]
    · rw [if_neg (by simpa using hp)]
      refine hj2 _ (by simp only [List.length_append, List.length_cons, List.length_nil]; omega) ?_
      rw [if_pos (by omega), hhead]
      simp [Go.Lib.joinTail]
  unfold f_billingref09_Encode
  rw [p_rError r (by omega) (by omega), h]
  simp only [Option.bind_some]
  rw [if_neg (by simp)]
  split
  · rename_i hb0
    exact hj1 _ (by rw [if_pos (by simpa using hb0)])
  · rename_i hb0
    exact hj1 _ (by rw [if_neg (by simpa using hb0)])
theorem p_rEncode (r : Record) (ha : r.a.length < 1000000000) (hb : r.b.length < 1000000000) : f_billingref09_Encode r = some (if errF r = 0 then lineF r else [], errF r) := by
  by_cases h : errF r = 0
  · rw [p_rEncode_ok r h, if_pos h, h]
  · unfold f_billingref09_Encode
    rw [p_rError r ha hb, if_neg h]
    simp only [Option.bind_some]
    rw [if_pos (by simpa using h)]
end Go.Proofs.YtccmaffefdcikaaDoor

set_option linter.unusedSimpArgs false
set_option linter.unusedVariables false
namespace Go.Proofs.YtccmaffefdcikaaDoor
open Go.RowKit Go.Abs
theorem awake_true : f_billinglaw12_awake = some true := by kernel_rfl
def chkL (src : Int) : List Record → Int
  | [] => 0
  | r :: l => if errF r = 0 then (if r.source = src then chkL src l else 8) else errF r
def hdF (s n f : Int) : Int := if (s < 1 ∨ 99 < s) ∨ (n < 1 ∨ 999999999 < n) then 6 else if f < 1 ∨ 3 < f then 7 else 0
def chkF (b : Batch) : Int := if hdF b.source b.number b.format = 0 then (if 4096 < b.records.length then 5 else chkL b.source b.records) else hdF b.source b.number b.format
def SmL (l : List Record) : Prop := ∀ r, r ∈ l → r.a.length < 1000000000 ∧ r.b.length < 1000000000
theorem SmL.nth {l : List Record} (h : SmL l) {k : Nat} (hk : k < l.length) : (Go.Abs.nth l k).a.length < 1000000000 ∧ (Go.Abs.nth l k).b.length < 1000000000 := by
  rw [nth_eq hk]; exact h _ (List.getElem_mem hk)
theorem p_checkL (b : Batch) (h : SmL b.records) (hl : b.records.length ≤ 4096) : loop (fun s => f_batch_Check_l1 b s) 0 = some (chkL b.source b.records) := by
  have := loop_spec (step := fun s => f_batch_Check_l1 b s) (fun i : Int => some (chkL b.source (b.records.drop i.toNat))) (fun i => 0 ≤ i ∧ i ≤ (b.records.length : Int)) (fun i => ((b.records.length : Int) - i).toNat) (fun i hI => by
    obtain ⟨h0, h1⟩ := hI
    show (∃ r, f_batch_Check_l1 b i = _ ∧ _) ∨ ∃ s', f_batch_Check_l1 b i = _ ∧ _
    unfold f_batch_Check_l1
    by_cases hi : i < (b.records.length : Int)
    · have hd := drop_nth (l := b.records) (k := i.toNat) (by omega)
      have hs := h.nth (k := i.toNat) (by omega)
      rw [if_pos (by simpa using hi), ck_pos ⟨h0, hi⟩, p_Encode _ hs.1 hs.2, hd]
      generalize Go.Abs.nth b.records i.toNat = r at *
      simp only [Option.bind_some, chkL]
      by_cases he : errF r = 0
      · rw [if_neg (by simp [he]), if_pos he]
        by_cases hsrc : r.source = b.source
        · rw [if_neg (by simp [hsrc]), if_pos hsrc, ck_pos (by omega)]
          refine .inr ⟨i + 1, rfl, ⟨by omega, by omega⟩, by omega, ?_⟩
          rw [show (i + 1).toNat = i.toNat + 1 from by omega]
        · rw [if_pos (by simpa using hsrc), if_neg hsrc]
          exact .inl ⟨_, rfl, rfl⟩
      · rw [if_pos (by simpa using he), if_neg he]
        exact .inl ⟨_, rfl, rfl⟩
    · rw [if_neg (by simpa using hi), List.drop_of_length_le (by omega)]
      exact .inl ⟨_, rfl, rfl⟩) (s := 0) ⟨by omega, by omega⟩ (by omega)
  simpa using this
theorem p_rcheckL (b : Batch) (h : SmL b.records) (hl : b.records.length ≤ 4096) : loop (fun s => f_billingref12_Check_l1 b s) 0 = some (chkL b.source b.records) := by
  have := loop_spec (step := fun s => f_billingref12_Check_l1 b s) (fun i : Int => some (chkL b.source (b.records.drop i.toNat))) (fun i => 0 ≤ i ∧ i ≤ (b.records.length : Int)) (fun i => ((b.records.length : Int) - i).toNat) (fun i hI => by
    obtain ⟨h0, h1⟩ := hI
    show (∃ r, f_billingref12_Check_l1 b i = _ ∧ _) ∨ ∃ s', f_billingref12_Check_l1 b i = _ ∧ _
    unfold f_billingref12_Check_l1
    by_cases hi : i < (b.records.length : Int)
    · have hd := drop_nth (l := b.records) (k := i.toNat) (by omega)
      have hs := h.nth (k := i.toNat) (by omega)
      rw [if_pos (by simpa using hi), ck_pos ⟨h0, hi⟩, p_rError _ hs.1 hs.2, hd]
      generalize Go.Abs.nth b.records i.toNat = r at *
      simp only [Option.bind_some, chkL]
      by_cases he : errF r = 0
      · rw [if_neg (by simp [he]), if_pos he, ck_pos ⟨h0, hi⟩]
        by_cases hsrc : r.source = b.source
        · rw [if_neg (by simp [hsrc]), if_pos hsrc, ck_pos (by omega)]
          refine .inr ⟨i + 1, rfl, ⟨by omega, by omega⟩, by omega, ?_⟩
          rw [show (i + 1).toNat = i.toNat + 1 from by omega]
        · rw [if_pos (by simpa using hsrc), if_neg hsrc]
          exact .inl ⟨_, rfl, rfl⟩
      · rw [if_pos (by simpa using he), if_neg he]
        exact .inl ⟨_, rfl, rfl⟩
    · rw [if_neg (by simpa using hi), List.drop_of_length_le (by omega)]
      exact .inl ⟨_, rfl, rfl⟩) (s := 0) ⟨by omega, by omega⟩ (by omega)
  simpa using this
theorem p_head (h : Head) : f_batch_checkHead h = some (if hdF h.source h.number h.format = 0 then (if h.count < 0 ∨ 4096 < h.count then 5 else 0) else hdF h.source h.number h.format) := by
  unfold f_batch_checkHead
  simp only [f_batch_within, Option.bind_some, gcall_mk]
  by_cases h1 : (h.source < 1 ∨ 99 < h.source) ∨ (h.number < 1 ∨ 999999999 < h.number)
  · have e : hdF h.source h.number h.format = 6 := if_pos h1
    rw [e]
    show _ = some (6 : Int)
    by_cases hs : h.source < 1 ∨ 99 < h.source
    · rw [if_pos (by simp; omega)]
    · have hn : h.number < 1 ∨ 999999999 < h.number := by omega
      rw [if_pos (by simp; omega)]
  · by_cases h2 : h.format < 1 ∨ 3 < h.format
    · have e : hdF h.source h.number h.format = 7 := by unfold hdF; rw [if_neg h1, if_pos h2]
      rw [e]
      show _ = some (7 : Int)
      rw [if_neg (by simp; omega), if_pos (by simp; omega)]
    · have e : hdF h.source h.number h.format = 0 := by unfold hdF; rw [if_neg h1, if_neg h2]
      rw [e]
      show _ = some (if h.count < 0 ∨ 4096 < h.count then 5 else 0)
      rw [if_neg (by simp; omega), if_neg (by simp; omega)]
      by_cases h3 : h.count < 0 ∨ 4096 < h.count
      · rw [if_pos h3, if_pos (by simp; omega)]
      · rw [if_neg h3, if_neg (by simp; omega)]
theorem p_rhead (s n f : Int) : f_billingref12_head s n f = some (hdF s n f) := by
  unfold f_billingref12_head hdF
  by_cases h1 : (s < 1 ∨ 99 < s) ∨ (n < 1 ∨ 999999999 < n)
  · rw [if_pos h1, if_pos (by simp; omega)]
  · rw [if_neg h1, if_neg (by simp; omega)]
    by_cases h2 : f < 1 ∨ 3 < f
    · rw [if_pos h2, if_pos (by simp; omega)]
    · rw [if_neg h2, if_neg (by simp; omega)]
theorem p_Check (b : Batch) (h : SmL b.records) : f_batch_Check b = some (chkF b) := by
  unfold f_batch_Check f_batch_headOf chkF
  simp only [Option.bind_some, p_head]
  by_cases h1 : hdF b.source b.number b.format = 0
  · simp only [h1, if_true]
    by_cases h2 : 4096 < b.records.length
    · have h2' : (b.records.length : Int) < 0 ∨ 4096 < (b.records.length : Int) := by omega
      rw [if_pos h2', if_pos h2]; rfl
    · have h2' : ¬ ((b.records.length : Int) < 0 ∨ 4096 < (b.records.length : Int)) := by omega
      rw [if_neg h2', if_neg h2]
      exact p_checkL b h (by omega)
  · simp only [if_neg h1]
    rw [if_pos (by simpa using h1)]
theorem p_rCheck (b : Batch) (h : SmL b.records) : f_billingref12_Check b = some (chkF b) := by
  unfold f_billingref12_Check chkF
  simp only [Option.bind_some, p_rhead]
  by_cases h1 : hdF b.source b.number b.format = 0
  · rw [if_neg (by simp [h1]), if_pos h1]
    by_cases h2 : 4096 < b.records.length
    · rw [if_pos (by simp; omega), if_pos h2]
    · rw [if_neg (by simp; omega), if_neg h2]
      exact p_rcheckL b h (by omega)
  · rw [if_pos (by simpa using h1), if_neg h1]
end Go.Proofs.YtccmaffefdcikaaDoor

set_option linter.unusedSimpArgs false
set_option linter.unusedVariables false
namespace Go.Proofs.YtccmaffefdcikaaDoor
open Go.RowKit Go.Abs
def vb (u : Int) : List UInt8 := if 127 < u then UInt8.ofInt (128 + u % 128) :: vb (u / 128) else [UInt8.ofInt u]
termination_by u.toNat
decreasing_by omega
theorem vb_len : ∀ (k : Nat) (u : Int), u < 128 ^ k * 128 → (vb u).length ≤ k + 1
  | 0, u, h => by
    unfold vb
    rw [if_neg (by simp at h; omega)]; simp
  | k + 1, u, h => by
    unfold vb
    split
    · have e : (128 : Int) ^ (k + 1) = 128 ^ k * 128 := Int.pow_succ _ _
      rw [e] at h
      have := vb_len k (u / 128) (by
        generalize (128 : Int) ^ k = p at *
        omega)
      simp only [List.length_cons]; omega
    · simp
theorem vb_le {u : Int} (h : u < 18446744073709551616) : (vb u).length ≤ 10 := vb_len 9 u (by
  have : (128 : Int) ^ 9 = 9223372036854775808 := by decide
  rw [this]; omega)
theorem or_tab128 : ∀ r : Fin 256, UInt8.ofNat r.val ||| 128 = UInt8.ofNat (128 + r.val % 128) := by decide +kernel
theorem ofInt_nat {u : Int} (h : 0 ≤ u) : UInt8.ofInt u = UInt8.ofNat (u.toNat % 256) := by
  unfold UInt8.ofInt
  congr 1
  have : (2 : Int) ^ 8 = 256 := by decide
  rw [this]; omega
theorem or128 {u : Int} (h : 0 ≤ u) : UInt8.ofInt u ||| 128 = UInt8.ofInt (128 + u % 128) := by
  rw [ofInt_nat h, or_tab128 ⟨u.toNat % 256, Nat.mod_lt _ (by decide)⟩, ofInt_nat (by omega)]
  congr 1
  have : (128 + u % 128).toNat = 128 + u.toNat % 128 := by omega
  rw [this]
  simp only
  omega
theorem p_addC (n : Int) (b : List UInt8) (h0 : 0 ≤ n) (h1 : n ≤ 9223372036854775807) (hb : b.length ≤ 900000000) : g_codec_add n b = some (b ++ vb (2 * n)) := by
  unfold g_codec_add f_codec_zigzag
  have hz : bXor .u64 (IntKind.wrap .u64 ((IntKind.wrap .u64 n) * 2 ^ (min (Int.toNat (1)) 64))) (IntKind.wrap .u64 (n / 2 ^ (Int.toNat (63)))) = 2 * n := by
    have e1 : IntKind.wrap .u64 n = n := by simp [IntKind.wrap, IntKind.bits, IntKind.signed]; omega
    have e2 : n / 2 ^ (Int.toNat (63)) = 0 := by
      have : (2 : Int) ^ (Int.toNat 63) = 9223372036854775808 := by decide
      rw [this]; omega
    have e3 : (2 : Int) ^ (min (Int.toNat 1) 64) = 2 := by decide
    rw [e1, e2, e3]
    have e4 : IntKind.wrap .u64 (n * 2) = 2 * n := by simp [IntKind.wrap, IntKind.bits, IntKind.signed]; omega
    have e5 : IntKind.wrap .u64 0 = 0 := by decide
    rw [e4, e5]
    unfold bXor
    have e6 : (BitVec.ofInt (IntKind.bits .u64) (2 * n) ^^^ BitVec.ofInt (IntKind.bits .u64) 0) = BitVec.ofInt (IntKind.bits .u64) (2 * n) := by
      have : BitVec.ofInt (IntKind.bits .u64) 0 = 0#(IntKind.bits .u64) := by decide
      rw [this, BitVec.xor_zero]
    rw [e6, BitVec.toNat_ofInt]
    have e7 : (((2 * n) % ((2 ^ IntKind.bits .u64 : Nat) : Int)).toNat : Int) = 2 * n := by
      have : ((2 ^ IntKind.bits .u64 : Nat) : Int) = 18446744073709551616 := by decide
      rw [this]; omega
    rw [e7]
    simp [IntKind.wrap, IntKind.bits, IntKind.signed]; omega
  rw [ck_pos (by decide), hz]
  simp only [Option.bind_some]
  have hl := vb_le (u := 2 * n) (by omega)
  have := loop_spec (step := fun s : List UInt8 × Int => g_codec_add_l1 s.1 s.2) (fun s => some (s.1 ++ vb s.2)) (fun s => 0 ≤ s.2 ∧ s.2 < 18446744073709551616 ∧ s.1.length + (vb s.2).length ≤ 1000000000) (fun s => s.2.toNat) (by
    rintro ⟨c, u⟩ ⟨k0, k1, k2⟩
    simp only at k0 k1 k2 ⊢
    unfold g_codec_add_l1
    by_cases hu : 127 < u
    · have hv : vb u = UInt8.ofInt (128 + u % 128) :: vb (u / 128) := by rw [vb]; rw [if_pos hu]
      have hf : Int.fdiv u (2 ^ (min (Int.toNat (7)) 64)) = u / 128 := by
        have : (2 : Int) ^ (min (Int.toNat (7)) 64) = 128 := by decide
        rw [this, Int.fdiv_eq_ediv_of_nonneg _ (by decide)]
      rw [hv] at k2 ⊢
      simp only [List.length_cons] at k2
      rw [if_pos (by simp; omega), ck_pos (by simp; omega), ck_pos (by decide), or128 k0, hf]
      exact .inr ⟨_, rfl, ⟨by simp only; omega, by simp only; omega, by simp; omega⟩, by simp only; omega, by simp⟩
    · have hv : vb u = [UInt8.ofInt u] := by rw [vb]; rw [if_neg hu]
      rw [hv] at k2 ⊢
      rw [if_neg (by simp; omega)]
      unfold g_codec_add_j1
      rw [ck_pos (by simpa using k2)]
      exact .inl ⟨_, rfl, rfl⟩) (s := (b, 2 * n)) ⟨by simp only; omega, by simp only; omega, by simp only; omega⟩ (by simp only; omega)
  rw [this]
theorem p_PutC (n : Int) (h0 : 0 ≤ n) (h1 : n ≤ 9223372036854775807) : f_codec_PutNumber [] n = some (vb (2 * n)) := by
  unfold f_codec_PutNumber f_codec_grown
  rw [ck_pos (by simp), ck_pos (by simp)]
  simp only [Option.bind_some]
  rw [p_addC n _ h0 h1 (by simp)]
  rfl
theorem p_BytesL (u : Int) (h0 : 0 ≤ u) (h1 : u < 18446744073709551616) : f_billingref07_Bytes_j1 u = some (vb u) := by
  unfold f_billingref07_Bytes_j1
  have hl := vb_le h1
  have := loop_spec (step := fun s : Int × List UInt8 => f_billingref07_Bytes_l1 s.1 s.2) (fun s => some (s.2 ++ vb s.1)) (fun s => 0 ≤ s.1 ∧ s.1 < 18446744073709551616 ∧ s.2.length + (vb s.1).length ≤ 1000000000) (fun s => s.1.toNat) (by
    rintro ⟨u, c⟩ ⟨k0, k1, k2⟩
    simp only at k0 k1 k2 ⊢
    unfold f_billingref07_Bytes_l1
    by_cases hu : 127 < u
    · have hv : vb u = UInt8.ofInt (128 + u % 128) :: vb (u / 128) := by rw [vb]; rw [if_pos hu]
      have ht : Int.tmod u 128 = u % 128 := Int.tmod_eq_emod_of_nonneg k0
      have hd : Int.tdiv u 128 = u / 128 := Int.tdiv_eq_ediv_of_nonneg k0
      have hw1 : IntKind.wrap .u64 (128 + u % 128) = 128 + u % 128 := by simp [IntKind.wrap, IntKind.bits, IntKind.signed]; omega
      have hw2 : IntKind.wrap .u64 (u / 128) = u / 128 := by simp [IntKind.wrap, IntKind.bits, IntKind.signed]; omega
      rw [hv] at k2 ⊢
      simp only [List.length_cons] at k2
      rw [if_pos (by simp; omega), ck_pos (by decide), ht, hd, hw1, hw2, ck_pos (by simp; omega), ck_pos (by decide)]
      exact .inr ⟨_, rfl, ⟨by simp only; omega, by simp only; omega, by simp; omega⟩, by simp only; omega, by simp⟩
    · have hv : vb u = [UInt8.ofInt u] := by rw [vb]; rw [if_neg hu]
      rw [hv] at k2 ⊢
      rw [if_neg (by simp; omega)]
      unfold f_billingref07_Bytes_j2
      rw [ck_pos (by simpa using k2)]
      exact .inl ⟨_, rfl, rfl⟩) (s := (u, [])) ⟨h0, h1, by simp; omega⟩ (by simp only; omega)
  rw [this]; rfl
theorem p_rPut (b : List UInt8) (n : Int) (h0 : 0 ≤ n) (h1 : n ≤ 9223372036854775807) (hb : b.length ≤ 900000000) : f_billingref07_PutNumber b n = some (b ++ vb (2 * n)) := by
  unfold f_billingref07_PutNumber f_billingref07_Bytes f_billingref07_join
  have e1 : IntKind.wrap .u64 n = n := by simp [IntKind.wrap, IntKind.bits, IntKind.signed]; omega
  have e2 : IntKind.wrap .u64 (2 * n) = 2 * n := by simp [IntKind.wrap, IntKind.bits, IntKind.signed]; omega
  have hl := vb_le (u := 2 * n) (by omega)
  rw [if_neg (by simp; omega), e1, e2, p_BytesL _ (by omega) (by omega)]
  simp only [Option.bind_some]
  rw [ck_pos (by simp; omega), ck_pos (by simp; omega)]
  rfl
end Go.Proofs.YtccmaffefdcikaaDoor
