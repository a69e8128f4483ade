/- Our own texts LW2 LW3 LW4 LW5 of this seat in one. -/
import Derived.Test.YtccmaffefdcikaaDoorZ2
set_option linter.unusedSimpArgs false
set_option linter.unusedVariables false
namespace Go.Proofs.YtccmaffefdcikaaDoor
open Go.RowKit Go.Abs
set_option maxRecDepth 100000 in
set_option maxHeartbeats 1000000 in
theorem c_g_tagged_put {v1tag : Int} {v2value : List UInt8} {y0t0p : List UInt8} {n0p : Nat} {r : (List UInt8)} (H : g_tagged_put v1tag v2value y0t0p = some r) : ACallS Tryd.prog 52 [.vc 0 n0p, .d (cI v1tag), .d (slOf 1 rB8 v2value)] ⟨[], [⟨5, 1, n0p, some (y0t0p.map rB8)⟩]⟩ (QE (.vc 0 ((r).length)) ⟨[], [⟨5, 1, r.length, some (r.map rB8)⟩]⟩) := by
  obtain ⟨i5, hi5, hz5, hs5, hb5⟩ := in_5
  refine ACallS.keep ?_
  refine ACallS.enter Tryd.func52 rfl Tryd.ntmps52 rfl fun S hS => ?_
  unfold g_tagged_put at H
  change ARun _ _ _ _ _ _ [(0, .vc 0 n0p), (1, .d (cI v1tag)), (2, .d (slOf 1 rB8 v2value))] _
  refine .seq ?_
  refine .region ?_
  refine .q (q_assign rfl) rfl ?_
  refine .nil ?_
  refine .seq ?_
  refine .region ?_
  refine .q (q_move rfl) rfl ?_
  refine .q (q_move rfl) rfl ?_
  refine .q (x := .d (cU8 (UInt8.ofInt v1tag))) (q_conv8 Tryd.underlying3 Tryd.underlying5 rfl) rfl ?_
  refine .q (q_move rfl) rfl ?_
  refine .q (q_lenL (l := v2value) (row := rB8) Tryd.underlying32 rfl rfl) rfl ?_
  refine .q (x := .d (cU8 (UInt8.ofInt (v2value.length : Int)))) (q_conv8 Tryd.underlying3 Tryd.underlying5 rfl) rfl ?_
  refine .g (x := .d (slOf 1 rB8 ([UInt8.ofInt v1tag, UInt8.ofInt (v2value.length : Int)] : List UInt8))) (g_buildSliceN (n := 2) (rows := ([UInt8.ofInt v1tag, UInt8.ofInt (v2value.length : Int)] : List UInt8).map rB8) Tryd.underlying32 hi5 hs5 hz5 rfl rfl rfl rfl rfl) rfl ?_
  obtain ⟨hk1, H⟩ := ck_some H
  refine .v (x := .vc 0 ((y0t0p ++ ([UInt8.ofInt v1tag, UInt8.ofInt (v2value.length : Int)] : List UInt8)).length)) (v_appendV (l := y0t0p) (l' := ([UInt8.ofInt v1tag, UInt8.ofInt (v2value.length : Int)] : List UInt8)) (row := rB8) Tryd.underlying32 hi5 hz5 hs5 rfl (by rw [hb5]; decide) rfl rfl rfl rfl hk1) rfl ?_
  refine .withSt (st' := ⟨[], [⟨5, 1, ((y0t0p ++ ([UInt8.ofInt v1tag, UInt8.ofInt (v2value.length : Int)] : List UInt8)).length), some ((y0t0p ++ ([UInt8.ofInt v1tag, UInt8.ofInt (v2value.length : Int)] : List UInt8)).map rB8)⟩]⟩) rfl ?_
  refine .q (q_assign rfl) rfl ?_
  refine .nil ?_
  refine .seq ?_
  refine .region ?_
  refine .q (q_move rfl) rfl ?_
  refine .q (q_move rfl) rfl ?_
  obtain ⟨hk2, H⟩ := ck_some H
  refine .v (x := .vc 0 (((y0t0p ++ ([UInt8.ofInt v1tag, UInt8.ofInt (v2value.length : Int)] : List UInt8)) ++ v2value).length)) (v_appendV (l := y0t0p ++ ([UInt8.ofInt v1tag, UInt8.ofInt (v2value.length : Int)] : List UInt8)) (l' := v2value) (row := rB8) Tryd.underlying32 hi5 hz5 hs5 rfl (by rw [hb5]; decide) rfl rfl rfl rfl hk2) rfl ?_
  refine .withSt (st' := ⟨[], [⟨5, 1, (((y0t0p ++ ([UInt8.ofInt v1tag, UInt8.ofInt (v2value.length : Int)] : List UInt8)) ++ v2value).length), some (((y0t0p ++ ([UInt8.ofInt v1tag, UInt8.ofInt (v2value.length : Int)] : List UInt8)) ++ v2value).map rB8)⟩]⟩) rfl ?_
  refine .q (q_assign rfl) rfl ?_
  refine .nil ?_
  refine .retN [.tmp 6] [.vc 0 (((y0t0p ++ ([UInt8.ofInt v1tag, UInt8.ofInt (v2value.length : Int)] : List UInt8)) ++ v2value).length)] Tryd.func52 Tryd.results52 ⟨rfl, trivial⟩ ?_
  cases H
  exact ⟨[], [0], rfl, rfl, rfl, rfl, rfl, rfl, rfl, rfl, .rfl' _⟩

set_option maxRecDepth 100000 in
set_option maxHeartbeats 1000000 in
theorem c_g_tagged_Encode_1 {v0tag : Int} {v1value : List UInt8} {y0t0p : List UInt8} {n0p : Nat} {r : (List UInt8)} (H : g_tagged_Encode_1 v0tag v1value y0t0p = some r) : ACallS Tryd.prog 51 [.d (cI v0tag), .d (slOf 1 rB8 v1value), .ref 0 0] ⟨[.row 32 [.vc 0 n0p]], [⟨5, 1, n0p, some (y0t0p.map rB8)⟩]⟩ (QE (.d (.tup [])) ⟨[.row 32 [.vc 0 r.length]], [⟨5, 1, r.length, some (r.map rB8)⟩]⟩) := by
  refine ACallS.keep ?_
  refine ACallS.enter Tryd.func51 rfl Tryd.ntmps51 rfl fun S hS => ?_
  unfold g_tagged_Encode_1 at H
  change ARun _ _ _ _ _ _ [(0, .d (cI v0tag)), (1, .d (slOf 1 rB8 v1value)), (2, .ref 0 0)] _
  refine .seq ?_
  refine .region ?_
  refine .q (q_move rfl) rfl ?_
  refine .q (q_lenL (l := v1value) (row := rB8) Tryd.underlying32 rfl rfl) rfl ?_
  refine .q (q_gtr rfl rfl) rfl ?_
  refine .nil ?_
  refine .cond rfl (fun hc => ?_) (fun hc => ?_)
  · replace H := ifT hc H; clear hc
    refine .region ?_
    refine .q (x := .vc 0 n0p) (q_loadO one_32 rfl rfl rfl) rfl ?_
    refine .q (q_move rfl) rfl ?_
    refine .q (q_move rfl) rfl ?_
    obtain ⟨y1, hy1, H⟩ := bind_some' H
    refine .callF en_52 rfl [] [0] (x := .vc 0 ((y1).length)) (st' := ⟨[.row 32 [.vc 0 n0p]], [⟨5, 1, y1.length, some (y1.map rB8)⟩]⟩) rfl (c_g_tagged_put (hy1)) ⟨.rfl' _, .rfl' _, .rfl' _, trivial⟩ rfl rfl rfl rfl rfl rfl ?_
    refine .withSt (st' := ⟨[.row 32 [.vc 0 n0p]], [⟨5, 1, y1.length, some (y1.map rB8)⟩]⟩) rfl ?_
    refine .u (u_store rfl rfl rfl rfl (Nat.le_of_ble_eq_true rfl) sz_32) rfl ?_
    refine .withSt (st' := ⟨[.row 32 [.vc 0 ((y1).length)]], [⟨5, 1, y1.length, some (y1.map rB8)⟩]⟩) rfl ?_
    refine .nil ?_
    refine .fin0 Tryd.func51 Tryd.results51 ?_
    cases H
    exact ⟨[0], [0], rfl, rfl, rfl, rfl, rfl, rfl, rfl, rfl, EVle.tupL (ds := []) trivial⟩
  · replace H := ifF hc H; clear hc
    refine .skip ?_
    refine .normV (l := y0t0p) (row := rB8) (tk := 0) (fun z => []) (fun z => ⟨[.row 32 [.vc 0 z]], [⟨5, 1, z, some (y0t0p.map rB8)⟩]⟩) rfl (.nil) rfl ?_
    refine .fin0 Tryd.func51 Tryd.results51 ?_
    cases H
    exact ⟨[0], [0], rfl, rfl, rfl, rfl, rfl, rfl, rfl, rfl, EVle.tupL (ds := []) trivial⟩

set_option maxRecDepth 100000 in
set_option maxHeartbeats 1000000 in
theorem c_f_tagged_Encode {v0 : Record} {r : (List UInt8) × Int} (H : f_tagged_Encode v0 = some r) : ACall Tryd.prog 31 [.agg (Record.row v0)] (· = .tup [slOf 1 rB8 r.1, cI r.2]) := by
  obtain ⟨i5, hi5, hz5, hs5, hb5⟩ := in_5
  refine ACall.enter' Tryd.func31 rfl Tryd.ntmps31 rfl fun S hS => ?_
  unfold f_tagged_Encode at H
  change ARun _ _ _ _ _ _ [(0, .d (.agg (Record.row v0)))] _
  refine .seq ?_
  refine .region ?_
  refine .v (x := .ref 0 0) (v_box rfl rfl) rfl ?_
  refine .withSt (st' := ⟨[.row 39 [.d (cI v0.source), .d (cI v0.serial), .d (cI v0.kind), .d (cS v0.a), .d (cS v0.b), .d (cI v0.start), .d (cI v0.units), .d (cI v0.call), .d (cI v0.part), .d (cB v0.last), .d (cI v0.trunk), .d (cB v0.inbound)]], []⟩) rfl ?_
  refine .q (q_assign rfl) rfl ?_
  refine .q (q_assign rfl) rfl ?_
  refine .nil ?_
  refine .seq ?_
  refine .seq ?_
  refine .region ?_
  refine .q (x := .d (.agg (Record.row v0))) (q_loadOA one_39 sz_39 rfl rfl (Nat.le_of_ble_eq_true rfl) rfl) rfl ?_
  obtain ⟨y1, hy1, H⟩ := bind_some' H
  refine .g (x := .d (.tup [cS y1.1, cI y1.2])) (g_call en_24 rfl rfl (c_f_textual_Encode (hy1))) rfl ?_
  refine .q (q_move rfl) rfl ?_
  refine .q (q_extract rfl rfl) rfl ?_
  refine .q (q_extract rfl rfl) rfl ?_
  refine .q (q_assign rfl) rfl ?_
  refine .q (q_assign rfl) rfl ?_
  refine .nil ?_
  refine .seq ?_
  refine .region ?_
  refine .q (q_move rfl) rfl ?_
  refine .q (q_neq rfl rfl) rfl ?_
  refine .nil ?_
  refine .cond rfl (fun hc => ?_) (fun hc => ?_)
  · replace H := ifT hc H; clear hc
    refine .seq ?_
    refine .region ?_
    refine .q (q_move rfl) rfl ?_
    refine .q (q_assign rfl) rfl ?_
    refine .q (q_assign rfl) rfl ?_
    refine .nil ?_
    refine .retN [.tmp 2, .tmp 3] [.d (nilD), .d (cI y1.2)] Tryd.func31 Tryd.results31 ⟨rfl, rfl, trivial⟩ ?_
    cases H
    exact ⟨_, EVle.tupL (ds := [slOf 1 rB8 ([] : List UInt8), cI y1.2]) ⟨.nil 1, .rfl' _, trivial⟩, rfl⟩
  · replace H := ifF hc H; clear hc
    refine .skip ?_
    refine .seq ?_
    refine .region ?_
    refine .q (q_fieldRef fo_39_3 rfl) rfl ?_
    refine .q (x := .d (cS v0.a)) (q_loadO one_9 rfl rfl rfl) rfl ?_
    obtain ⟨y2, hy2, H⟩ := bind_some' H
    refine .g (x := .d (.tup [slOf 1 rB8 y2.1, cI y2.2])) (g_call en_50 rfl rfl (c_f_digits_Pack (hy2))) rfl ?_
    refine .q (q_move rfl) rfl ?_
    refine .q (q_extract rfl rfl) rfl ?_
    refine .q (q_extract rfl rfl) rfl ?_
    refine .q (q_assign rfl) rfl ?_
    refine .q (q_assign rfl) rfl ?_
    refine .nil ?_
    refine .seq ?_
    refine .region ?_
    refine .q (q_fieldRef fo_39_4 rfl) rfl ?_
    refine .q (x := .d (cS v0.b)) (q_loadO one_9 rfl rfl rfl) rfl ?_
    obtain ⟨y3, hy3, H⟩ := bind_some' H
    refine .g (x := .d (.tup [slOf 1 rB8 y3.1, cI y3.2])) (g_call en_50 rfl rfl (c_f_digits_Pack (hy3))) rfl ?_
    refine .q (q_move rfl) rfl ?_
    refine .q (q_extract rfl rfl) rfl ?_
    refine .q (q_extract rfl rfl) rfl ?_
    refine .q (q_assign rfl) rfl ?_
    refine .q (q_assign rfl) rfl ?_
    refine .nil ?_
    refine .seq ?_
    refine .region ?_
    obtain ⟨hk1, H⟩ := ck_some H
    refine .v (x := .vc 0 ((List.replicate (Int.toNat (2)) 0 : List UInt8).length)) (v_makeV (row := rB8) (a := 2) (b := 2) (a0 := 0) Tryd.underlying32 hi5 hz5 hs5 rfl (by rw [hb5]; decide) rfl rfl rfl hk1) rfl ?_
    refine .withSt (st' := ⟨[.row 39 [.d (cI v0.source), .d (cI v0.serial), .d (cI v0.kind), .d (cS v0.a), .d (cS v0.b), .d (cI v0.start), .d (cI v0.units), .d (cI v0.call), .d (cI v0.part), .d (cB v0.last), .d (cI v0.trunk), .d (cB v0.inbound)]], [⟨5, 1, ((List.replicate (Int.toNat (2)) 0 : List UInt8).length), some ((List.replicate (Int.toNat (2)) 0 : List UInt8).map rB8)⟩]⟩) rfl ?_
    refine .v (x := .ref 1 0) (v_alloc zr_32 rfl) rfl ?_
    refine .withSt (st' := ⟨[.row 39 [.d (cI v0.source), .d (cI v0.serial), .d (cI v0.kind), .d (cS v0.a), .d (cS v0.b), .d (cI v0.start), .d (cI v0.units), .d (cI v0.call), .d (cI v0.part), .d (cB v0.last), .d (cI v0.trunk), .d (cB v0.inbound)], .row 32 [.d (nilD)]], [⟨5, 1, ((List.replicate (Int.toNat (2)) 0 : List UInt8).length), some ((List.replicate (Int.toNat (2)) 0 : List UInt8).map rB8)⟩]⟩) rfl ?_
    refine .u (u_store rfl rfl rfl rfl (Nat.le_of_ble_eq_true rfl) sz_32) rfl ?_
    refine .withSt (st' := ⟨[.row 39 [.d (cI v0.source), .d (cI v0.serial), .d (cI v0.kind), .d (cS v0.a), .d (cS v0.b), .d (cI v0.start), .d (cI v0.units), .d (cI v0.call), .d (cI v0.part), .d (cB v0.last), .d (cI v0.trunk), .d (cB v0.inbound)], .row 32 [.vc 0 ((List.replicate (Int.toNat (2)) 0 : List UInt8).length)]], [⟨5, 1, ((List.replicate (Int.toNat (2)) 0 : List UInt8).length), some ((List.replicate (Int.toNat (2)) 0 : List UInt8).map rB8)⟩]⟩) rfl ?_
    refine .nil ?_
    refine .seq ?_
    refine .region ?_
    refine .q (x := .clo 51 [.ref 1 0]) (q_makeFunc rfl) rfl ?_
    refine .q (q_assign rfl) rfl ?_
    refine .nil ?_
    refine .seq ?_
    refine .region ?_
    refine .q (q_move rfl) rfl ?_
    refine .q (q_fieldRef fo_39_2 rfl) rfl ?_
    refine .q (x := .d (cI v0.kind)) (q_loadO one_3 rfl rfl rfl) rfl ?_
    obtain ⟨y4, hy4, H⟩ := bind_some' H
    refine .g (x := .d (slOf 1 rB8 y4)) (g_call en_53 rfl rfl (c_f_tagged_bytes (hy4))) rfl ?_
    obtain ⟨y5, hy5, H⟩ := bind_some' H
    refine .callFC en_51 rfl rfl [1] [0] (x := .d (.tup [])) (st' := ⟨[.row 39 [.d (cI v0.source), .d (cI v0.serial), .d (cI v0.kind), .d (cS v0.a), .d (cS v0.b), .d (cI v0.start), .d (cI v0.units), .d (cI v0.call), .d (cI v0.part), .d (cB v0.last), .d (cI v0.trunk), .d (cB v0.inbound)], .row 32 [.vc 0 y5.length]], [⟨5, 1, y5.length, some (y5.map rB8)⟩]⟩) rfl (c_g_tagged_Encode_1 (hy5)) ⟨.rfl' _, .rfl' _, .rfl' _, trivial⟩ rfl rfl rfl rfl rfl rfl ?_
    refine .withSt (st' := ⟨[.row 39 [.d (cI v0.source), .d (cI v0.serial), .d (cI v0.kind), .d (cS v0.a), .d (cS v0.b), .d (cI v0.start), .d (cI v0.units), .d (cI v0.call), .d (cI v0.part), .d (cB v0.last), .d (cI v0.trunk), .d (cB v0.inbound)], .row 32 [.vc 0 y5.length]], [⟨5, 1, y5.length, some (y5.map rB8)⟩]⟩) rfl ?_
    refine .nil ?_
    refine .seq ?_
    refine .region ?_
    refine .q (q_move rfl) rfl ?_
    refine .q (q_fieldRef fo_39_0 rfl) rfl ?_
    refine .q (x := .d (cI v0.source)) (q_loadO one_3 rfl rfl rfl) rfl ?_
    obtain ⟨y6, hy6, H⟩ := bind_some' H
    refine .g (x := .d (slOf 1 rB8 y6)) (g_call en_53 rfl rfl (c_f_tagged_bytes (hy6))) rfl ?_
    obtain ⟨y7, hy7, H⟩ := bind_some' H
    refine .callFC en_51 rfl rfl [1] [0] (x := .d (.tup [])) (st' := ⟨[.row 39 [.d (cI v0.source), .d (cI v0.serial), .d (cI v0.kind), .d (cS v0.a), .d (cS v0.b), .d (cI v0.start), .d (cI v0.units), .d (cI v0.call), .d (cI v0.part), .d (cB v0.last), .d (cI v0.trunk), .d (cB v0.inbound)], .row 32 [.vc 0 y7.length]], [⟨5, 1, y7.length, some (y7.map rB8)⟩]⟩) rfl (c_g_tagged_Encode_1 (hy7)) ⟨.rfl' _, .rfl' _, .rfl' _, trivial⟩ rfl rfl rfl rfl rfl rfl ?_
    refine .withSt (st' := ⟨[.row 39 [.d (cI v0.source), .d (cI v0.serial), .d (cI v0.kind), .d (cS v0.a), .d (cS v0.b), .d (cI v0.start), .d (cI v0.units), .d (cI v0.call), .d (cI v0.part), .d (cB v0.last), .d (cI v0.trunk), .d (cB v0.inbound)], .row 32 [.vc 0 y7.length]], [⟨5, 1, y7.length, some (y7.map rB8)⟩]⟩) rfl ?_
    refine .nil ?_
    refine .seq ?_
    refine .region ?_
    refine .q (q_move rfl) rfl ?_
    refine .q (q_fieldRef fo_39_1 rfl) rfl ?_
    refine .q (x := .d (cI v0.serial)) (q_loadO one_3 rfl rfl rfl) rfl ?_
    obtain ⟨y8, hy8, H⟩ := bind_some' H
    refine .g (x := .d (slOf 1 rB8 y8)) (g_call en_53 rfl rfl (c_f_tagged_bytes (hy8))) rfl ?_
    obtain ⟨y9, hy9, H⟩ := bind_some' H
    refine .callFC en_51 rfl rfl [1] [0] (x := .d (.tup [])) (st' := ⟨[.row 39 [.d (cI v0.source), .d (cI v0.serial), .d (cI v0.kind), .d (cS v0.a), .d (cS v0.b), .d (cI v0.start), .d (cI v0.units), .d (cI v0.call), .d (cI v0.part), .d (cB v0.last), .d (cI v0.trunk), .d (cB v0.inbound)], .row 32 [.vc 0 y9.length]], [⟨5, 1, y9.length, some (y9.map rB8)⟩]⟩) rfl (c_g_tagged_Encode_1 (hy9)) ⟨.rfl' _, .rfl' _, .rfl' _, trivial⟩ rfl rfl rfl rfl rfl rfl ?_
    refine .withSt (st' := ⟨[.row 39 [.d (cI v0.source), .d (cI v0.serial), .d (cI v0.kind), .d (cS v0.a), .d (cS v0.b), .d (cI v0.start), .d (cI v0.units), .d (cI v0.call), .d (cI v0.part), .d (cB v0.last), .d (cI v0.trunk), .d (cB v0.inbound)], .row 32 [.vc 0 y9.length]], [⟨5, 1, y9.length, some (y9.map rB8)⟩]⟩) rfl ?_
    refine .nil ?_
    refine .seq ?_
    refine .region ?_
    refine .q (q_move rfl) rfl ?_
    refine .q (q_move rfl) rfl ?_
    obtain ⟨y10, hy10, H⟩ := bind_some' H
    refine .callFC en_51 rfl rfl [1] [0] (x := .d (.tup [])) (st' := ⟨[.row 39 [.d (cI v0.source), .d (cI v0.serial), .d (cI v0.kind), .d (cS v0.a), .d (cS v0.b), .d (cI v0.start), .d (cI v0.units), .d (cI v0.call), .d (cI v0.part), .d (cB v0.last), .d (cI v0.trunk), .d (cB v0.inbound)], .row 32 [.vc 0 y10.length]], [⟨5, 1, y10.length, some (y10.map rB8)⟩]⟩) rfl (c_g_tagged_Encode_1 (hy10)) ⟨.rfl' _, .rfl' _, .rfl' _, trivial⟩ rfl rfl rfl rfl rfl rfl ?_
    refine .withSt (st' := ⟨[.row 39 [.d (cI v0.source), .d (cI v0.serial), .d (cI v0.kind), .d (cS v0.a), .d (cS v0.b), .d (cI v0.start), .d (cI v0.units), .d (cI v0.call), .d (cI v0.part), .d (cB v0.last), .d (cI v0.trunk), .d (cB v0.inbound)], .row 32 [.vc 0 y10.length]], [⟨5, 1, y10.length, some (y10.map rB8)⟩]⟩) rfl ?_
    refine .nil ?_
    refine .seq ?_
    refine .region ?_
    refine .q (q_move rfl) rfl ?_
    refine .q (q_move rfl) rfl ?_
    obtain ⟨y11, hy11, H⟩ := bind_some' H
    refine .callFC en_51 rfl rfl [1] [0] (x := .d (.tup [])) (st' := ⟨[.row 39 [.d (cI v0.source), .d (cI v0.serial), .d (cI v0.kind), .d (cS v0.a), .d (cS v0.b), .d (cI v0.start), .d (cI v0.units), .d (cI v0.call), .d (cI v0.part), .d (cB v0.last), .d (cI v0.trunk), .d (cB v0.inbound)], .row 32 [.vc 0 y11.length]], [⟨5, 1, y11.length, some (y11.map rB8)⟩]⟩) rfl (c_g_tagged_Encode_1 (hy11)) ⟨.rfl' _, .rfl' _, .rfl' _, trivial⟩ rfl rfl rfl rfl rfl rfl ?_
    refine .withSt (st' := ⟨[.row 39 [.d (cI v0.source), .d (cI v0.serial), .d (cI v0.kind), .d (cS v0.a), .d (cS v0.b), .d (cI v0.start), .d (cI v0.units), .d (cI v0.call), .d (cI v0.part), .d (cB v0.last), .d (cI v0.trunk), .d (cB v0.inbound)], .row 32 [.vc 0 y11.length]], [⟨5, 1, y11.length, some (y11.map rB8)⟩]⟩) rfl ?_
    refine .nil ?_
    refine .seq ?_
    refine .region ?_
    refine .q (q_move rfl) rfl ?_
    refine .q (q_fieldRef fo_39_5 rfl) rfl ?_
    refine .q (x := .d (cI v0.start)) (q_loadO one_3 rfl rfl rfl) rfl ?_
    obtain ⟨y12, hy12, H⟩ := bind_some' H
    refine .g (x := .d (slOf 1 rB8 y12)) (g_call en_53 rfl rfl (c_f_tagged_bytes (hy12))) rfl ?_
    obtain ⟨y13, hy13, H⟩ := bind_some' H
    refine .callFC en_51 rfl rfl [1] [0] (x := .d (.tup [])) (st' := ⟨[.row 39 [.d (cI v0.source), .d (cI v0.serial), .d (cI v0.kind), .d (cS v0.a), .d (cS v0.b), .d (cI v0.start), .d (cI v0.units), .d (cI v0.call), .d (cI v0.part), .d (cB v0.last), .d (cI v0.trunk), .d (cB v0.inbound)], .row 32 [.vc 0 y13.length]], [⟨5, 1, y13.length, some (y13.map rB8)⟩]⟩) rfl (c_g_tagged_Encode_1 (hy13)) ⟨.rfl' _, .rfl' _, .rfl' _, trivial⟩ rfl rfl rfl rfl rfl rfl ?_
    refine .withSt (st' := ⟨[.row 39 [.d (cI v0.source), .d (cI v0.serial), .d (cI v0.kind), .d (cS v0.a), .d (cS v0.b), .d (cI v0.start), .d (cI v0.units), .d (cI v0.call), .d (cI v0.part), .d (cB v0.last), .d (cI v0.trunk), .d (cB v0.inbound)], .row 32 [.vc 0 y13.length]], [⟨5, 1, y13.length, some (y13.map rB8)⟩]⟩) rfl ?_
    refine .nil ?_
    refine .seq ?_
    refine .region ?_
    refine .q (q_move rfl) rfl ?_
    refine .q (q_fieldRef fo_39_6 rfl) rfl ?_
    refine .q (x := .d (cI v0.units)) (q_loadO one_3 rfl rfl rfl) rfl ?_
    obtain ⟨y14, hy14, H⟩ := bind_some' H
    refine .g (x := .d (slOf 1 rB8 y14)) (g_call en_53 rfl rfl (c_f_tagged_bytes (hy14))) rfl ?_
    obtain ⟨y15, hy15, H⟩ := bind_some' H
    refine .callFC en_51 rfl rfl [1] [0] (x := .d (.tup [])) (st' := ⟨[.row 39 [.d (cI v0.source), .d (cI v0.serial), .d (cI v0.kind), .d (cS v0.a), .d (cS v0.b), .d (cI v0.start), .d (cI v0.units), .d (cI v0.call), .d (cI v0.part), .d (cB v0.last), .d (cI v0.trunk), .d (cB v0.inbound)], .row 32 [.vc 0 y15.length]], [⟨5, 1, y15.length, some (y15.map rB8)⟩]⟩) rfl (c_g_tagged_Encode_1 (hy15)) ⟨.rfl' _, .rfl' _, .rfl' _, trivial⟩ rfl rfl rfl rfl rfl rfl ?_
    refine .withSt (st' := ⟨[.row 39 [.d (cI v0.source), .d (cI v0.serial), .d (cI v0.kind), .d (cS v0.a), .d (cS v0.b), .d (cI v0.start), .d (cI v0.units), .d (cI v0.call), .d (cI v0.part), .d (cB v0.last), .d (cI v0.trunk), .d (cB v0.inbound)], .row 32 [.vc 0 y15.length]], [⟨5, 1, y15.length, some (y15.map rB8)⟩]⟩) rfl ?_
    refine .nil ?_
    refine .seq ?_
    refine .region ?_
    refine .q (q_move rfl) rfl ?_
    refine .q (q_fieldRef fo_39_7 rfl) rfl ?_
    refine .q (x := .d (cI v0.call)) (q_loadO one_3 rfl rfl rfl) rfl ?_
    obtain ⟨y16, hy16, H⟩ := bind_some' H
    refine .g (x := .d (slOf 1 rB8 y16)) (g_call en_53 rfl rfl (c_f_tagged_bytes (hy16))) rfl ?_
    obtain ⟨y17, hy17, H⟩ := bind_some' H
    refine .callFC en_51 rfl rfl [1] [0] (x := .d (.tup [])) (st' := ⟨[.row 39 [.d (cI v0.source), .d (cI v0.serial), .d (cI v0.kind), .d (cS v0.a), .d (cS v0.b), .d (cI v0.start), .d (cI v0.units), .d (cI v0.call), .d (cI v0.part), .d (cB v0.last), .d (cI v0.trunk), .d (cB v0.inbound)], .row 32 [.vc 0 y17.length]], [⟨5, 1, y17.length, some (y17.map rB8)⟩]⟩) rfl (c_g_tagged_Encode_1 (hy17)) ⟨.rfl' _, .rfl' _, .rfl' _, trivial⟩ rfl rfl rfl rfl rfl rfl ?_
    refine .withSt (st' := ⟨[.row 39 [.d (cI v0.source), .d (cI v0.serial), .d (cI v0.kind), .d (cS v0.a), .d (cS v0.b), .d (cI v0.start), .d (cI v0.units), .d (cI v0.call), .d (cI v0.part), .d (cB v0.last), .d (cI v0.trunk), .d (cB v0.inbound)], .row 32 [.vc 0 y17.length]], [⟨5, 1, y17.length, some (y17.map rB8)⟩]⟩) rfl ?_
    refine .nil ?_
    refine .seq ?_
    refine .region ?_
    refine .q (q_move rfl) rfl ?_
    refine .q (q_fieldRef fo_39_8 rfl) rfl ?_
    refine .q (x := .d (cI v0.part)) (q_loadO one_3 rfl rfl rfl) rfl ?_
    obtain ⟨y18, hy18, H⟩ := bind_some' H
    refine .g (x := .d (slOf 1 rB8 y18)) (g_call en_53 rfl rfl (c_f_tagged_bytes (hy18))) rfl ?_
    obtain ⟨y19, hy19, H⟩ := bind_some' H
    refine .callFC en_51 rfl rfl [1] [0] (x := .d (.tup [])) (st' := ⟨[.row 39 [.d (cI v0.source), .d (cI v0.serial), .d (cI v0.kind), .d (cS v0.a), .d (cS v0.b), .d (cI v0.start), .d (cI v0.units), .d (cI v0.call), .d (cI v0.part), .d (cB v0.last), .d (cI v0.trunk), .d (cB v0.inbound)], .row 32 [.vc 0 y19.length]], [⟨5, 1, y19.length, some (y19.map rB8)⟩]⟩) rfl (c_g_tagged_Encode_1 (hy19)) ⟨.rfl' _, .rfl' _, .rfl' _, trivial⟩ rfl rfl rfl rfl rfl rfl ?_
    refine .withSt (st' := ⟨[.row 39 [.d (cI v0.source), .d (cI v0.serial), .d (cI v0.kind), .d (cS v0.a), .d (cS v0.b), .d (cI v0.start), .d (cI v0.units), .d (cI v0.call), .d (cI v0.part), .d (cB v0.last), .d (cI v0.trunk), .d (cB v0.inbound)], .row 32 [.vc 0 y19.length]], [⟨5, 1, y19.length, some (y19.map rB8)⟩]⟩) rfl ?_
    refine .nil ?_
    refine .seq ?_
    refine .region ?_
    refine .q (q_move rfl) rfl ?_
    refine .q (q_fieldRef fo_39_10 rfl) rfl ?_
    refine .q (x := .d (cI v0.trunk)) (q_loadO one_3 rfl rfl rfl) rfl ?_
    obtain ⟨y20, hy20, H⟩ := bind_some' H
    refine .g (x := .d (slOf 1 rB8 y20)) (g_call en_53 rfl rfl (c_f_tagged_bytes (hy20))) rfl ?_
    obtain ⟨y21, hy21, H⟩ := bind_some' H
    refine .callFC en_51 rfl rfl [1] [0] (x := .d (.tup [])) (st' := ⟨[.row 39 [.d (cI v0.source), .d (cI v0.serial), .d (cI v0.kind), .d (cS v0.a), .d (cS v0.b), .d (cI v0.start), .d (cI v0.units), .d (cI v0.call), .d (cI v0.part), .d (cB v0.last), .d (cI v0.trunk), .d (cB v0.inbound)], .row 32 [.vc 0 y21.length]], [⟨5, 1, y21.length, some (y21.map rB8)⟩]⟩) rfl (c_g_tagged_Encode_1 (hy21)) ⟨.rfl' _, .rfl' _, .rfl' _, trivial⟩ rfl rfl rfl rfl rfl rfl ?_
    refine .withSt (st' := ⟨[.row 39 [.d (cI v0.source), .d (cI v0.serial), .d (cI v0.kind), .d (cS v0.a), .d (cS v0.b), .d (cI v0.start), .d (cI v0.units), .d (cI v0.call), .d (cI v0.part), .d (cB v0.last), .d (cI v0.trunk), .d (cB v0.inbound)], .row 32 [.vc 0 y21.length]], [⟨5, 1, y21.length, some (y21.map rB8)⟩]⟩) rfl ?_
    refine .nil ?_
    refine .seq ?_
    refine .drawn 9 hMix (by kernel_rfl) ?_
    show DOps _ _ _ _ _ _ _ (_ :: _) _ _ _
    refine .q (q_move rfl) rfl ?_
    refine .q (q_fieldRef fo_39_9 rfl) rfl ?_
    refine .q (x := .d (cB v0.last)) (q_loadO one_4 rfl rfl rfl) rfl ?_
    obtain ⟨y22, hy22, H⟩ := bind_some' H
    refine .g (x := .d (cI y22)) (g_call en_54 rfl rfl (c_f_tagged_flag (hy22))) rfl ?_
    refine .q (q_fieldRef fo_39_11 rfl) rfl ?_
    refine .q (x := .d (cB v0.inbound)) (q_loadO one_4 rfl rfl rfl) rfl ?_
    obtain ⟨y23, hy23, H⟩ := bind_some' H
    refine .g (x := .d (cI y23)) (g_call en_54 rfl rfl (c_f_tagged_flag (hy23))) rfl ?_
    obtain ⟨hk2, H⟩ := ck_some H
    refine .q (q_addI rfl rfl hk2.1 hk2.2) rfl ?_
    obtain ⟨y24, hy24, H⟩ := bind_some' H
    refine .g (x := .d (slOf 1 rB8 y24)) (g_call en_53 rfl rfl (c_f_tagged_bytes (hy24))) rfl ?_
    refine .nil ?_
    show AOps _ _ _ _ _ _ (_ :: _) _ _ _
    obtain ⟨y25, hy25, H⟩ := bind_some' H
    refine .callFC en_51 rfl rfl [1] [0] (x := .d (.tup [])) (st' := ⟨[.row 39 [.d (cI v0.source), .d (cI v0.serial), .d (cI v0.kind), .d (cS v0.a), .d (cS v0.b), .d (cI v0.start), .d (cI v0.units), .d (cI v0.call), .d (cI v0.part), .d (cB v0.last), .d (cI v0.trunk), .d (cB v0.inbound)], .row 32 [.vc 0 y25.length]], [⟨5, 1, y25.length, some (y25.map rB8)⟩]⟩) rfl (c_g_tagged_Encode_1 (hy25)) ⟨.rfl' _, .rfl' _, .rfl' _, trivial⟩ rfl rfl rfl rfl rfl rfl ?_
    refine .withSt (st' := ⟨[.row 39 [.d (cI v0.source), .d (cI v0.serial), .d (cI v0.kind), .d (cS v0.a), .d (cS v0.b), .d (cI v0.start), .d (cI v0.units), .d (cI v0.call), .d (cI v0.part), .d (cB v0.last), .d (cI v0.trunk), .d (cB v0.inbound)], .row 32 [.vc 0 y25.length]], [⟨5, 1, y25.length, some (y25.map rB8)⟩]⟩) rfl ?_
    refine .nil ?_
    refine .seq ?_
    refine .region ?_
    refine .q (x := .vc 0 y25.length) (q_loadO one_32 rfl rfl rfl) rfl ?_
    refine .q (x := .d (cI (y25.length : Int))) (q_lenV (l := y25) (row := rB8) Tryd.underlying32 rfl rfl) rfl ?_
    obtain ⟨hk3, H⟩ := ck_some H
    refine .q (q_subI rfl rfl hk3.1 hk3.2) rfl ?_
    refine .q (q_assign rfl) rfl ?_
    refine .nil ?_
    refine .seq ?_
    obtain ⟨hk4, H⟩ := ck_some H
    obtain ⟨hk5, H⟩ := ck_some H
    obtain ⟨hk6, H⟩ := ck_some H
    refine .orders1 9 8 [⟨[.row 39 [.d (cI v0.source), .d (cI v0.serial), .d (cI v0.kind), .d (cS v0.a), .d (cS v0.b), .d (cI v0.start), .d (cI v0.units), .d (cI v0.call), .d (cI v0.part), .d (cB v0.last), .d (cI v0.trunk), .d (cB v0.inbound)], .row 32 [.vc 0 y25.length]], [⟨5, 1, y25.length, some (y25.map rB8)⟩]⟩, ⟨[.row 39 [.d (cI v0.source), .d (cI v0.serial), .d (cI v0.kind), .d (cS v0.a), .d (cS v0.b), .d (cI v0.start), .d (cI v0.units), .d (cI v0.call), .d (cI v0.part), .d (cB v0.last), .d (cI v0.trunk), .d (cB v0.inbound)], .row 32 [.vc 0 y25.length]], [⟨5, 1, y25.length, some ((y25.set (Int.toNat (0)) (UInt8.ofInt (((y25.length : Int) - 2) / 2 ^ (Int.toNat (8))))).map rB8)⟩]⟩] hMix (by kernel_rfl) (by decide) rfl ?_
    show XOps _ _ _ _ _ _ _ _ _ _ (_ :: _) _ _
    refine .g (x := .vc 0 y25.length) 0 0 ⟨OpQ.g (q_loadO one_32 rfl rfl rfl), trivial⟩ rfl (by kernel_rfl) rfl ?_
    refine .g (x := .vc 0 y25.length) 0 1 ⟨OpQ.g (q_loadO one_32 rfl rfl rfl), OpQ.g (q_loadO one_32 rfl rfl rfl), trivial⟩ rfl (by kernel_rfl) rfl ?_
    refine .g (x := .d (cI ((y25.length : Int) - 2))) 0 0 ⟨OpQ.g (q_move rfl), trivial⟩ rfl (by kernel_rfl) rfl ?_
    refine .g (x := .d (cI (((y25.length : Int) - 2) / 2 ^ (Int.toNat (8))))) 0 0 ⟨OpQ.g (q_shrI rfl rfl hk4), trivial⟩ rfl (by kernel_rfl) rfl ?_
    refine .g (x := .d (cU8 (UInt8.ofInt (((y25.length : Int) - 2) / 2 ^ (Int.toNat (8)))))) 0 0 ⟨OpQ.g (q_conv8 Tryd.underlying3 Tryd.underlying5 rfl), trivial⟩ rfl (by kernel_rfl) rfl ?_
    refine .g (x := .d (cI ((y25.length : Int) - 2))) 0 1 ⟨OpQ.g (q_move rfl), OpQ.g (q_move rfl), trivial⟩ rfl (by kernel_rfl) rfl ?_
    refine .g (x := .d (cU8 (UInt8.ofInt ((y25.length : Int) - 2)))) 0 1 ⟨OpQ.g (q_conv8 Tryd.underlying3 Tryd.underlying5 rfl), OpQ.g (q_conv8 Tryd.underlying3 Tryd.underlying5 rfl), trivial⟩ rfl (by kernel_rfl) rfl ?_
    refine .g (x := .vp 0 y25.length (Int.toNat (0)) 0) 0 0 ⟨OpQ.g (q_idxV (l := y25) (row := rB8) (i := 0) Tryd.underlying32 hi5 hs5 rfl rfl rfl hk5), trivial⟩ rfl (by kernel_rfl) rfl ?_
    refine .u 0 (u_storeV (l := y25) (row := rB8) (a := UInt8.ofInt (((y25.length : Int) - 2) / 2 ^ (Int.toNat (8)))) rfl rfl hk6 rfl rfl sz_5 rfl (Nat.le_of_ble_eq_true rfl) rfl) rfl rfl rfl rfl ?_
    refine .nil rfl ?_
    show AOps _ _ _ _ _ _ (_ :: _) _ _ _
    obtain ⟨hk7, H⟩ := ck_some H
    refine .q (x := .vp 0 y25.length (Int.toNat (1)) 0) (q_idxV (l := y25.set (Int.toNat (0)) (UInt8.ofInt (((y25.length : Int) - 2) / 2 ^ (Int.toNat (8))))) (row := rB8) (i := 1) Tryd.underlying32 hi5 hs5 rfl rfl rfl hk7) rfl ?_
    obtain ⟨hk8, H⟩ := ck_some H
    refine .u (u_storeV (l := y25.set (Int.toNat (0)) (UInt8.ofInt (((y25.length : Int) - 2) / 2 ^ (Int.toNat (8))))) (row := rB8) (a := UInt8.ofInt ((y25.length : Int) - 2)) rfl rfl hk8 rfl rfl sz_5 rfl (Nat.le_of_ble_eq_true rfl) rfl) rfl ?_
    refine .withSt (st' := ⟨[.row 39 [.d (cI v0.source), .d (cI v0.serial), .d (cI v0.kind), .d (cS v0.a), .d (cS v0.b), .d (cI v0.start), .d (cI v0.units), .d (cI v0.call), .d (cI v0.part), .d (cB v0.last), .d (cI v0.trunk), .d (cB v0.inbound)], .row 32 [.vc 0 y25.length]], [⟨5, 1, y25.length, some (((y25.set (Int.toNat (0)) (UInt8.ofInt (((y25.length : Int) - 2) / 2 ^ (Int.toNat (8))))).set (Int.toNat (1)) (UInt8.ofInt ((y25.length : Int) - 2))).map rB8)⟩]⟩) rfl ?_
    refine .nil ?_
    refine .seq ?_
    refine .region ?_
    refine .q (x := .vc 0 y25.length) (q_loadO one_32 rfl rfl rfl) rfl ?_
    refine .q (q_assign rfl) rfl ?_
    refine .q (q_assign rfl) rfl ?_
    refine .nil ?_
    refine .freezeL (l := (y25.set (Int.toNat (0)) (UInt8.ofInt (((y25.length : Int) - 2) / 2 ^ (Int.toNat (8))))).set (Int.toNat (1)) (UInt8.ofInt ((y25.length : Int) - 2))) (row := rB8) (i := 2) rfl rfl ?_
    refine .withSt (st' := ⟨[.row 39 [.d (cI v0.source), .d (cI v0.serial), .d (cI v0.kind), .d (cS v0.a), .d (cS v0.b), .d (cI v0.start), .d (cI v0.units), .d (cI v0.call), .d (cI v0.part), .d (cB v0.last), .d (cI v0.trunk), .d (cB v0.inbound)], .row 32 [.vc 0 y25.length]], [⟨5, 1, ((y25.set (Int.toNat (0)) (UInt8.ofInt (((y25.length : Int) - 2) / 2 ^ (Int.toNat (8))))).set (Int.toNat (1)) (UInt8.ofInt ((y25.length : Int) - 2))).length, none⟩]⟩) rfl ?_
    refine .retN [.tmp 2, .tmp 3] [.tsl 1 (((y25.set (Int.toNat (0)) (UInt8.ofInt (((y25.length : Int) - 2) / 2 ^ (Int.toNat (8))))).set (Int.toNat (1)) (UInt8.ofInt ((y25.length : Int) - 2))).map rB8) 0, .d (cI 0)] Tryd.func31 Tryd.results31 ⟨rfl, rfl, trivial⟩ ?_
    cases H
    exact ⟨_, EVle.tupL (ds := [slOf 1 rB8 ((y25.set (Int.toNat (0)) (UInt8.ofInt (((y25.length : Int) - 2) / 2 ^ (Int.toNat (8))))).set (Int.toNat (1)) (UInt8.ofInt ((y25.length : Int) - 2))), cI 0]) ⟨.tsl _ _ _, .rfl' _, trivial⟩, rfl⟩

set_option maxRecDepth 100000 in
set_option maxHeartbeats 1000000 in
theorem c_f_packed_bit {v0holds : Bool} {v1n : UInt8} {r : UInt8} (H : f_packed_bit v0holds v1n = some r) : ACall Tryd.prog 57 [cB v0holds, cU8 v1n] (· = cU8 r) := by
  refine ACall.enter' Tryd.func57 rfl Tryd.ntmps57 rfl fun S hS => ?_
  unfold f_packed_bit at H
  change ARun _ _ _ _ _ _ [(0, .d (cB v0holds)), (1, .d (cU8 v1n))] _
  refine .seq ?_
  refine .region ?_
  refine .q (q_assign rfl) rfl ?_
  refine .nil ?_
  refine .seq ?_
  refine .seq ?_
  refine .region ?_
  refine .q (q_move rfl) rfl ?_
  refine .nil ?_
  refine .cond rfl (fun hc => ?_) (fun hc => ?_)
  · replace H := ifT hc H; clear hc
    refine .seq ?_
    refine .region ?_
    refine .q (q_move rfl) rfl ?_
    refine .q (q_assign rfl) rfl ?_
    refine .nil ?_
    refine .retN [.tmp 4] [.d (cU8 v1n)] Tryd.func57 Tryd.results57 ⟨rfl, trivial⟩ ?_
    cases H
    exact ⟨_, .rfl' _, rfl⟩
  · replace H := ifF hc H; clear hc
    refine .skip ?_
    refine .seq ?_
    refine .region ?_
    refine .q (q_assign rfl) rfl ?_
    refine .nil ?_
    refine .retN [.tmp 4] [.d (cU8 0)] Tryd.func57 Tryd.results57 ⟨rfl, trivial⟩ ?_
    cases H
    exact ⟨_, .rfl' _, rfl⟩

set_option maxRecDepth 100000 in
set_option maxHeartbeats 1000000 in
theorem c_f_packed_sum {v0b : List UInt8} {r : UInt8} (H : f_packed_sum v0b = some r) : ACall Tryd.prog 59 [slOf 1 rB8 v0b] (· = cU8 r) := by
  obtain ⟨i5, hi5, hz5, hs5, hb5⟩ := in_5
  refine ACall.enter' Tryd.func59 rfl Tryd.ntmps59 rfl fun S hS => ?_
  unfold f_packed_sum at H
  change ARun _ _ _ _ _ _ [(0, .d (slOf 1 rB8 v0b))] _
  refine .seq ?_
  refine .region ?_
  refine .q (q_assign rfl) rfl ?_
  refine .nil ?_
  refine .seq ?_
  refine .region ?_
  refine .q (q_assign rfl) rfl ?_
  refine .nil ?_
  refine .seq ?_
  refine .seq ?_
  refine .region ?_
  refine .q (q_move rfl) rfl ?_
  refine .q (q_lenL (l := v0b) (row := rB8) Tryd.underlying32 rfl rfl) rfl ?_
  refine .q (q_move rfl) rfl ?_
  refine .nil ?_
  refine .block ?_
  obtain ⟨n1, H⟩ := loop_some H
  refine .loop (ι := Nat × (UInt8 × Int)) (fun p => [(3, .d (cU8 p.2.1)), (6, .d (slOf 1 rB8 v0b)), (7, .d (cI (v0b.length : Int))), (8, .d (cI p.2.2))]) (fun p => ⟨[], []⟩) (fun p => iter (fun s => f_packed_sum_l1 v0b s.1 s.2) p.1 p.2 = some r) (·.1) (n1, (0, 0)) H (.cons rfl (.rfl' _) (.cons rfl (.rfl' _) (.cons rfl (.rfl' _) (.cons rfl (.rfl' _) (.nil))))) rfl ?_
  rintro ⟨m1, v3nl1, v8l1⟩ HI ih1
  obtain ⟨n1, q1, hm1, H, HK1⟩ := iter_succ HI
  clear HI
  replace H : f_packed_sum_l1 v0b v3nl1 v8l1 = some q1 := H
  unfold f_packed_sum_l1 at H
  change ARun _ _ _ _ _ _ [(3, .d (cU8 v3nl1)), (6, .d (slOf 1 rB8 v0b)), (7, .d (cI (v0b.length : Int))), (8, .d (cI v8l1))] ⟨[], []⟩
  refine .seq ?_
  refine .region ?_
  refine .q (q_lss rfl rfl) rfl ?_
  refine .nil ?_
  refine .seq ?_
  refine .cond rfl (fun hc => ?_) (fun hc => ?_)
  · replace H := ifT hc H; clear hc
    refine .skip ?_
    refine .seq ?_
    refine .block ?_
    refine .seq ?_
    refine .region ?_
    obtain ⟨hk1, H⟩ := ck_some H
    refine .q (x := .d (.ro (rB8 (nth v0b (Int.toNat (v8l1)))))) (q_idxL (row := rB8) (l := v0b) (i := v8l1) Tryd.underlying32 hi5 hs5 rfl rfl rfl hk1) rfl ?_
    refine .q (x := .d (cU8 (nth v0b (Int.toNat (v8l1))))) (q_load one_5 rfl) rfl ?_
    refine .q (q_assign rfl) rfl ?_
    refine .nil ?_
    refine .region ?_
    refine .q (q_move rfl) rfl ?_
    refine .q (q_move rfl) rfl ?_
    refine .q (x := .d (cU8 (v3nl1 + (nth v0b (Int.toNat (v8l1)))))) (q8_add (a := v3nl1) (b := nth v0b (Int.toNat (v8l1))) rfl rfl) rfl ?_
    refine .q (q_assign rfl) rfl ?_
    refine .nil ?_
    refine .inBlock ?_
    refine .region ?_
    obtain ⟨hk2, H⟩ := ck_some H
    refine .q (q_addI rfl rfl hk2.1 hk2.2) rfl ?_
    refine .q (q_move rfl) rfl ?_
    refine .nil ?_
    cases H
    exact .sub (.cons rfl (.rfl' _) (.cons rfl (.rfl' _) (.cons rfl (.rfl' _) (.cons rfl (.rfl' _) (.nil))))) (ih1 (n1, (v3nl1 + (nth v0b (Int.toNat (v8l1))), v8l1 + 1)) HK1 hm1)
  · replace H := ifF hc H; clear hc
    refine .exit rfl ?_
    refine .seq ?_
    refine .region ?_
    refine .q (q_move rfl) rfl ?_
    refine .q (q_assign rfl) rfl ?_
    refine .nil ?_
    refine .retN [.tmp 2] [.d (cU8 v3nl1)] Tryd.func59 Tryd.results59 ⟨rfl, trivial⟩ ?_
    cases H
    cases HK1
    exact ⟨_, .rfl' _, rfl⟩

set_option maxRecDepth 100000 in
set_option maxHeartbeats 1000000 in
theorem c_g_packed_PutDecimal {v0b : List UInt8} {v1n : Int} {v2size : Int} {r : (List UInt8) × Int} (H : f_packed_PutDecimal v0b v1n v2size = some r) : ACallS Tryd.prog 56 [.d (slOf 1 rB8 v0b), .d (cI v1n), .d (cI v2size)] ⟨[], []⟩ (QE (.tup [.tsl 1 (r.1.map rB8) 0, .d (cI r.2)]) ⟨[], [⟨5, 1, r.1.length, none⟩]⟩) := by
  obtain ⟨i5, hi5, hz5, hs5, hb5⟩ := in_5
  refine ACallS.keep ?_
  refine ACallS.enter Tryd.func56 rfl Tryd.ntmps56 rfl fun S hS => ?_
  unfold f_packed_PutDecimal at H
  change ARun _ _ _ _ _ _ [(0, .d (slOf 1 rB8 v0b)), (1, .d (cI v1n)), (2, .d (cI v2size))] _
  refine .seq ?_
  refine .region ?_
  refine .q (q_assign rfl) rfl ?_
  refine .q (q_assign rfl) rfl ?_
  refine .nil ?_
  refine .seq ?_
  refine .seq ?_
  refine .region ?_
  refine .q (q_move rfl) rfl ?_
  refine .q (q_lss rfl rfl) rfl ?_
  refine .q (q_move rfl) rfl ?_
  refine .guardG (env' := [(2, _)]) rfl rfl rfl ⟨.inl rfl, trivial⟩ rfl (fun hg => OpQ.g (q_move rfl)) ?_
  refine .guardG (env' := [(13, _)]) rfl rfl rfl ⟨.inr (.inl rfl), trivial⟩ rfl (fun hg => OpQ.g (q_gtr rfl rfl)) ?_
  refine .q (q_pickOrB rfl rfl rfl) rfl ?_
  refine .q (q_move rfl) rfl ?_
  refine .guardG (env' := [(1, _)]) rfl rfl rfl ⟨.inl rfl, trivial⟩ rfl (fun hg => OpQ.g (q_move rfl)) ?_
  refine .guardG (env' := [(17, _)]) rfl rfl rfl ⟨.inr (.inl rfl), trivial⟩ rfl (fun hg => OpQ.g (q_lss rfl rfl)) ?_
  refine .q (q_pickOrB rfl rfl rfl) rfl ?_
  refine .nil ?_
  refine .cond rfl (fun hc => ?_) (fun hc => ?_)
  · replace H := ifT hc H; clear hc
    refine .seq ?_
    refine .region ?_
    refine .q (q_assign rfl) rfl ?_
    refine .q (q_assign rfl) rfl ?_
    refine .nil ?_
    refine .tok (i := 6) (e := 5) (sz := 1) rfl ?_
    refine .withSt (st' := ⟨[], [⟨5, 1, ([] : List UInt8).length, none⟩]⟩) rfl ?_
    refine .retN [.tmp 6, .tmp 7] [.tsl 1 (([] : List UInt8).map rB8) 0, .d (cI 6)] Tryd.func56 Tryd.results56 ⟨rfl, rfl, trivial⟩ ?_
    cases H
    exact ⟨[], [0], rfl, rfl, rfl, rfl, rfl, rfl, rfl, rfl, .tupE ⟨.rfl' _, .rfl' _, trivial⟩⟩
  · replace H := ifF hc H; clear hc
    refine .skip ?_
    refine .seq ?_
    refine .region ?_
    refine .q (q_move rfl) rfl ?_
    refine .q (q_lenL (l := v0b) (row := rB8) Tryd.underlying32 rfl rfl) rfl ?_
    refine .q (q_move rfl) rfl ?_
    obtain ⟨hk1, H⟩ := ck_some H
    refine .q (q_addI rfl rfl hk1.1 hk1.2) rfl ?_
    obtain ⟨hk2, H⟩ := ck_some H
    refine .v (x := .vc 0 ((List.replicate (Int.toNat ((v0b.length : Int) + v2size)) 0 : List UInt8).length)) (v_makeV (row := rB8) (a := (v0b.length : Int) + v2size) (b := (v0b.length : Int) + v2size) (a0 := 0) Tryd.underlying32 hi5 hz5 hs5 rfl (by rw [hb5]; decide) rfl rfl rfl hk2) rfl ?_
    refine .withSt (st' := ⟨[], [⟨5, 1, ((List.replicate (Int.toNat ((v0b.length : Int) + v2size)) 0 : List UInt8).length), some ((List.replicate (Int.toNat ((v0b.length : Int) + v2size)) 0 : List UInt8).map rB8)⟩]⟩) rfl ?_
    refine .q (q_assign rfl) rfl ?_
    refine .nil ?_
    refine .seq ?_
    refine .region ?_
    refine .q (q_move rfl) rfl ?_
    refine .q (q_move rfl) rfl ?_
    refine .v (x := .d (cI ((min v0b.length (List.replicate (Int.toNat ((v0b.length : Int) + v2size)) 0 : List UInt8).length : Nat) : Int))) (v_copyV (l := (List.replicate (Int.toNat ((v0b.length : Int) + v2size)) 0 : List UInt8)) (l' := v0b) (row := rB8) Tryd.underlying32 hi5 hs5 rfl rfl rfl rfl) rfl ?_
    refine .withSt (st' := ⟨[], [⟨5, 1, ((List.replicate (Int.toNat ((v0b.length : Int) + v2size)) 0 : List UInt8).length), some ((v0b.take (min v0b.length (List.replicate (Int.toNat ((v0b.length : Int) + v2size)) 0 : List UInt8).length) ++ (List.replicate (Int.toNat ((v0b.length : Int) + v2size)) 0 : List UInt8).drop (min v0b.length (List.replicate (Int.toNat ((v0b.length : Int) + v2size)) 0 : List UInt8).length)).map rB8)⟩]⟩) rfl ?_
    refine .nil ?_
    refine .seq ?_
    refine .seq ?_
    refine .region ?_
    refine .q (q_move rfl) rfl ?_
    refine .q (x := .d (cI ((v0b.take (min v0b.length (List.replicate (Int.toNat ((v0b.length : Int) + v2size)) 0 : List UInt8).length) ++ (List.replicate (Int.toNat ((v0b.length : Int) + v2size)) 0 : List UInt8).drop (min v0b.length (List.replicate (Int.toNat ((v0b.length : Int) + v2size)) 0 : List UInt8).length)).length : Int))) (q_lenV (l := v0b.take (min v0b.length (List.replicate (Int.toNat ((v0b.length : Int) + v2size)) 0 : List UInt8).length) ++ (List.replicate (Int.toNat ((v0b.length : Int) + v2size)) 0 : List UInt8).drop (min v0b.length (List.replicate (Int.toNat ((v0b.length : Int) + v2size)) 0 : List UInt8).length)) (row := rB8) Tryd.underlying32 rfl rfl) rfl ?_
    obtain ⟨hk3, H⟩ := ck_some H
    refine .q (q_subI rfl rfl hk3.1 hk3.2) rfl ?_
    refine .q (q_assign rfl) rfl ?_
    refine .nil ?_
    refine .blockJoin2 (ι := List UInt8 × Int) (fun s => [(1, .d (cI s.2)), (8, .vc 0 s.1.length)]) (fun s => ⟨[], [⟨5, 1, s.1.length, some (s.1.map rB8)⟩]⟩) (fun s => f_packed_PutDecimal_j1 s.1 s.2 = some r) ?_ ?_
    · rintro ⟨y0tj1, v1nj1⟩ H
      replace H : f_packed_PutDecimal_j1 y0tj1 v1nj1 = some r := H
      unfold f_packed_PutDecimal_j1 at H
      change ARun _ _ _ _ _ _ [(1, .d (cI v1nj1)), (8, .vc 0 y0tj1.length)] ⟨[], [⟨5, 1, y0tj1.length, some (y0tj1.map rB8)⟩]⟩
      refine .seq ?_
      refine .seq ?_
      refine .region ?_
      refine .q (q_move rfl) rfl ?_
      refine .q (q_gtr rfl rfl) rfl ?_
      refine .nil ?_
      refine .cond rfl (fun hc => ?_) (fun hc => ?_)
      · replace H := ifT hc H; clear hc
        refine .seq ?_
        refine .region ?_
        refine .q (q_assign rfl) rfl ?_
        refine .q (q_assign rfl) rfl ?_
        refine .nil ?_
        refine .tok (i := 6) (e := 5) (sz := 1) rfl ?_
        refine .withSt (st' := ⟨[], [⟨5, 1, y0tj1.length, some (y0tj1.map rB8)⟩, ⟨5, 1, ([] : List UInt8).length, none⟩]⟩) rfl ?_
        refine .retN [.tmp 6, .tmp 7] [.tsl 1 (([] : List UInt8).map rB8) 1, .d (cI 6)] Tryd.func56 Tryd.results56 ⟨rfl, rfl, trivial⟩ ?_
        cases H
        exact ⟨[], [1], rfl, rfl, rfl, rfl, rfl, rfl, rfl, rfl, .tupE ⟨.rfl' _, .rfl' _, trivial⟩⟩
      · replace H := ifF hc H; clear hc
        refine .skip ?_
        refine .seq ?_
        refine .region ?_
        refine .q (q_move rfl) rfl ?_
        refine .q (q_assign rfl) rfl ?_
        refine .q (q_assign rfl) rfl ?_
        refine .nil ?_
        refine .freezeL (l := y0tj1) (row := rB8) (i := 6) rfl rfl ?_
        refine .withSt (st' := ⟨[], [⟨5, 1, y0tj1.length, none⟩]⟩) rfl ?_
        refine .retN [.tmp 6, .tmp 7] [.tsl 1 (y0tj1.map rB8) 0, .d (cI 0)] Tryd.func56 Tryd.results56 ⟨rfl, rfl, trivial⟩ ?_
        cases H
        exact ⟨[], [0], rfl, rfl, rfl, rfl, rfl, rfl, rfl, rfl, .tupE ⟨.rfl' _, .rfl' _, trivial⟩⟩
    · intro hj1 hj1x
      obtain ⟨n1, H⟩ := loop_some H
      refine .normV (l := v0b.take (min v0b.length (List.replicate (Int.toNat ((v0b.length : Int) + v2size)) 0 : List UInt8).length) ++ (List.replicate (Int.toNat ((v0b.length : Int) + v2size)) 0 : List UInt8).drop (min v0b.length (List.replicate (Int.toNat ((v0b.length : Int) + v2size)) 0 : List UInt8).length)) (row := rB8) (tk := 0) (fun z => [(0, .d (slOf 1 rB8 v0b)), (1, .d (cI v1n)), (8, .vc 0 z), (9, .d (cI (((v0b.take (min v0b.length (List.replicate (Int.toNat ((v0b.length : Int) + v2size)) 0 : List UInt8).length) ++ (List.replicate (Int.toNat ((v0b.length : Int) + v2size)) 0 : List UInt8).drop (min v0b.length (List.replicate (Int.toNat ((v0b.length : Int) + v2size)) 0 : List UInt8).length)).length : Int) - 1)))]) (fun z => ⟨[], [⟨5, 1, z, some ((v0b.take (min v0b.length (List.replicate (Int.toNat ((v0b.length : Int) + v2size)) 0 : List UInt8).length) ++ (List.replicate (Int.toNat ((v0b.length : Int) + v2size)) 0 : List UInt8).drop (min v0b.length (List.replicate (Int.toNat ((v0b.length : Int) + v2size)) 0 : List UInt8).length)).map rB8)⟩]⟩) rfl (.cons rfl (.rfl' _) (.cons rfl (.rfl' _) (.cons rfl (.rfl' _) (.cons rfl (.rfl' _) (.nil))))) rfl ?_
      refine .withSt (st' := ⟨[], [⟨5, 1, (v0b.take (min v0b.length (List.replicate (Int.toNat ((v0b.length : Int) + v2size)) 0 : List UInt8).length) ++ (List.replicate (Int.toNat ((v0b.length : Int) + v2size)) 0 : List UInt8).drop (min v0b.length (List.replicate (Int.toNat ((v0b.length : Int) + v2size)) 0 : List UInt8).length)).length, some ((v0b.take (min v0b.length (List.replicate (Int.toNat ((v0b.length : Int) + v2size)) 0 : List UInt8).length) ++ (List.replicate (Int.toNat ((v0b.length : Int) + v2size)) 0 : List UInt8).drop (min v0b.length (List.replicate (Int.toNat ((v0b.length : Int) + v2size)) 0 : List UInt8).length)).map rB8)⟩]⟩) rfl <| .loop (ι := Nat × (List UInt8 × Int × Int)) (fun p => [(0, .d (slOf 1 rB8 v0b)), (1, .d (cI p.2.2.1)), (8, .vc 0 p.2.1.length), (9, .d (cI p.2.2.2))]) (fun p => ⟨[], [⟨5, 1, p.2.1.length, some (p.2.1.map rB8)⟩]⟩) (fun p => iter (fun s => f_packed_PutDecimal_l1 v0b s.1 s.2.1 s.2.2) p.1 p.2 = some r) (·.1) (n1, (v0b.take (min v0b.length (List.replicate (Int.toNat ((v0b.length : Int) + v2size)) 0 : List UInt8).length) ++ (List.replicate (Int.toNat ((v0b.length : Int) + v2size)) 0 : List UInt8).drop (min v0b.length (List.replicate (Int.toNat ((v0b.length : Int) + v2size)) 0 : List UInt8).length), v1n, ((v0b.take (min v0b.length (List.replicate (Int.toNat ((v0b.length : Int) + v2size)) 0 : List UInt8).length) ++ (List.replicate (Int.toNat ((v0b.length : Int) + v2size)) 0 : List UInt8).drop (min v0b.length (List.replicate (Int.toNat ((v0b.length : Int) + v2size)) 0 : List UInt8).length)).length : Int) - 1)) H (.cons rfl (.rfl' _) (.cons rfl (.rfl' _) (.cons rfl (.rfl' _) (.cons rfl (.rfl' _) (.nil))))) rfl ?_
      rintro ⟨m1, y0tl1, v1nl1, v9il1⟩ HI ih1
      obtain ⟨n1, q1, hm1, H, HK1⟩ := iter_succ HI
      clear HI
      replace H : f_packed_PutDecimal_l1 v0b y0tl1 v1nl1 v9il1 = some q1 := H
      unfold f_packed_PutDecimal_l1 at H
      change ARun _ _ _ _ _ _ [(0, .d (slOf 1 rB8 v0b)), (1, .d (cI v1nl1)), (8, .vc 0 y0tl1.length), (9, .d (cI v9il1))] ⟨[], [⟨5, 1, y0tl1.length, some (y0tl1.map rB8)⟩]⟩
      refine .seq ?_
      refine .seq ?_
      refine .region ?_
      refine .q (q_move rfl) rfl ?_
      refine .q (q_move rfl) rfl ?_
      refine .q (q_lenL (l := v0b) (row := rB8) Tryd.underlying32 rfl rfl) rfl ?_
      refine .q (q_geq rfl rfl) rfl ?_
      refine .nil ?_
      refine .cond rfl (fun hc => ?_) (fun hc => ?_)
      · replace H := ifT hc H; clear hc
        refine .skip ?_
        refine .seq ?_
        refine .block ?_
        refine .seq ?_
        refine .region ?_
        refine .q (q_move rfl) rfl ?_
        refine .q (q_move rfl) rfl ?_
        refine .q (q_move rfl) rfl ?_
        obtain ⟨hk4, H⟩ := ck_some H
        refine .q (x := .d (cI (Int.tdiv v1nl1 10))) (q_quoT rfl rfl hk4) rfl ?_
        obtain ⟨hk5, H⟩ := ck_some H
        refine .q (x := .d (cI (Int.tmod (Int.tdiv v1nl1 10) 10))) (q_remT rfl rfl hk5) rfl ?_
        obtain ⟨hk6, H⟩ := ck_some H
        refine .q (x := .d (cI ((Int.tmod (Int.tdiv v1nl1 10) 10) * 2 ^ (Int.toNat (4))))) (q_shlI rfl rfl hk6) rfl ?_
        refine .q (q_move rfl) rfl ?_
        obtain ⟨hk7, H⟩ := ck_some H
        refine .q (x := .d (cI (Int.tmod v1nl1 10))) (q_remT rfl rfl hk7) rfl ?_
        refine .q (x := .d (cI (bOr .i64 ((Int.tmod (Int.tdiv v1nl1 10) 10) * 2 ^ (Int.toNat (4))) (Int.tmod v1nl1 10)))) (q_or rfl rfl) rfl ?_
        refine .q (x := .d (cU8 (UInt8.ofInt (bOr .i64 ((Int.tmod (Int.tdiv v1nl1 10) 10) * 2 ^ (Int.toNat (4))) (Int.tmod v1nl1 10))))) (q_conv8 Tryd.underlying3 Tryd.underlying5 rfl) rfl ?_
        obtain ⟨hk8, H⟩ := ck_some H
        refine .q (x := .vp 0 y0tl1.length (Int.toNat (v9il1)) 0) (q_idxV (l := y0tl1) (row := rB8) (i := v9il1) Tryd.underlying32 hi5 hs5 rfl rfl rfl hk8) rfl ?_
        obtain ⟨hk9, H⟩ := ck_some H
        refine .u (u_storeV (l := y0tl1) (row := rB8) (a := UInt8.ofInt (bOr .i64 ((Int.tmod (Int.tdiv v1nl1 10) 10) * 2 ^ (Int.toNat (4))) (Int.tmod v1nl1 10))) rfl rfl hk9 rfl rfl sz_5 rfl (Nat.le_of_ble_eq_true rfl) rfl) rfl ?_
        refine .withSt (st' := ⟨[], [⟨5, 1, y0tl1.length, some ((y0tl1.set (Int.toNat (v9il1)) (UInt8.ofInt (bOr .i64 ((Int.tmod (Int.tdiv v1nl1 10) 10) * 2 ^ (Int.toNat (4))) (Int.tmod v1nl1 10)))).map rB8)⟩]⟩) rfl ?_
        refine .nil ?_
        refine .region ?_
        refine .q (q_move rfl) rfl ?_
        obtain ⟨hk10, H⟩ := ck_some H
        refine .q (x := .d (cI (Int.tdiv v1nl1 100))) (q_quoT rfl rfl hk10) rfl ?_
        refine .q (q_assign rfl) rfl ?_
        refine .nil ?_
        refine .inBlock ?_
        refine .region ?_
        refine .q (q_move rfl) rfl ?_
        obtain ⟨hk11, H⟩ := ck_some H
        refine .q (q_subI rfl rfl hk11.1 hk11.2) rfl ?_
        refine .q (q_assign rfl) rfl ?_
        refine .nil ?_
        cases H
        refine .normV (l := y0tl1.set (Int.toNat (v9il1)) (UInt8.ofInt (bOr .i64 ((Int.tmod (Int.tdiv v1nl1 10) 10) * 2 ^ (Int.toNat (4))) (Int.tmod v1nl1 10)))) (row := rB8) (tk := 0) (fun z => [(0, .d (slOf 1 rB8 v0b)), (1, .d (cI (Int.tdiv v1nl1 100))), (8, .vc 0 z), (9, .d (cI (v9il1 - 1)))]) (fun z => ⟨[], [⟨5, 1, z, some ((y0tl1.set (Int.toNat (v9il1)) (UInt8.ofInt (bOr .i64 ((Int.tmod (Int.tdiv v1nl1 10) 10) * 2 ^ (Int.toNat (4))) (Int.tmod v1nl1 10)))).map rB8)⟩]⟩) rfl (.cons rfl (.rfl' _) (.cons rfl (.rfl' _) (.cons rfl (.rfl' _) (.cons rfl (.rfl' _) (.nil))))) rfl ?_
        exact .withSt (st' := ⟨[], [⟨5, 1, (y0tl1.set (Int.toNat (v9il1)) (UInt8.ofInt (bOr .i64 ((Int.tmod (Int.tdiv v1nl1 10) 10) * 2 ^ (Int.toNat (4))) (Int.tmod v1nl1 10)))).length, some ((y0tl1.set (Int.toNat (v9il1)) (UInt8.ofInt (bOr .i64 ((Int.tmod (Int.tdiv v1nl1 10) 10) * 2 ^ (Int.toNat (4))) (Int.tmod v1nl1 10)))).map rB8)⟩]⟩) rfl <| .sub (.cons rfl (.rfl' _) (.cons rfl (.rfl' _) (.cons rfl (.rfl' _) (.cons rfl (.rfl' _) (.nil))))) (ih1 (n1, (y0tl1.set (Int.toNat (v9il1)) (UInt8.ofInt (bOr .i64 ((Int.tmod (Int.tdiv v1nl1 10) 10) * 2 ^ (Int.toNat (4))) (Int.tmod v1nl1 10))), Int.tdiv v1nl1 100, v9il1 - 1)) HK1 hm1)
      · replace H := ifF hc H; clear hc
        refine .exit rfl ?_
        obtain ⟨q0, H9, hq0⟩ := map_some' H; clear H; cases hq0
        cases HK1
        have H := H9
        exact .withSt (st' := ⟨[], [⟨5, 1, y0tl1.length, some (y0tl1.map rB8)⟩]⟩) rfl <| .sub (.cons rfl (.rfl' _) (.cons rfl (.rfl' _) (.nil))) (hj1x (y0tl1, v1nl1) H)

set_option maxRecDepth 100000 in
set_option maxHeartbeats 1000000 in
theorem c_g_packed_Encode_1 {v0n : Int} {v1size : Int} {r : (List UInt8)} (H : g_packed_Encode_1 v0n v1size = some r) : ACallS Tryd.prog 55 [.d (cI v0n), .d (cI v1size), .ref 0 0] ⟨[.row 32 [.d (nilD)]], []⟩ (QE (.d (.tup [])) ⟨[.row 32 [.tsl 1 (r.map rB8) 0]], [⟨5, 1, r.length, none⟩]⟩) := by
  refine ACallS.keep ?_
  refine ACallS.enter Tryd.func55 rfl Tryd.ntmps55 rfl fun S hS => ?_
  unfold g_packed_Encode_1 at H
  change ARun _ _ _ _ _ _ [(0, .d (cI v0n)), (1, .d (cI v1size)), (2, .ref 0 0)] _
  refine .region ?_
  refine .q (x := .d (nilD)) (q_loadO one_32 rfl rfl rfl) rfl ?_
  refine .q (q_move rfl) rfl ?_
  refine .q (q_move rfl) rfl ?_
  obtain ⟨y1, hy1, H⟩ := bind_some' H
  refine .callF en_56 rfl [] [] (x := .tup [.tsl 1 (y1.1.map rB8) 0, .d (cI y1.2)]) (st' := ⟨[.row 32 [.d (nilD)]], [⟨5, 1, y1.1.length, none⟩]⟩) rfl (c_g_packed_PutDecimal (hy1)) ⟨.nil 1, .rfl' _, .rfl' _, trivial⟩ rfl rfl rfl rfl rfl rfl ?_
  refine .withSt (st' := ⟨[.row 32 [.d (nilD)]], [⟨5, 1, y1.1.length, none⟩]⟩) rfl ?_
  refine .q (q_move rfl) rfl ?_
  refine .q (x := .tsl 1 (y1.1.map rB8) 0) (q_extractE rfl rfl) rfl ?_
  refine .q (x := .d (cI y1.2)) (q_extractE rfl rfl) rfl ?_
  refine .u (u_store rfl rfl rfl rfl (Nat.le_of_ble_eq_true rfl) sz_32) rfl ?_
  refine .withSt (st' := ⟨[.row 32 [.tsl 1 (y1.1.map rB8) 0]], [⟨5, 1, y1.1.length, none⟩]⟩) rfl ?_
  refine .nil ?_
  refine .fin0 Tryd.func55 Tryd.results55 ?_
  cases H
  exact ⟨[0], [0], rfl, rfl, rfl, rfl, rfl, rfl, rfl, rfl, EVle.tupL (ds := []) trivial⟩

set_option maxRecDepth 100000 in
set_option maxHeartbeats 1000000 in
theorem c_g_packed_Encode_1_v1 {v0n : Int} {v1size : Int} {y0t0p : List UInt8} {r : (List UInt8)} (H : g_packed_Encode_1_v1 v0n v1size y0t0p = some r) : ACallS Tryd.prog 55 [.d (cI v0n), .d (cI v1size), .ref 0 0] ⟨[.row 32 [.tsl 1 (y0t0p.map rB8) 0]], [⟨5, 1, y0t0p.length, none⟩]⟩ (QE (.d (.tup [])) ⟨[.row 32 [.tsl 1 (r.map rB8) 1]], [⟨5, 1, y0t0p.length, none⟩, ⟨5, 1, r.length, none⟩]⟩) := by
  refine ACallS.keep ?_
  refine ACallS.enter Tryd.func55 rfl Tryd.ntmps55 rfl fun S hS => ?_
  unfold g_packed_Encode_1_v1 at H
  change ARun _ _ _ _ _ _ [(0, .d (cI v0n)), (1, .d (cI v1size)), (2, .ref 0 0)] _
  refine .region ?_
  refine .q (x := .tsl 1 (y0t0p.map rB8) 0) (q_loadO one_32 rfl rfl rfl) rfl ?_
  refine .q (q_move rfl) rfl ?_
  refine .q (q_move rfl) rfl ?_
  obtain ⟨y1, hy1, H⟩ := bind_some' H
  refine .callF en_56 rfl [] [] (x := .tup [.tsl 1 (y1.1.map rB8) 1, .d (cI y1.2)]) (st' := ⟨[.row 32 [.tsl 1 (y0t0p.map rB8) 0]], [⟨5, 1, y0t0p.length, none⟩, ⟨5, 1, y1.1.length, none⟩]⟩) rfl (c_g_packed_PutDecimal (hy1)) ⟨.tsl _ _ _, .rfl' _, .rfl' _, trivial⟩ rfl rfl rfl rfl rfl rfl ?_
  refine .withSt (st' := ⟨[.row 32 [.tsl 1 (y0t0p.map rB8) 0]], [⟨5, 1, y0t0p.length, none⟩, ⟨5, 1, y1.1.length, none⟩]⟩) rfl ?_
  refine .q (q_move rfl) rfl ?_
  refine .q (x := .tsl 1 (y1.1.map rB8) 1) (q_extractE rfl rfl) rfl ?_
  refine .q (x := .d (cI y1.2)) (q_extractE rfl rfl) rfl ?_
  refine .u (u_store rfl rfl rfl rfl (Nat.le_of_ble_eq_true rfl) sz_32) rfl ?_
  refine .withSt (st' := ⟨[.row 32 [.tsl 1 (y1.1.map rB8) 1]], [⟨5, 1, y0t0p.length, none⟩, ⟨5, 1, y1.1.length, none⟩]⟩) rfl ?_
  refine .nil ?_
  refine .fin0 Tryd.func55 Tryd.results55 ?_
  cases H
  exact ⟨[0], [0, 1], rfl, rfl, rfl, rfl, rfl, rfl, rfl, rfl, EVle.tupL (ds := []) trivial⟩

set_option maxRecDepth 100000 in
set_option maxHeartbeats 1000000 in
theorem c_g_packed_putNumber {v1s : List UInt8} {y0t0p : List UInt8} {r : (List UInt8)} (H : g_packed_putNumber v1s y0t0p = some r) : ACallS Tryd.prog 58 [.tsl 1 (y0t0p.map rB8) 0, .d (cS v1s)] ⟨[], [⟨5, 1, y0t0p.length, none⟩]⟩ (QE (.tsl 1 (r.map rB8) 0) ⟨[], [⟨5, 1, r.length, none⟩]⟩) := by
  obtain ⟨i5, hi5, hz5, hs5, hb5⟩ := in_5
  refine ACallS.keep ?_
  refine ACallS.enter Tryd.func58 rfl Tryd.ntmps58 rfl fun S hS => ?_
  unfold g_packed_putNumber at H
  change ARun _ _ _ _ _ _ [(0, .tsl 1 (y0t0p.map rB8) 0), (1, .d (cS v1s))] _
  refine .seq ?_
  refine .region ?_
  refine .q (q_assign rfl) rfl ?_
  refine .nil ?_
  refine .seq ?_
  refine .region ?_
  refine .v (x := .ref 0 0) (v_alloc zr_112 rfl) rfl ?_
  refine .withSt (st' := ⟨[.row 112 ((List.replicate 8 0 : List UInt8).map fun b => EV.d (cU8 b))], [⟨5, 1, y0t0p.length, none⟩]⟩) rfl ?_
  refine .nil ?_
  refine .seq ?_
  refine .region ?_
  refine .q (q_move rfl) rfl ?_
  refine .q (q_lenS Tryd.underlying9 rfl) rfl ?_
  obtain ⟨hk1, H⟩ := ck_some H
  refine .q (x := .d (cI ((v1s.length : Int) * 2 ^ (Int.toNat (4))))) (q_shlI rfl rfl hk1) rfl ?_
  refine .q (x := .d (cU8 (UInt8.ofInt ((v1s.length : Int) * 2 ^ (Int.toNat (4)))))) (q_conv8 Tryd.underlying3 Tryd.underlying5 rfl) rfl ?_
  obtain ⟨hk2, H⟩ := ck_some H
  refine .q (x := .ref 0 (Int.toNat (0))) (q_idxArrS (i := 0) Tryd.underlying112 ⟨_, hi5, hs5⟩ rfl rfl hk2) rfl ?_
  obtain ⟨hk3, H⟩ := ck_some H
  refine .u (u_storeArr (l := (List.replicate 8 0 : List UInt8)) (c1 := cU8) (a := UInt8.ofInt ((v1s.length : Int) * 2 ^ (Int.toNat (4)))) rfl rfl rfl rfl hk3 sz_5) rfl ?_
  refine .withSt (st' := ⟨[.row 112 (((List.replicate 8 0 : List UInt8).set (Int.toNat (0)) (UInt8.ofInt ((v1s.length : Int) * 2 ^ (Int.toNat (4))))).map fun b => EV.d (cU8 b))], [⟨5, 1, y0t0p.length, none⟩]⟩) rfl ?_
  refine .nil ?_
  refine .seq ?_
  refine .seq ?_
  refine .region ?_
  refine .q (q_move rfl) rfl ?_
  refine .q (q_lenS Tryd.underlying9 rfl) rfl ?_
  refine .q (q_move rfl) rfl ?_
  refine .nil ?_
  refine .blockJoin2 (ι := List UInt8) (fun s => [(0, .tsl 1 (y0t0p.map rB8) 0), (5, .ref 0 0)]) (fun s => ⟨[.row 112 (s.map fun b => EV.d (cU8 b))], [⟨5, 1, y0t0p.length, none⟩]⟩) (fun s => g_packed_putNumber_j1 y0t0p s = some r) ?_ ?_
  · rintro o0c0j1 H
    replace H : g_packed_putNumber_j1 y0t0p o0c0j1 = some r := H
    unfold g_packed_putNumber_j1 at H
    change ARun _ _ _ _ _ _ [(0, .tsl 1 (y0t0p.map rB8) 0), (5, .ref 0 0)] ⟨[.row 112 (o0c0j1.map fun b => EV.d (cU8 b))], [⟨5, 1, y0t0p.length, none⟩]⟩
    refine .seq ?_
    refine .region ?_
    refine .q (q_move rfl) rfl ?_
    refine .q (x := .osl 0 0 8 8) (q_arrAll Tryd.underlying112 ⟨_, hi5, hs5⟩ rfl) rfl ?_
    obtain ⟨hk4, H⟩ := ck_some H
    refine .v (x := .tsl 1 ((y0t0p ++ o0c0j1).map rB8) 0) (v_appendOsl (l := y0t0p) (l' := o0c0j1) (c1 := cU8) Tryd.underlying32 hi5 hz5 hs5 rfl (by rw [hb5]; decide) rfl rfl rfl rfl hk4) rfl ?_
    refine .withSt (st' := ⟨[.row 112 (o0c0j1.map fun b => EV.d (cU8 b))], [⟨5, 1, (y0t0p ++ o0c0j1).length, none⟩]⟩) rfl ?_
    refine .q (q_assign rfl) rfl ?_
    refine .nil ?_
    refine .retN [.tmp 4] [.tsl 1 ((y0t0p ++ o0c0j1).map rB8) 0] Tryd.func58 Tryd.results58 ⟨rfl, trivial⟩ ?_
    cases H
    exact ⟨[], [0], rfl, rfl, (by first | rfl | (simp only [List.map_cons, List.map_nil, renMap, renArr, mergeSt]; rfl)), (by first | rfl | (simp only [List.map_cons, List.map_nil, renMap, renArr, mergeSt]; rfl)), (by first | rfl | (simp only [List.map_cons, List.map_nil, renMap, renArr, mergeSt]; rfl)), (by first | rfl | (simp only [List.map_cons, List.map_nil, renMap, renArr, mergeSt]; rfl)), (by first | rfl | (simp only [List.map_cons, List.map_nil, renMap, renArr, mergeSt]; rfl)), (by first | rfl | (simp only [List.map_cons, List.map_nil, renMap, renArr, mergeSt]; rfl)), .rfl' _⟩
  · intro hj1 hj1x
    obtain ⟨n1, H⟩ := loop_some H
    refine .withSt (st' := ⟨[.row 112 (((List.replicate 8 0 : List UInt8).set (Int.toNat (0)) (UInt8.ofInt ((v1s.length : Int) * 2 ^ (Int.toNat (4))))).map fun b => EV.d (cU8 b))], [⟨5, 1, y0t0p.length, none⟩]⟩) rfl <| .loop (ι := Nat × (Int × List UInt8)) (fun p => [(0, .tsl 1 (y0t0p.map rB8) 0), (1, .d (cS v1s)), (5, .ref 0 0), (14, .d (cI (v1s.length : Int))), (15, .d (cI p.2.1))]) (fun p => ⟨[.row 112 (p.2.2.map fun b => EV.d (cU8 b))], [⟨5, 1, y0t0p.length, none⟩]⟩) (fun p => iter (fun s => g_packed_putNumber_l1 v1s y0t0p s.1 s.2) p.1 p.2 = some r) (·.1) (n1, (0, (List.replicate 8 0 : List UInt8).set (Int.toNat (0)) (UInt8.ofInt ((v1s.length : Int) * 2 ^ (Int.toNat (4)))))) H (.cons rfl (.rfl' _) (.cons rfl (.rfl' _) (.cons rfl (.rfl' _) (.cons rfl (.rfl' _) (.cons rfl (.rfl' _) (.nil)))))) rfl ?_
    rintro ⟨m1, v15l1, o0c0l1⟩ HI ih1
    obtain ⟨n1, q1, hm1, H, HK1⟩ := iter_succ HI
    clear HI
    replace H : g_packed_putNumber_l1 v1s y0t0p v15l1 o0c0l1 = some q1 := H
    unfold g_packed_putNumber_l1 at H
    change ARun _ _ _ _ _ _ [(0, .tsl 1 (y0t0p.map rB8) 0), (1, .d (cS v1s)), (5, .ref 0 0), (14, .d (cI (v1s.length : Int))), (15, .d (cI v15l1))] ⟨[.row 112 (o0c0l1.map fun b => EV.d (cU8 b))], [⟨5, 1, y0t0p.length, none⟩]⟩
    refine .seq ?_
    refine .region ?_
    refine .q (q_lss rfl rfl) rfl ?_
    refine .nil ?_
    refine .seq ?_
    refine .cond rfl (fun hc => ?_) (fun hc => ?_)
    · replace H := ifT hc H; clear hc
      refine .skip ?_
      refine .seq ?_
      refine .block ?_
      refine .seq ?_
      refine .region ?_
      refine .q (q_move rfl) rfl ?_
      refine .q (q_assign rfl) rfl ?_
      refine .nil ?_
      refine .seq ?_
      refine .region ?_
      refine .q (q_move rfl) rfl ?_
      refine .q (q_move rfl) rfl ?_
      obtain ⟨hk5, H⟩ := ck_some H
      refine .q (x := .d (cU8 (nth v1s (Int.toNat (v15l1))))) (q_indexL (i := v15l1) Tryd.underlying9 rfl rfl hk5) rfl ?_
      refine .q (x := .d (cU8 ((nth v1s (Int.toNat (v15l1))) - 48))) (q8_sub (a := nth v1s (Int.toNat (v15l1))) (b := 48) rfl rfl) rfl ?_
      refine .q (q_assign rfl) rfl ?_
      refine .nil ?_
      refine .seq ?_
      refine .region ?_
      refine .q (q_move rfl) rfl ?_
      obtain ⟨hk6, H⟩ := ck_some H
      refine .q (x := .d (cI (Int.tmod v15l1 2))) (q_remT rfl rfl hk6) rfl ?_
      refine .q (q_eql rfl rfl) rfl ?_
      refine .nil ?_
      refine .cond rfl (fun hc => ?_) (fun hc => ?_)
      · replace H := ifT hc H; clear hc
        refine .region ?_
        refine .q (q_move rfl) rfl ?_
        obtain ⟨hk7, H⟩ := ck_some H
        refine .q (x := .d (cI (Int.tdiv v15l1 2))) (q_quoT rfl rfl hk7) rfl ?_
        obtain ⟨hk8, H⟩ := ck_some H
        refine .q (x := .ref 0 (Int.toNat (Int.tdiv v15l1 2))) (q_idxArrS (i := Int.tdiv v15l1 2) Tryd.underlying112 ⟨_, hi5, hs5⟩ rfl rfl hk8) rfl ?_
        obtain ⟨hk9, H⟩ := ck_some H
        refine .q (x := .d (cU8 (nth o0c0l1 (Int.toNat (Int.tdiv v15l1 2))))) (q_loadArr (l := o0c0l1) (c1 := cU8) one_5 rfl rfl hk9) rfl ?_
        refine .q (q_move rfl) rfl ?_
        refine .q (x := .d (cU8 ((nth o0c0l1 (Int.toNat (Int.tdiv v15l1 2))) ||| ((nth v1s (Int.toNat (v15l1))) - 48)))) (q8_or (a := nth o0c0l1 (Int.toNat (Int.tdiv v15l1 2))) (b := (nth v1s (Int.toNat (v15l1))) - 48) rfl rfl) rfl ?_
        obtain ⟨hk10, H⟩ := ck_some H
        refine .q (x := .ref 0 (Int.toNat (Int.tdiv v15l1 2))) (q_idxArrS (i := Int.tdiv v15l1 2) Tryd.underlying112 ⟨_, hi5, hs5⟩ rfl rfl hk10) rfl ?_
        obtain ⟨hk11, H⟩ := ck_some H
        refine .u (u_storeArr (l := o0c0l1) (c1 := cU8) (a := (nth o0c0l1 (Int.toNat (Int.tdiv v15l1 2))) ||| ((nth v1s (Int.toNat (v15l1))) - 48)) rfl rfl rfl rfl hk11 sz_5) rfl ?_
        refine .withSt (st' := ⟨[.row 112 ((o0c0l1.set (Int.toNat (Int.tdiv v15l1 2)) ((nth o0c0l1 (Int.toNat (Int.tdiv v15l1 2))) ||| ((nth v1s (Int.toNat (v15l1))) - 48))).map fun b => EV.d (cU8 b))], [⟨5, 1, y0t0p.length, none⟩]⟩) rfl ?_
        refine .nil ?_
        refine .inBlock ?_
        refine .region ?_
        obtain ⟨hk12, H⟩ := ck_some H
        refine .q (q_addI rfl rfl hk12.1 hk12.2) rfl ?_
        refine .q (q_move rfl) rfl ?_
        refine .nil ?_
        cases H
        exact .withSt (st' := ⟨[.row 112 ((o0c0l1.set (Int.toNat (Int.tdiv v15l1 2)) ((nth o0c0l1 (Int.toNat (Int.tdiv v15l1 2))) ||| ((nth v1s (Int.toNat (v15l1))) - 48))).map fun b => EV.d (cU8 b))], [⟨5, 1, y0t0p.length, none⟩]⟩) rfl <| .sub (.cons rfl (.rfl' _) (.cons rfl (.rfl' _) (.cons rfl (.rfl' _) (.cons rfl (.rfl' _) (.cons rfl (.rfl' _) (.nil)))))) (ih1 (n1, (v15l1 + 1, o0c0l1.set (Int.toNat (Int.tdiv v15l1 2)) ((nth o0c0l1 (Int.toNat (Int.tdiv v15l1 2))) ||| ((nth v1s (Int.toNat (v15l1))) - 48)))) HK1 hm1)
      · replace H := ifF hc H; clear hc
        refine .region ?_
        refine .q (q_move rfl) rfl ?_
        obtain ⟨hk13, H⟩ := ck_some H
        refine .q (q_addI rfl rfl hk13.1 hk13.2) rfl ?_
        obtain ⟨hk14, H⟩ := ck_some H
        refine .q (x := .d (cI (Int.tdiv (v15l1 + 1) 2))) (q_quoT rfl rfl hk14) rfl ?_
        refine .q (q_move rfl) rfl ?_
        obtain ⟨hk15, H⟩ := ck_some H
        refine .q (x := .d (cU8 (u8shl ((nth v1s (Int.toNat (v15l1))) - 48) 4))) (q8_shl (a := (nth v1s (Int.toNat (v15l1))) - 48) (n := 4) rfl rfl hk15) rfl ?_
        obtain ⟨hk16, H⟩ := ck_some H
        refine .q (x := .ref 0 (Int.toNat (Int.tdiv (v15l1 + 1) 2))) (q_idxArrS (i := Int.tdiv (v15l1 + 1) 2) Tryd.underlying112 ⟨_, hi5, hs5⟩ rfl rfl hk16) rfl ?_
        obtain ⟨hk17, H⟩ := ck_some H
        refine .u (u_storeArr (l := o0c0l1) (c1 := cU8) (a := u8shl ((nth v1s (Int.toNat (v15l1))) - 48) 4) rfl rfl rfl rfl hk17 sz_5) rfl ?_
        refine .withSt (st' := ⟨[.row 112 ((o0c0l1.set (Int.toNat (Int.tdiv (v15l1 + 1) 2)) (u8shl ((nth v1s (Int.toNat (v15l1))) - 48) 4)).map fun b => EV.d (cU8 b))], [⟨5, 1, y0t0p.length, none⟩]⟩) rfl ?_
        refine .nil ?_
        refine .inBlock ?_
        refine .region ?_
        obtain ⟨hk18, H⟩ := ck_some H
        refine .q (q_addI rfl rfl hk18.1 hk18.2) rfl ?_
        refine .q (q_move rfl) rfl ?_
        refine .nil ?_
        cases H
        exact .withSt (st' := ⟨[.row 112 ((o0c0l1.set (Int.toNat (Int.tdiv (v15l1 + 1) 2)) (u8shl ((nth v1s (Int.toNat (v15l1))) - 48) 4)).map fun b => EV.d (cU8 b))], [⟨5, 1, y0t0p.length, none⟩]⟩) rfl <| .sub (.cons rfl (.rfl' _) (.cons rfl (.rfl' _) (.cons rfl (.rfl' _) (.cons rfl (.rfl' _) (.cons rfl (.rfl' _) (.nil)))))) (ih1 (n1, (v15l1 + 1, o0c0l1.set (Int.toNat (Int.tdiv (v15l1 + 1) 2)) (u8shl ((nth v1s (Int.toNat (v15l1))) - 48) 4))) HK1 hm1)
    · replace H := ifF hc H; clear hc
      refine .exit rfl ?_
      obtain ⟨q0, H9, hq0⟩ := map_some' H; clear H; cases hq0
      cases HK1
      have H := H9
      exact .withSt (st' := ⟨[.row 112 (o0c0l1.map fun b => EV.d (cU8 b))], [⟨5, 1, y0t0p.length, none⟩]⟩) rfl <| .sub (.cons rfl (.rfl' _) (.cons rfl (.rfl' _) (.nil))) (hj1x o0c0l1 H)

end Go.Proofs.YtccmaffefdcikaaDoor

set_option linter.unusedSimpArgs false
set_option linter.unusedVariables false
namespace Go.Proofs.YtccmaffefdcikaaDoor
open Go.RowKit Go.Abs
set_option maxRecDepth 100000 in
set_option maxHeartbeats 1000000 in
theorem c_f_packed_Encode {v0 : Record} {r : (List UInt8) × Int} (H : f_packed_Encode v0 = some r) : ACall Tryd.prog 32 [.agg (Record.row v0)] (· = .tup [slOf 1 rB8 r.1, cI r.2]) := by
  obtain ⟨i5, hi5, hz5, hs5, hb5⟩ := in_5
  refine ACall.enter' Tryd.func32 rfl Tryd.ntmps32 rfl fun S hS => ?_
  unfold f_packed_Encode at H
  change ARun _ _ _ _ _ _ [(0, .d (.agg (Record.row v0)))] _
  refine .seq ?_
  refine .region ?_
  refine .v (x := .ref 0 0) (v_box rfl rfl) rfl ?_
  refine .withSt (st' := ⟨[.row 39 [.d (cI v0.source), .d (cI v0.serial), .d (cI v0.kind), .d (cS v0.a), .d (cS v0.b), .d (cI v0.start), .d (cI v0.units), .d (cI v0.call), .d (cI v0.part), .d (cB v0.last), .d (cI v0.trunk), .d (cB v0.inbound)]], []⟩) rfl ?_
  refine .q (q_assign rfl) rfl ?_
  refine .q (q_assign rfl) rfl ?_
  refine .nil ?_
  refine .seq ?_
  refine .seq ?_
  refine .region ?_
  refine .q (x := .d (.agg (Record.row v0))) (q_loadOA one_39 sz_39 rfl rfl (Nat.le_of_ble_eq_true rfl) rfl) rfl ?_
  obtain ⟨y1, hy1, H⟩ := bind_some' H
  refine .g (x := .d (.tup [cS y1.1, cI y1.2])) (g_call en_24 rfl rfl (c_f_textual_Encode (hy1))) rfl ?_
  refine .q (q_move rfl) rfl ?_
  refine .q (q_extract rfl rfl) rfl ?_
  refine .q (q_extract rfl rfl) rfl ?_
  refine .q (q_assign rfl) rfl ?_
  refine .q (q_assign rfl) rfl ?_
  refine .nil ?_
  refine .seq ?_
  refine .region ?_
  refine .q (q_move rfl) rfl ?_
  refine .q (q_neq rfl rfl) rfl ?_
  refine .nil ?_
  refine .cond rfl (fun hc => ?_) (fun hc => ?_)
  · replace H := ifT hc H; clear hc
    refine .seq ?_
    refine .region ?_
    refine .q (q_move rfl) rfl ?_
    refine .q (q_assign rfl) rfl ?_
    refine .q (q_assign rfl) rfl ?_
    refine .nil ?_
    refine .retN [.tmp 2, .tmp 3] [.d (nilD), .d (cI y1.2)] Tryd.func32 Tryd.results32 ⟨rfl, rfl, trivial⟩ ?_
    cases H
    exact ⟨_, EVle.tupL (ds := [slOf 1 rB8 ([] : List UInt8), cI y1.2]) ⟨.nil 1, .rfl' _, trivial⟩, rfl⟩
  · replace H := ifF hc H; clear hc
    refine .skip ?_
    refine .seq ?_
    refine .region ?_
    refine .v (x := .ref 1 0) (v_alloc zr_32 rfl) rfl ?_
    refine .withSt (st' := ⟨[.row 39 [.d (cI v0.source), .d (cI v0.serial), .d (cI v0.kind), .d (cS v0.a), .d (cS v0.b), .d (cI v0.start), .d (cI v0.units), .d (cI v0.call), .d (cI v0.part), .d (cB v0.last), .d (cI v0.trunk), .d (cB v0.inbound)], .row 32 [.d (nilD)]], []⟩) rfl ?_
    refine .nil ?_
    refine .seq ?_
    refine .region ?_
    refine .q (x := .clo 55 [.ref 1 0]) (q_makeFunc rfl) rfl ?_
    refine .q (q_assign rfl) rfl ?_
    refine .nil ?_
    refine .seq ?_
    refine .region ?_
    refine .q (q_move rfl) rfl ?_
    refine .q (q_fieldRef fo_39_0 rfl) rfl ?_
    refine .q (x := .d (cI v0.source)) (q_loadO one_3 rfl rfl rfl) rfl ?_
    obtain ⟨y2, hy2, H⟩ := bind_some' H
    refine .callFC en_55 rfl rfl [1] [] (x := .d (.tup [])) (st' := ⟨[.row 39 [.d (cI v0.source), .d (cI v0.serial), .d (cI v0.kind), .d (cS v0.a), .d (cS v0.b), .d (cI v0.start), .d (cI v0.units), .d (cI v0.call), .d (cI v0.part), .d (cB v0.last), .d (cI v0.trunk), .d (cB v0.inbound)], .row 32 [.tsl 1 (y2.map rB8) 0]], [⟨5, 1, y2.length, none⟩]⟩) rfl (c_g_packed_Encode_1 (hy2)) ⟨.rfl' _, .rfl' _, .rfl' _, trivial⟩ rfl rfl rfl rfl rfl rfl ?_
    refine .withSt (st' := ⟨[.row 39 [.d (cI v0.source), .d (cI v0.serial), .d (cI v0.kind), .d (cS v0.a), .d (cS v0.b), .d (cI v0.start), .d (cI v0.units), .d (cI v0.call), .d (cI v0.part), .d (cB v0.last), .d (cI v0.trunk), .d (cB v0.inbound)], .row 32 [.tsl 1 (y2.map rB8) 0]], [⟨5, 1, y2.length, none⟩]⟩) rfl ?_
    refine .nil ?_
    refine .seq ?_
    refine .region ?_
    refine .q (q_move rfl) rfl ?_
    refine .q (q_fieldRef fo_39_1 rfl) rfl ?_
    refine .q (x := .d (cI v0.serial)) (q_loadO one_3 rfl rfl rfl) rfl ?_
    obtain ⟨y3, hy3, H⟩ := bind_some' H
    refine .callFC en_55 rfl rfl [1] [0] (x := .d (.tup [])) (st' := ⟨[.row 39 [.d (cI v0.source), .d (cI v0.serial), .d (cI v0.kind), .d (cS v0.a), .d (cS v0.b), .d (cI v0.start), .d (cI v0.units), .d (cI v0.call), .d (cI v0.part), .d (cB v0.last), .d (cI v0.trunk), .d (cB v0.inbound)], .row 32 [.tsl 1 (y3.map rB8) 1]], [⟨5, 1, y2.length, none⟩, ⟨5, 1, y3.length, none⟩]⟩) rfl (c_g_packed_Encode_1_v1 (hy3)) ⟨.rfl' _, .rfl' _, .rfl' _, trivial⟩ rfl rfl rfl rfl rfl rfl ?_
    refine .withSt (st' := ⟨[.row 39 [.d (cI v0.source), .d (cI v0.serial), .d (cI v0.kind), .d (cS v0.a), .d (cS v0.b), .d (cI v0.start), .d (cI v0.units), .d (cI v0.call), .d (cI v0.part), .d (cB v0.last), .d (cI v0.trunk), .d (cB v0.inbound)], .row 32 [.tsl 1 (y3.map rB8) 1]], [⟨5, 1, y2.length, none⟩, ⟨5, 1, y3.length, none⟩]⟩) rfl ?_
    refine .nil ?_
    refine .seq ?_
    refine .drawn 14 hMix (by kernel_rfl) ?_
    show DOps _ _ _ _ _ _ _ (_ :: _) _ _ _
    refine .q (x := .tsl 1 (y3.map rB8) 1) (q_loadO one_32 rfl rfl rfl) rfl ?_
    refine .q (q_fieldRef fo_39_2 rfl) rfl ?_
    refine .q (x := .d (cI v0.kind)) (q_loadO one_3 rfl rfl rfl) rfl ?_
    obtain ⟨hk1, H⟩ := ck_some H
    refine .q (x := .d (cI (v0.kind * 2 ^ (Int.toNat (4))))) (q_shlI rfl rfl hk1) rfl ?_
    refine .q (x := .d (cU8 (UInt8.ofInt (v0.kind * 2 ^ (Int.toNat (4)))))) (q_conv8 Tryd.underlying3 Tryd.underlying5 rfl) rfl ?_
    refine .q (q_fieldRef fo_39_9 rfl) rfl ?_
    refine .q (x := .d (cB v0.last)) (q_loadO one_4 rfl rfl rfl) rfl ?_
    obtain ⟨y4, hy4, H⟩ := bind_some' H
    refine .g (x := .d (cU8 y4)) (g_call en_57 rfl rfl (c_f_packed_bit (hy4))) rfl ?_
    refine .q (x := .d (cU8 ((UInt8.ofInt (v0.kind * 2 ^ (Int.toNat (4)))) ||| y4))) (q8_or (a := UInt8.ofInt (v0.kind * 2 ^ (Int.toNat (4)))) (b := y4) rfl rfl) rfl ?_
    refine .q (q_fieldRef fo_39_11 rfl) rfl ?_
    refine .q (x := .d (cB v0.inbound)) (q_loadO one_4 rfl rfl rfl) rfl ?_
    obtain ⟨y5, hy5, H⟩ := bind_some' H
    refine .g (x := .d (cU8 y5)) (g_call en_57 rfl rfl (c_f_packed_bit (hy5))) rfl ?_
    refine .q (x := .d (cU8 (((UInt8.ofInt (v0.kind * 2 ^ (Int.toNat (4)))) ||| y4) ||| y5))) (q8_or (a := (UInt8.ofInt (v0.kind * 2 ^ (Int.toNat (4)))) ||| y4) (b := y5) rfl rfl) rfl ?_
    refine .g (x := .d (slOf 1 rB8 ([((UInt8.ofInt (v0.kind * 2 ^ (Int.toNat (4)))) ||| y4) ||| y5] : List UInt8))) (g_buildSlice1 Tryd.underlying32 hi5 hs5 hz5 rfl rfl rfl rfl rfl) rfl ?_
    refine .nil ?_
    show AOps _ _ _ _ _ _ (_ :: _) _ _ _
    obtain ⟨hk2, H⟩ := ck_some H
    refine .v (x := .tsl 1 ((y3 ++ ([((UInt8.ofInt (v0.kind * 2 ^ (Int.toNat (4)))) ||| y4) ||| y5] : List UInt8)).map rB8) 1) (v_appendL (l := y3) (l' := ([((UInt8.ofInt (v0.kind * 2 ^ (Int.toNat (4)))) ||| y4) ||| y5] : List UInt8)) (row := rB8) Tryd.underlying32 hi5 hz5 hs5 rfl (by rw [hb5]; decide) rfl rfl rfl rfl hk2) rfl ?_
    refine .withSt (st' := ⟨[.row 39 [.d (cI v0.source), .d (cI v0.serial), .d (cI v0.kind), .d (cS v0.a), .d (cS v0.b), .d (cI v0.start), .d (cI v0.units), .d (cI v0.call), .d (cI v0.part), .d (cB v0.last), .d (cI v0.trunk), .d (cB v0.inbound)], .row 32 [.tsl 1 (y3.map rB8) 1]], [⟨5, 1, y2.length, none⟩, ⟨5, 1, (y3 ++ ([((UInt8.ofInt (v0.kind * 2 ^ (Int.toNat (4)))) ||| y4) ||| y5] : List UInt8)).length, none⟩]⟩) rfl ?_
    refine .u (u_store rfl rfl rfl rfl (Nat.le_of_ble_eq_true rfl) sz_32) rfl ?_
    refine .withSt (st' := ⟨[.row 39 [.d (cI v0.source), .d (cI v0.serial), .d (cI v0.kind), .d (cS v0.a), .d (cS v0.b), .d (cI v0.start), .d (cI v0.units), .d (cI v0.call), .d (cI v0.part), .d (cB v0.last), .d (cI v0.trunk), .d (cB v0.inbound)], .row 32 [.tsl 1 ((y3 ++ ([((UInt8.ofInt (v0.kind * 2 ^ (Int.toNat (4)))) ||| y4) ||| y5] : List UInt8)).map rB8) 1]], [⟨5, 1, y2.length, none⟩, ⟨5, 1, (y3 ++ ([((UInt8.ofInt (v0.kind * 2 ^ (Int.toNat (4)))) ||| y4) ||| y5] : List UInt8)).length, none⟩]⟩) rfl ?_
    refine .nil ?_
    refine .seq ?_
    refine .region ?_
    refine .q (x := .tsl 1 ((y3 ++ ([((UInt8.ofInt (v0.kind * 2 ^ (Int.toNat (4)))) ||| y4) ||| y5] : List UInt8)).map rB8) 1) (q_loadO one_32 rfl rfl rfl) rfl ?_
    refine .q (q_fieldRef fo_39_3 rfl) rfl ?_
    refine .q (x := .d (cS v0.a)) (q_loadO one_9 rfl rfl rfl) rfl ?_
    obtain ⟨y6, hy6, H⟩ := bind_some' H
    refine .callF en_58 rfl [] [1] (x := .tsl 1 (y6.map rB8) 1) (st' := ⟨[.row 39 [.d (cI v0.source), .d (cI v0.serial), .d (cI v0.kind), .d (cS v0.a), .d (cS v0.b), .d (cI v0.start), .d (cI v0.units), .d (cI v0.call), .d (cI v0.part), .d (cB v0.last), .d (cI v0.trunk), .d (cB v0.inbound)], .row 32 [.tsl 1 ((y3 ++ ([((UInt8.ofInt (v0.kind * 2 ^ (Int.toNat (4)))) ||| y4) ||| y5] : List UInt8)).map rB8) 1]], [⟨5, 1, y2.length, none⟩, ⟨5, 1, y6.length, none⟩]⟩) rfl (c_g_packed_putNumber (hy6)) ⟨.rfl' _, .rfl' _, trivial⟩ rfl rfl rfl rfl rfl rfl ?_
    refine .withSt (st' := ⟨[.row 39 [.d (cI v0.source), .d (cI v0.serial), .d (cI v0.kind), .d (cS v0.a), .d (cS v0.b), .d (cI v0.start), .d (cI v0.units), .d (cI v0.call), .d (cI v0.part), .d (cB v0.last), .d (cI v0.trunk), .d (cB v0.inbound)], .row 32 [.tsl 1 ((y3 ++ ([((UInt8.ofInt (v0.kind * 2 ^ (Int.toNat (4)))) ||| y4) ||| y5] : List UInt8)).map rB8) 1]], [⟨5, 1, y2.length, none⟩, ⟨5, 1, y6.length, none⟩]⟩) rfl ?_
    refine .u (u_store rfl rfl rfl rfl (Nat.le_of_ble_eq_true rfl) sz_32) rfl ?_
    refine .withSt (st' := ⟨[.row 39 [.d (cI v0.source), .d (cI v0.serial), .d (cI v0.kind), .d (cS v0.a), .d (cS v0.b), .d (cI v0.start), .d (cI v0.units), .d (cI v0.call), .d (cI v0.part), .d (cB v0.last), .d (cI v0.trunk), .d (cB v0.inbound)], .row 32 [.tsl 1 (y6.map rB8) 1]], [⟨5, 1, y2.length, none⟩, ⟨5, 1, y6.length, none⟩]⟩) rfl ?_
    refine .nil ?_
    refine .seq ?_
    refine .region ?_
    refine .q (x := .tsl 1 (y6.map rB8) 1) (q_loadO one_32 rfl rfl rfl) rfl ?_
    refine .q (q_fieldRef fo_39_4 rfl) rfl ?_
    refine .q (x := .d (cS v0.b)) (q_loadO one_9 rfl rfl rfl) rfl ?_
    obtain ⟨y7, hy7, H⟩ := bind_some' H
    refine .callF en_58 rfl [] [1] (x := .tsl 1 (y7.map rB8) 1) (st' := ⟨[.row 39 [.d (cI v0.source), .d (cI v0.serial), .d (cI v0.kind), .d (cS v0.a), .d (cS v0.b), .d (cI v0.start), .d (cI v0.units), .d (cI v0.call), .d (cI v0.part), .d (cB v0.last), .d (cI v0.trunk), .d (cB v0.inbound)], .row 32 [.tsl 1 (y6.map rB8) 1]], [⟨5, 1, y2.length, none⟩, ⟨5, 1, y7.length, none⟩]⟩) rfl (c_g_packed_putNumber (hy7)) ⟨.rfl' _, .rfl' _, trivial⟩ rfl rfl rfl rfl rfl rfl ?_
    refine .withSt (st' := ⟨[.row 39 [.d (cI v0.source), .d (cI v0.serial), .d (cI v0.kind), .d (cS v0.a), .d (cS v0.b), .d (cI v0.start), .d (cI v0.units), .d (cI v0.call), .d (cI v0.part), .d (cB v0.last), .d (cI v0.trunk), .d (cB v0.inbound)], .row 32 [.tsl 1 (y6.map rB8) 1]], [⟨5, 1, y2.length, none⟩, ⟨5, 1, y7.length, none⟩]⟩) rfl ?_
    refine .u (u_store rfl rfl rfl rfl (Nat.le_of_ble_eq_true rfl) sz_32) rfl ?_
    refine .withSt (st' := ⟨[.row 39 [.d (cI v0.source), .d (cI v0.serial), .d (cI v0.kind), .d (cS v0.a), .d (cS v0.b), .d (cI v0.start), .d (cI v0.units), .d (cI v0.call), .d (cI v0.part), .d (cB v0.last), .d (cI v0.trunk), .d (cB v0.inbound)], .row 32 [.tsl 1 (y7.map rB8) 1]], [⟨5, 1, y2.length, none⟩, ⟨5, 1, y7.length, none⟩]⟩) rfl ?_
    refine .nil ?_
    refine .seq ?_
    refine .region ?_
    refine .q (q_move rfl) rfl ?_
    refine .q (q_fieldRef fo_39_5 rfl) rfl ?_
    refine .q (x := .d (cI v0.start)) (q_loadO one_3 rfl rfl rfl) rfl ?_
    obtain ⟨y8, hy8, H⟩ := bind_some' H
    refine .callFC en_55 rfl rfl [1] [1] (x := .d (.tup [])) (st' := ⟨[.row 39 [.d (cI v0.source), .d (cI v0.serial), .d (cI v0.kind), .d (cS v0.a), .d (cS v0.b), .d (cI v0.start), .d (cI v0.units), .d (cI v0.call), .d (cI v0.part), .d (cB v0.last), .d (cI v0.trunk), .d (cB v0.inbound)], .row 32 [.tsl 1 (y8.map rB8) 2]], [⟨5, 1, y2.length, none⟩, ⟨5, 1, y7.length, none⟩, ⟨5, 1, y8.length, none⟩]⟩) rfl (c_g_packed_Encode_1_v1 (hy8)) ⟨.rfl' _, .rfl' _, .rfl' _, trivial⟩ rfl rfl rfl rfl rfl rfl ?_
    refine .withSt (st' := ⟨[.row 39 [.d (cI v0.source), .d (cI v0.serial), .d (cI v0.kind), .d (cS v0.a), .d (cS v0.b), .d (cI v0.start), .d (cI v0.units), .d (cI v0.call), .d (cI v0.part), .d (cB v0.last), .d (cI v0.trunk), .d (cB v0.inbound)], .row 32 [.tsl 1 (y8.map rB8) 2]], [⟨5, 1, y2.length, none⟩, ⟨5, 1, y7.length, none⟩, ⟨5, 1, y8.length, none⟩]⟩) rfl ?_
    refine .nil ?_
    refine .seq ?_
    refine .region ?_
    refine .q (q_move rfl) rfl ?_
    refine .q (q_fieldRef fo_39_6 rfl) rfl ?_
    refine .q (x := .d (cI v0.units)) (q_loadO one_3 rfl rfl rfl) rfl ?_
    obtain ⟨y9, hy9, H⟩ := bind_some' H
    refine .callFC en_55 rfl rfl [1] [2] (x := .d (.tup [])) (st' := ⟨[.row 39 [.d (cI v0.source), .d (cI v0.serial), .d (cI v0.kind), .d (cS v0.a), .d (cS v0.b), .d (cI v0.start), .d (cI v0.units), .d (cI v0.call), .d (cI v0.part), .d (cB v0.last), .d (cI v0.trunk), .d (cB v0.inbound)], .row 32 [.tsl 1 (y9.map rB8) 3]], [⟨5, 1, y2.length, none⟩, ⟨5, 1, y7.length, none⟩, ⟨5, 1, y8.length, none⟩, ⟨5, 1, y9.length, none⟩]⟩) rfl (c_g_packed_Encode_1_v1 (hy9)) ⟨.rfl' _, .rfl' _, .rfl' _, trivial⟩ rfl rfl rfl rfl rfl rfl ?_
    refine .withSt (st' := ⟨[.row 39 [.d (cI v0.source), .d (cI v0.serial), .d (cI v0.kind), .d (cS v0.a), .d (cS v0.b), .d (cI v0.start), .d (cI v0.units), .d (cI v0.call), .d (cI v0.part), .d (cB v0.last), .d (cI v0.trunk), .d (cB v0.inbound)], .row 32 [.tsl 1 (y9.map rB8) 3]], [⟨5, 1, y2.length, none⟩, ⟨5, 1, y7.length, none⟩, ⟨5, 1, y8.length, none⟩, ⟨5, 1, y9.length, none⟩]⟩) rfl ?_
    refine .nil ?_
    refine .seq ?_
    refine .region ?_
    refine .q (q_move rfl) rfl ?_
    refine .q (q_fieldRef fo_39_7 rfl) rfl ?_
    refine .q (x := .d (cI v0.call)) (q_loadO one_3 rfl rfl rfl) rfl ?_
    obtain ⟨y10, hy10, H⟩ := bind_some' H
    refine .callFC en_55 rfl rfl [1] [3] (x := .d (.tup [])) (st' := ⟨[.row 39 [.d (cI v0.source), .d (cI v0.serial), .d (cI v0.kind), .d (cS v0.a), .d (cS v0.b), .d (cI v0.start), .d (cI v0.units), .d (cI v0.call), .d (cI v0.part), .d (cB v0.last), .d (cI v0.trunk), .d (cB v0.inbound)], .row 32 [.tsl 1 (y10.map rB8) 4]], [⟨5, 1, y2.length, none⟩, ⟨5, 1, y7.length, none⟩, ⟨5, 1, y8.length, none⟩, ⟨5, 1, y9.length, none⟩, ⟨5, 1, y10.length, none⟩]⟩) rfl (c_g_packed_Encode_1_v1 (hy10)) ⟨.rfl' _, .rfl' _, .rfl' _, trivial⟩ rfl rfl rfl rfl rfl rfl ?_
    refine .withSt (st' := ⟨[.row 39 [.d (cI v0.source), .d (cI v0.serial), .d (cI v0.kind), .d (cS v0.a), .d (cS v0.b), .d (cI v0.start), .d (cI v0.units), .d (cI v0.call), .d (cI v0.part), .d (cB v0.last), .d (cI v0.trunk), .d (cB v0.inbound)], .row 32 [.tsl 1 (y10.map rB8) 4]], [⟨5, 1, y2.length, none⟩, ⟨5, 1, y7.length, none⟩, ⟨5, 1, y8.length, none⟩, ⟨5, 1, y9.length, none⟩, ⟨5, 1, y10.length, none⟩]⟩) rfl ?_
    refine .nil ?_
    refine .seq ?_
    refine .region ?_
    refine .q (q_move rfl) rfl ?_
    refine .q (q_fieldRef fo_39_8 rfl) rfl ?_
    refine .q (x := .d (cI v0.part)) (q_loadO one_3 rfl rfl rfl) rfl ?_
    obtain ⟨y11, hy11, H⟩ := bind_some' H
    refine .callFC en_55 rfl rfl [1] [4] (x := .d (.tup [])) (st' := ⟨[.row 39 [.d (cI v0.source), .d (cI v0.serial), .d (cI v0.kind), .d (cS v0.a), .d (cS v0.b), .d (cI v0.start), .d (cI v0.units), .d (cI v0.call), .d (cI v0.part), .d (cB v0.last), .d (cI v0.trunk), .d (cB v0.inbound)], .row 32 [.tsl 1 (y11.map rB8) 5]], [⟨5, 1, y2.length, none⟩, ⟨5, 1, y7.length, none⟩, ⟨5, 1, y8.length, none⟩, ⟨5, 1, y9.length, none⟩, ⟨5, 1, y10.length, none⟩, ⟨5, 1, y11.length, none⟩]⟩) rfl (c_g_packed_Encode_1_v1 (hy11)) ⟨.rfl' _, .rfl' _, .rfl' _, trivial⟩ rfl rfl rfl rfl rfl rfl ?_
    refine .withSt (st' := ⟨[.row 39 [.d (cI v0.source), .d (cI v0.serial), .d (cI v0.kind), .d (cS v0.a), .d (cS v0.b), .d (cI v0.start), .d (cI v0.units), .d (cI v0.call), .d (cI v0.part), .d (cB v0.last), .d (cI v0.trunk), .d (cB v0.inbound)], .row 32 [.tsl 1 (y11.map rB8) 5]], [⟨5, 1, y2.length, none⟩, ⟨5, 1, y7.length, none⟩, ⟨5, 1, y8.length, none⟩, ⟨5, 1, y9.length, none⟩, ⟨5, 1, y10.length, none⟩, ⟨5, 1, y11.length, none⟩]⟩) rfl ?_
    refine .nil ?_
    refine .seq ?_
    refine .region ?_
    refine .q (q_move rfl) rfl ?_
    refine .q (q_fieldRef fo_39_10 rfl) rfl ?_
    refine .q (x := .d (cI v0.trunk)) (q_loadO one_3 rfl rfl rfl) rfl ?_
    obtain ⟨y12, hy12, H⟩ := bind_some' H
    refine .callFC en_55 rfl rfl [1] [5] (x := .d (.tup [])) (st' := ⟨[.row 39 [.d (cI v0.source), .d (cI v0.serial), .d (cI v0.kind), .d (cS v0.a), .d (cS v0.b), .d (cI v0.start), .d (cI v0.units), .d (cI v0.call), .d (cI v0.part), .d (cB v0.last), .d (cI v0.trunk), .d (cB v0.inbound)], .row 32 [.tsl 1 (y12.map rB8) 6]], [⟨5, 1, y2.length, none⟩, ⟨5, 1, y7.length, none⟩, ⟨5, 1, y8.length, none⟩, ⟨5, 1, y9.length, none⟩, ⟨5, 1, y10.length, none⟩, ⟨5, 1, y11.length, none⟩, ⟨5, 1, y12.length, none⟩]⟩) rfl (c_g_packed_Encode_1_v1 (hy12)) ⟨.rfl' _, .rfl' _, .rfl' _, trivial⟩ rfl rfl rfl rfl rfl rfl ?_
    refine .withSt (st' := ⟨[.row 39 [.d (cI v0.source), .d (cI v0.serial), .d (cI v0.kind), .d (cS v0.a), .d (cS v0.b), .d (cI v0.start), .d (cI v0.units), .d (cI v0.call), .d (cI v0.part), .d (cB v0.last), .d (cI v0.trunk), .d (cB v0.inbound)], .row 32 [.tsl 1 (y12.map rB8) 6]], [⟨5, 1, y2.length, none⟩, ⟨5, 1, y7.length, none⟩, ⟨5, 1, y8.length, none⟩, ⟨5, 1, y9.length, none⟩, ⟨5, 1, y10.length, none⟩, ⟨5, 1, y11.length, none⟩, ⟨5, 1, y12.length, none⟩]⟩) rfl ?_
    refine .nil ?_
    refine .seq ?_
    refine .drawn 4 hMix (by kernel_rfl) ?_
    show DOps _ _ _ _ _ _ _ (_ :: _) _ _ _
    refine .q (x := .tsl 1 (y12.map rB8) 6) (q_loadO one_32 rfl rfl rfl) rfl ?_
    refine .q (x := .tsl 1 (y12.map rB8) 6) (q_loadO one_32 rfl rfl rfl) rfl ?_
    obtain ⟨y13, hy13, H⟩ := bind_some' H
    refine .g (x := .d (cU8 y13)) (g_call en_59 rfl rfl (c_f_packed_sum (hy13))) rfl ?_
    refine .g (x := .d (slOf 1 rB8 ([y13] : List UInt8))) (g_buildSlice1 Tryd.underlying32 hi5 hs5 hz5 rfl rfl rfl rfl rfl) rfl ?_
    refine .nil ?_
    show AOps _ _ _ _ _ _ (_ :: _) _ _ _
    obtain ⟨hk3, H⟩ := ck_some H
    refine .v (x := .tsl 1 ((y12 ++ ([y13] : List UInt8)).map rB8) 6) (v_appendL (l := y12) (l' := ([y13] : List UInt8)) (row := rB8) Tryd.underlying32 hi5 hz5 hs5 rfl (by rw [hb5]; decide) rfl rfl rfl rfl hk3) rfl ?_
    refine .withSt (st' := ⟨[.row 39 [.d (cI v0.source), .d (cI v0.serial), .d (cI v0.kind), .d (cS v0.a), .d (cS v0.b), .d (cI v0.start), .d (cI v0.units), .d (cI v0.call), .d (cI v0.part), .d (cB v0.last), .d (cI v0.trunk), .d (cB v0.inbound)], .row 32 [.tsl 1 (y12.map rB8) 6]], [⟨5, 1, y2.length, none⟩, ⟨5, 1, y7.length, none⟩, ⟨5, 1, y8.length, none⟩, ⟨5, 1, y9.length, none⟩, ⟨5, 1, y10.length, none⟩, ⟨5, 1, y11.length, none⟩, ⟨5, 1, (y12 ++ ([y13] : List UInt8)).length, none⟩]⟩) rfl ?_
    refine .q (q_assign rfl) rfl ?_
    refine .q (q_assign rfl) rfl ?_
    refine .nil ?_
    refine .retN [.tmp 2, .tmp 3] [.tsl 1 ((y12 ++ ([y13] : List UInt8)).map rB8) 6, .d (cI 0)] Tryd.func32 Tryd.results32 ⟨rfl, rfl, trivial⟩ ?_
    cases H
    exact ⟨_, EVle.tupL (ds := [slOf 1 rB8 (y12 ++ ([y13] : List UInt8)), cI 0]) ⟨.tsl _ _ _, .rfl' _, trivial⟩, rfl⟩

set_option maxRecDepth 100000 in
set_option maxHeartbeats 1000000 in
theorem c_f_batch_line {v0r : Record} {r : (List UInt8) × Int} (H : f_batch_line v0r = some r) : ACall Tryd.prog 34 [.agg (Record.row v0r)] (· = .tup [cS r.1, cI r.2]) := by
  refine ACall.enter' Tryd.func34 rfl Tryd.ntmps34 rfl fun S hS => ?_
  unfold f_batch_line at H
  change ARun _ _ _ _ _ _ [(0, .d (.agg (Record.row v0r)))] _
  refine .seq ?_
  refine .region ?_
  refine .v (x := .ref 0 0) (v_box rfl rfl) rfl ?_
  refine .withSt (st' := ⟨[.row 39 [.d (cI v0r.source), .d (cI v0r.serial), .d (cI v0r.kind), .d (cS v0r.a), .d (cS v0r.b), .d (cI v0r.start), .d (cI v0r.units), .d (cI v0r.call), .d (cI v0r.part), .d (cB v0r.last), .d (cI v0r.trunk), .d (cB v0r.inbound)]], []⟩) rfl ?_
  refine .q (q_assign rfl) rfl ?_
  refine .q (q_assign rfl) rfl ?_
  refine .nil ?_
  refine .seq ?_
  refine .region ?_
  refine .q (x := .d (.agg (Record.row v0r))) (q_loadOA one_39 sz_39 rfl rfl (Nat.le_of_ble_eq_true rfl) rfl) rfl ?_
  obtain ⟨y1, hy1, H⟩ := bind_some' H
  refine .g (x := .d (.tup [cS y1.1, cI y1.2])) (g_call en_24 rfl rfl (c_f_textual_Encode (hy1))) rfl ?_
  refine .q (q_move rfl) rfl ?_
  refine .q (q_extract rfl rfl) rfl ?_
  refine .q (q_extract rfl rfl) rfl ?_
  refine .q (q_assign rfl) rfl ?_
  refine .q (q_assign rfl) rfl ?_
  refine .nil ?_
  refine .seq ?_
  refine .region ?_
  refine .q (q_move rfl) rfl ?_
  obtain ⟨hk1, H⟩ := ck_some H
  refine .q (x := .d (cS (y1.1 ++ ([10] : List UInt8)))) (q_sadd rfl rfl hk1) rfl ?_
  refine .q (q_move rfl) rfl ?_
  refine .q (q_assign rfl) rfl ?_
  refine .q (q_assign rfl) rfl ?_
  refine .nil ?_
  refine .retN [.tmp 2, .tmp 3] [.d (cS (y1.1 ++ ([10] : List UInt8))), .d (cI y1.2)] Tryd.func34 Tryd.results34 ⟨rfl, rfl, trivial⟩ ?_
  cases H
  exact ⟨_, EVle.tupL (ds := [cS (y1.1 ++ ([10] : List UInt8)), cI y1.2]) ⟨.rfl' _, .rfl' _, trivial⟩, rfl⟩

set_option maxRecDepth 100000 in
set_option maxHeartbeats 1000000 in
theorem c_g_api_Record_byte {v0list : List Record} {r : (List UInt8)} (H : g_api_Record_byte v0list = some r) : ACallS Tryd.prog 30 [.d (slOf 12 Record.row v0list), .d (.ex (.func (.func 31) #[] #[]))] ⟨[], []⟩ (QE (.d (slOf 1 rB8 r)) ⟨[], []⟩) := by
  obtain ⟨i5, hi5, hz5, hs5, hb5⟩ := in_5
  obtain ⟨i39, hi39, hz39, hs39, hb39⟩ := in_39
  refine ACallS.keep ?_
  refine ACallS.enter Tryd.func30 rfl Tryd.ntmps30 rfl fun S hS => ?_
  unfold g_api_Record_byte at H
  change ARun _ _ _ _ _ _ [(0, .d (slOf 12 Record.row v0list)), (1, .d (.ex (.func (.func 31) #[] #[])))] _
  refine .seq ?_
  refine .region ?_
  refine .q (q_assign rfl) rfl ?_
  refine .nil ?_
  refine .seq ?_
  refine .region ?_
  refine .q (q_assign rfl) rfl ?_
  refine .nil ?_
  refine .seq ?_
  refine .seq ?_
  refine .region ?_
  refine .q (q_move rfl) rfl ?_
  refine .q (q_lenL (l := v0list) (row := Record.row) Tryd.underlying22 rfl rfl) rfl ?_
  refine .q (q_move rfl) rfl ?_
  refine .nil ?_
  refine .block ?_
  refine .tok (i := 5) (e := 5) (sz := 1) rfl ?_
  refine .withSt (st' := ⟨[], [⟨5, 1, ([] : List UInt8).length, none⟩]⟩) rfl ?_
  obtain ⟨n1, H⟩ := loop_some H
  refine .withSt (st' := ⟨[], [⟨5, 1, ([] : List UInt8).length, none⟩]⟩) rfl <| .loop (ι := Nat × (List UInt8 × Int)) (fun p => [(1, .d (.ex (.func (.func 31) #[] #[]))), (5, .tsl 1 (p.2.1.map rB8) 0), (10, .d (slOf 12 Record.row v0list)), (11, .d (cI (v0list.length : Int))), (12, .d (cI p.2.2))]) (fun p => ⟨[], [⟨5, 1, p.2.1.length, none⟩]⟩) (fun p => iter (fun s => g_api_Record_byte_l1 v0list s.1 s.2) p.1 p.2 = some r) (·.1) (n1, (([] : List UInt8), 0)) H (.cons rfl (.rfl' _) (.cons rfl (.rfl' _) (.cons rfl (.rfl' _) (.cons rfl (.rfl' _) (.cons rfl (.rfl' _) (.nil)))))) rfl ?_
  rintro ⟨m1, v5outl1, v12l1⟩ HI ih1
  obtain ⟨n1, q1, hm1, H, HK1⟩ := iter_succ HI
  clear HI
  replace H : g_api_Record_byte_l1 v0list v5outl1 v12l1 = some q1 := H
  unfold g_api_Record_byte_l1 at H
  change ARun _ _ _ _ _ _ [(1, .d (.ex (.func (.func 31) #[] #[]))), (5, .tsl 1 (v5outl1.map rB8) 0), (10, .d (slOf 12 Record.row v0list)), (11, .d (cI (v0list.length : Int))), (12, .d (cI v12l1))] ⟨[], [⟨5, 1, v5outl1.length, none⟩]⟩
  refine .seq ?_
  refine .region ?_
  refine .q (q_lss rfl rfl) rfl ?_
  refine .nil ?_
  refine .seq ?_
  refine .cond rfl (fun hc => ?_) (fun hc => ?_)
  · replace H := ifT hc H; clear hc
    refine .skip ?_
    refine .seq ?_
    refine .block ?_
    refine .seq ?_
    refine .region ?_
    obtain ⟨hk1, H⟩ := ck_some H
    refine .q (x := .d (.ro (Record.row (nth v0list (Int.toNat (v12l1)))))) (q_idxL (row := Record.row) (l := v0list) (i := v12l1) Tryd.underlying22 hi39 hs39 rfl rfl rfl hk1) rfl ?_
    refine .q (x := .d (.agg (Record.row (nth v0list (Int.toNat (v12l1)))))) (q_loadAll one_39 sz_39 rfl rfl) rfl ?_
    refine .v (x := .ref 0 0) (v_alloc zr_39 rfl) rfl ?_
    refine .withSt (st' := ⟨[.row 39 [.d (cI 0), .d (cI 0), .d (cI 0), .d (cS ([] : List UInt8)), .d (cS ([] : List UInt8)), .d (cI 0), .d (cI 0), .d (cI 0), .d (cI 0), .d (cB false), .d (cI 0), .d (cB false)]], [⟨5, 1, v5outl1.length, none⟩]⟩) rfl ?_
    refine .u (u_store rfl rfl rfl rfl (Nat.le_of_ble_eq_true rfl) sz_39) rfl ?_
    refine .withSt (st' := ⟨[.row 39 [.d (cI ((nth v0list (Int.toNat (v12l1))).source)), .d (cI ((nth v0list (Int.toNat (v12l1))).serial)), .d (cI ((nth v0list (Int.toNat (v12l1))).kind)), .d (cS ((nth v0list (Int.toNat (v12l1))).a)), .d (cS ((nth v0list (Int.toNat (v12l1))).b)), .d (cI ((nth v0list (Int.toNat (v12l1))).start)), .d (cI ((nth v0list (Int.toNat (v12l1))).units)), .d (cI ((nth v0list (Int.toNat (v12l1))).call)), .d (cI ((nth v0list (Int.toNat (v12l1))).part)), .d (cB ((nth v0list (Int.toNat (v12l1))).last)), .d (cI ((nth v0list (Int.toNat (v12l1))).trunk)), .d (cB ((nth v0list (Int.toNat (v12l1))).inbound))]], [⟨5, 1, v5outl1.length, none⟩]⟩) rfl ?_
    refine .nil ?_
    refine .seq ?_
    refine .region ?_
    refine .q (q_move rfl) rfl ?_
    refine .q (x := .d (.agg (Record.row (nth v0list (Int.toNat (v12l1)))))) (q_loadOA one_39 sz_39 rfl rfl (Nat.le_of_ble_eq_true rfl) rfl) rfl ?_
    obtain ⟨y1, hy1, H⟩ := bind_some' H
    refine .g (x := .d (.tup [slOf 1 rB8 y1.1, cI y1.2])) (g_callF en_31 rfl rfl rfl (c_f_tagged_Encode (hy1))) rfl ?_
    refine .q (q_move rfl) rfl ?_
    refine .q (q_extract rfl rfl) rfl ?_
    refine .q (q_extract rfl rfl) rfl ?_
    refine .q (q_assign rfl) rfl ?_
    refine .q (q_assign rfl) rfl ?_
    refine .nil ?_
    refine .region ?_
    refine .q (q_move rfl) rfl ?_
    refine .q (q_move rfl) rfl ?_
    obtain ⟨hk2, H⟩ := ck_some H
    refine .v (x := .tsl 1 ((v5outl1 ++ y1.1).map rB8) 0) (v_appendL (l := v5outl1) (l' := y1.1) (row := rB8) Tryd.underlying32 hi5 hz5 hs5 rfl (by rw [hb5]; decide) rfl rfl rfl rfl hk2) rfl ?_
    refine .withSt (st' := ⟨[.row 39 [.d (cI ((nth v0list (Int.toNat (v12l1))).source)), .d (cI ((nth v0list (Int.toNat (v12l1))).serial)), .d (cI ((nth v0list (Int.toNat (v12l1))).kind)), .d (cS ((nth v0list (Int.toNat (v12l1))).a)), .d (cS ((nth v0list (Int.toNat (v12l1))).b)), .d (cI ((nth v0list (Int.toNat (v12l1))).start)), .d (cI ((nth v0list (Int.toNat (v12l1))).units)), .d (cI ((nth v0list (Int.toNat (v12l1))).call)), .d (cI ((nth v0list (Int.toNat (v12l1))).part)), .d (cB ((nth v0list (Int.toNat (v12l1))).last)), .d (cI ((nth v0list (Int.toNat (v12l1))).trunk)), .d (cB ((nth v0list (Int.toNat (v12l1))).inbound))]], [⟨5, 1, (v5outl1 ++ y1.1).length, none⟩]⟩) rfl ?_
    refine .q (q_assign rfl) rfl ?_
    refine .nil ?_
    refine .inBlock ?_
    refine .region ?_
    obtain ⟨hk3, H⟩ := ck_some H
    refine .q (q_addI rfl rfl hk3.1 hk3.2) rfl ?_
    refine .q (q_move rfl) rfl ?_
    refine .nil ?_
    cases H
    exact .to 0 1 (env' := [(1, .d (.ex (.func (.func 31) #[] #[]))), (5, .tsl 1 ((v5outl1 ++ y1.1).map rB8) 0), (10, .d (slOf 12 Record.row v0list)), (11, .d (cI (v0list.length : Int))), (12, .d (cI (v12l1 + 1)))]) (st' := ⟨[], [⟨5, 1, (v5outl1 ++ y1.1).length, none⟩]⟩) (.cons rfl (.rfl' _) (.cons rfl (.rfl' _) (.cons rfl (.rfl' _) (.cons rfl (.rfl' _) (.cons rfl (.rfl' _) (.nil)))))) rfl rfl rfl rfl rfl (by rw [hS]; exact Nat.le_of_ble_eq_true rfl) (by rw [hS]; exact Nat.le_of_ble_eq_true rfl) <| .sub (.cons rfl (.rfl' _) (.cons rfl (.rfl' _) (.cons rfl (.rfl' _) (.cons rfl (.rfl' _) (.cons rfl (.rfl' _) (.nil)))))) (ih1 (n1, (v5outl1 ++ y1.1, v12l1 + 1)) HK1 hm1)
  · replace H := ifF hc H; clear hc
    refine .exit rfl ?_
    refine .seq ?_
    refine .region ?_
    refine .q (q_move rfl) rfl ?_
    refine .q (q_assign rfl) rfl ?_
    refine .nil ?_
    refine .retN [.tmp 4] [.tsl 1 (v5outl1.map rB8) 0] Tryd.func30 Tryd.results30 ⟨rfl, trivial⟩ ?_
    cases H
    cases HK1
    exact ⟨[], [], rfl, rfl, rfl, rfl, rfl, rfl, rfl, rfl, .tsl _ _ _⟩

set_option maxRecDepth 100000 in
set_option maxHeartbeats 1000000 in
theorem c_g_api_Record_byte_v1 {v0list : List Record} {r : (List UInt8)} (H : g_api_Record_byte_v1 v0list = some r) : ACallS Tryd.prog 30 [.d (slOf 12 Record.row v0list), .d (.ex (.func (.func 32) #[] #[]))] ⟨[], []⟩ (QE (.d (slOf 1 rB8 r)) ⟨[], []⟩) := by
  obtain ⟨i5, hi5, hz5, hs5, hb5⟩ := in_5
  obtain ⟨i39, hi39, hz39, hs39, hb39⟩ := in_39
  refine ACallS.keep ?_
  refine ACallS.enter Tryd.func30 rfl Tryd.ntmps30 rfl fun S hS => ?_
  unfold g_api_Record_byte_v1 at H
  change ARun _ _ _ _ _ _ [(0, .d (slOf 12 Record.row v0list)), (1, .d (.ex (.func (.func 32) #[] #[])))] _
  refine .seq ?_
  refine .region ?_
  refine .q (q_assign rfl) rfl ?_
  refine .nil ?_
  refine .seq ?_
  refine .region ?_
  refine .q (q_assign rfl) rfl ?_
  refine .nil ?_
  refine .seq ?_
  refine .seq ?_
  refine .region ?_
  refine .q (q_move rfl) rfl ?_
  refine .q (q_lenL (l := v0list) (row := Record.row) Tryd.underlying22 rfl rfl) rfl ?_
  refine .q (q_move rfl) rfl ?_
  refine .nil ?_
  refine .block ?_
  refine .tok (i := 5) (e := 5) (sz := 1) rfl ?_
  refine .withSt (st' := ⟨[], [⟨5, 1, ([] : List UInt8).length, none⟩]⟩) rfl ?_
  obtain ⟨n1, H⟩ := loop_some H
  refine .withSt (st' := ⟨[], [⟨5, 1, ([] : List UInt8).length, none⟩]⟩) rfl <| .loop (ι := Nat × (List UInt8 × Int)) (fun p => [(1, .d (.ex (.func (.func 32) #[] #[]))), (5, .tsl 1 (p.2.1.map rB8) 0), (10, .d (slOf 12 Record.row v0list)), (11, .d (cI (v0list.length : Int))), (12, .d (cI p.2.2))]) (fun p => ⟨[], [⟨5, 1, p.2.1.length, none⟩]⟩) (fun p => iter (fun s => g_api_Record_byte_v1_l1 v0list s.1 s.2) p.1 p.2 = some r) (·.1) (n1, (([] : List UInt8), 0)) H (.cons rfl (.rfl' _) (.cons rfl (.rfl' _) (.cons rfl (.rfl' _) (.cons rfl (.rfl' _) (.cons rfl (.rfl' _) (.nil)))))) rfl ?_
  rintro ⟨m1, v5outl1, v12l1⟩ HI ih1
  obtain ⟨n1, q1, hm1, H, HK1⟩ := iter_succ HI
  clear HI
  replace H : g_api_Record_byte_v1_l1 v0list v5outl1 v12l1 = some q1 := H
  unfold g_api_Record_byte_v1_l1 at H
  change ARun _ _ _ _ _ _ [(1, .d (.ex (.func (.func 32) #[] #[]))), (5, .tsl 1 (v5outl1.map rB8) 0), (10, .d (slOf 12 Record.row v0list)), (11, .d (cI (v0list.length : Int))), (12, .d (cI v12l1))] ⟨[], [⟨5, 1, v5outl1.length, none⟩]⟩
  refine .seq ?_
  refine .region ?_
  refine .q (q_lss rfl rfl) rfl ?_
  refine .nil ?_
  refine .seq ?_
  refine .cond rfl (fun hc => ?_) (fun hc => ?_)
  · replace H := ifT hc H; clear hc
    refine .skip ?_
    refine .seq ?_
    refine .block ?_
    refine .seq ?_
    refine .region ?_
    obtain ⟨hk1, H⟩ := ck_some H
    refine .q (x := .d (.ro (Record.row (nth v0list (Int.toNat (v12l1)))))) (q_idxL (row := Record.row) (l := v0list) (i := v12l1) Tryd.underlying22 hi39 hs39 rfl rfl rfl hk1) rfl ?_
    refine .q (x := .d (.agg (Record.row (nth v0list (Int.toNat (v12l1)))))) (q_loadAll one_39 sz_39 rfl rfl) rfl ?_
    refine .v (x := .ref 0 0) (v_alloc zr_39 rfl) rfl ?_
    refine .withSt (st' := ⟨[.row 39 [.d (cI 0), .d (cI 0), .d (cI 0), .d (cS ([] : List UInt8)), .d (cS ([] : List UInt8)), .d (cI 0), .d (cI 0), .d (cI 0), .d (cI 0), .d (cB false), .d (cI 0), .d (cB false)]], [⟨5, 1, v5outl1.length, none⟩]⟩) rfl ?_
    refine .u (u_store rfl rfl rfl rfl (Nat.le_of_ble_eq_true rfl) sz_39) rfl ?_
    refine .withSt (st' := ⟨[.row 39 [.d (cI ((nth v0list (Int.toNat (v12l1))).source)), .d (cI ((nth v0list (Int.toNat (v12l1))).serial)), .d (cI ((nth v0list (Int.toNat (v12l1))).kind)), .d (cS ((nth v0list (Int.toNat (v12l1))).a)), .d (cS ((nth v0list (Int.toNat (v12l1))).b)), .d (cI ((nth v0list (Int.toNat (v12l1))).start)), .d (cI ((nth v0list (Int.toNat (v12l1))).units)), .d (cI ((nth v0list (Int.toNat (v12l1))).call)), .d (cI ((nth v0list (Int.toNat (v12l1))).part)), .d (cB ((nth v0list (Int.toNat (v12l1))).last)), .d (cI ((nth v0list (Int.toNat (v12l1))).trunk)), .d (cB ((nth v0list (Int.toNat (v12l1))).inbound))]], [⟨5, 1, v5outl1.length, none⟩]⟩) rfl ?_
    refine .nil ?_
    refine .seq ?_
    refine .region ?_
    refine .q (q_move rfl) rfl ?_
    refine .q (x := .d (.agg (Record.row (nth v0list (Int.toNat (v12l1)))))) (q_loadOA one_39 sz_39 rfl rfl (Nat.le_of_ble_eq_true rfl) rfl) rfl ?_
    obtain ⟨y1, hy1, H⟩ := bind_some' H
    refine .g (x := .d (.tup [slOf 1 rB8 y1.1, cI y1.2])) (g_callF en_32 rfl rfl rfl (c_f_packed_Encode (hy1))) rfl ?_
    refine .q (q_move rfl) rfl ?_
    refine .q (q_extract rfl rfl) rfl ?_
    refine .q (q_extract rfl rfl) rfl ?_
    refine .q (q_assign rfl) rfl ?_
    refine .q (q_assign rfl) rfl ?_
    refine .nil ?_
    refine .region ?_
    refine .q (q_move rfl) rfl ?_
    refine .q (q_move rfl) rfl ?_
    obtain ⟨hk2, H⟩ := ck_some H
    refine .v (x := .tsl 1 ((v5outl1 ++ y1.1).map rB8) 0) (v_appendL (l := v5outl1) (l' := y1.1) (row := rB8) Tryd.underlying32 hi5 hz5 hs5 rfl (by rw [hb5]; decide) rfl rfl rfl rfl hk2) rfl ?_
    refine .withSt (st' := ⟨[.row 39 [.d (cI ((nth v0list (Int.toNat (v12l1))).source)), .d (cI ((nth v0list (Int.toNat (v12l1))).serial)), .d (cI ((nth v0list (Int.toNat (v12l1))).kind)), .d (cS ((nth v0list (Int.toNat (v12l1))).a)), .d (cS ((nth v0list (Int.toNat (v12l1))).b)), .d (cI ((nth v0list (Int.toNat (v12l1))).start)), .d (cI ((nth v0list (Int.toNat (v12l1))).units)), .d (cI ((nth v0list (Int.toNat (v12l1))).call)), .d (cI ((nth v0list (Int.toNat (v12l1))).part)), .d (cB ((nth v0list (Int.toNat (v12l1))).last)), .d (cI ((nth v0list (Int.toNat (v12l1))).trunk)), .d (cB ((nth v0list (Int.toNat (v12l1))).inbound))]], [⟨5, 1, (v5outl1 ++ y1.1).length, none⟩]⟩) rfl ?_
    refine .q (q_assign rfl) rfl ?_
    refine .nil ?_
    refine .inBlock ?_
    refine .region ?_
    obtain ⟨hk3, H⟩ := ck_some H
    refine .q (q_addI rfl rfl hk3.1 hk3.2) rfl ?_
    refine .q (q_move rfl) rfl ?_
    refine .nil ?_
    cases H
    exact .to 0 1 (env' := [(1, .d (.ex (.func (.func 32) #[] #[]))), (5, .tsl 1 ((v5outl1 ++ y1.1).map rB8) 0), (10, .d (slOf 12 Record.row v0list)), (11, .d (cI (v0list.length : Int))), (12, .d (cI (v12l1 + 1)))]) (st' := ⟨[], [⟨5, 1, (v5outl1 ++ y1.1).length, none⟩]⟩) (.cons rfl (.rfl' _) (.cons rfl (.rfl' _) (.cons rfl (.rfl' _) (.cons rfl (.rfl' _) (.cons rfl (.rfl' _) (.nil)))))) rfl rfl rfl rfl rfl (by rw [hS]; exact Nat.le_of_ble_eq_true rfl) (by rw [hS]; exact Nat.le_of_ble_eq_true rfl) <| .sub (.cons rfl (.rfl' _) (.cons rfl (.rfl' _) (.cons rfl (.rfl' _) (.cons rfl (.rfl' _) (.cons rfl (.rfl' _) (.nil)))))) (ih1 (n1, (v5outl1 ++ y1.1, v12l1 + 1)) HK1 hm1)
  · replace H := ifF hc H; clear hc
    refine .exit rfl ?_
    refine .seq ?_
    refine .region ?_
    refine .q (q_move rfl) rfl ?_
    refine .q (q_assign rfl) rfl ?_
    refine .nil ?_
    refine .retN [.tmp 4] [.tsl 1 (v5outl1.map rB8) 0] Tryd.func30 Tryd.results30 ⟨rfl, trivial⟩ ?_
    cases H
    cases HK1
    exact ⟨[], [], rfl, rfl, rfl, rfl, rfl, rfl, rfl, rfl, .tsl _ _ _⟩

set_option maxRecDepth 100000 in
set_option maxHeartbeats 1000000 in
theorem c_g_api_Record_string {v0list : List Record} {r : (List UInt8)} (H : g_api_Record_string v0list = some r) : ACallS Tryd.prog 33 [.d (slOf 12 Record.row v0list), .d (.ex (.func (.func 34) #[] #[]))] ⟨[], []⟩ (QE (.d (slOf 1 rB8 r)) ⟨[], []⟩) := by
  obtain ⟨i5, hi5, hz5, hs5, hb5⟩ := in_5
  obtain ⟨i39, hi39, hz39, hs39, hb39⟩ := in_39
  refine ACallS.keep ?_
  refine ACallS.enter Tryd.func33 rfl Tryd.ntmps33 rfl fun S hS => ?_
  unfold g_api_Record_string at H
  change ARun _ _ _ _ _ _ [(0, .d (slOf 12 Record.row v0list)), (1, .d (.ex (.func (.func 34) #[] #[])))] _
  refine .seq ?_
  refine .region ?_
  refine .q (q_assign rfl) rfl ?_
  refine .nil ?_
  refine .seq ?_
  refine .region ?_
  refine .q (q_assign rfl) rfl ?_
  refine .nil ?_
  refine .seq ?_
  refine .seq ?_
  refine .region ?_
  refine .q (q_move rfl) rfl ?_
  refine .q (q_lenL (l := v0list) (row := Record.row) Tryd.underlying22 rfl rfl) rfl ?_
  refine .q (q_move rfl) rfl ?_
  refine .nil ?_
  refine .block ?_
  refine .tok (i := 5) (e := 5) (sz := 1) rfl ?_
  refine .withSt (st' := ⟨[], [⟨5, 1, ([] : List UInt8).length, none⟩]⟩) rfl ?_
  obtain ⟨n1, H⟩ := loop_some H
  refine .withSt (st' := ⟨[], [⟨5, 1, ([] : List UInt8).length, none⟩]⟩) rfl <| .loop (ι := Nat × (List UInt8 × Int)) (fun p => [(1, .d (.ex (.func (.func 34) #[] #[]))), (5, .tsl 1 (p.2.1.map rB8) 0), (10, .d (slOf 12 Record.row v0list)), (11, .d (cI (v0list.length : Int))), (12, .d (cI p.2.2))]) (fun p => ⟨[], [⟨5, 1, p.2.1.length, none⟩]⟩) (fun p => iter (fun s => g_api_Record_string_l1 v0list s.1 s.2) p.1 p.2 = some r) (·.1) (n1, (([] : List UInt8), 0)) H (.cons rfl (.rfl' _) (.cons rfl (.rfl' _) (.cons rfl (.rfl' _) (.cons rfl (.rfl' _) (.cons rfl (.rfl' _) (.nil)))))) rfl ?_
  rintro ⟨m1, v5outl1, v12l1⟩ HI ih1
  obtain ⟨n1, q1, hm1, H, HK1⟩ := iter_succ HI
  clear HI
  replace H : g_api_Record_string_l1 v0list v5outl1 v12l1 = some q1 := H
  unfold g_api_Record_string_l1 at H
  change ARun _ _ _ _ _ _ [(1, .d (.ex (.func (.func 34) #[] #[]))), (5, .tsl 1 (v5outl1.map rB8) 0), (10, .d (slOf 12 Record.row v0list)), (11, .d (cI (v0list.length : Int))), (12, .d (cI v12l1))] ⟨[], [⟨5, 1, v5outl1.length, none⟩]⟩
  refine .seq ?_
  refine .region ?_
  refine .q (q_lss rfl rfl) rfl ?_
  refine .nil ?_
  refine .seq ?_
  refine .cond rfl (fun hc => ?_) (fun hc => ?_)
  · replace H := ifT hc H; clear hc
    refine .skip ?_
    refine .seq ?_
    refine .block ?_
    refine .seq ?_
    refine .region ?_
    obtain ⟨hk1, H⟩ := ck_some H
    refine .q (x := .d (.ro (Record.row (nth v0list (Int.toNat (v12l1)))))) (q_idxL (row := Record.row) (l := v0list) (i := v12l1) Tryd.underlying22 hi39 hs39 rfl rfl rfl hk1) rfl ?_
    refine .q (x := .d (.agg (Record.row (nth v0list (Int.toNat (v12l1)))))) (q_loadAll one_39 sz_39 rfl rfl) rfl ?_
    refine .v (x := .ref 0 0) (v_alloc zr_39 rfl) rfl ?_
    refine .withSt (st' := ⟨[.row 39 [.d (cI 0), .d (cI 0), .d (cI 0), .d (cS ([] : List UInt8)), .d (cS ([] : List UInt8)), .d (cI 0), .d (cI 0), .d (cI 0), .d (cI 0), .d (cB false), .d (cI 0), .d (cB false)]], [⟨5, 1, v5outl1.length, none⟩]⟩) rfl ?_
    refine .u (u_store rfl rfl rfl rfl (Nat.le_of_ble_eq_true rfl) sz_39) rfl ?_
    refine .withSt (st' := ⟨[.row 39 [.d (cI ((nth v0list (Int.toNat (v12l1))).source)), .d (cI ((nth v0list (Int.toNat (v12l1))).serial)), .d (cI ((nth v0list (Int.toNat (v12l1))).kind)), .d (cS ((nth v0list (Int.toNat (v12l1))).a)), .d (cS ((nth v0list (Int.toNat (v12l1))).b)), .d (cI ((nth v0list (Int.toNat (v12l1))).start)), .d (cI ((nth v0list (Int.toNat (v12l1))).units)), .d (cI ((nth v0list (Int.toNat (v12l1))).call)), .d (cI ((nth v0list (Int.toNat (v12l1))).part)), .d (cB ((nth v0list (Int.toNat (v12l1))).last)), .d (cI ((nth v0list (Int.toNat (v12l1))).trunk)), .d (cB ((nth v0list (Int.toNat (v12l1))).inbound))]], [⟨5, 1, v5outl1.length, none⟩]⟩) rfl ?_
    refine .nil ?_
    refine .seq ?_
    refine .region ?_
    refine .q (q_move rfl) rfl ?_
    refine .q (x := .d (.agg (Record.row (nth v0list (Int.toNat (v12l1)))))) (q_loadOA one_39 sz_39 rfl rfl (Nat.le_of_ble_eq_true rfl) rfl) rfl ?_
    obtain ⟨y1, hy1, H⟩ := bind_some' H
    refine .g (x := .d (.tup [cS y1.1, cI y1.2])) (g_callF en_34 rfl rfl rfl (c_f_batch_line (hy1))) rfl ?_
    refine .q (q_move rfl) rfl ?_
    refine .q (q_extract rfl rfl) rfl ?_
    refine .q (q_extract rfl rfl) rfl ?_
    refine .q (q_assign rfl) rfl ?_
    refine .q (q_assign rfl) rfl ?_
    refine .nil ?_
    refine .region ?_
    refine .q (q_move rfl) rfl ?_
    refine .q (q_move rfl) rfl ?_
    obtain ⟨hk2, H⟩ := ck_some H
    refine .v (x := .tsl 1 ((v5outl1 ++ y1.1).map rB8) 0) (v_appendStrL (l := v5outl1) (a := y1.1) Tryd.underlying32 Tryd.underlying9 hi5 hz5 hs5 rfl (by rw [hb5]; decide) rfl rfl rfl hk2) rfl ?_
    refine .withSt (st' := ⟨[.row 39 [.d (cI ((nth v0list (Int.toNat (v12l1))).source)), .d (cI ((nth v0list (Int.toNat (v12l1))).serial)), .d (cI ((nth v0list (Int.toNat (v12l1))).kind)), .d (cS ((nth v0list (Int.toNat (v12l1))).a)), .d (cS ((nth v0list (Int.toNat (v12l1))).b)), .d (cI ((nth v0list (Int.toNat (v12l1))).start)), .d (cI ((nth v0list (Int.toNat (v12l1))).units)), .d (cI ((nth v0list (Int.toNat (v12l1))).call)), .d (cI ((nth v0list (Int.toNat (v12l1))).part)), .d (cB ((nth v0list (Int.toNat (v12l1))).last)), .d (cI ((nth v0list (Int.toNat (v12l1))).trunk)), .d (cB ((nth v0list (Int.toNat (v12l1))).inbound))]], [⟨5, 1, (v5outl1 ++ y1.1).length, none⟩]⟩) rfl ?_
    refine .q (q_assign rfl) rfl ?_
    refine .nil ?_
    refine .inBlock ?_
    refine .region ?_
    obtain ⟨hk3, H⟩ := ck_some H
    refine .q (q_addI rfl rfl hk3.1 hk3.2) rfl ?_
    refine .q (q_move rfl) rfl ?_
    refine .nil ?_
    cases H
    exact .to 0 1 (env' := [(1, .d (.ex (.func (.func 34) #[] #[]))), (5, .tsl 1 ((v5outl1 ++ y1.1).map rB8) 0), (10, .d (slOf 12 Record.row v0list)), (11, .d (cI (v0list.length : Int))), (12, .d (cI (v12l1 + 1)))]) (st' := ⟨[], [⟨5, 1, (v5outl1 ++ y1.1).length, none⟩]⟩) (.cons rfl (.rfl' _) (.cons rfl (.rfl' _) (.cons rfl (.rfl' _) (.cons rfl (.rfl' _) (.cons rfl (.rfl' _) (.nil)))))) rfl rfl rfl rfl rfl (by rw [hS]; exact Nat.le_of_ble_eq_true rfl) (by rw [hS]; exact Nat.le_of_ble_eq_true rfl) <| .sub (.cons rfl (.rfl' _) (.cons rfl (.rfl' _) (.cons rfl (.rfl' _) (.cons rfl (.rfl' _) (.cons rfl (.rfl' _) (.nil)))))) (ih1 (n1, (v5outl1 ++ y1.1, v12l1 + 1)) HK1 hm1)
  · replace H := ifF hc H; clear hc
    refine .exit rfl ?_
    refine .seq ?_
    refine .region ?_
    refine .q (q_move rfl) rfl ?_
    refine .q (q_assign rfl) rfl ?_
    refine .nil ?_
    refine .retN [.tmp 4] [.tsl 1 (v5outl1.map rB8) 0] Tryd.func33 Tryd.results33 ⟨rfl, trivial⟩ ?_
    cases H
    cases HK1
    exact ⟨[], [], rfl, rfl, rfl, rfl, rfl, rfl, rfl, rfl, .tsl _ _ _⟩

set_option maxRecDepth 100000 in
set_option maxHeartbeats 1000000 in
theorem c_f_batch_payload {v0format : Int} {v1records : List Record} {r : (List UInt8)} (H : f_batch_payload v0format v1records = some r) : ACall Tryd.prog 20 [cI v0format, slOf 12 Record.row v1records] (· = slOf 1 rB8 r) := by
  refine ACall.enter' Tryd.func20 rfl Tryd.ntmps20 rfl fun S hS => ?_
  unfold f_batch_payload at H
  change ARun _ _ _ _ _ _ [(0, .d (cI v0format)), (1, .d (slOf 12 Record.row v1records))] _
  refine .seq ?_
  refine .region ?_
  refine .q (q_assign rfl) rfl ?_
  refine .nil ?_
  refine .seq ?_
  refine .seq ?_
  refine .region ?_
  refine .q (q_move rfl) rfl ?_
  refine .nil ?_
  refine .block ?_
  refine .seq ?_
  refine .region ?_
  refine .q (q_eql rfl rfl) rfl ?_
  refine .q (q_assign rfl) rfl ?_
  refine .nil ?_
  refine .cond rfl (fun hc => ?_) (fun hc => ?_)
  · replace H := ifT hc H; clear hc
    refine .seq ?_
    refine .region ?_
    refine .q (q_move rfl) rfl ?_
    obtain ⟨y1, hy1, H⟩ := bind_some' H
    refine .g (x := .d (slOf 1 rB8 y1)) (g_call en_30 rfl rfl (ACall.ofE (ds := [slOf 12 Record.row v1records, .ex (.func (.func 31) #[] #[])]) (c_g_api_Record_byte (hy1)))) rfl ?_
    refine .q (q_assign rfl) rfl ?_
    refine .nil ?_
    refine .retN [.tmp 4] [.d (slOf 1 rB8 y1)] Tryd.func20 Tryd.results20 ⟨rfl, trivial⟩ ?_
    cases H
    exact ⟨_, .rfl' _, rfl⟩
  · replace H := ifF hc H; clear hc
    refine .seq ?_
    refine .region ?_
    refine .q (q_eql rfl rfl) rfl ?_
    refine .q (q_assign rfl) rfl ?_
    refine .nil ?_
    refine .cond rfl (fun hc => ?_) (fun hc => ?_)
    · replace H := ifT hc H; clear hc
      refine .seq ?_
      refine .region ?_
      refine .q (q_move rfl) rfl ?_
      obtain ⟨y2, hy2, H⟩ := bind_some' H
      refine .g (x := .d (slOf 1 rB8 y2)) (g_call en_30 rfl rfl (ACall.ofE (ds := [slOf 12 Record.row v1records, .ex (.func (.func 32) #[] #[])]) (c_g_api_Record_byte_v1 (hy2)))) rfl ?_
      refine .q (q_assign rfl) rfl ?_
      refine .nil ?_
      refine .retN [.tmp 4] [.d (slOf 1 rB8 y2)] Tryd.func20 Tryd.results20 ⟨rfl, trivial⟩ ?_
      cases H
      exact ⟨_, .rfl' _, rfl⟩
    · replace H := ifF hc H; clear hc
      refine .skip ?_
      refine .inBlock ?_
      refine .seq ?_
      refine .region ?_
      refine .q (q_move rfl) rfl ?_
      obtain ⟨y3, hy3, H⟩ := bind_some' H
      refine .g (x := .d (slOf 1 rB8 y3)) (g_call en_33 rfl rfl (ACall.ofE (ds := [slOf 12 Record.row v1records, .ex (.func (.func 34) #[] #[])]) (c_g_api_Record_string (hy3)))) rfl ?_
      refine .q (q_assign rfl) rfl ?_
      refine .nil ?_
      refine .retN [.tmp 4] [.d (slOf 1 rB8 y3)] Tryd.func20 Tryd.results20 ⟨rfl, trivial⟩ ?_
      cases H
      exact ⟨_, .rfl' _, rfl⟩

set_option maxRecDepth 100000 in
set_option maxHeartbeats 1000000 in
theorem c_f_frame_Sum {v0b : List UInt8} {r : Int} (H : f_frame_Sum v0b = some r) : ACall Tryd.prog 47 [slOf 1 rB8 v0b] (· = cK .u32 r) := by
  obtain ⟨i5, hi5, hz5, hs5, hb5⟩ := in_5
  refine ACall.enter' Tryd.func47 rfl Tryd.ntmps47 rfl fun S hS => ?_
  unfold f_frame_Sum at H
  change ARun _ _ _ _ _ _ [(0, .d (slOf 1 rB8 v0b))] _
  refine .seq ?_
  refine .region ?_
  refine .q (q_assign rfl) rfl ?_
  refine .nil ?_
  refine .seq ?_
  refine .region ?_
  refine .q (q_assign rfl) rfl ?_
  refine .nil ?_
  refine .seq ?_
  refine .seq ?_
  refine .region ?_
  refine .q (q_move rfl) rfl ?_
  refine .q (q_lenL (l := v0b) (row := rB8) Tryd.underlying32 rfl rfl) rfl ?_
  refine .q (q_move rfl) rfl ?_
  refine .nil ?_
  refine .block ?_
  obtain ⟨n1, H⟩ := loop_some H
  refine .loop (ι := Nat × (Int × Int)) (fun p => [(3, .d (cK .u32 p.2.1)), (6, .d (slOf 1 rB8 v0b)), (7, .d (cI (v0b.length : Int))), (8, .d (cI p.2.2))]) (fun p => ⟨[], []⟩) (fun p => iter (fun s => f_frame_Sum_l1 v0b s.1 s.2) p.1 p.2 = some r) (·.1) (n1, (2166136261, 0)) H (.cons rfl (.rfl' _) (.cons rfl (.rfl' _) (.cons rfl (.rfl' _) (.cons rfl (.rfl' _) (.nil))))) rfl ?_
  rintro ⟨m1, v3nl1, v8l1⟩ HI ih1
  obtain ⟨n1, q1, hm1, H, HK1⟩ := iter_succ HI
  clear HI
  replace H : f_frame_Sum_l1 v0b v3nl1 v8l1 = some q1 := H
  unfold f_frame_Sum_l1 at H
  change ARun _ _ _ _ _ _ [(3, .d (cK .u32 v3nl1)), (6, .d (slOf 1 rB8 v0b)), (7, .d (cI (v0b.length : Int))), (8, .d (cI v8l1))] ⟨[], []⟩
  refine .seq ?_
  refine .region ?_
  refine .q (q_lss rfl rfl) rfl ?_
  refine .nil ?_
  refine .seq ?_
  refine .cond rfl (fun hc => ?_) (fun hc => ?_)
  · replace H := ifT hc H; clear hc
    refine .skip ?_
    refine .seq ?_
    refine .block ?_
    refine .seq ?_
    refine .region ?_
    obtain ⟨hk1, H⟩ := ck_some H
    refine .q (x := .d (.ro (rB8 (nth v0b (Int.toNat (v8l1)))))) (q_idxL (row := rB8) (l := v0b) (i := v8l1) Tryd.underlying32 hi5 hs5 rfl rfl rfl hk1) rfl ?_
    refine .q (x := .d (cU8 (nth v0b (Int.toNat (v8l1))))) (q_load one_5 rfl) rfl ?_
    refine .q (q_assign rfl) rfl ?_
    refine .nil ?_
    refine .seq ?_
    refine .region ?_
    refine .q (q_move rfl) rfl ?_
    refine .q (q_move rfl) rfl ?_
    refine .q (x := .d (cK .u32 (IntKind.wrap .u32 ((nth v0b (Int.toNat (v8l1))).toNat : Int)))) (q_conv (n := ((nth v0b (Int.toNat (v8l1))).toNat : Int)) Tryd.underlying5 Tryd.underlying76 rfl rfl) rfl ?_
    refine .q (x := .d (cK .u32 (bXor .u32 v3nl1 (IntKind.wrap .u32 ((nth v0b (Int.toNat (v8l1))).toNat : Int))))) (q_xor rfl rfl) rfl ?_
    refine .q (q_assign rfl) rfl ?_
    refine .nil ?_
    refine .region ?_
    refine .q (q_move rfl) rfl ?_
    refine .q (x := .d (cK .u32 (IntKind.wrap .u32 ((bXor .u32 v3nl1 (IntKind.wrap .u32 ((nth v0b (Int.toNat (v8l1))).toNat : Int))) * 16777619)))) (q_mul rfl rfl rfl) rfl ?_
    refine .q (q_assign rfl) rfl ?_
    refine .nil ?_
    refine .inBlock ?_
    refine .region ?_
    obtain ⟨hk2, H⟩ := ck_some H
    refine .q (q_addI rfl rfl hk2.1 hk2.2) rfl ?_
    refine .q (q_move rfl) rfl ?_
    refine .nil ?_
    cases H
    exact .sub (.cons rfl (.rfl' _) (.cons rfl (.rfl' _) (.cons rfl (.rfl' _) (.cons rfl (.rfl' _) (.nil))))) (ih1 (n1, (IntKind.wrap .u32 ((bXor .u32 v3nl1 (IntKind.wrap .u32 ((nth v0b (Int.toNat (v8l1))).toNat : Int))) * 16777619), v8l1 + 1)) HK1 hm1)
  · replace H := ifF hc H; clear hc
    refine .exit rfl ?_
    refine .seq ?_
    refine .region ?_
    refine .q (q_move rfl) rfl ?_
    refine .q (q_assign rfl) rfl ?_
    refine .nil ?_
    refine .retN [.tmp 2] [.d (cK .u32 v3nl1)] Tryd.func47 Tryd.results47 ⟨rfl, trivial⟩ ?_
    cases H
    cases HK1
    exact ⟨_, .rfl' _, rfl⟩

set_option maxRecDepth 100000 in
set_option maxHeartbeats 1000000 in
theorem c_g_frame_wrap_v1 {v1payload : List UInt8} {y0t0p : List UInt8} {r : (List UInt8)} (H : g_frame_wrap_v1 v1payload y0t0p = some r) : ACallS Tryd.prog 28 [.tsl 1 (y0t0p.map rB8) 0, .d (slOf 1 rB8 v1payload)] ⟨[], [⟨5, 1, y0t0p.length, none⟩]⟩ (QE (.tsl 1 (r.map rB8) 0) ⟨[], [⟨5, 1, r.length, none⟩]⟩) := by
  obtain ⟨i5, hi5, hz5, hs5, hb5⟩ := in_5
  refine ACallS.keep ?_
  refine ACallS.enter Tryd.func28 rfl Tryd.ntmps28 rfl fun S hS => ?_
  unfold g_frame_wrap_v1 at H
  change ARun _ _ _ _ _ _ [(0, .tsl 1 (y0t0p.map rB8) 0), (1, .d (slOf 1 rB8 v1payload))] _
  refine .seq ?_
  refine .region ?_
  refine .q (q_assign rfl) rfl ?_
  refine .nil ?_
  refine .seq ?_
  refine .region ?_
  refine .q (q_move rfl) rfl ?_
  obtain ⟨y1, hy1, H⟩ := bind_some' H
  refine .g (x := .d (cK .u32 y1)) (g_call en_47 rfl rfl (c_f_frame_Sum (hy1))) rfl ?_
  refine .q (q_assign rfl) rfl ?_
  refine .nil ?_
  refine .seq ?_
  refine .region ?_
  refine .q (q_move rfl) rfl ?_
  refine .q (q_move rfl) rfl ?_
  refine .q (q_lenL (l := v1payload) (row := rB8) Tryd.underlying32 rfl rfl) rfl ?_
  obtain ⟨y2, hy2, H⟩ := bind_some' H
  refine .g (x := .d (slOf 1 rB8 y2)) (g_call en_29 rfl rfl ((c_f_codec_PutNumber (hy2)).le ⟨.nil 1, .rfl' _, trivial⟩)) rfl ?_
  obtain ⟨hk1, H⟩ := ck_some H
  refine .v (x := .tsl 1 ((y0t0p ++ y2).map rB8) 0) (v_appendL (l := y0t0p) (l' := y2) (row := rB8) Tryd.underlying32 hi5 hz5 hs5 rfl (by rw [hb5]; decide) rfl rfl rfl rfl hk1) rfl ?_
  refine .withSt (st' := ⟨[], [⟨5, 1, (y0t0p ++ y2).length, none⟩]⟩) rfl ?_
  refine .q (q_assign rfl) rfl ?_
  refine .nil ?_
  refine .seq ?_
  refine .region ?_
  refine .q (q_move rfl) rfl ?_
  refine .q (q_move rfl) rfl ?_
  obtain ⟨hk2, H⟩ := ck_some H
  refine .q (x := .d (cK .u32 (Int.fdiv y1 (2 ^ (min (Int.toNat (24)) 32))))) (q_shr (a := y1) (b := 24) rfl rfl hk2 rfl) rfl ?_
  refine .q (x := .d (cU8 (UInt8.ofInt (Int.fdiv y1 (2 ^ (min (Int.toNat (24)) 32)))))) (q_conv8 Tryd.underlying76 Tryd.underlying5 rfl) rfl ?_
  refine .q (q_move rfl) rfl ?_
  obtain ⟨hk3, H⟩ := ck_some H
  refine .q (x := .d (cK .u32 (Int.fdiv y1 (2 ^ (min (Int.toNat (16)) 32))))) (q_shr (a := y1) (b := 16) rfl rfl hk3 rfl) rfl ?_
  refine .q (x := .d (cU8 (UInt8.ofInt (Int.fdiv y1 (2 ^ (min (Int.toNat (16)) 32)))))) (q_conv8 Tryd.underlying76 Tryd.underlying5 rfl) rfl ?_
  refine .q (q_move rfl) rfl ?_
  obtain ⟨hk4, H⟩ := ck_some H
  refine .q (x := .d (cK .u32 (Int.fdiv y1 (2 ^ (min (Int.toNat (8)) 32))))) (q_shr (a := y1) (b := 8) rfl rfl hk4 rfl) rfl ?_
  refine .q (x := .d (cU8 (UInt8.ofInt (Int.fdiv y1 (2 ^ (min (Int.toNat (8)) 32)))))) (q_conv8 Tryd.underlying76 Tryd.underlying5 rfl) rfl ?_
  refine .q (q_move rfl) rfl ?_
  refine .q (x := .d (cU8 (UInt8.ofInt y1))) (q_conv8 Tryd.underlying76 Tryd.underlying5 rfl) rfl ?_
  refine .g (x := .d (slOf 1 rB8 ([UInt8.ofInt (Int.fdiv y1 (2 ^ (min (Int.toNat (24)) 32))), UInt8.ofInt (Int.fdiv y1 (2 ^ (min (Int.toNat (16)) 32))), UInt8.ofInt (Int.fdiv y1 (2 ^ (min (Int.toNat (8)) 32))), UInt8.ofInt y1] : List UInt8))) (g_buildSliceN (n := 4) (rows := ([UInt8.ofInt (Int.fdiv y1 (2 ^ (min (Int.toNat (24)) 32))), UInt8.ofInt (Int.fdiv y1 (2 ^ (min (Int.toNat (16)) 32))), UInt8.ofInt (Int.fdiv y1 (2 ^ (min (Int.toNat (8)) 32))), UInt8.ofInt y1] : List UInt8).map rB8) Tryd.underlying32 hi5 hs5 hz5 rfl rfl rfl rfl rfl) rfl ?_
  obtain ⟨hk5, H⟩ := ck_some H
  refine .v (x := .tsl 1 (((y0t0p ++ y2) ++ ([UInt8.ofInt (Int.fdiv y1 (2 ^ (min (Int.toNat (24)) 32))), UInt8.ofInt (Int.fdiv y1 (2 ^ (min (Int.toNat (16)) 32))), UInt8.ofInt (Int.fdiv y1 (2 ^ (min (Int.toNat (8)) 32))), UInt8.ofInt y1] : List UInt8)).map rB8) 0) (v_appendL (l := y0t0p ++ y2) (l' := ([UInt8.ofInt (Int.fdiv y1 (2 ^ (min (Int.toNat (24)) 32))), UInt8.ofInt (Int.fdiv y1 (2 ^ (min (Int.toNat (16)) 32))), UInt8.ofInt (Int.fdiv y1 (2 ^ (min (Int.toNat (8)) 32))), UInt8.ofInt y1] : List UInt8)) (row := rB8) Tryd.underlying32 hi5 hz5 hs5 rfl (by rw [hb5]; decide) rfl rfl rfl rfl hk5) rfl ?_
  refine .withSt (st' := ⟨[], [⟨5, 1, ((y0t0p ++ y2) ++ ([UInt8.ofInt (Int.fdiv y1 (2 ^ (min (Int.toNat (24)) 32))), UInt8.ofInt (Int.fdiv y1 (2 ^ (min (Int.toNat (16)) 32))), UInt8.ofInt (Int.fdiv y1 (2 ^ (min (Int.toNat (8)) 32))), UInt8.ofInt y1] : List UInt8)).length, none⟩]⟩) rfl ?_
  refine .q (q_assign rfl) rfl ?_
  refine .nil ?_
  refine .seq ?_
  refine .region ?_
  refine .q (q_move rfl) rfl ?_
  refine .q (q_move rfl) rfl ?_
  obtain ⟨hk6, H⟩ := ck_some H
  refine .v (x := .tsl 1 ((((y0t0p ++ y2) ++ ([UInt8.ofInt (Int.fdiv y1 (2 ^ (min (Int.toNat (24)) 32))), UInt8.ofInt (Int.fdiv y1 (2 ^ (min (Int.toNat (16)) 32))), UInt8.ofInt (Int.fdiv y1 (2 ^ (min (Int.toNat (8)) 32))), UInt8.ofInt y1] : List UInt8)) ++ v1payload).map rB8) 0) (v_appendL (l := (y0t0p ++ y2) ++ ([UInt8.ofInt (Int.fdiv y1 (2 ^ (min (Int.toNat (24)) 32))), UInt8.ofInt (Int.fdiv y1 (2 ^ (min (Int.toNat (16)) 32))), UInt8.ofInt (Int.fdiv y1 (2 ^ (min (Int.toNat (8)) 32))), UInt8.ofInt y1] : List UInt8)) (l' := v1payload) (row := rB8) Tryd.underlying32 hi5 hz5 hs5 rfl (by rw [hb5]; decide) rfl rfl rfl rfl hk6) rfl ?_
  refine .withSt (st' := ⟨[], [⟨5, 1, (((y0t0p ++ y2) ++ ([UInt8.ofInt (Int.fdiv y1 (2 ^ (min (Int.toNat (24)) 32))), UInt8.ofInt (Int.fdiv y1 (2 ^ (min (Int.toNat (16)) 32))), UInt8.ofInt (Int.fdiv y1 (2 ^ (min (Int.toNat (8)) 32))), UInt8.ofInt y1] : List UInt8)) ++ v1payload).length, none⟩]⟩) rfl ?_
  refine .q (q_assign rfl) rfl ?_
  refine .nil ?_
  refine .retN [.tmp 4] [.tsl 1 ((((y0t0p ++ y2) ++ ([UInt8.ofInt (Int.fdiv y1 (2 ^ (min (Int.toNat (24)) 32))), UInt8.ofInt (Int.fdiv y1 (2 ^ (min (Int.toNat (16)) 32))), UInt8.ofInt (Int.fdiv y1 (2 ^ (min (Int.toNat (8)) 32))), UInt8.ofInt y1] : List UInt8)) ++ v1payload).map rB8) 0] Tryd.func28 Tryd.results28 ⟨rfl, trivial⟩ ?_
  cases H
  exact ⟨[], [0], rfl, rfl, rfl, rfl, rfl, rfl, rfl, rfl, .rfl' _⟩

set_option maxRecDepth 100000 in
set_option maxHeartbeats 1000000 in
theorem c_f_frame_Join {v0list : List (List UInt8)} {r : (List UInt8) × Int} (H : f_frame_Join v0list = some r) : ACall Tryd.prog 17 [slOf 1 (rSl 1 rB8) v0list] (· = .tup [slOf 1 rB8 r.1, cI r.2]) := by
  obtain ⟨i32, hi32, hz32, hs32, hb32⟩ := in_32
  refine ACall.enter' Tryd.func17 rfl Tryd.ntmps17 rfl fun S hS => ?_
  unfold f_frame_Join at H
  change ARun _ _ _ _ _ _ [(0, .d (slOf 1 (rSl 1 rB8) v0list))] _
  refine .seq ?_
  refine .region ?_
  refine .q (q_assign rfl) rfl ?_
  refine .q (q_assign rfl) rfl ?_
  refine .nil ?_
  refine .seq ?_
  refine .region ?_
  refine .q (q_assign rfl) rfl ?_
  refine .nil ?_
  refine .seq ?_
  refine .seq ?_
  refine .region ?_
  refine .q (q_move rfl) rfl ?_
  refine .q (q_lenL (l := v0list) (row := (rSl 1 rB8)) Tryd.underlying52 rfl rfl) rfl ?_
  refine .q (q_move rfl) rfl ?_
  refine .nil ?_
  refine .block ?_
  refine .tok (i := 4) (e := 5) (sz := 1) rfl ?_
  refine .withSt (st' := ⟨[], [⟨5, 1, ([] : List UInt8).length, none⟩]⟩) rfl ?_
  obtain ⟨n1, H⟩ := loop_some H
  refine .withSt (st' := ⟨[], [⟨5, 1, ([] : List UInt8).length, none⟩]⟩) rfl <| .loop (ι := Nat × (List UInt8 × Int)) (fun p => [(4, .tsl 1 (p.2.1.map rB8) 0), (7, .d (slOf 1 (rSl 1 rB8) v0list)), (8, .d (cI (v0list.length : Int))), (9, .d (cI p.2.2))]) (fun p => ⟨[], [⟨5, 1, p.2.1.length, none⟩]⟩) (fun p => iter (fun s => f_frame_Join_l1 v0list s.1 s.2) p.1 p.2 = some r) (·.1) (n1, (([] : List UInt8), 0)) H (.cons rfl (.rfl' _) (.cons rfl (.rfl' _) (.cons rfl (.rfl' _) (.cons rfl (.rfl' _) (.nil))))) rfl ?_
  rintro ⟨m1, v4outl1, v9l1⟩ HI ih1
  obtain ⟨n1, q1, hm1, H, HK1⟩ := iter_succ HI
  clear HI
  replace H : f_frame_Join_l1 v0list v4outl1 v9l1 = some q1 := H
  unfold f_frame_Join_l1 at H
  change ARun _ _ _ _ _ _ [(4, .tsl 1 (v4outl1.map rB8) 0), (7, .d (slOf 1 (rSl 1 rB8) v0list)), (8, .d (cI (v0list.length : Int))), (9, .d (cI v9l1))] ⟨[], [⟨5, 1, v4outl1.length, none⟩]⟩
  refine .seq ?_
  refine .region ?_
  refine .q (q_lss rfl rfl) rfl ?_
  refine .nil ?_
  refine .seq ?_
  refine .cond rfl (fun hc => ?_) (fun hc => ?_)
  · replace H := ifT hc H; clear hc
    refine .skip ?_
    refine .seq ?_
    refine .block ?_
    refine .seq ?_
    refine .region ?_
    obtain ⟨hk1, H⟩ := ck_some H
    refine .q (x := .d (.ro ((rSl 1 rB8) (nth v0list (Int.toNat (v9l1)))))) (q_idxL (row := (rSl 1 rB8)) (l := v0list) (i := v9l1) Tryd.underlying52 hi32 hs32 rfl rfl rfl hk1) rfl ?_
    refine .q (x := .d (slOf 1 rB8 (nth v0list (Int.toNat (v9l1))))) (q_load one_32 rfl) rfl ?_
    refine .q (q_assign rfl) rfl ?_
    refine .nil ?_
    refine .seq ?_
    refine .seq ?_
    refine .region ?_
    refine .q (q_move rfl) rfl ?_
    refine .q (q_lenL (l := nth v0list (Int.toNat (v9l1))) (row := rB8) Tryd.underlying32 rfl rfl) rfl ?_
    refine .q (q_gtr rfl rfl) rfl ?_
    refine .nil ?_
    refine .cond rfl (fun hc => ?_) (fun hc => ?_)
    · replace H := ifT hc H; clear hc
      refine .seq ?_
      refine .region ?_
      refine .q (q_assign rfl) rfl ?_
      refine .q (q_assign rfl) rfl ?_
      refine .nil ?_
      refine .retN [.tmp 2, .tmp 3] [.d (nilD), .d (cI 5)] Tryd.func17 Tryd.results17 ⟨rfl, rfl, trivial⟩ ?_
      cases H
      cases HK1
      exact ⟨_, EVle.tupL (ds := [slOf 1 rB8 ([] : List UInt8), cI 5]) ⟨.nil 1, .rfl' _, trivial⟩, rfl⟩
    · replace H := ifF hc H; clear hc
      refine .skip ?_
      refine .region ?_
      refine .q (q_move rfl) rfl ?_
      refine .q (q_move rfl) rfl ?_
      obtain ⟨y1, hy1, H⟩ := bind_some' H
      refine .callF en_28 rfl [] [0] (x := .tsl 1 (y1.map rB8) 0) (st' := ⟨[], [⟨5, 1, y1.length, none⟩]⟩) rfl (c_g_frame_wrap_v1 (hy1)) ⟨.rfl' _, .rfl' _, trivial⟩ rfl rfl rfl rfl rfl rfl ?_
      refine .withSt (st' := ⟨[], [⟨5, 1, y1.length, none⟩]⟩) rfl ?_
      refine .q (q_assign rfl) rfl ?_
      refine .nil ?_
      refine .inBlock ?_
      refine .region ?_
      obtain ⟨hk2, H⟩ := ck_some H
      refine .q (q_addI rfl rfl hk2.1 hk2.2) rfl ?_
      refine .q (q_move rfl) rfl ?_
      refine .nil ?_
      cases H
      exact .withSt (st' := ⟨[], [⟨5, 1, y1.length, none⟩]⟩) rfl <| .sub (.cons rfl (.rfl' _) (.cons rfl (.rfl' _) (.cons rfl (.rfl' _) (.cons rfl (.rfl' _) (.nil))))) (ih1 (n1, (y1, v9l1 + 1)) HK1 hm1)
  · replace H := ifF hc H; clear hc
    refine .exit rfl ?_
    refine .seq ?_
    refine .region ?_
    refine .q (q_move rfl) rfl ?_
    refine .q (q_assign rfl) rfl ?_
    refine .q (q_assign rfl) rfl ?_
    refine .nil ?_
    refine .retN [.tmp 2, .tmp 3] [.tsl 1 (v4outl1.map rB8) 0, .d (cI 0)] Tryd.func17 Tryd.results17 ⟨rfl, rfl, trivial⟩ ?_
    cases H
    cases HK1
    exact ⟨_, EVle.tupL (ds := [slOf 1 rB8 v4outl1, cI 0]) ⟨.tsl _ _ _, .rfl' _, trivial⟩, rfl⟩

end Go.Proofs.YtccmaffefdcikaaDoor

set_option linter.unusedSimpArgs false
set_option linter.unusedVariables false
namespace Go.Proofs.YtccmaffefdcikaaDoor
open Go.RowKit Go.Abs
set_option maxRecDepth 100000 in
set_option maxHeartbeats 1000000 in
theorem c_g_batch_all_int_byte {v0list : List Int} {r : (List UInt8)} (H : g_batch_all_int_byte v0list = some r) : ACallS Tryd.prog 18 [.d (slOf 1 rI v0list), .d (.ex (.func (.func 19) #[] #[]))] ⟨[], []⟩ (QE (.d (slOf 1 rB8 r)) ⟨[], []⟩) := by
  obtain ⟨i3, hi3, hz3, hs3, hb3⟩ := in_3
  obtain ⟨i5, hi5, hz5, hs5, hb5⟩ := in_5
  refine ACallS.keep ?_
  refine ACallS.enter Tryd.func18 rfl Tryd.ntmps18 rfl fun S hS => ?_
  unfold g_batch_all_int_byte at H
  change ARun _ _ _ _ _ _ [(0, .d (slOf 1 rI v0list)), (1, .d (.ex (.func (.func 19) #[] #[])))] _
  refine .seq ?_
  refine .region ?_
  refine .q (q_assign rfl) rfl ?_
  refine .nil ?_
  refine .seq ?_
  refine .region ?_
  refine .q (q_assign rfl) rfl ?_
  refine .nil ?_
  refine .seq ?_
  refine .seq ?_
  refine .region ?_
  refine .q (q_move rfl) rfl ?_
  refine .q (q_lenL (l := v0list) (row := rI) Tryd.underlying49 rfl rfl) rfl ?_
  refine .q (q_move rfl) rfl ?_
  refine .nil ?_
  refine .block ?_
  refine .tok (i := 5) (e := 5) (sz := 1) rfl ?_
  refine .withSt (st' := ⟨[], [⟨5, 1, ([] : List UInt8).length, none⟩]⟩) rfl ?_
  obtain ⟨n1, H⟩ := loop_some H
  refine .withSt (st' := ⟨[], [⟨5, 1, ([] : List UInt8).length, none⟩]⟩) rfl <| .loop (ι := Nat × (List UInt8 × Int)) (fun p => [(1, .d (.ex (.func (.func 19) #[] #[]))), (5, .tsl 1 (p.2.1.map rB8) 0), (10, .d (slOf 1 rI v0list)), (11, .d (cI (v0list.length : Int))), (12, .d (cI p.2.2))]) (fun p => ⟨[], [⟨5, 1, p.2.1.length, none⟩]⟩) (fun p => iter (fun s => g_batch_all_int_byte_l1 v0list s.1 s.2) p.1 p.2 = some r) (·.1) (n1, (([] : List UInt8), 0)) H (.cons rfl (.rfl' _) (.cons rfl (.rfl' _) (.cons rfl (.rfl' _) (.cons rfl (.rfl' _) (.cons rfl (.rfl' _) (.nil)))))) rfl ?_
  rintro ⟨m1, v5outl1, v12l1⟩ HI ih1
  obtain ⟨n1, q1, hm1, H, HK1⟩ := iter_succ HI
  clear HI
  replace H : g_batch_all_int_byte_l1 v0list v5outl1 v12l1 = some q1 := H
  unfold g_batch_all_int_byte_l1 at H
  change ARun _ _ _ _ _ _ [(1, .d (.ex (.func (.func 19) #[] #[]))), (5, .tsl 1 (v5outl1.map rB8) 0), (10, .d (slOf 1 rI v0list)), (11, .d (cI (v0list.length : Int))), (12, .d (cI v12l1))] ⟨[], [⟨5, 1, v5outl1.length, none⟩]⟩
  refine .seq ?_
  refine .region ?_
  refine .q (q_lss rfl rfl) rfl ?_
  refine .nil ?_
  refine .seq ?_
  refine .cond rfl (fun hc => ?_) (fun hc => ?_)
  · replace H := ifT hc H; clear hc
    refine .skip ?_
    refine .seq ?_
    refine .block ?_
    refine .seq ?_
    refine .region ?_
    obtain ⟨hk1, H⟩ := ck_some H
    refine .q (x := .d (.ro (rI (nth v0list (Int.toNat (v12l1)))))) (q_idxL (row := rI) (l := v0list) (i := v12l1) Tryd.underlying49 hi3 hs3 rfl rfl rfl hk1) rfl ?_
    refine .q (x := .d (cI (nth v0list (Int.toNat (v12l1))))) (q_load one_3 rfl) rfl ?_
    refine .q (q_assign rfl) rfl ?_
    refine .nil ?_
    refine .seq ?_
    refine .region ?_
    refine .q (q_move rfl) rfl ?_
    refine .q (q_move rfl) rfl ?_
    obtain ⟨y1, hy1, H⟩ := bind_some' H
    refine .g (x := .d (.tup [slOf 1 rB8 y1.1, cI y1.2])) (g_callF en_19 rfl rfl rfl (c_f_batch_number (hy1))) rfl ?_
    refine .q (q_move rfl) rfl ?_
    refine .q (q_extract rfl rfl) rfl ?_
    refine .q (q_extract rfl rfl) rfl ?_
    refine .q (q_assign rfl) rfl ?_
    refine .q (q_assign rfl) rfl ?_
    refine .nil ?_
    refine .region ?_
    refine .q (q_move rfl) rfl ?_
    refine .q (q_move rfl) rfl ?_
    obtain ⟨hk2, H⟩ := ck_some H
    refine .v (x := .tsl 1 ((v5outl1 ++ y1.1).map rB8) 0) (v_appendL (l := v5outl1) (l' := y1.1) (row := rB8) Tryd.underlying32 hi5 hz5 hs5 rfl (by rw [hb5]; decide) rfl rfl rfl rfl hk2) rfl ?_
    refine .withSt (st' := ⟨[], [⟨5, 1, (v5outl1 ++ y1.1).length, none⟩]⟩) rfl ?_
    refine .q (q_assign rfl) rfl ?_
    refine .nil ?_
    refine .inBlock ?_
    refine .region ?_
    obtain ⟨hk3, H⟩ := ck_some H
    refine .q (q_addI rfl rfl hk3.1 hk3.2) rfl ?_
    refine .q (q_move rfl) rfl ?_
    refine .nil ?_
    cases H
    exact .withSt (st' := ⟨[], [⟨5, 1, (v5outl1 ++ y1.1).length, none⟩]⟩) rfl <| .sub (.cons rfl (.rfl' _) (.cons rfl (.rfl' _) (.cons rfl (.rfl' _) (.cons rfl (.rfl' _) (.cons rfl (.rfl' _) (.nil)))))) (ih1 (n1, (v5outl1 ++ y1.1, v12l1 + 1)) HK1 hm1)
  · replace H := ifF hc H; clear hc
    refine .exit rfl ?_
    refine .seq ?_
    refine .region ?_
    refine .q (q_move rfl) rfl ?_
    refine .q (q_assign rfl) rfl ?_
    refine .nil ?_
    refine .retN [.tmp 4] [.tsl 1 (v5outl1.map rB8) 0] Tryd.func18 Tryd.results18 ⟨rfl, trivial⟩ ?_
    cases H
    cases HK1
    exact ⟨[], [], rfl, rfl, rfl, rfl, rfl, rfl, rfl, rfl, .tsl _ _ _⟩

set_option maxRecDepth 100000 in
set_option maxHeartbeats 1000000 in
theorem c_f_batch_Write {v0b : Batch} {r : (List UInt8) × Int} (H : f_batch_Write v0b = some r) : ACall Tryd.prog 10 [.agg (Batch.row v0b)] (· = .tup [slOf 1 rB8 r.1, cI r.2]) := by
  obtain ⟨i3, hi3, hz3, hs3, hb3⟩ := in_3
  obtain ⟨i32, hi32, hz32, hs32, hb32⟩ := in_32
  refine ACall.enter' Tryd.func10 rfl Tryd.ntmps10 rfl fun S hS => ?_
  unfold f_batch_Write at H
  change ARun _ _ _ _ _ _ [(0, .d (.agg (Batch.row v0b)))] _
  refine .seq ?_
  refine .region ?_
  refine .v (x := .ref 0 0) (v_box rfl rfl) rfl ?_
  refine .withSt (st' := ⟨[.row 31 [.d (cI v0b.source), .d (cI v0b.number), .d (cI v0b.format), .d (slOf 12 Record.row v0b.records)]], []⟩) rfl ?_
  refine .q (q_assign rfl) rfl ?_
  refine .q (q_assign rfl) rfl ?_
  refine .nil ?_
  refine .seq ?_
  refine .seq ?_
  refine .region ?_
  refine .q (x := .d (.agg (Batch.row v0b))) (q_loadOA one_31 sz_31 rfl rfl (Nat.le_of_ble_eq_true rfl) rfl) rfl ?_
  obtain ⟨y1, hy1, H⟩ := bind_some' H
  refine .g (x := .d (cI y1)) (g_call en_12 rfl rfl (c_f_batch_Check (hy1))) rfl ?_
  refine .q (q_assign rfl) rfl ?_
  refine .nil ?_
  refine .seq ?_
  refine .region ?_
  refine .q (q_move rfl) rfl ?_
  refine .q (q_neq rfl rfl) rfl ?_
  refine .nil ?_
  refine .cond rfl (fun hc => ?_) (fun hc => ?_)
  · replace H := ifT hc H; clear hc
    refine .seq ?_
    refine .region ?_
    refine .q (q_move rfl) rfl ?_
    refine .q (q_assign rfl) rfl ?_
    refine .q (q_assign rfl) rfl ?_
    refine .nil ?_
    refine .retN [.tmp 2, .tmp 3] [.d (nilD), .d (cI y1)] Tryd.func10 Tryd.results10 ⟨rfl, rfl, trivial⟩ ?_
    cases H
    exact ⟨_, EVle.tupL (ds := [slOf 1 rB8 ([] : List UInt8), cI y1]) ⟨.nil 1, .rfl' _, trivial⟩, rfl⟩
  · replace H := ifF hc H; clear hc
    refine .skip ?_
    refine .seq ?_
    obtain ⟨y2, hy2, H⟩ := bind_some' H
    obtain ⟨y3, hy3, H⟩ := bind_some' H
    refine .ordersX (E0 := [(0, .d (.agg (Batch.row v0b))), (1, .ref 0 0), (2, .d (nilD)), (3, .d (cI 0)), (4, .d (cI y1)), (5, .ref 1 0), (6, .ref 2 0), (7, .d (.agg (Batch.row v0b))), (8, .d (cI y1)), (9, .d (cI y1)), (10, .d (cB (y1 != 0))), (12, .d (.agg (Batch.row v0b))), (13, .d (.agg (Head.row y2))), (14, .ref 0 3), (15, .d (slOf 12 Record.row v0b.records)), (16, .d (.agg (Totals.row y3)))]) (st0 := ⟨[.row 31 [.d (cI v0b.source), .d (cI v0b.number), .d (cI v0b.format), .d (slOf 12 Record.row v0b.records)], .row 42 [.d (cI 0), .d (cI 0), .d (cI 0), .d (cI 0)], .row 27 [.d (cI 0), .d (cI 0), .d (cI 0), .d (cI 0), .d (cI 0), .d (cI 0)]], []⟩) 7 5 6 [⟨[.row 31 [.d (cI v0b.source), .d (cI v0b.number), .d (cI v0b.format), .d (slOf 12 Record.row v0b.records)]], []⟩, ⟨[.row 31 [.d (cI v0b.source), .d (cI v0b.number), .d (cI v0b.format), .d (slOf 12 Record.row v0b.records)], .row 42 [.d (cI 0), .d (cI 0), .d (cI 0), .d (cI 0)]], []⟩, ⟨[.row 31 [.d (cI v0b.source), .d (cI v0b.number), .d (cI v0b.format), .d (slOf 12 Record.row v0b.records)], .row 42 [.d (cI 0), .d (cI 0), .d (cI 0), .d (cI 0)], .row 27 [.d (cI 0), .d (cI 0), .d (cI 0), .d (cI 0), .d (cI 0), .d (cI 0)]], []⟩] [⟨[.row 31 [.d (cI v0b.source), .d (cI v0b.number), .d (cI v0b.format), .d (slOf 12 Record.row v0b.records)]], []⟩, ⟨[.row 31 [.d (cI v0b.source), .d (cI v0b.number), .d (cI v0b.format), .d (slOf 12 Record.row v0b.records)], .row 27 [.d (cI 0), .d (cI 0), .d (cI 0), .d (cI 0), .d (cI 0), .d (cI 0)]], []⟩, ⟨[.row 31 [.d (cI v0b.source), .d (cI v0b.number), .d (cI v0b.format), .d (slOf 12 Record.row v0b.records)], .row 27 [.d (cI 0), .d (cI 0), .d (cI 0), .d (cI 0), .d (cI 0), .d (cI 0)], .row 42 [.d (cI 0), .d (cI 0), .d (cI 0), .d (cI 0)]], []⟩] hMix (by kernel_rfl) (by decide) (by decide) (by decide) rfl rfl (fun hrest => ?_) (fun hrest => ?_) ?_
    · skip
      show XOps _ _ _ _ _ _ _ _ _ _ (_ :: _) _ _
      refine .g (x := .d (.agg (Batch.row v0b))) 0 2 ⟨OpQ.g (q_loadOA one_31 sz_31 rfl rfl (Nat.le_of_ble_eq_true rfl) rfl), OpQ.g (q_loadOA one_31 sz_31 rfl rfl (Nat.le_of_ble_eq_true rfl) rfl), OpQ.g (q_loadOA one_31 sz_31 rfl rfl (Nat.le_of_ble_eq_true rfl) rfl), trivial⟩ rfl (by kernel_rfl) rfl ?_
      refine .g (x := .d (.agg (Head.row y2))) 0 2 ⟨(g_call en_16 rfl rfl (c_f_batch_headOf (hy2))), (g_call en_16 rfl rfl (c_f_batch_headOf (hy2))), (g_call en_16 rfl rfl (c_f_batch_headOf (hy2))), trivial⟩ rfl (by kernel_rfl) rfl ?_
      refine .g (x := .ref 0 3) 0 2 ⟨OpQ.g (q_fieldRef fo_31_3 rfl), OpQ.g (q_fieldRef fo_31_3 rfl), OpQ.g (q_fieldRef fo_31_3 rfl), trivial⟩ rfl (by kernel_rfl) rfl ?_
      refine .g (x := .d (slOf 12 Record.row v0b.records)) 0 2 ⟨OpQ.g (q_loadO one_22 rfl rfl rfl), OpQ.g (q_loadO one_22 rfl rfl rfl), OpQ.g (q_loadO one_22 rfl rfl rfl), trivial⟩ rfl (by kernel_rfl) rfl ?_
      refine .g (x := .d (.agg (Totals.row y3))) 0 2 ⟨(g_call en_8 rfl rfl (c_f_batch_Totals (hy3))), (g_call en_8 rfl rfl (c_f_batch_Totals (hy3))), (g_call en_8 rfl rfl (c_f_batch_Totals (hy3))), trivial⟩ rfl (by kernel_rfl) rfl ?_
      refine .v (x := .ref 1 0) 0 (v_alloc zr_42 rfl) rfl rfl rfl rfl ?_
      refine .v (x := .ref 2 0) 1 (v_alloc zr_27 rfl) rfl rfl rfl rfl ?_
      refine .nil rfl ?_
      exact .sub (.cons rfl (.rfl' _) (.cons rfl (.rfl' _) (.cons rfl (.rfl' _) (.cons rfl (.rfl' _) (.cons rfl (.rfl' _) (.cons rfl (.rfl' _) (.cons rfl (.rfl' _) (.cons rfl (.rfl' _) (.cons rfl (.rfl' _) (.cons rfl (.rfl' _) (.cons rfl (.rfl' _) (.cons rfl (.rfl' _) (.cons rfl (.rfl' _) (.cons rfl (.rfl' _) (.cons rfl (.rfl' _) (.cons rfl (.rfl' _) (.nil))))))))))))))))) hrest
    · skip
      show XOps _ _ _ _ _ _ _ _ _ _ (_ :: _) _ _
      refine .g (x := .d (.agg (Batch.row v0b))) 0 2 ⟨OpQ.g (q_loadOA one_31 sz_31 rfl rfl (Nat.le_of_ble_eq_true rfl) rfl), OpQ.g (q_loadOA one_31 sz_31 rfl rfl (Nat.le_of_ble_eq_true rfl) rfl), OpQ.g (q_loadOA one_31 sz_31 rfl rfl (Nat.le_of_ble_eq_true rfl) rfl), trivial⟩ rfl (by kernel_rfl) rfl ?_
      refine .g (x := .d (.agg (Head.row y2))) 0 2 ⟨(g_call en_16 rfl rfl (c_f_batch_headOf (hy2))), (g_call en_16 rfl rfl (c_f_batch_headOf (hy2))), (g_call en_16 rfl rfl (c_f_batch_headOf (hy2))), trivial⟩ rfl (by kernel_rfl) rfl ?_
      refine .g (x := .ref 0 3) 0 2 ⟨OpQ.g (q_fieldRef fo_31_3 rfl), OpQ.g (q_fieldRef fo_31_3 rfl), OpQ.g (q_fieldRef fo_31_3 rfl), trivial⟩ rfl (by kernel_rfl) rfl ?_
      refine .g (x := .d (slOf 12 Record.row v0b.records)) 0 2 ⟨OpQ.g (q_loadO one_22 rfl rfl rfl), OpQ.g (q_loadO one_22 rfl rfl rfl), OpQ.g (q_loadO one_22 rfl rfl rfl), trivial⟩ rfl (by kernel_rfl) rfl ?_
      refine .g (x := .d (.agg (Totals.row y3))) 0 2 ⟨(g_call en_8 rfl rfl (c_f_batch_Totals (hy3))), (g_call en_8 rfl rfl (c_f_batch_Totals (hy3))), (g_call en_8 rfl rfl (c_f_batch_Totals (hy3))), trivial⟩ rfl (by kernel_rfl) rfl ?_
      refine .v (x := .ref 2 0) 1 (v_alloc zr_42 rfl) rfl rfl rfl rfl ?_
      refine .v (x := .ref 1 0) 0 (v_alloc zr_27 rfl) rfl rfl rfl rfl ?_
      refine .nil rfl ?_
      exact .reorder [0, 2, 1] [] rfl rfl rfl (by rw [hS]; rfl) (by rw [hS]; rfl) (by rw [hS]; rfl) rfl rfl (.cons rfl (.rfl' _) (.cons rfl (.rfl' _) (.cons rfl (.rfl' _) (.cons rfl (.rfl' _) (.cons rfl (.rfl' _) (.cons rfl (.rfl' _) (.cons rfl (.rfl' _) (.cons rfl (.rfl' _) (.cons rfl (.rfl' _) (.cons rfl (.rfl' _) (.cons rfl (.rfl' _) (.cons rfl (.rfl' _) (.cons rfl (.rfl' _) (.cons rfl (.rfl' _) (.cons rfl (.rfl' _) (.cons rfl (.rfl' _) (.nil))))))))))))))))) hrest
    show AOps _ _ _ _ _ _ (_ :: _) _ _ _
    refine .u (u_store rfl rfl rfl rfl (Nat.le_of_ble_eq_true rfl) sz_42) rfl ?_
    refine .withSt (st' := ⟨[.row 31 [.d (cI v0b.source), .d (cI v0b.number), .d (cI v0b.format), .d (slOf 12 Record.row v0b.records)], .row 42 [.d (cI y2.source), .d (cI y2.number), .d (cI y2.format), .d (cI y2.count)], .row 27 [.d (cI 0), .d (cI 0), .d (cI 0), .d (cI 0), .d (cI 0), .d (cI 0)]], []⟩) rfl ?_
    refine .u (u_store rfl rfl rfl rfl (Nat.le_of_ble_eq_true rfl) sz_27) rfl ?_
    refine .withSt (st' := ⟨[.row 31 [.d (cI v0b.source), .d (cI v0b.number), .d (cI v0b.format), .d (slOf 12 Record.row v0b.records)], .row 42 [.d (cI y2.source), .d (cI y2.number), .d (cI y2.format), .d (cI y2.count)], .row 27 [.d (cI y3.count), .d (cI (nth y3.units 0)), .d (cI (nth y3.units 1)), .d (cI (nth y3.units 2)), .d (cI (nth y3.units 3)), .d (cI (nth y3.units 4))]], []⟩) rfl ?_
    refine .nil ?_
    refine .seq ?_
    obtain ⟨y4, hy4, H⟩ := bind_some' H
    obtain ⟨y5, hy5, H⟩ := bind_some' H
    obtain ⟨hk1, H⟩ := ck_some H
    obtain ⟨y6, hy6, H⟩ := bind_some' H
    obtain ⟨y7, hy7, H⟩ := bind_some' H
    refine .orders2 26 17 20 [⟨[.row 31 [.d (cI v0b.source), .d (cI v0b.number), .d (cI v0b.format), .d (slOf 12 Record.row v0b.records)], .row 42 [.d (cI y2.source), .d (cI y2.number), .d (cI y2.format), .d (cI y2.count)], .row 27 [.d (cI y3.count), .d (cI (nth y3.units 0)), .d (cI (nth y3.units 1)), .d (cI (nth y3.units 2)), .d (cI (nth y3.units 3)), .d (cI (nth y3.units 4))]], []⟩, ⟨[.row 31 [.d (cI v0b.source), .d (cI v0b.number), .d (cI v0b.format), .d (slOf 12 Record.row v0b.records)], .row 42 [.d (cI y2.source), .d (cI y2.number), .d (cI y2.format), .d (cI y2.count)], .row 27 [.d (cI y3.count), .d (cI (nth y3.units 0)), .d (cI (nth y3.units 1)), .d (cI (nth y3.units 2)), .d (cI (nth y3.units 3)), .d (cI (nth y3.units 4))]], [⟨3, 1, ([y3.count] : List Int).length, none⟩]⟩, ⟨[.row 31 [.d (cI v0b.source), .d (cI v0b.number), .d (cI v0b.format), .d (slOf 12 Record.row v0b.records)], .row 42 [.d (cI y2.source), .d (cI y2.number), .d (cI y2.format), .d (cI y2.count)], .row 27 [.d (cI y3.count), .d (cI (nth y3.units 0)), .d (cI (nth y3.units 1)), .d (cI (nth y3.units 2)), .d (cI (nth y3.units 3)), .d (cI (nth y3.units 4))]], [⟨3, 1, (([y3.count] : List Int) ++ ([nth y3.units 1, nth y3.units 2, nth y3.units 3, nth y3.units 4] : List Int)).length, none⟩]⟩] hMix (by kernel_rfl) (by decide) (by decide) (by kernel_rfl) rfl ?_
    show XOps _ _ _ _ _ _ _ _ _ _ (_ :: _) _ _
    refine .g (x := .ref 1 0) 0 1 ⟨OpQ.g (q_fieldRef fo_42_0 rfl), OpQ.g (q_fieldRef fo_42_0 rfl), trivial⟩ rfl (by kernel_rfl) rfl ?_
    refine .g (x := .d (cI y2.source)) 0 1 ⟨OpQ.g (q_loadO one_3 rfl rfl rfl), OpQ.g (q_loadO one_3 rfl rfl rfl), trivial⟩ rfl (by kernel_rfl) rfl ?_
    refine .g (x := .ref 1 1) 0 1 ⟨OpQ.g (q_fieldRef fo_42_1 rfl), OpQ.g (q_fieldRef fo_42_1 rfl), trivial⟩ rfl (by kernel_rfl) rfl ?_
    refine .g (x := .d (cI y2.number)) 0 1 ⟨OpQ.g (q_loadO one_3 rfl rfl rfl), OpQ.g (q_loadO one_3 rfl rfl rfl), trivial⟩ rfl (by kernel_rfl) rfl ?_
    refine .g (x := .ref 1 2) 0 1 ⟨OpQ.g (q_fieldRef fo_42_2 rfl), OpQ.g (q_fieldRef fo_42_2 rfl), trivial⟩ rfl (by kernel_rfl) rfl ?_
    refine .g (x := .d (cI y2.format)) 0 1 ⟨OpQ.g (q_loadO one_3 rfl rfl rfl), OpQ.g (q_loadO one_3 rfl rfl rfl), trivial⟩ rfl (by kernel_rfl) rfl ?_
    refine .g (x := .ref 1 3) 0 1 ⟨OpQ.g (q_fieldRef fo_42_3 rfl), OpQ.g (q_fieldRef fo_42_3 rfl), trivial⟩ rfl (by kernel_rfl) rfl ?_
    refine .g (x := .d (cI y2.count)) 0 1 ⟨OpQ.g (q_loadO one_3 rfl rfl rfl), OpQ.g (q_loadO one_3 rfl rfl rfl), trivial⟩ rfl (by kernel_rfl) rfl ?_
    refine .g (x := .d (slOf 1 rI ([y2.source, y2.number, y2.format, y2.count] : List Int))) 0 1 ⟨(g_buildSliceN (n := 4) (rows := ([y2.source, y2.number, y2.format, y2.count] : List Int).map rI) Tryd.underlying49 hi3 hs3 hz3 rfl rfl rfl rfl rfl), (g_buildSliceN (n := 4) (rows := ([y2.source, y2.number, y2.format, y2.count] : List Int).map rI) Tryd.underlying49 hi3 hs3 hz3 rfl rfl rfl rfl rfl), trivial⟩ rfl (by kernel_rfl) rfl ?_
    refine .g (x := .d (slOf 1 rB8 y4)) 0 1 ⟨(g_call en_18 rfl rfl (ACall.ofE (ds := [slOf 1 rI ([y2.source, y2.number, y2.format, y2.count] : List Int), .ex (.func (.func 19) #[] #[])]) (c_g_batch_all_int_byte (hy4)))), (g_call en_18 rfl rfl (ACall.ofE (ds := [slOf 1 rI ([y2.source, y2.number, y2.format, y2.count] : List Int), .ex (.func (.func 19) #[] #[])]) (c_g_batch_all_int_byte (hy4)))), trivial⟩ rfl (by kernel_rfl) rfl ?_
    refine .g (x := .ref 0 2) 0 1 ⟨OpQ.g (q_fieldRef fo_31_2 rfl), OpQ.g (q_fieldRef fo_31_2 rfl), trivial⟩ rfl (by kernel_rfl) rfl ?_
    refine .g (x := .d (cI v0b.format)) 0 1 ⟨OpQ.g (q_loadO one_3 rfl rfl rfl), OpQ.g (q_loadO one_3 rfl rfl rfl), trivial⟩ rfl (by kernel_rfl) rfl ?_
    refine .g (x := .ref 0 3) 0 1 ⟨OpQ.g (q_fieldRef fo_31_3 rfl), OpQ.g (q_fieldRef fo_31_3 rfl), trivial⟩ rfl (by kernel_rfl) rfl ?_
    refine .g (x := .d (slOf 12 Record.row v0b.records)) 0 1 ⟨OpQ.g (q_loadO one_22 rfl rfl rfl), OpQ.g (q_loadO one_22 rfl rfl rfl), trivial⟩ rfl (by kernel_rfl) rfl ?_
    refine .g (x := .d (slOf 1 rB8 y5)) 0 1 ⟨(g_call en_20 rfl rfl (c_f_batch_payload (hy5))), (g_call en_20 rfl rfl (c_f_batch_payload (hy5))), trivial⟩ rfl (by kernel_rfl) rfl ?_
    refine .g (x := .ref 2 0) 0 0 ⟨OpQ.g (q_fieldRef fo_27_0 rfl), trivial⟩ rfl (by kernel_rfl) rfl ?_
    refine .g (x := .d (cI y3.count)) 0 0 ⟨OpQ.g (q_loadO one_3 rfl rfl rfl), trivial⟩ rfl (by kernel_rfl) rfl ?_
    refine .v (x := .tsl 1 (([y3.count] : List Int).map rI) 0) 0 (v_buildSliceT (n := 1) Tryd.underlying49 hi3 hs3 hz3 rfl rfl rfl rfl rfl) rfl rfl rfl rfl ?_
    refine .g (x := .ref 2 1) 0 1 ⟨OpQ.g (q_fieldRef fo_27_1 rfl), OpQ.g (q_fieldRef fo_27_1 rfl), trivial⟩ rfl (by kernel_rfl) rfl ?_
    refine .g (x := .osl 2 2 4 4) 0 1 ⟨OpQ.g (q_arrL (m := 1) (sz := 1) Tryd.underlying25 ⟨_, hi3, hs3⟩ rfl rfl rfl (by decide)), OpQ.g (q_arrL (m := 1) (sz := 1) Tryd.underlying25 ⟨_, hi3, hs3⟩ rfl rfl rfl (by decide)), trivial⟩ rfl (by kernel_rfl) rfl ?_
    refine .v (x := .tsl 1 ((([y3.count] : List Int) ++ ([nth y3.units 1, nth y3.units 2, nth y3.units 3, nth y3.units 4] : List Int)).map rI) 0) 1 (v_appendOslK (l := ([y3.count] : List Int)) (l' := ([nth y3.units 1, nth y3.units 2, nth y3.units 3, nth y3.units 4] : List Int)) (c1 := cI) Tryd.underlying49 hi3 hz3 hs3 rfl (by rw [hb3]; decide) rfl rfl rfl rfl rfl hk1) rfl rfl rfl rfl ?_
    refine .g (x := .d (slOf 1 rB8 y6)) 2 2 ⟨(g_call en_18 rfl rfl (ACall.ofE (ds := [slOf 1 rI (([y3.count] : List Int) ++ ([nth y3.units 1, nth y3.units 2, nth y3.units 3, nth y3.units 4] : List Int)), .ex (.func (.func 19) #[] #[])]) (c_g_batch_all_int_byte (hy6)))), trivial⟩ rfl (by kernel_rfl) rfl ?_
    refine .g (x := .d (slOf 1 (rSl 1 rB8) ([y4, y5, y6] : List (List UInt8)))) 2 2 ⟨(g_buildSliceN (n := 3) (rows := ([y4, y5, y6] : List (List UInt8)).map (rSl 1 rB8)) Tryd.underlying52 hi32 hs32 hz32 rfl rfl rfl rfl rfl), trivial⟩ rfl (by kernel_rfl) rfl ?_
    refine .g (x := .d (.tup [slOf 1 rB8 y7.1, cI y7.2])) 2 2 ⟨(g_call en_17 rfl rfl (c_f_frame_Join (hy7))), trivial⟩ rfl (by kernel_rfl) rfl ?_
    refine .g (x := .d (slOf 1 rB8 y7.1)) 2 2 ⟨OpQ.g (q_extract rfl rfl), trivial⟩ rfl (by kernel_rfl) rfl ?_
    refine .g (x := .d (cI y7.2)) 2 2 ⟨OpQ.g (q_extract rfl rfl), trivial⟩ rfl (by kernel_rfl) rfl ?_
    refine .nil rfl ?_
    show AOps _ _ _ _ _ _ (_ :: _) _ _ _
    refine .q (q_assign rfl) rfl ?_
    refine .q (q_assign rfl) rfl ?_
    refine .nil ?_
    refine .retN [.tmp 2, .tmp 3] [.d (slOf 1 rB8 y7.1), .d (cI y7.2)] Tryd.func10 Tryd.results10 ⟨rfl, rfl, trivial⟩ ?_
    cases H
    exact ⟨_, EVle.tupL (ds := [slOf 1 rB8 y7.1, cI y7.2]) ⟨.rfl' _, .rfl' _, trivial⟩, rfl⟩

set_option maxRecDepth 100000 in
set_option maxHeartbeats 1000000 in
theorem c_f_codec_back {v0u : Int} {r : Int} (H : f_codec_back v0u = some r) : ACall Tryd.prog 94 [cK .u64 v0u] (· = cI r) := by
  refine ACall.enter' Tryd.func94 rfl Tryd.ntmps94 rfl fun S hS => ?_
  unfold f_codec_back at H
  change ARun _ _ _ _ _ _ [(0, .d (cK .u64 v0u))] _
  refine .seq ?_
  refine .region ?_
  refine .q (q_assign rfl) rfl ?_
  refine .nil ?_
  refine .seq ?_
  refine .region ?_
  refine .q (q_move rfl) rfl ?_
  obtain ⟨hk1, H⟩ := ck_some H
  refine .q (x := .d (cK .u64 (Int.fdiv v0u (2 ^ (min (Int.toNat (1)) 64))))) (q_shr (a := v0u) (b := 1) rfl rfl hk1 rfl) rfl ?_
  refine .q (x := .d (cI (IntKind.wrap .i64 (Int.fdiv v0u (2 ^ (min (Int.toNat (1)) 64)))))) (q_conv Tryd.underlying110 Tryd.underlying3 rfl rfl) rfl ?_
  refine .q (q_move rfl) rfl ?_
  refine .q (x := .d (cK .u64 (bAnd .u64 v0u 1))) (q_and rfl rfl) rfl ?_
  refine .q (x := .d (cI (IntKind.wrap .i64 (bAnd .u64 v0u 1)))) (q_conv Tryd.underlying110 Tryd.underlying3 rfl rfl) rfl ?_
  obtain ⟨hk2, H⟩ := ck_some H
  refine .q (x := .d (cI (-(IntKind.wrap .i64 (bAnd .u64 v0u 1))))) (q_negI rfl hk2.1 hk2.2) rfl ?_
  refine .q (x := .d (cI (bXor .i64 (IntKind.wrap .i64 (Int.fdiv v0u (2 ^ (min (Int.toNat (1)) 64)))) (-(IntKind.wrap .i64 (bAnd .u64 v0u 1)))))) (q_xor rfl rfl) rfl ?_
  refine .q (q_assign rfl) rfl ?_
  refine .nil ?_
  refine .retN [.tmp 2] [.d (cI (bXor .i64 (IntKind.wrap .i64 (Int.fdiv v0u (2 ^ (min (Int.toNat (1)) 64)))) (-(IntKind.wrap .i64 (bAnd .u64 v0u 1)))))] Tryd.func94 Tryd.results94 ⟨rfl, trivial⟩ ?_
  cases H
  exact ⟨_, .rfl' _, rfl⟩

set_option maxRecDepth 100000 in
set_option maxHeartbeats 1000000 in
theorem c_f_codec_scan {v0b : List UInt8} {r : Int × Int × Int} (H : f_codec_scan v0b = some r) : ACall Tryd.prog 86 [slOf 1 rB8 v0b] (· = .tup [cI r.1, cI r.2.1, cI r.2.2]) := by
  obtain ⟨i5, hi5, hz5, hs5, hb5⟩ := in_5
  refine ACall.enter' Tryd.func86 rfl Tryd.ntmps86 rfl fun S hS => ?_
  unfold f_codec_scan at H
  change ARun _ _ _ _ _ _ [(0, .d (slOf 1 rB8 v0b))] _
  refine .seq ?_
  refine .region ?_
  refine .q (q_assign rfl) rfl ?_
  refine .q (q_assign rfl) rfl ?_
  refine .q (q_assign rfl) rfl ?_
  refine .nil ?_
  refine .seq ?_
  refine .region ?_
  refine .q (q_assign rfl) rfl ?_
  refine .nil ?_
  refine .seq ?_
  refine .seq ?_
  refine .region ?_
  refine .q (q_assign rfl) rfl ?_
  refine .nil ?_
  refine .block ?_
  obtain ⟨n1, H⟩ := loop_some H
  refine .loop (ι := Nat × (Int × Int)) (fun p => [(0, .d (slOf 1 rB8 v0b)), (5, .d (cK .u64 p.2.1)), (6, .d (cI p.2.2))]) (fun p => ⟨[], []⟩) (fun p => iter (fun s => f_codec_scan_l1 v0b s.1 s.2) p.1 p.2 = some r) (·.1) (n1, (0, 0)) H (.cons rfl (.rfl' _) (.cons rfl (.rfl' _) (.cons rfl (.rfl' _) (.nil)))) rfl ?_
  rintro ⟨m1, v5ul1, v6il1⟩ HI ih1
  obtain ⟨n1, q1, hm1, H, HK1⟩ := iter_succ HI
  clear HI
  replace H : f_codec_scan_l1 v0b v5ul1 v6il1 = some q1 := H
  unfold f_codec_scan_l1 at H
  change ARun _ _ _ _ _ _ [(0, .d (slOf 1 rB8 v0b)), (5, .d (cK .u64 v5ul1)), (6, .d (cI v6il1))] ⟨[], []⟩
  refine .seq ?_
  refine .seq ?_
  refine .region ?_
  refine .q (q_move rfl) rfl ?_
  refine .q (q_move rfl) rfl ?_
  refine .q (q_lenL (l := v0b) (row := rB8) Tryd.underlying32 rfl rfl) rfl ?_
  refine .q (q_lss rfl rfl) rfl ?_
  refine .nil ?_
  refine .cond rfl (fun hc => ?_) (fun hc => ?_)
  · replace H := ifT hc H; clear hc
    refine .skip ?_
    refine .seq ?_
    refine .block ?_
    refine .seq ?_
    refine .region ?_
    refine .q (q_move rfl) rfl ?_
    refine .q (q_move rfl) rfl ?_
    obtain ⟨hk1, H⟩ := ck_some H
    refine .q (x := .d (.ro (rB8 (nth v0b (Int.toNat (v6il1)))))) (q_idxL (row := rB8) (l := v0b) (i := v6il1) Tryd.underlying32 hi5 hs5 rfl rfl rfl hk1) rfl ?_
    refine .q (x := .d (cU8 (nth v0b (Int.toNat (v6il1))))) (q_load one_5 rfl) rfl ?_
    refine .q (q_assign rfl) rfl ?_
    refine .nil ?_
    refine .seq ?_
    refine .seq ?_
    refine .region ?_
    refine .q (q_move rfl) rfl ?_
    refine .q (q_eql rfl rfl) rfl ?_
    refine .q (q_move rfl) rfl ?_
    refine .guardG (env' := [(7, _)]) rfl rfl rfl ⟨.inl rfl, trivial⟩ rfl (fun hg => OpQ.g (q_move rfl)) ?_
    refine .guardG (b := (v6il1 == 9)) (x := .d (cB ((nth v0b (Int.toNat (v6il1))) != 1))) (env' := [(21, _)]) rfl rfl rfl ⟨.inr (.inl rfl), trivial⟩ rfl (fun hg => OpQ.g (q8_neq (a := nth v0b (Int.toNat (v6il1))) (b := 1) rfl rfl)) ?_
    refine .q (q_pickAndB rfl rfl rfl) rfl ?_
    refine .q (q_move rfl) rfl ?_
    refine .guardG (env' := [(6, _)]) rfl rfl rfl ⟨.inl rfl, trivial⟩ rfl (fun hg => OpQ.g (q_move rfl)) ?_
    refine .guardG (env' := [(25, _)]) rfl rfl rfl ⟨.inr (.inl rfl), trivial⟩ rfl (fun hg => OpQ.g (q_gtr rfl rfl)) ?_
    refine .guardG (env' := [(26, _)]) rfl rfl rfl ⟨.inr (.inl rfl), trivial⟩ rfl (fun hg => OpQ.g (q_move rfl)) ?_
    refine .guardG (env' := [(7, _)]) rfl rfl rfl ⟨.inl rfl, trivial⟩ rfl (fun hg => OpQ.g (q_move rfl)) ?_
    refine .guardG (b := ((!((v6il1 == 9) && ((nth v0b (Int.toNat (v6il1))) != 1))) && (decide (v6il1 > 0)))) (x := .d (cB ((nth v0b (Int.toNat (v6il1))) == 0))) (env' := [(28, _)]) rfl rfl rfl ⟨.inr (.inl rfl), trivial⟩ rfl (fun hg => OpQ.g (q8_eql (a := nth v0b (Int.toNat (v6il1))) (b := 0) rfl rfl)) ?_
    refine .guardG (env' := [(27, _), (29, _)]) rfl rfl rfl ⟨.inr (.inl rfl), ⟨.inr (.inr ⟨_, _, rfl, rfl⟩), trivial⟩⟩ rfl (fun hg => OpQ.g (q_pickAndB rfl rfl rfl)) ?_
    refine .q (q_pickOrB rfl rfl rfl) rfl ?_
    refine .nil ?_
    refine .cond rfl (fun hc => ?_) (fun hc => ?_)
    · replace H := ifT hc H; clear hc
      refine .seq ?_
      refine .region ?_
      refine .q (q_assign rfl) rfl ?_
      refine .q (q_assign rfl) rfl ?_
      refine .q (q_assign rfl) rfl ?_
      refine .nil ?_
      refine .retN [.tmp 2, .tmp 3, .tmp 4] [.d (cI 0), .d (cI 0), .d (cI 1)] Tryd.func86 Tryd.results86 ⟨rfl, rfl, rfl, trivial⟩ ?_
      cases H
      cases HK1
      exact ⟨_, EVle.tupL (ds := [cI 0, cI 0, cI 1]) ⟨.rfl' _, .rfl' _, .rfl' _, trivial⟩, rfl⟩
    · replace H := ifF hc H; clear hc
      refine .skip ?_
      refine .seq ?_
      refine .region ?_
      refine .q (q_move rfl) rfl ?_
      refine .q (q_move rfl) rfl ?_
      refine .q (x := .d (cU8 ((nth v0b (Int.toNat (v6il1))) &&& 127))) (q8_and (a := nth v0b (Int.toNat (v6il1))) (b := 127) rfl rfl) rfl ?_
      refine .q (x := .d (cK .u64 (IntKind.wrap .u64 (((nth v0b (Int.toNat (v6il1))) &&& 127).toNat : Int)))) (q_conv (n := (((nth v0b (Int.toNat (v6il1))) &&& 127).toNat : Int)) Tryd.underlying5 Tryd.underlying110 rfl rfl) rfl ?_
      refine .q (q_move rfl) rfl ?_
      obtain ⟨hk2, H⟩ := ck_some H
      refine .q (q_mulI rfl rfl hk2.1 hk2.2) rfl ?_
      obtain ⟨hk3, H⟩ := ck_some H
      refine .q (x := .d (cK .u64 (IntKind.wrap .u64 ((IntKind.wrap .u64 (((nth v0b (Int.toNat (v6il1))) &&& 127).toNat : Int)) * 2 ^ (min (Int.toNat (7 * v6il1)) 64))))) (q_shl (a := IntKind.wrap .u64 (((nth v0b (Int.toNat (v6il1))) &&& 127).toNat : Int)) (b := 7 * v6il1) rfl rfl hk3 rfl) rfl ?_
      refine .q (x := .d (cK .u64 (bOr .u64 v5ul1 (IntKind.wrap .u64 ((IntKind.wrap .u64 (((nth v0b (Int.toNat (v6il1))) &&& 127).toNat : Int)) * 2 ^ (min (Int.toNat (7 * v6il1)) 64)))))) (q_or rfl rfl) rfl ?_
      refine .q (q_assign rfl) rfl ?_
      refine .nil ?_
      refine .seq ?_
      refine .region ?_
      refine .q (q_move rfl) rfl ?_
      refine .q (x := .d (cB (decide ((nth v0b (Int.toNat (v6il1))) < 128)))) (q8_lss (a := nth v0b (Int.toNat (v6il1))) (b := 128) rfl rfl) rfl ?_
      refine .nil ?_
      refine .cond rfl (fun hc => ?_) (fun hc => ?_)
      · replace H := ifT hc H; clear hc
        refine .seq ?_
        refine .region ?_
        refine .q (q_move rfl) rfl ?_
        obtain ⟨y1, hy1, H⟩ := bind_some' H
        refine .g (x := .d (cI y1)) (g_call en_94 rfl rfl (c_f_codec_back (hy1))) rfl ?_
        refine .q (q_move rfl) rfl ?_
        obtain ⟨hk4, H⟩ := ck_some H
        refine .q (q_addI rfl rfl hk4.1 hk4.2) rfl ?_
        refine .q (q_assign rfl) rfl ?_
        refine .q (q_assign rfl) rfl ?_
        refine .q (q_assign rfl) rfl ?_
        refine .nil ?_
        refine .retN [.tmp 2, .tmp 3, .tmp 4] [.d (cI y1), .d (cI (v6il1 + 1)), .d (cI 0)] Tryd.func86 Tryd.results86 ⟨rfl, rfl, rfl, trivial⟩ ?_
        cases H
        cases HK1
        exact ⟨_, EVle.tupL (ds := [cI y1, cI (v6il1 + 1), cI 0]) ⟨.rfl' _, .rfl' _, .rfl' _, trivial⟩, rfl⟩
      · replace H := ifF hc H; clear hc
        refine .skip ?_
        refine .inBlock ?_
        refine .region ?_
        refine .q (q_move rfl) rfl ?_
        obtain ⟨hk5, H⟩ := ck_some H
        refine .q (q_addI rfl rfl hk5.1 hk5.2) rfl ?_
        refine .q (q_assign rfl) rfl ?_
        refine .nil ?_
        cases H
        exact .sub (.cons rfl (.rfl' _) (.cons rfl (.rfl' _) (.cons rfl (.rfl' _) (.nil)))) (ih1 (n1, (bOr .u64 v5ul1 (IntKind.wrap .u64 ((IntKind.wrap .u64 (((nth v0b (Int.toNat (v6il1))) &&& 127).toNat : Int)) * 2 ^ (min (Int.toNat (7 * v6il1)) 64))), v6il1 + 1)) HK1 hm1)
  · replace H := ifF hc H; clear hc
    refine .exit rfl ?_
    refine .seq ?_
    refine .region ?_
    refine .q (q_assign rfl) rfl ?_
    refine .q (q_assign rfl) rfl ?_
    refine .q (q_assign rfl) rfl ?_
    refine .nil ?_
    refine .retN [.tmp 2, .tmp 3, .tmp 4] [.d (cI 0), .d (cI 0), .d (cI 2)] Tryd.func86 Tryd.results86 ⟨rfl, rfl, rfl, trivial⟩ ?_
    cases H
    cases HK1
    exact ⟨_, EVle.tupL (ds := [cI 0, cI 0, cI 2]) ⟨.rfl' _, .rfl' _, .rfl' _, trivial⟩, rfl⟩

set_option maxRecDepth 100000 in
set_option maxHeartbeats 1000000 in
theorem c_f_codec_rest {v0b : List UInt8} {v1i : Int} {r : (List UInt8)} (H : f_codec_rest v0b v1i = some r) : ACall Tryd.prog 87 [slOf 1 rB8 v0b, cI v1i] (· = slOf 1 rB8 r) := by
  obtain ⟨i5, hi5, hz5, hs5, hb5⟩ := in_5
  refine ACall.enter' Tryd.func87 rfl Tryd.ntmps87 rfl fun S hS => ?_
  unfold f_codec_rest at H
  change ARun _ _ _ _ _ _ [(0, .d (slOf 1 rB8 v0b)), (1, .d (cI v1i))] _
  refine .seq ?_
  refine .region ?_
  refine .q (q_assign rfl) rfl ?_
  refine .nil ?_
  refine .seq ?_
  refine .region ?_
  refine .q (q_move rfl) rfl ?_
  refine .q (q_lenL (l := v0b) (row := rB8) Tryd.underlying32 rfl rfl) rfl ?_
  refine .q (q_move rfl) rfl ?_
  obtain ⟨hk1, H⟩ := ck_some H
  refine .q (q_subI rfl rfl hk1.1 hk1.2) rfl ?_
  obtain ⟨hk2, H⟩ := ck_some H
  refine .v (x := .vc 0 ((List.replicate (Int.toNat ((v0b.length : Int) - v1i)) 0 : List UInt8).length)) (v_makeV (row := rB8) (a := (v0b.length : Int) - v1i) (b := (v0b.length : Int) - v1i) (a0 := 0) Tryd.underlying32 hi5 hz5 hs5 rfl (by rw [hb5]; decide) rfl rfl rfl hk2) rfl ?_
  refine .withSt (st' := ⟨[], [⟨5, 1, ((List.replicate (Int.toNat ((v0b.length : Int) - v1i)) 0 : List UInt8).length), some ((List.replicate (Int.toNat ((v0b.length : Int) - v1i)) 0 : List UInt8).map rB8)⟩]⟩) rfl ?_
  refine .q (q_assign rfl) rfl ?_
  refine .nil ?_
  refine .seq ?_
  refine .region ?_
  refine .q (q_move rfl) rfl ?_
  refine .q (q_move rfl) rfl ?_
  refine .q (q_move rfl) rfl ?_
  refine .q (q_move rfl) rfl ?_
  refine .q (q_lenL (l := v0b) (row := rB8) Tryd.underlying32 rfl rfl) rfl ?_
  refine .q (q_move rfl) rfl ?_
  refine .q (q_lenL (l := v0b) (row := rB8) Tryd.underlying32 rfl rfl) rfl ?_
  obtain ⟨hk3, H⟩ := ck_some H
  refine .q (x := .d (slOf 1 rB8 ((v0b.take (Int.toNat ((v0b.length : Int)))).drop (Int.toNat (v1i))))) (q_slLHML (l := v0b) (row := rB8) Tryd.underlying32 hi5 hs5 rfl rfl rfl rfl rfl hk3) rfl ?_
  refine .v (x := .d (cI ((min ((v0b.take (Int.toNat ((v0b.length : Int)))).drop (Int.toNat (v1i))).length (List.replicate (Int.toNat ((v0b.length : Int) - v1i)) 0 : List UInt8).length : Nat) : Int))) (v_copyV (l := (List.replicate (Int.toNat ((v0b.length : Int) - v1i)) 0 : List UInt8)) (l' := (v0b.take (Int.toNat ((v0b.length : Int)))).drop (Int.toNat (v1i))) (row := rB8) Tryd.underlying32 hi5 hs5 rfl rfl rfl rfl) rfl ?_
  refine .withSt (st' := ⟨[], [⟨5, 1, ((List.replicate (Int.toNat ((v0b.length : Int) - v1i)) 0 : List UInt8).length), some ((((v0b.take (Int.toNat ((v0b.length : Int)))).drop (Int.toNat (v1i))).take (min ((v0b.take (Int.toNat ((v0b.length : Int)))).drop (Int.toNat (v1i))).length (List.replicate (Int.toNat ((v0b.length : Int) - v1i)) 0 : List UInt8).length) ++ (List.replicate (Int.toNat ((v0b.length : Int) - v1i)) 0 : List UInt8).drop (min ((v0b.take (Int.toNat ((v0b.length : Int)))).drop (Int.toNat (v1i))).length (List.replicate (Int.toNat ((v0b.length : Int) - v1i)) 0 : List UInt8).length)).map rB8)⟩]⟩) rfl ?_
  refine .nil ?_
  refine .seq ?_
  refine .region ?_
  refine .q (q_move rfl) rfl ?_
  refine .q (q_assign rfl) rfl ?_
  refine .nil ?_
  refine .freezeL (l := ((v0b.take (Int.toNat ((v0b.length : Int)))).drop (Int.toNat (v1i))).take (min ((v0b.take (Int.toNat ((v0b.length : Int)))).drop (Int.toNat (v1i))).length (List.replicate (Int.toNat ((v0b.length : Int) - v1i)) 0 : List UInt8).length) ++ (List.replicate (Int.toNat ((v0b.length : Int) - v1i)) 0 : List UInt8).drop (min ((v0b.take (Int.toNat ((v0b.length : Int)))).drop (Int.toNat (v1i))).length (List.replicate (Int.toNat ((v0b.length : Int) - v1i)) 0 : List UInt8).length)) (row := rB8) (i := 4) rfl rfl ?_
  refine .withSt (st' := ⟨[], [⟨5, 1, (((v0b.take (Int.toNat ((v0b.length : Int)))).drop (Int.toNat (v1i))).take (min ((v0b.take (Int.toNat ((v0b.length : Int)))).drop (Int.toNat (v1i))).length (List.replicate (Int.toNat ((v0b.length : Int) - v1i)) 0 : List UInt8).length) ++ (List.replicate (Int.toNat ((v0b.length : Int) - v1i)) 0 : List UInt8).drop (min ((v0b.take (Int.toNat ((v0b.length : Int)))).drop (Int.toNat (v1i))).length (List.replicate (Int.toNat ((v0b.length : Int) - v1i)) 0 : List UInt8).length)).length, none⟩]⟩) rfl ?_
  refine .retN [.tmp 4] [.tsl 1 ((((v0b.take (Int.toNat ((v0b.length : Int)))).drop (Int.toNat (v1i))).take (min ((v0b.take (Int.toNat ((v0b.length : Int)))).drop (Int.toNat (v1i))).length (List.replicate (Int.toNat ((v0b.length : Int) - v1i)) 0 : List UInt8).length) ++ (List.replicate (Int.toNat ((v0b.length : Int) - v1i)) 0 : List UInt8).drop (min ((v0b.take (Int.toNat ((v0b.length : Int)))).drop (Int.toNat (v1i))).length (List.replicate (Int.toNat ((v0b.length : Int) - v1i)) 0 : List UInt8).length)).map rB8) 0] Tryd.func87 Tryd.results87 ⟨rfl, trivial⟩ ?_
  cases H
  exact ⟨_, .tsl _ _ _, rfl⟩

set_option maxRecDepth 100000 in
set_option maxHeartbeats 1000000 in
theorem c_f_codec_Number {v0b : List UInt8} {r : Int × (List UInt8) × Int} (H : f_codec_Number v0b = some r) : ACall Tryd.prog 78 [slOf 1 rB8 v0b] (· = .tup [cI r.1, slOf 1 rB8 r.2.1, cI r.2.2]) := by
  refine ACall.enter' Tryd.func78 rfl Tryd.ntmps78 rfl fun S hS => ?_
  unfold f_codec_Number at H
  change ARun _ _ _ _ _ _ [(0, .d (slOf 1 rB8 v0b))] _
  refine .seq ?_
  refine .region ?_
  refine .q (q_assign rfl) rfl ?_
  refine .q (q_assign rfl) rfl ?_
  refine .q (q_assign rfl) rfl ?_
  refine .nil ?_
  refine .seq ?_
  refine .region ?_
  refine .q (q_move rfl) rfl ?_
  obtain ⟨y1, hy1, H⟩ := bind_some' H
  refine .g (x := .d (.tup [cI y1.1, cI y1.2.1, cI y1.2.2])) (g_call en_86 rfl rfl (c_f_codec_scan (hy1))) rfl ?_
  refine .q (q_move rfl) rfl ?_
  refine .q (q_extract rfl rfl) rfl ?_
  refine .q (q_extract rfl rfl) rfl ?_
  refine .q (q_extract rfl rfl) rfl ?_
  refine .q (q_assign rfl) rfl ?_
  refine .q (q_assign rfl) rfl ?_
  refine .q (q_assign rfl) rfl ?_
  refine .nil ?_
  refine .seq ?_
  refine .seq ?_
  refine .region ?_
  refine .q (q_move rfl) rfl ?_
  refine .q (q_neq rfl rfl) rfl ?_
  refine .nil ?_
  refine .cond rfl (fun hc => ?_) (fun hc => ?_)
  · replace H := ifT hc H; clear hc
    refine .seq ?_
    refine .region ?_
    refine .q (q_move rfl) rfl ?_
    refine .q (q_assign rfl) rfl ?_
    refine .q (q_assign rfl) rfl ?_
    refine .q (q_assign rfl) rfl ?_
    refine .nil ?_
    refine .retN [.tmp 2, .tmp 3, .tmp 4] [.d (cI 0), .d (nilD), .d (cI y1.2.2)] Tryd.func78 Tryd.results78 ⟨rfl, rfl, rfl, trivial⟩ ?_
    cases H
    exact ⟨_, EVle.tupL (ds := [cI 0, slOf 1 rB8 ([] : List UInt8), cI y1.2.2]) ⟨.rfl' _, .nil 1, .rfl' _, trivial⟩, rfl⟩
  · replace H := ifF hc H; clear hc
    refine .skip ?_
    refine .seq ?_
    refine .region ?_
    refine .q (q_move rfl) rfl ?_
    refine .q (q_move rfl) rfl ?_
    refine .q (q_move rfl) rfl ?_
    obtain ⟨y2, hy2, H⟩ := bind_some' H
    refine .g (x := .d (slOf 1 rB8 y2)) (g_call en_87 rfl rfl (c_f_codec_rest (hy2))) rfl ?_
    refine .q (q_assign rfl) rfl ?_
    refine .q (q_assign rfl) rfl ?_
    refine .q (q_assign rfl) rfl ?_
    refine .nil ?_
    refine .retN [.tmp 2, .tmp 3, .tmp 4] [.d (cI y1.1), .d (slOf 1 rB8 y2), .d (cI 0)] Tryd.func78 Tryd.results78 ⟨rfl, rfl, rfl, trivial⟩ ?_
    cases H
    exact ⟨_, EVle.tupL (ds := [cI y1.1, slOf 1 rB8 y2, cI 0]) ⟨.rfl' _, .rfl' _, .rfl' _, trivial⟩, rfl⟩

set_option maxRecDepth 100000 in
set_option maxHeartbeats 1000000 in
theorem c_f_frame_locate {v0 : List UInt8} {r : Int × Int × Int} (H : f_frame_locate v0 = some r) : ACall Tryd.prog 76 [slOf 1 rB8 v0] (· = .tup [cI r.1, cI r.2.1, cI r.2.2]) := by
  obtain ⟨i5, hi5, hz5, hs5, hb5⟩ := in_5
  refine ACall.enter' Tryd.func76 rfl Tryd.ntmps76 rfl fun S hS => ?_
  unfold f_frame_locate at H
  change ARun _ _ _ _ _ _ [(0, .d (slOf 1 rB8 v0))] _
  refine .seq ?_
  refine .region ?_
  refine .q (q_assign rfl) rfl ?_
  refine .q (q_assign rfl) rfl ?_
  refine .q (q_assign rfl) rfl ?_
  refine .nil ?_
  refine .seq ?_
  refine .region ?_
  refine .q (q_move rfl) rfl ?_
  refine .q (q_move rfl) rfl ?_
  refine .q (q_lenL (l := v0) (row := rB8) Tryd.underlying32 rfl rfl) rfl ?_
  refine .q (x := .d (cI (if 10 < (v0.length : Int) then 10 else (v0.length : Int)))) (q_minI rfl rfl) rfl ?_
  refine .q (q_move rfl) rfl ?_
  refine .q (q_lenL (l := v0) (row := rB8) Tryd.underlying32 rfl rfl) rfl ?_
  refine .q (x := .d (cI (if 10 < (v0.length : Int) then 10 else (v0.length : Int)))) (q_minI rfl rfl) rfl ?_
  obtain ⟨hk1, H⟩ := ck_some H
  refine .q (x := .d (slOf 1 rB8 (v0.take (Int.toNat ((if 10 < (v0.length : Int) then 10 else (v0.length : Int))))))) (q_slHML (l := v0) (row := rB8) Tryd.underlying32 hi5 hs5 rfl rfl rfl rfl hk1) rfl ?_
  refine .q (q_assign rfl) rfl ?_
  refine .nil ?_
  refine .seq ?_
  refine .region ?_
  refine .q (q_move rfl) rfl ?_
  obtain ⟨y1, hy1, H⟩ := bind_some' H
  refine .g (x := .d (.tup [cI y1.1, slOf 1 rB8 y1.2.1, cI y1.2.2])) (g_call en_78 rfl rfl (c_f_codec_Number (hy1))) rfl ?_
  refine .q (q_move rfl) rfl ?_
  refine .q (q_extract rfl rfl) rfl ?_
  refine .q (q_extract rfl rfl) rfl ?_
  refine .q (q_extract rfl rfl) rfl ?_
  refine .q (q_assign rfl) rfl ?_
  refine .q (q_assign rfl) rfl ?_
  refine .q (q_assign rfl) rfl ?_
  refine .nil ?_
  refine .seq ?_
  refine .block ?_
  refine .seq ?_
  refine .region ?_
  refine .q (q_move rfl) rfl ?_
  refine .q (q_neq rfl rfl) rfl ?_
  refine .q (q_assign rfl) rfl ?_
  refine .nil ?_
  refine .cond rfl (fun hc => ?_) (fun hc => ?_)
  · replace H := ifT hc H; clear hc
    refine .seq ?_
    refine .region ?_
    refine .q (q_move rfl) rfl ?_
    refine .q (q_assign rfl) rfl ?_
    refine .q (q_assign rfl) rfl ?_
    refine .q (q_assign rfl) rfl ?_
    refine .nil ?_
    refine .retN [.tmp 2, .tmp 3, .tmp 4] [.d (cI 0), .d (cI 0), .d (cI y1.2.2)] Tryd.func76 Tryd.results76 ⟨rfl, rfl, rfl, trivial⟩ ?_
    cases H
    exact ⟨_, EVle.tupL (ds := [cI 0, cI 0, cI y1.2.2]) ⟨.rfl' _, .rfl' _, .rfl' _, trivial⟩, rfl⟩
  · replace H := ifF hc H; clear hc
    refine .seq ?_
    refine .region ?_
    refine .q (q_move rfl) rfl ?_
    refine .q (q_lss rfl rfl) rfl ?_
    refine .q (q_assign rfl) rfl ?_
    refine .nil ?_
    refine .cond rfl (fun hc => ?_) (fun hc => ?_)
    · replace H := ifT hc H; clear hc
      refine .seq ?_
      refine .region ?_
      refine .q (q_assign rfl) rfl ?_
      refine .q (q_assign rfl) rfl ?_
      refine .q (q_assign rfl) rfl ?_
      refine .nil ?_
      refine .retN [.tmp 2, .tmp 3, .tmp 4] [.d (cI 0), .d (cI 0), .d (cI 1)] Tryd.func76 Tryd.results76 ⟨rfl, rfl, rfl, trivial⟩ ?_
      cases H
      exact ⟨_, EVle.tupL (ds := [cI 0, cI 0, cI 1]) ⟨.rfl' _, .rfl' _, .rfl' _, trivial⟩, rfl⟩
    · replace H := ifF hc H; clear hc
      refine .seq ?_
      refine .region ?_
      refine .q (q_move rfl) rfl ?_
      refine .q (q_gtr rfl rfl) rfl ?_
      refine .q (q_assign rfl) rfl ?_
      refine .nil ?_
      refine .cond rfl (fun hc => ?_) (fun hc => ?_)
      · replace H := ifT hc H; clear hc
        refine .seq ?_
        refine .region ?_
        refine .q (q_assign rfl) rfl ?_
        refine .q (q_assign rfl) rfl ?_
        refine .q (q_assign rfl) rfl ?_
        refine .nil ?_
        refine .retN [.tmp 2, .tmp 3, .tmp 4] [.d (cI 0), .d (cI 0), .d (cI 5)] Tryd.func76 Tryd.results76 ⟨rfl, rfl, rfl, trivial⟩ ?_
        cases H
        exact ⟨_, EVle.tupL (ds := [cI 0, cI 0, cI 5]) ⟨.rfl' _, .rfl' _, .rfl' _, trivial⟩, rfl⟩
      · replace H := ifF hc H; clear hc
        refine .skip ?_
        refine .inBlock ?_
        refine .seq ?_
        refine .region ?_
        refine .q (q_move rfl) rfl ?_
        refine .q (q_lenL (l := v0.take (Int.toNat ((if 10 < (v0.length : Int) then 10 else (v0.length : Int))))) (row := rB8) Tryd.underlying32 rfl rfl) rfl ?_
        refine .q (q_move rfl) rfl ?_
        refine .q (q_lenL (l := y1.2.1) (row := rB8) Tryd.underlying32 rfl rfl) rfl ?_
        obtain ⟨hk2, H⟩ := ck_some H
        refine .q (q_subI rfl rfl hk2.1 hk2.2) rfl ?_
        refine .q (q_assign rfl) rfl ?_
        refine .nil ?_
        refine .seq ?_
        refine .seq ?_
        refine .region ?_
        refine .q (q_move rfl) rfl ?_
        refine .q (q_lenL (l := v0) (row := rB8) Tryd.underlying32 rfl rfl) rfl ?_
        refine .q (q_move rfl) rfl ?_
        obtain ⟨hk3, H⟩ := ck_some H
        refine .q (q_subI rfl rfl hk3.1 hk3.2) rfl ?_
        refine .q (q_move rfl) rfl ?_
        obtain ⟨hk4, H⟩ := ck_some H
        refine .q (q_addI rfl rfl hk4.1 hk4.2) rfl ?_
        refine .q (q_lss rfl rfl) rfl ?_
        refine .nil ?_
        refine .cond rfl (fun hc => ?_) (fun hc => ?_)
        · replace H := ifT hc H; clear hc
          refine .seq ?_
          refine .region ?_
          refine .q (q_assign rfl) rfl ?_
          refine .q (q_assign rfl) rfl ?_
          refine .q (q_assign rfl) rfl ?_
          refine .nil ?_
          refine .retN [.tmp 2, .tmp 3, .tmp 4] [.d (cI 0), .d (cI 0), .d (cI 2)] Tryd.func76 Tryd.results76 ⟨rfl, rfl, rfl, trivial⟩ ?_
          cases H
          exact ⟨_, EVle.tupL (ds := [cI 0, cI 0, cI 2]) ⟨.rfl' _, .rfl' _, .rfl' _, trivial⟩, rfl⟩
        · replace H := ifF hc H; clear hc
          refine .skip ?_
          refine .seq ?_
          refine .drawn 30 hMix (by kernel_rfl) ?_
          show DOps _ _ _ _ _ _ _ (_ :: _) _ _ _
          refine .q (q_move rfl) rfl ?_
          refine .q (q_move rfl) rfl ?_
          obtain ⟨hk5, H⟩ := ck_some H
          refine .q (x := .d (.ro (rB8 (nth v0 (Int.toNat (((v0.take (Int.toNat ((if 10 < (v0.length : Int) then 10 else (v0.length : Int))))).length : Int) - (y1.2.1.length : Int))))))) (q_idxL (row := rB8) (l := v0) (i := ((v0.take (Int.toNat ((if 10 < (v0.length : Int) then 10 else (v0.length : Int))))).length : Int) - (y1.2.1.length : Int)) Tryd.underlying32 hi5 hs5 rfl rfl rfl hk5) rfl ?_
          refine .q (x := .d (cU8 (nth v0 (Int.toNat (((v0.take (Int.toNat ((if 10 < (v0.length : Int) then 10 else (v0.length : Int))))).length : Int) - (y1.2.1.length : Int)))))) (q_load one_5 rfl) rfl ?_
          refine .q (x := .d (cK .u32 (IntKind.wrap .u32 ((nth v0 (Int.toNat (((v0.take (Int.toNat ((if 10 < (v0.length : Int) then 10 else (v0.length : Int))))).length : Int) - (y1.2.1.length : Int)))).toNat : Int)))) (q_conv (n := ((nth v0 (Int.toNat (((v0.take (Int.toNat ((if 10 < (v0.length : Int) then 10 else (v0.length : Int))))).length : Int) - (y1.2.1.length : Int)))).toNat : Int)) Tryd.underlying5 Tryd.underlying76 rfl rfl) rfl ?_
          obtain ⟨hk6, H⟩ := ck_some H
          refine .q (x := .d (cK .u32 (IntKind.wrap .u32 ((IntKind.wrap .u32 ((nth v0 (Int.toNat (((v0.take (Int.toNat ((if 10 < (v0.length : Int) then 10 else (v0.length : Int))))).length : Int) - (y1.2.1.length : Int)))).toNat : Int)) * 2 ^ (min (Int.toNat (24)) 32))))) (q_shl (a := IntKind.wrap .u32 ((nth v0 (Int.toNat (((v0.take (Int.toNat ((if 10 < (v0.length : Int) then 10 else (v0.length : Int))))).length : Int) - (y1.2.1.length : Int)))).toNat : Int)) (b := 24) rfl rfl hk6 rfl) rfl ?_
          refine .q (q_move rfl) rfl ?_
          refine .q (q_move rfl) rfl ?_
          obtain ⟨hk7, H⟩ := ck_some H
          refine .q (q_addI rfl rfl hk7.1 hk7.2) rfl ?_
          obtain ⟨hk8, H⟩ := ck_some H
          refine .q (x := .d (.ro (rB8 (nth v0 (Int.toNat ((((v0.take (Int.toNat ((if 10 < (v0.length : Int) then 10 else (v0.length : Int))))).length : Int) - (y1.2.1.length : Int)) + 1)))))) (q_idxL (row := rB8) (l := v0) (i := (((v0.take (Int.toNat ((if 10 < (v0.length : Int) then 10 else (v0.length : Int))))).length : Int) - (y1.2.1.length : Int)) + 1) Tryd.underlying32 hi5 hs5 rfl rfl rfl hk8) rfl ?_
          refine .q (x := .d (cU8 (nth v0 (Int.toNat ((((v0.take (Int.toNat ((if 10 < (v0.length : Int) then 10 else (v0.length : Int))))).length : Int) - (y1.2.1.length : Int)) + 1))))) (q_load one_5 rfl) rfl ?_
          refine .q (x := .d (cK .u32 (IntKind.wrap .u32 ((nth v0 (Int.toNat ((((v0.take (Int.toNat ((if 10 < (v0.length : Int) then 10 else (v0.length : Int))))).length : Int) - (y1.2.1.length : Int)) + 1))).toNat : Int)))) (q_conv (n := ((nth v0 (Int.toNat ((((v0.take (Int.toNat ((if 10 < (v0.length : Int) then 10 else (v0.length : Int))))).length : Int) - (y1.2.1.length : Int)) + 1))).toNat : Int)) Tryd.underlying5 Tryd.underlying76 rfl rfl) rfl ?_
          obtain ⟨hk9, H⟩ := ck_some H
          refine .q (x := .d (cK .u32 (IntKind.wrap .u32 ((IntKind.wrap .u32 ((nth v0 (Int.toNat ((((v0.take (Int.toNat ((if 10 < (v0.length : Int) then 10 else (v0.length : Int))))).length : Int) - (y1.2.1.length : Int)) + 1))).toNat : Int)) * 2 ^ (min (Int.toNat (16)) 32))))) (q_shl (a := IntKind.wrap .u32 ((nth v0 (Int.toNat ((((v0.take (Int.toNat ((if 10 < (v0.length : Int) then 10 else (v0.length : Int))))).length : Int) - (y1.2.1.length : Int)) + 1))).toNat : Int)) (b := 16) rfl rfl hk9 rfl) rfl ?_
          refine .q (x := .d (cK .u32 (bOr .u32 (IntKind.wrap .u32 ((IntKind.wrap .u32 ((nth v0 (Int.toNat (((v0.take (Int.toNat ((if 10 < (v0.length : Int) then 10 else (v0.length : Int))))).length : Int) - (y1.2.1.length : Int)))).toNat : Int)) * 2 ^ (min (Int.toNat (24)) 32))) (IntKind.wrap .u32 ((IntKind.wrap .u32 ((nth v0 (Int.toNat ((((v0.take (Int.toNat ((if 10 < (v0.length : Int) then 10 else (v0.length : Int))))).length : Int) - (y1.2.1.length : Int)) + 1))).toNat : Int)) * 2 ^ (min (Int.toNat (16)) 32)))))) (q_or rfl rfl) rfl ?_
          refine .q (q_move rfl) rfl ?_
          refine .q (q_move rfl) rfl ?_
          obtain ⟨hk10, H⟩ := ck_some H
          refine .q (q_addI rfl rfl hk10.1 hk10.2) rfl ?_
          obtain ⟨hk11, H⟩ := ck_some H
          refine .q (x := .d (.ro (rB8 (nth v0 (Int.toNat ((((v0.take (Int.toNat ((if 10 < (v0.length : Int) then 10 else (v0.length : Int))))).length : Int) - (y1.2.1.length : Int)) + 2)))))) (q_idxL (row := rB8) (l := v0) (i := (((v0.take (Int.toNat ((if 10 < (v0.length : Int) then 10 else (v0.length : Int))))).length : Int) - (y1.2.1.length : Int)) + 2) Tryd.underlying32 hi5 hs5 rfl rfl rfl hk11) rfl ?_
          refine .q (x := .d (cU8 (nth v0 (Int.toNat ((((v0.take (Int.toNat ((if 10 < (v0.length : Int) then 10 else (v0.length : Int))))).length : Int) - (y1.2.1.length : Int)) + 2))))) (q_load one_5 rfl) rfl ?_
          refine .q (x := .d (cK .u32 (IntKind.wrap .u32 ((nth v0 (Int.toNat ((((v0.take (Int.toNat ((if 10 < (v0.length : Int) then 10 else (v0.length : Int))))).length : Int) - (y1.2.1.length : Int)) + 2))).toNat : Int)))) (q_conv (n := ((nth v0 (Int.toNat ((((v0.take (Int.toNat ((if 10 < (v0.length : Int) then 10 else (v0.length : Int))))).length : Int) - (y1.2.1.length : Int)) + 2))).toNat : Int)) Tryd.underlying5 Tryd.underlying76 rfl rfl) rfl ?_
          obtain ⟨hk12, H⟩ := ck_some H
          refine .q (x := .d (cK .u32 (IntKind.wrap .u32 ((IntKind.wrap .u32 ((nth v0 (Int.toNat ((((v0.take (Int.toNat ((if 10 < (v0.length : Int) then 10 else (v0.length : Int))))).length : Int) - (y1.2.1.length : Int)) + 2))).toNat : Int)) * 2 ^ (min (Int.toNat (8)) 32))))) (q_shl (a := IntKind.wrap .u32 ((nth v0 (Int.toNat ((((v0.take (Int.toNat ((if 10 < (v0.length : Int) then 10 else (v0.length : Int))))).length : Int) - (y1.2.1.length : Int)) + 2))).toNat : Int)) (b := 8) rfl rfl hk12 rfl) rfl ?_
          refine .q (x := .d (cK .u32 (bOr .u32 (bOr .u32 (IntKind.wrap .u32 ((IntKind.wrap .u32 ((nth v0 (Int.toNat (((v0.take (Int.toNat ((if 10 < (v0.length : Int) then 10 else (v0.length : Int))))).length : Int) - (y1.2.1.length : Int)))).toNat : Int)) * 2 ^ (min (Int.toNat (24)) 32))) (IntKind.wrap .u32 ((IntKind.wrap .u32 ((nth v0 (Int.toNat ((((v0.take (Int.toNat ((if 10 < (v0.length : Int) then 10 else (v0.length : Int))))).length : Int) - (y1.2.1.length : Int)) + 1))).toNat : Int)) * 2 ^ (min (Int.toNat (16)) 32)))) (IntKind.wrap .u32 ((IntKind.wrap .u32 ((nth v0 (Int.toNat ((((v0.take (Int.toNat ((if 10 < (v0.length : Int) then 10 else (v0.length : Int))))).length : Int) - (y1.2.1.length : Int)) + 2))).toNat : Int)) * 2 ^ (min (Int.toNat (8)) 32)))))) (q_or rfl rfl) rfl ?_
          refine .q (q_move rfl) rfl ?_
          refine .q (q_move rfl) rfl ?_
          obtain ⟨hk13, H⟩ := ck_some H
          refine .q (q_addI rfl rfl hk13.1 hk13.2) rfl ?_
          obtain ⟨hk14, H⟩ := ck_some H
          refine .q (x := .d (.ro (rB8 (nth v0 (Int.toNat ((((v0.take (Int.toNat ((if 10 < (v0.length : Int) then 10 else (v0.length : Int))))).length : Int) - (y1.2.1.length : Int)) + 3)))))) (q_idxL (row := rB8) (l := v0) (i := (((v0.take (Int.toNat ((if 10 < (v0.length : Int) then 10 else (v0.length : Int))))).length : Int) - (y1.2.1.length : Int)) + 3) Tryd.underlying32 hi5 hs5 rfl rfl rfl hk14) rfl ?_
          refine .q (x := .d (cU8 (nth v0 (Int.toNat ((((v0.take (Int.toNat ((if 10 < (v0.length : Int) then 10 else (v0.length : Int))))).length : Int) - (y1.2.1.length : Int)) + 3))))) (q_load one_5 rfl) rfl ?_
          refine .q (x := .d (cK .u32 (IntKind.wrap .u32 ((nth v0 (Int.toNat ((((v0.take (Int.toNat ((if 10 < (v0.length : Int) then 10 else (v0.length : Int))))).length : Int) - (y1.2.1.length : Int)) + 3))).toNat : Int)))) (q_conv (n := ((nth v0 (Int.toNat ((((v0.take (Int.toNat ((if 10 < (v0.length : Int) then 10 else (v0.length : Int))))).length : Int) - (y1.2.1.length : Int)) + 3))).toNat : Int)) Tryd.underlying5 Tryd.underlying76 rfl rfl) rfl ?_
          refine .q (x := .d (cK .u32 (bOr .u32 (bOr .u32 (bOr .u32 (IntKind.wrap .u32 ((IntKind.wrap .u32 ((nth v0 (Int.toNat (((v0.take (Int.toNat ((if 10 < (v0.length : Int) then 10 else (v0.length : Int))))).length : Int) - (y1.2.1.length : Int)))).toNat : Int)) * 2 ^ (min (Int.toNat (24)) 32))) (IntKind.wrap .u32 ((IntKind.wrap .u32 ((nth v0 (Int.toNat ((((v0.take (Int.toNat ((if 10 < (v0.length : Int) then 10 else (v0.length : Int))))).length : Int) - (y1.2.1.length : Int)) + 1))).toNat : Int)) * 2 ^ (min (Int.toNat (16)) 32)))) (IntKind.wrap .u32 ((IntKind.wrap .u32 ((nth v0 (Int.toNat ((((v0.take (Int.toNat ((if 10 < (v0.length : Int) then 10 else (v0.length : Int))))).length : Int) - (y1.2.1.length : Int)) + 2))).toNat : Int)) * 2 ^ (min (Int.toNat (8)) 32)))) (IntKind.wrap .u32 ((nth v0 (Int.toNat ((((v0.take (Int.toNat ((if 10 < (v0.length : Int) then 10 else (v0.length : Int))))).length : Int) - (y1.2.1.length : Int)) + 3))).toNat : Int))))) (q_or rfl rfl) rfl ?_
          refine .q (q_assign rfl) rfl ?_
          refine .nil ?_
          show AOps _ _ _ _ _ _ [] _ _ _
          refine .nil ?_
          refine .seq ?_
          refine .seq ?_
          refine .region ?_
          refine .q (q_move rfl) rfl ?_
          refine .q (q_move rfl) rfl ?_
          obtain ⟨hk15, H⟩ := ck_some H
          refine .q (q_addI rfl rfl hk15.1 hk15.2) rfl ?_
          refine .q (q_move rfl) rfl ?_
          obtain ⟨hk16, H⟩ := ck_some H
          refine .q (q_addI rfl rfl hk16.1 hk16.2) rfl ?_
          refine .q (q_move rfl) rfl ?_
          obtain ⟨hk17, H⟩ := ck_some H
          refine .q (q_addI rfl rfl hk17.1 hk17.2) rfl ?_
          obtain ⟨hk18, H⟩ := ck_some H
          refine .q (x := .d (slOf 1 rB8 ((v0.take (Int.toNat (((((v0.take (Int.toNat ((if 10 < (v0.length : Int) then 10 else (v0.length : Int))))).length : Int) - (y1.2.1.length : Int)) + 4) + y1.1))).drop (Int.toNat ((((v0.take (Int.toNat ((if 10 < (v0.length : Int) then 10 else (v0.length : Int))))).length : Int) - (y1.2.1.length : Int)) + 4))))) (q_slLHL (l := v0) (row := rB8) Tryd.underlying32 hi5 hs5 rfl rfl rfl rfl hk18) rfl ?_
          obtain ⟨y2, hy2, H⟩ := bind_some' H
          refine .g (x := .d (cK .u32 y2)) (g_call en_47 rfl rfl (c_f_frame_Sum (hy2))) rfl ?_
          refine .q (q_move rfl) rfl ?_
          refine .q (q_neq rfl rfl) rfl ?_
          refine .nil ?_
          refine .cond rfl (fun hc => ?_) (fun hc => ?_)
          · replace H := ifT hc H; clear hc
            refine .seq ?_
            refine .region ?_
            refine .q (q_assign rfl) rfl ?_
            refine .q (q_assign rfl) rfl ?_
            refine .q (q_assign rfl) rfl ?_
            refine .nil ?_
            refine .retN [.tmp 2, .tmp 3, .tmp 4] [.d (cI 0), .d (cI 0), .d (cI 4)] Tryd.func76 Tryd.results76 ⟨rfl, rfl, rfl, trivial⟩ ?_
            cases H
            exact ⟨_, EVle.tupL (ds := [cI 0, cI 0, cI 4]) ⟨.rfl' _, .rfl' _, .rfl' _, trivial⟩, rfl⟩
          · replace H := ifF hc H; clear hc
            refine .skip ?_
            refine .seq ?_
            refine .region ?_
            refine .q (q_move rfl) rfl ?_
            obtain ⟨hk19, H⟩ := ck_some H
            refine .q (q_addI rfl rfl hk19.1 hk19.2) rfl ?_
            refine .q (q_move rfl) rfl ?_
            obtain ⟨hk20, H⟩ := ck_some H
            refine .q (q_addI rfl rfl hk20.1 hk20.2) rfl ?_
            refine .q (q_move rfl) rfl ?_
            obtain ⟨hk21, H⟩ := ck_some H
            refine .q (q_addI rfl rfl hk21.1 hk21.2) rfl ?_
            refine .q (q_assign rfl) rfl ?_
            refine .q (q_assign rfl) rfl ?_
            refine .q (q_assign rfl) rfl ?_
            refine .nil ?_
            refine .retN [.tmp 2, .tmp 3, .tmp 4] [.d (cI ((((v0.take (Int.toNat ((if 10 < (v0.length : Int) then 10 else (v0.length : Int))))).length : Int) - (y1.2.1.length : Int)) + 4)), .d (cI (((((v0.take (Int.toNat ((if 10 < (v0.length : Int) then 10 else (v0.length : Int))))).length : Int) - (y1.2.1.length : Int)) + 4) + y1.1)), .d (cI 0)] Tryd.func76 Tryd.results76 ⟨rfl, rfl, rfl, trivial⟩ ?_
            cases H
            exact ⟨_, EVle.tupL (ds := [cI ((((v0.take (Int.toNat ((if 10 < (v0.length : Int) then 10 else (v0.length : Int))))).length : Int) - (y1.2.1.length : Int)) + 4), cI (((((v0.take (Int.toNat ((if 10 < (v0.length : Int) then 10 else (v0.length : Int))))).length : Int) - (y1.2.1.length : Int)) + 4) + y1.1), cI 0]) ⟨.rfl' _, .rfl' _, .rfl' _, trivial⟩, rfl⟩

set_option maxRecDepth 100000 in
set_option maxHeartbeats 1000000 in
theorem c_f_frame_copied {v0b : List UInt8} {v1from : Int} {v2to : Int} {r : (List UInt8)} (H : f_frame_copied v0b v1from v2to = some r) : ACall Tryd.prog 77 [slOf 1 rB8 v0b, cI v1from, cI v2to] (· = slOf 1 rB8 r) := by
  obtain ⟨i5, hi5, hz5, hs5, hb5⟩ := in_5
  refine ACall.enter' Tryd.func77 rfl Tryd.ntmps77 rfl fun S hS => ?_
  unfold f_frame_copied at H
  change ARun _ _ _ _ _ _ [(0, .d (slOf 1 rB8 v0b)), (1, .d (cI v1from)), (2, .d (cI v2to))] _
  refine .seq ?_
  refine .region ?_
  refine .q (q_assign rfl) rfl ?_
  refine .nil ?_
  refine .seq ?_
  refine .region ?_
  refine .q (q_move rfl) rfl ?_
  refine .q (q_move rfl) rfl ?_
  obtain ⟨hk1, H⟩ := ck_some H
  refine .q (q_subI rfl rfl hk1.1 hk1.2) rfl ?_
  obtain ⟨hk2, H⟩ := ck_some H
  refine .v (x := .vc 0 ((List.replicate (Int.toNat (v2to - v1from)) 0 : List UInt8).length)) (v_makeV (row := rB8) (a := v2to - v1from) (b := v2to - v1from) (a0 := 0) Tryd.underlying32 hi5 hz5 hs5 rfl (by rw [hb5]; decide) rfl rfl rfl hk2) rfl ?_
  refine .withSt (st' := ⟨[], [⟨5, 1, ((List.replicate (Int.toNat (v2to - v1from)) 0 : List UInt8).length), some ((List.replicate (Int.toNat (v2to - v1from)) 0 : List UInt8).map rB8)⟩]⟩) rfl ?_
  refine .q (q_assign rfl) rfl ?_
  refine .nil ?_
  refine .seq ?_
  refine .region ?_
  refine .q (q_move rfl) rfl ?_
  refine .q (q_move rfl) rfl ?_
  refine .q (q_move rfl) rfl ?_
  refine .q (q_move rfl) rfl ?_
  refine .q (q_move rfl) rfl ?_
  obtain ⟨hk3, H⟩ := ck_some H
  refine .q (x := .d (slOf 1 rB8 ((v0b.take (Int.toNat (v2to))).drop (Int.toNat (v1from))))) (q_slLHML (l := v0b) (row := rB8) Tryd.underlying32 hi5 hs5 rfl rfl rfl rfl rfl hk3) rfl ?_
  refine .v (x := .d (cI ((min ((v0b.take (Int.toNat (v2to))).drop (Int.toNat (v1from))).length (List.replicate (Int.toNat (v2to - v1from)) 0 : List UInt8).length : Nat) : Int))) (v_copyV (l := (List.replicate (Int.toNat (v2to - v1from)) 0 : List UInt8)) (l' := (v0b.take (Int.toNat (v2to))).drop (Int.toNat (v1from))) (row := rB8) Tryd.underlying32 hi5 hs5 rfl rfl rfl rfl) rfl ?_
  refine .withSt (st' := ⟨[], [⟨5, 1, ((List.replicate (Int.toNat (v2to - v1from)) 0 : List UInt8).length), some ((((v0b.take (Int.toNat (v2to))).drop (Int.toNat (v1from))).take (min ((v0b.take (Int.toNat (v2to))).drop (Int.toNat (v1from))).length (List.replicate (Int.toNat (v2to - v1from)) 0 : List UInt8).length) ++ (List.replicate (Int.toNat (v2to - v1from)) 0 : List UInt8).drop (min ((v0b.take (Int.toNat (v2to))).drop (Int.toNat (v1from))).length (List.replicate (Int.toNat (v2to - v1from)) 0 : List UInt8).length)).map rB8)⟩]⟩) rfl ?_
  refine .nil ?_
  refine .seq ?_
  refine .region ?_
  refine .q (q_move rfl) rfl ?_
  refine .q (q_assign rfl) rfl ?_
  refine .nil ?_
  refine .freezeL (l := ((v0b.take (Int.toNat (v2to))).drop (Int.toNat (v1from))).take (min ((v0b.take (Int.toNat (v2to))).drop (Int.toNat (v1from))).length (List.replicate (Int.toNat (v2to - v1from)) 0 : List UInt8).length) ++ (List.replicate (Int.toNat (v2to - v1from)) 0 : List UInt8).drop (min ((v0b.take (Int.toNat (v2to))).drop (Int.toNat (v1from))).length (List.replicate (Int.toNat (v2to - v1from)) 0 : List UInt8).length)) (row := rB8) (i := 6) rfl rfl ?_
  refine .withSt (st' := ⟨[], [⟨5, 1, (((v0b.take (Int.toNat (v2to))).drop (Int.toNat (v1from))).take (min ((v0b.take (Int.toNat (v2to))).drop (Int.toNat (v1from))).length (List.replicate (Int.toNat (v2to - v1from)) 0 : List UInt8).length) ++ (List.replicate (Int.toNat (v2to - v1from)) 0 : List UInt8).drop (min ((v0b.take (Int.toNat (v2to))).drop (Int.toNat (v1from))).length (List.replicate (Int.toNat (v2to - v1from)) 0 : List UInt8).length)).length, none⟩]⟩) rfl ?_
  refine .retN [.tmp 6] [.tsl 1 ((((v0b.take (Int.toNat (v2to))).drop (Int.toNat (v1from))).take (min ((v0b.take (Int.toNat (v2to))).drop (Int.toNat (v1from))).length (List.replicate (Int.toNat (v2to - v1from)) 0 : List UInt8).length) ++ (List.replicate (Int.toNat (v2to - v1from)) 0 : List UInt8).drop (min ((v0b.take (Int.toNat (v2to))).drop (Int.toNat (v1from))).length (List.replicate (Int.toNat (v2to - v1from)) 0 : List UInt8).length)).map rB8) 0] Tryd.func77 Tryd.results77 ⟨rfl, trivial⟩ ?_
  cases H
  exact ⟨_, .tsl _ _ _, rfl⟩

set_option maxRecDepth 100000 in
set_option maxHeartbeats 1000000 in
theorem c_f_frame_Unwrap {v0b : List UInt8} {r : (List UInt8) × (List UInt8) × Int} (H : f_frame_Unwrap v0b = some r) : ACall Tryd.prog 45 [slOf 1 rB8 v0b] (· = .tup [slOf 1 rB8 r.1, slOf 1 rB8 r.2.1, cI r.2.2]) := by
  refine ACall.enter' Tryd.func45 rfl Tryd.ntmps45 rfl fun S hS => ?_
  unfold f_frame_Unwrap at H
  change ARun _ _ _ _ _ _ [(0, .d (slOf 1 rB8 v0b))] _
  refine .seq ?_
  refine .region ?_
  refine .q (q_assign rfl) rfl ?_
  refine .q (q_assign rfl) rfl ?_
  refine .q (q_assign rfl) rfl ?_
  refine .nil ?_
  refine .seq ?_
  refine .region ?_
  refine .q (q_move rfl) rfl ?_
  obtain ⟨y1, hy1, H⟩ := bind_some' H
  refine .g (x := .d (.tup [cI y1.1, cI y1.2.1, cI y1.2.2])) (g_call en_76 rfl rfl (c_f_frame_locate (hy1))) rfl ?_
  refine .q (q_move rfl) rfl ?_
  refine .q (q_extract rfl rfl) rfl ?_
  refine .q (q_extract rfl rfl) rfl ?_
  refine .q (q_extract rfl rfl) rfl ?_
  refine .q (q_assign rfl) rfl ?_
  refine .q (q_assign rfl) rfl ?_
  refine .q (q_assign rfl) rfl ?_
  refine .nil ?_
  refine .seq ?_
  refine .seq ?_
  refine .region ?_
  refine .q (q_move rfl) rfl ?_
  refine .q (q_neq rfl rfl) rfl ?_
  refine .nil ?_
  refine .cond rfl (fun hc => ?_) (fun hc => ?_)
  · replace H := ifT hc H; clear hc
    refine .seq ?_
    refine .region ?_
    refine .q (q_move rfl) rfl ?_
    refine .q (q_assign rfl) rfl ?_
    refine .q (q_assign rfl) rfl ?_
    refine .q (q_assign rfl) rfl ?_
    refine .nil ?_
    refine .retN [.tmp 2, .tmp 3, .tmp 4] [.d (nilD), .d (nilD), .d (cI y1.2.2)] Tryd.func45 Tryd.results45 ⟨rfl, rfl, rfl, trivial⟩ ?_
    cases H
    exact ⟨_, EVle.tupL (ds := [slOf 1 rB8 ([] : List UInt8), slOf 1 rB8 ([] : List UInt8), cI y1.2.2]) ⟨.nil 1, .nil 1, .rfl' _, trivial⟩, rfl⟩
  · replace H := ifF hc H; clear hc
    refine .skip ?_
    refine .seq ?_
    refine .region ?_
    refine .q (q_move rfl) rfl ?_
    refine .q (q_move rfl) rfl ?_
    refine .q (q_move rfl) rfl ?_
    obtain ⟨y2, hy2, H⟩ := bind_some' H
    refine .g (x := .d (slOf 1 rB8 y2)) (g_call en_77 rfl rfl (c_f_frame_copied (hy2))) rfl ?_
    refine .q (q_move rfl) rfl ?_
    refine .q (q_move rfl) rfl ?_
    refine .q (q_move rfl) rfl ?_
    refine .q (q_lenL (l := v0b) (row := rB8) Tryd.underlying32 rfl rfl) rfl ?_
    obtain ⟨y3, hy3, H⟩ := bind_some' H
    refine .g (x := .d (slOf 1 rB8 y3)) (g_call en_77 rfl rfl (c_f_frame_copied (hy3))) rfl ?_
    refine .q (q_assign rfl) rfl ?_
    refine .q (q_assign rfl) rfl ?_
    refine .q (q_assign rfl) rfl ?_
    refine .nil ?_
    refine .retN [.tmp 2, .tmp 3, .tmp 4] [.d (slOf 1 rB8 y2), .d (slOf 1 rB8 y3), .d (cI 0)] Tryd.func45 Tryd.results45 ⟨rfl, rfl, rfl, trivial⟩ ?_
    cases H
    exact ⟨_, EVle.tupL (ds := [slOf 1 rB8 y2, slOf 1 rB8 y3, cI 0]) ⟨.rfl' _, .rfl' _, .rfl' _, trivial⟩, rfl⟩

set_option maxRecDepth 100000 in
set_option maxHeartbeats 1000000 in
theorem c_g_batch_numbers {v0b : List UInt8} {o1c0p : Head} {r : Int × Head} (H : g_batch_numbers v0b o1c0p = some r) : ACallS Tryd.prog 46 [.d (slOf 1 rB8 v0b), .osl 0 0 4 4] ⟨[.row 75 [.ref 1 0, .ref 1 1, .ref 1 2, .ref 1 3], .row 42 [.d (cI o1c0p.source), .d (cI o1c0p.number), .d (cI o1c0p.format), .d (cI o1c0p.count)]], []⟩ (QE (.d (cI r.1)) ⟨[.row 75 [.ref 1 0, .ref 1 1, .ref 1 2, .ref 1 3], .row 42 [.d (cI r.2.source), .d (cI r.2.number), .d (cI r.2.format), .d (cI r.2.count)]], []⟩) := by
  obtain ⟨i75, hi75, hz75, hs75, hb75⟩ := in_75
  refine ACallS.keep ?_
  refine ACallS.enter Tryd.func46 rfl Tryd.ntmps46 rfl fun S hS => ?_
  unfold g_batch_numbers at H
  change ARun _ _ _ _ _ _ [(0, .d (slOf 1 rB8 v0b)), (1, .osl 0 0 4 4)] _
  refine .seq ?_
  refine .region ?_
  refine .q (q_assign rfl) rfl ?_
  refine .nil ?_
  refine .seq ?_
  refine .seq ?_
  refine .region ?_
  refine .q (q_move rfl) rfl ?_
  refine .q (x := .d (cI 4)) (q_lenOsl Tryd.underlying107 rfl) rfl ?_
  refine .q (q_move rfl) rfl ?_
  refine .nil ?_
  refine .blockJoin2 (ι := List UInt8 × Int × Int × Int × Int) (fun s => [(0, .d (slOf 1 rB8 s.1))]) (fun s => ⟨[.row 75 [.ref 1 0, .ref 1 1, .ref 1 2, .ref 1 3], .row 42 [.d (cI s.2.1), .d (cI s.2.2.1), .d (cI s.2.2.2.1), .d (cI s.2.2.2.2)]], []⟩) (fun s => g_batch_numbers_j1 s.1 s.2.1 s.2.2.1 s.2.2.2.1 s.2.2.2.2 = some r) ?_ ?_
  · rintro ⟨v0bj1, o1c0j1, o1c1j1, o1c2j1, o1c3j1⟩ H
    replace H : g_batch_numbers_j1 v0bj1 o1c0j1 o1c1j1 o1c2j1 o1c3j1 = some r := H
    unfold g_batch_numbers_j1 at H
    change ARun _ _ _ _ _ _ [(0, .d (slOf 1 rB8 v0bj1))] ⟨[.row 75 [.ref 1 0, .ref 1 1, .ref 1 2, .ref 1 3], .row 42 [.d (cI o1c0j1), .d (cI o1c1j1), .d (cI o1c2j1), .d (cI o1c3j1)]], []⟩
    refine .seq ?_
    refine .seq ?_
    refine .region ?_
    refine .q (q_move rfl) rfl ?_
    refine .q (q_lenL (l := v0bj1) (row := rB8) Tryd.underlying32 rfl rfl) rfl ?_
    refine .q (q_gtr rfl rfl) rfl ?_
    refine .nil ?_
    refine .cond rfl (fun hc => ?_) (fun hc => ?_)
    · replace H := ifT hc H; clear hc
      refine .seq ?_
      refine .region ?_
      refine .q (q_assign rfl) rfl ?_
      refine .nil ?_
      refine .retN [.tmp 4] [.d (cI 3)] Tryd.func46 Tryd.results46 ⟨rfl, trivial⟩ ?_
      cases H
      exact ⟨[0, 1], [], rfl, rfl, rfl, rfl, rfl, rfl, rfl, rfl, .rfl' _⟩
    · replace H := ifF hc H; clear hc
      refine .skip ?_
      refine .seq ?_
      refine .region ?_
      refine .q (q_assign rfl) rfl ?_
      refine .nil ?_
      refine .retN [.tmp 4] [.d (cI 0)] Tryd.func46 Tryd.results46 ⟨rfl, trivial⟩ ?_
      cases H
      exact ⟨[0, 1], [], rfl, rfl, rfl, rfl, rfl, rfl, rfl, rfl, .rfl' _⟩
  · intro hj1 hj1x
    refine .loop0 ?_
    refine .seq ?_
    refine .region ?_
    refine .q (q_lss rfl rfl) rfl ?_
    refine .nil ?_
    refine .seq ?_
    refine .cond rfl (fun hc => ?_) (fun hc => absurd hc (by decide))
    clear hc
    refine .skip ?_
    refine .seq ?_
    refine .block ?_
    refine .seq ?_
    refine .region ?_
    refine .q (x := .ref 0 0) (q_idxOsl (m := 0) Tryd.underlying107 hi75 hs75 rfl rfl rfl (by decide)) rfl ?_
    refine .q (x := .ref 1 0) (q_loadO one_75 rfl rfl rfl) rfl ?_
    refine .q (q_assign rfl) rfl ?_
    refine .nil ?_
    refine .seq ?_
    refine .region ?_
    refine .q (q_move rfl) rfl ?_
    obtain ⟨y1, hy1, H⟩ := bind_some' H
    refine .g (x := .d (.tup [cI y1.1, slOf 1 rB8 y1.2.1, cI y1.2.2])) (g_call en_78 rfl rfl (c_f_codec_Number (hy1))) rfl ?_
    refine .q (q_move rfl) rfl ?_
    refine .q (q_extract rfl rfl) rfl ?_
    refine .q (q_extract rfl rfl) rfl ?_
    refine .q (q_extract rfl rfl) rfl ?_
    refine .q (q_assign rfl) rfl ?_
    refine .q (q_assign rfl) rfl ?_
    refine .q (q_assign rfl) rfl ?_
    refine .nil ?_
    refine .seq ?_
    refine .seq ?_
    refine .region ?_
    refine .q (q_move rfl) rfl ?_
    refine .q (q_neq rfl rfl) rfl ?_
    refine .nil ?_
    refine .cond rfl (fun hc => ?_) (fun hc => ?_)
    · replace H := ifT hc H; clear hc
      refine .seq ?_
      refine .region ?_
      refine .q (q_move rfl) rfl ?_
      refine .q (q_assign rfl) rfl ?_
      refine .nil ?_
      refine .retN [.tmp 4] [.d (cI y1.2.2)] Tryd.func46 Tryd.results46 ⟨rfl, trivial⟩ ?_
      cases H
      exact ⟨[0, 1], [], rfl, rfl, rfl, rfl, rfl, rfl, rfl, rfl, .rfl' _⟩
    · replace H := ifF hc H; clear hc
      refine .skip ?_
      refine .region ?_
      refine .q (q_move rfl) rfl ?_
      refine .q (q_move rfl) rfl ?_
      refine .q (q_move rfl) rfl ?_
      refine .q (q_nilRef rfl) rfl ?_
      refine .u (u_store rfl rfl rfl rfl (Nat.le_of_ble_eq_true rfl) sz_3) rfl ?_
      refine .withSt (st' := ⟨[.row 75 [.ref 1 0, .ref 1 1, .ref 1 2, .ref 1 3], .row 42 [.d (cI y1.1), .d (cI o1c0p.number), .d (cI o1c0p.format), .d (cI o1c0p.count)]], []⟩) rfl ?_
      refine .q (q_assign rfl) rfl ?_
      refine .nil ?_
      refine .inBlock ?_
      refine .region ?_
      refine .q (q_addI rfl rfl (by decide) (by decide)) rfl ?_
      refine .q (q_move rfl) rfl ?_
      refine .nil ?_
      refine .inLoop ?_
      refine .seq ?_
      refine .region ?_
      refine .q (q_lss rfl rfl) rfl ?_
      refine .nil ?_
      refine .seq ?_
      refine .cond rfl (fun hc => ?_) (fun hc => absurd hc (by decide))
      clear hc
      refine .skip ?_
      refine .seq ?_
      refine .block ?_
      refine .seq ?_
      refine .region ?_
      refine .q (x := .ref 0 1) (q_idxOsl (m := 1) Tryd.underlying107 hi75 hs75 rfl rfl rfl (by decide)) rfl ?_
      refine .q (x := .ref 1 1) (q_loadO one_75 rfl rfl rfl) rfl ?_
      refine .q (q_assign rfl) rfl ?_
      refine .nil ?_
      refine .seq ?_
      refine .region ?_
      refine .q (q_move rfl) rfl ?_
      obtain ⟨y2, hy2, H⟩ := bind_some' H
      refine .g (x := .d (.tup [cI y2.1, slOf 1 rB8 y2.2.1, cI y2.2.2])) (g_call en_78 rfl rfl (c_f_codec_Number (hy2))) rfl ?_
      refine .q (q_move rfl) rfl ?_
      refine .q (q_extract rfl rfl) rfl ?_
      refine .q (q_extract rfl rfl) rfl ?_
      refine .q (q_extract rfl rfl) rfl ?_
      refine .q (q_assign rfl) rfl ?_
      refine .q (q_assign rfl) rfl ?_
      refine .q (q_assign rfl) rfl ?_
      refine .nil ?_
      refine .seq ?_
      refine .seq ?_
      refine .region ?_
      refine .q (q_move rfl) rfl ?_
      refine .q (q_neq rfl rfl) rfl ?_
      refine .nil ?_
      refine .cond rfl (fun hc => ?_) (fun hc => ?_)
      · replace H := ifT hc H; clear hc
        refine .seq ?_
        refine .region ?_
        refine .q (q_move rfl) rfl ?_
        refine .q (q_assign rfl) rfl ?_
        refine .nil ?_
        refine .retN [.tmp 4] [.d (cI y2.2.2)] Tryd.func46 Tryd.results46 ⟨rfl, trivial⟩ ?_
        cases H
        exact ⟨[0, 1], [], rfl, rfl, rfl, rfl, rfl, rfl, rfl, rfl, .rfl' _⟩
      · replace H := ifF hc H; clear hc
        refine .skip ?_
        refine .region ?_
        refine .q (q_move rfl) rfl ?_
        refine .q (q_move rfl) rfl ?_
        refine .q (q_move rfl) rfl ?_
        refine .q (q_nilRef rfl) rfl ?_
        refine .u (u_store rfl rfl rfl rfl (Nat.le_of_ble_eq_true rfl) sz_3) rfl ?_
        refine .withSt (st' := ⟨[.row 75 [.ref 1 0, .ref 1 1, .ref 1 2, .ref 1 3], .row 42 [.d (cI y1.1), .d (cI y2.1), .d (cI o1c0p.format), .d (cI o1c0p.count)]], []⟩) rfl ?_
        refine .q (q_assign rfl) rfl ?_
        refine .nil ?_
        refine .inBlock ?_
        refine .region ?_
        refine .q (q_addI rfl rfl (by decide) (by decide)) rfl ?_
        refine .q (q_move rfl) rfl ?_
        refine .nil ?_
        refine .inLoop ?_
        refine .seq ?_
        refine .region ?_
        refine .q (q_lss rfl rfl) rfl ?_
        refine .nil ?_
        refine .seq ?_
        refine .cond rfl (fun hc => ?_) (fun hc => absurd hc (by decide))
        clear hc
        refine .skip ?_
        refine .seq ?_
        refine .block ?_
        refine .seq ?_
        refine .region ?_
        refine .q (x := .ref 0 2) (q_idxOsl (m := 2) Tryd.underlying107 hi75 hs75 rfl rfl rfl (by decide)) rfl ?_
        refine .q (x := .ref 1 2) (q_loadO one_75 rfl rfl rfl) rfl ?_
        refine .q (q_assign rfl) rfl ?_
        refine .nil ?_
        refine .seq ?_
        refine .region ?_
        refine .q (q_move rfl) rfl ?_
        obtain ⟨y3, hy3, H⟩ := bind_some' H
        refine .g (x := .d (.tup [cI y3.1, slOf 1 rB8 y3.2.1, cI y3.2.2])) (g_call en_78 rfl rfl (c_f_codec_Number (hy3))) rfl ?_
        refine .q (q_move rfl) rfl ?_
        refine .q (q_extract rfl rfl) rfl ?_
        refine .q (q_extract rfl rfl) rfl ?_
        refine .q (q_extract rfl rfl) rfl ?_
        refine .q (q_assign rfl) rfl ?_
        refine .q (q_assign rfl) rfl ?_
        refine .q (q_assign rfl) rfl ?_
        refine .nil ?_
        refine .seq ?_
        refine .seq ?_
        refine .region ?_
        refine .q (q_move rfl) rfl ?_
        refine .q (q_neq rfl rfl) rfl ?_
        refine .nil ?_
        refine .cond rfl (fun hc => ?_) (fun hc => ?_)
        · replace H := ifT hc H; clear hc
          refine .seq ?_
          refine .region ?_
          refine .q (q_move rfl) rfl ?_
          refine .q (q_assign rfl) rfl ?_
          refine .nil ?_
          refine .retN [.tmp 4] [.d (cI y3.2.2)] Tryd.func46 Tryd.results46 ⟨rfl, trivial⟩ ?_
          cases H
          exact ⟨[0, 1], [], rfl, rfl, rfl, rfl, rfl, rfl, rfl, rfl, .rfl' _⟩
        · replace H := ifF hc H; clear hc
          refine .skip ?_
          refine .region ?_
          refine .q (q_move rfl) rfl ?_
          refine .q (q_move rfl) rfl ?_
          refine .q (q_move rfl) rfl ?_
          refine .q (q_nilRef rfl) rfl ?_
          refine .u (u_store rfl rfl rfl rfl (Nat.le_of_ble_eq_true rfl) sz_3) rfl ?_
          refine .withSt (st' := ⟨[.row 75 [.ref 1 0, .ref 1 1, .ref 1 2, .ref 1 3], .row 42 [.d (cI y1.1), .d (cI y2.1), .d (cI y3.1), .d (cI o1c0p.count)]], []⟩) rfl ?_
          refine .q (q_assign rfl) rfl ?_
          refine .nil ?_
          refine .inBlock ?_
          refine .region ?_
          refine .q (q_addI rfl rfl (by decide) (by decide)) rfl ?_
          refine .q (q_move rfl) rfl ?_
          refine .nil ?_
          refine .inLoop ?_
          refine .seq ?_
          refine .region ?_
          refine .q (q_lss rfl rfl) rfl ?_
          refine .nil ?_
          refine .seq ?_
          refine .cond rfl (fun hc => ?_) (fun hc => absurd hc (by decide))
          clear hc
          refine .skip ?_
          refine .seq ?_
          refine .block ?_
          refine .seq ?_
          refine .region ?_
          refine .q (x := .ref 0 3) (q_idxOsl (m := 3) Tryd.underlying107 hi75 hs75 rfl rfl rfl (by decide)) rfl ?_
          refine .q (x := .ref 1 3) (q_loadO one_75 rfl rfl rfl) rfl ?_
          refine .q (q_assign rfl) rfl ?_
          refine .nil ?_
          refine .seq ?_
          refine .region ?_
          refine .q (q_move rfl) rfl ?_
          obtain ⟨y4, hy4, H⟩ := bind_some' H
          refine .g (x := .d (.tup [cI y4.1, slOf 1 rB8 y4.2.1, cI y4.2.2])) (g_call en_78 rfl rfl (c_f_codec_Number (hy4))) rfl ?_
          refine .q (q_move rfl) rfl ?_
          refine .q (q_extract rfl rfl) rfl ?_
          refine .q (q_extract rfl rfl) rfl ?_
          refine .q (q_extract rfl rfl) rfl ?_
          refine .q (q_assign rfl) rfl ?_
          refine .q (q_assign rfl) rfl ?_
          refine .q (q_assign rfl) rfl ?_
          refine .nil ?_
          refine .seq ?_
          refine .seq ?_
          refine .region ?_
          refine .q (q_move rfl) rfl ?_
          refine .q (q_neq rfl rfl) rfl ?_
          refine .nil ?_
          refine .cond rfl (fun hc => ?_) (fun hc => ?_)
          · replace H := ifT hc H; clear hc
            refine .seq ?_
            refine .region ?_
            refine .q (q_move rfl) rfl ?_
            refine .q (q_assign rfl) rfl ?_
            refine .nil ?_
            refine .retN [.tmp 4] [.d (cI y4.2.2)] Tryd.func46 Tryd.results46 ⟨rfl, trivial⟩ ?_
            cases H
            exact ⟨[0, 1], [], rfl, rfl, rfl, rfl, rfl, rfl, rfl, rfl, .rfl' _⟩
          · replace H := ifF hc H; clear hc
            refine .skip ?_
            refine .region ?_
            refine .q (q_move rfl) rfl ?_
            refine .q (q_move rfl) rfl ?_
            refine .q (q_move rfl) rfl ?_
            refine .q (q_nilRef rfl) rfl ?_
            refine .u (u_store rfl rfl rfl rfl (Nat.le_of_ble_eq_true rfl) sz_3) rfl ?_
            refine .withSt (st' := ⟨[.row 75 [.ref 1 0, .ref 1 1, .ref 1 2, .ref 1 3], .row 42 [.d (cI y1.1), .d (cI y2.1), .d (cI y3.1), .d (cI y4.1)]], []⟩) rfl ?_
            refine .q (q_assign rfl) rfl ?_
            refine .nil ?_
            refine .inBlock ?_
            refine .region ?_
            refine .q (q_addI rfl rfl (by decide) (by decide)) rfl ?_
            refine .q (q_move rfl) rfl ?_
            refine .nil ?_
            refine .inLoop ?_
            refine .seq ?_
            refine .region ?_
            refine .q (q_lss rfl rfl) rfl ?_
            refine .nil ?_
            refine .seq ?_
            refine .cond rfl (fun hc => absurd hc (by decide)) (fun hc => ?_)
            clear hc
            refine .exit rfl ?_
            exact .withSt (st' := ⟨[.row 75 [.ref 1 0, .ref 1 1, .ref 1 2, .ref 1 3], .row 42 [.d (cI y1.1), .d (cI y2.1), .d (cI y3.1), .d (cI y4.1)]], []⟩) rfl <| .sub (.cons rfl (.rfl' _) (.nil)) (hj1x (y4.2.1, y1.1, y2.1, y3.1, y4.1) H)

end Go.Proofs.YtccmaffefdcikaaDoor

set_option linter.unusedSimpArgs false
set_option linter.unusedVariables false
namespace Go.Proofs.YtccmaffefdcikaaDoor
open Go.RowKit Go.Abs
set_option maxRecDepth 100000 in
set_option maxHeartbeats 1000000 in
theorem c_f_batch_first {v0data : List UInt8} {r : Head × (List UInt8) × Int} (H : f_batch_first v0data = some r) : ACall Tryd.prog 27 [slOf 1 rB8 v0data] (· = .tup [.agg (Head.row r.1), slOf 1 rB8 r.2.1, cI r.2.2]) := by
  obtain ⟨i42, hi42, hz42, hs42, hb42⟩ := in_42
  obtain ⟨i75, hi75, hz75, hs75, hb75⟩ := in_75
  refine ACall.enter' Tryd.func27 rfl Tryd.ntmps27 rfl fun S hS => ?_
  unfold f_batch_first at H
  change ARun _ _ _ _ _ _ [(0, .d (slOf 1 rB8 v0data))] _
  refine .seq ?_
  refine .region ?_
  refine .v (x := .ref 0 0) (v_alloc zr_42 rfl) rfl ?_
  refine .withSt (st' := ⟨[.row 42 [.d (cI 0), .d (cI 0), .d (cI 0), .d (cI 0)]], []⟩) rfl ?_
  refine .q (q_assign rfl) rfl ?_
  refine .q (q_assign rfl) rfl ?_
  refine .nil ?_
  refine .seq ?_
  refine .region ?_
  refine .q (q_move rfl) rfl ?_
  obtain ⟨y1, hy1, H⟩ := bind_some' H
  refine .g (x := .d (.tup [slOf 1 rB8 y1.1, slOf 1 rB8 y1.2.1, cI y1.2.2])) (g_call en_45 rfl rfl (c_f_frame_Unwrap (hy1))) rfl ?_
  refine .q (q_move rfl) rfl ?_
  refine .q (q_extract rfl rfl) rfl ?_
  refine .q (q_extract rfl rfl) rfl ?_
  refine .q (q_extract rfl rfl) rfl ?_
  refine .q (q_assign rfl) rfl ?_
  refine .q (q_assign rfl) rfl ?_
  refine .q (q_assign rfl) rfl ?_
  refine .nil ?_
  refine .seq ?_
  refine .seq ?_
  refine .region ?_
  refine .q (q_move rfl) rfl ?_
  refine .q (q_neq rfl rfl) rfl ?_
  refine .nil ?_
  refine .cond rfl (fun hc => ?_) (fun hc => ?_)
  · replace H := ifT hc H; clear hc
    refine .seq ?_
    refine .region ?_
    refine .q (x := .d (.agg (Head.row (⟨0, 0, 0, 0⟩ : Head)))) (q_buildP pl_42 hi42 hz42 rfl rfl) rfl ?_
    refine .q (q_move rfl) rfl ?_
    refine .u (u_store rfl rfl rfl rfl (Nat.le_of_ble_eq_true rfl) sz_42) rfl ?_
    refine .withSt (st' := ⟨[.row 42 [.d (cI 0), .d (cI 0), .d (cI 0), .d (cI 0)]], []⟩) rfl ?_
    refine .q (q_assign rfl) rfl ?_
    refine .q (q_assign rfl) rfl ?_
    refine .nil ?_
    refine .retN [.cell 2 42, .tmp 3, .tmp 4] [.d (.agg (Head.row (⟨0, 0, 0, 0⟩ : Head))), .d (nilD), .d (cI y1.2.2)] Tryd.func27 Tryd.results27 ⟨⟨⟨_, _, rfl⟩, q_loadOA one_42 sz_42 rfl rfl (Nat.le_of_ble_eq_true rfl) rfl⟩, rfl, rfl, trivial⟩ ?_
    cases H
    exact ⟨_, EVle.tupL (ds := [.agg (Head.row (⟨0, 0, 0, 0⟩ : Head)), slOf 1 rB8 ([] : List UInt8), cI y1.2.2]) ⟨.rfl' _, .nil 1, .rfl' _, trivial⟩, rfl⟩
  · replace H := ifF hc H; clear hc
    refine .skip ?_
    refine .seq ?_
    refine .region ?_
    refine .v (x := .ref 1 0) (v_alloc zr_42 rfl) rfl ?_
    refine .withSt (st' := ⟨[.row 42 [.d (cI 0), .d (cI 0), .d (cI 0), .d (cI 0)], .row 42 [.d (cI 0), .d (cI 0), .d (cI 0), .d (cI 0)]], []⟩) rfl ?_
    refine .nil ?_
    refine .seq ?_
    refine .seq ?_
    refine .region ?_
    refine .q (q_move rfl) rfl ?_
    refine .q (q_fieldRef fo_42_0 rfl) rfl ?_
    refine .q (q_fieldRef fo_42_1 rfl) rfl ?_
    refine .q (q_fieldRef fo_42_2 rfl) rfl ?_
    refine .q (q_fieldRef fo_42_3 rfl) rfl ?_
    refine .v (x := .osl 2 0 4 4) (v_buildSliceR Tryd.underlying107 hi75 hs75 hz75 rfl rfl rfl rfl) rfl ?_
    refine .withSt (st' := ⟨[.row 42 [.d (cI 0), .d (cI 0), .d (cI 0), .d (cI 0)], .row 42 [.d (cI 0), .d (cI 0), .d (cI 0), .d (cI 0)], .row 75 [.ref 1 0, .ref 1 1, .ref 1 2, .ref 1 3]], []⟩) rfl ?_
    obtain ⟨y2, hy2, H⟩ := bind_some' H
    refine .callF en_46 rfl [2, 1] [] (x := .d (cI y2.1)) (st' := ⟨[.row 42 [.d (cI 0), .d (cI 0), .d (cI 0), .d (cI 0)], .row 42 [.d (cI y2.2.source), .d (cI y2.2.number), .d (cI y2.2.format), .d (cI y2.2.count)], .row 75 [.ref 1 0, .ref 1 1, .ref 1 2, .ref 1 3]], []⟩) rfl (c_g_batch_numbers (hy2)) ⟨.rfl' _, .rfl' _, trivial⟩ rfl rfl rfl rfl rfl rfl ?_
    refine .withSt (st' := ⟨[.row 42 [.d (cI 0), .d (cI 0), .d (cI 0), .d (cI 0)], .row 42 [.d (cI y2.2.source), .d (cI y2.2.number), .d (cI y2.2.format), .d (cI y2.2.count)], .row 75 [.ref 1 0, .ref 1 1, .ref 1 2, .ref 1 3]], []⟩) rfl ?_
    refine .q (q_assign rfl) rfl ?_
    refine .nil ?_
    refine .seq ?_
    refine .region ?_
    refine .q (q_move rfl) rfl ?_
    refine .q (q_neq rfl rfl) rfl ?_
    refine .nil ?_
    refine .cond rfl (fun hc => ?_) (fun hc => ?_)
    · replace H := ifT hc H; clear hc
      refine .seq ?_
      refine .region ?_
      refine .q (x := .d (.agg (Head.row (⟨0, 0, 0, 0⟩ : Head)))) (q_buildP pl_42 hi42 hz42 rfl rfl) rfl ?_
      refine .q (q_move rfl) rfl ?_
      refine .u (u_store rfl rfl rfl rfl (Nat.le_of_ble_eq_true rfl) sz_42) rfl ?_
      refine .withSt (st' := ⟨[.row 42 [.d (cI 0), .d (cI 0), .d (cI 0), .d (cI 0)], .row 42 [.d (cI y2.2.source), .d (cI y2.2.number), .d (cI y2.2.format), .d (cI y2.2.count)], .row 75 [.ref 1 0, .ref 1 1, .ref 1 2, .ref 1 3]], []⟩) rfl ?_
      refine .q (q_assign rfl) rfl ?_
      refine .q (q_assign rfl) rfl ?_
      refine .nil ?_
      refine .retN [.cell 2 42, .tmp 3, .tmp 4] [.d (.agg (Head.row (⟨0, 0, 0, 0⟩ : Head))), .d (nilD), .d (cI y2.1)] Tryd.func27 Tryd.results27 ⟨⟨⟨_, _, rfl⟩, q_loadOA one_42 sz_42 rfl rfl (Nat.le_of_ble_eq_true rfl) rfl⟩, rfl, rfl, trivial⟩ ?_
      cases H
      exact ⟨_, EVle.tupL (ds := [.agg (Head.row (⟨0, 0, 0, 0⟩ : Head)), slOf 1 rB8 ([] : List UInt8), cI y2.1]) ⟨.rfl' _, .nil 1, .rfl' _, trivial⟩, rfl⟩
    · replace H := ifF hc H; clear hc
      refine .skip ?_
      refine .seq ?_
      refine .seq ?_
      refine .region ?_
      refine .q (x := .d (.agg (Head.row y2.2))) (q_loadOA one_42 sz_42 rfl rfl (Nat.le_of_ble_eq_true rfl) rfl) rfl ?_
      obtain ⟨y3, hy3, H⟩ := bind_some' H
      refine .g (x := .d (cI y3)) (g_call en_23 rfl rfl (c_f_batch_checkHead (hy3))) rfl ?_
      refine .q (q_assign rfl) rfl ?_
      refine .nil ?_
      refine .seq ?_
      refine .region ?_
      refine .q (q_move rfl) rfl ?_
      refine .q (q_neq rfl rfl) rfl ?_
      refine .nil ?_
      refine .cond rfl (fun hc => ?_) (fun hc => ?_)
      · replace H := ifT hc H; clear hc
        refine .seq ?_
        refine .region ?_
        refine .q (x := .d (.agg (Head.row (⟨0, 0, 0, 0⟩ : Head)))) (q_buildP pl_42 hi42 hz42 rfl rfl) rfl ?_
        refine .q (q_move rfl) rfl ?_
        refine .u (u_store rfl rfl rfl rfl (Nat.le_of_ble_eq_true rfl) sz_42) rfl ?_
        refine .withSt (st' := ⟨[.row 42 [.d (cI 0), .d (cI 0), .d (cI 0), .d (cI 0)], .row 42 [.d (cI y2.2.source), .d (cI y2.2.number), .d (cI y2.2.format), .d (cI y2.2.count)], .row 75 [.ref 1 0, .ref 1 1, .ref 1 2, .ref 1 3]], []⟩) rfl ?_
        refine .q (q_assign rfl) rfl ?_
        refine .q (q_assign rfl) rfl ?_
        refine .nil ?_
        refine .retN [.cell 2 42, .tmp 3, .tmp 4] [.d (.agg (Head.row (⟨0, 0, 0, 0⟩ : Head))), .d (nilD), .d (cI y3)] Tryd.func27 Tryd.results27 ⟨⟨⟨_, _, rfl⟩, q_loadOA one_42 sz_42 rfl rfl (Nat.le_of_ble_eq_true rfl) rfl⟩, rfl, rfl, trivial⟩ ?_
        cases H
        exact ⟨_, EVle.tupL (ds := [.agg (Head.row (⟨0, 0, 0, 0⟩ : Head)), slOf 1 rB8 ([] : List UInt8), cI y3]) ⟨.rfl' _, .nil 1, .rfl' _, trivial⟩, rfl⟩
      · replace H := ifF hc H; clear hc
        refine .skip ?_
        refine .seq ?_
        refine .region ?_
        refine .q (x := .d (.agg (Head.row y2.2))) (q_loadOA one_42 sz_42 rfl rfl (Nat.le_of_ble_eq_true rfl) rfl) rfl ?_
        refine .q (q_move rfl) rfl ?_
        refine .u (u_store rfl rfl rfl rfl (Nat.le_of_ble_eq_true rfl) sz_42) rfl ?_
        refine .withSt (st' := ⟨[.row 42 [.d (cI y2.2.source), .d (cI y2.2.number), .d (cI y2.2.format), .d (cI y2.2.count)], .row 42 [.d (cI y2.2.source), .d (cI y2.2.number), .d (cI y2.2.format), .d (cI y2.2.count)], .row 75 [.ref 1 0, .ref 1 1, .ref 1 2, .ref 1 3]], []⟩) rfl ?_
        refine .q (q_assign rfl) rfl ?_
        refine .q (q_assign rfl) rfl ?_
        refine .nil ?_
        refine .retN [.cell 2 42, .tmp 3, .tmp 4] [.d (.agg (Head.row y2.2)), .d (slOf 1 rB8 y1.2.1), .d (cI 0)] Tryd.func27 Tryd.results27 ⟨⟨⟨_, _, rfl⟩, q_loadOA one_42 sz_42 rfl rfl (Nat.le_of_ble_eq_true rfl) rfl⟩, rfl, rfl, trivial⟩ ?_
        cases H
        exact ⟨_, EVle.tupL (ds := [.agg (Head.row y2.2), slOf 1 rB8 y1.2.1, cI 0]) ⟨.rfl' _, .rfl' _, .rfl' _, trivial⟩, rfl⟩

set_option maxRecDepth 100000 in
set_option maxHeartbeats 1000000 in
theorem c_f_batch_Head {v0data : List UInt8} {r : Head × Int} (H : f_batch_Head v0data = some r) : ACall Tryd.prog 14 [slOf 1 rB8 v0data] (· = .tup [.agg (Head.row r.1), cI r.2]) := by
  refine ACall.enter' Tryd.func14 rfl Tryd.ntmps14 rfl fun S hS => ?_
  unfold f_batch_Head at H
  change ARun _ _ _ _ _ _ [(0, .d (slOf 1 rB8 v0data))] _
  refine .seq ?_
  refine .region ?_
  refine .v (x := .ref 0 0) (v_alloc zr_42 rfl) rfl ?_
  refine .withSt (st' := ⟨[.row 42 [.d (cI 0), .d (cI 0), .d (cI 0), .d (cI 0)]], []⟩) rfl ?_
  refine .q (q_assign rfl) rfl ?_
  refine .nil ?_
  refine .seq ?_
  refine .region ?_
  refine .q (q_move rfl) rfl ?_
  obtain ⟨y1, hy1, H⟩ := bind_some' H
  refine .g (x := .d (.tup [.agg (Head.row y1.1), slOf 1 rB8 y1.2.1, cI y1.2.2])) (g_call en_27 rfl rfl (c_f_batch_first (hy1))) rfl ?_
  refine .q (q_move rfl) rfl ?_
  refine .q (q_extract rfl rfl) rfl ?_
  refine .q (q_extract rfl rfl) rfl ?_
  refine .q (q_extract rfl rfl) rfl ?_
  refine .v (x := .ref 1 0) (v_alloc zr_42 rfl) rfl ?_
  refine .withSt (st' := ⟨[.row 42 [.d (cI 0), .d (cI 0), .d (cI 0), .d (cI 0)], .row 42 [.d (cI 0), .d (cI 0), .d (cI 0), .d (cI 0)]], []⟩) rfl ?_
  refine .u (u_store rfl rfl rfl rfl (Nat.le_of_ble_eq_true rfl) sz_42) rfl ?_
  refine .withSt (st' := ⟨[.row 42 [.d (cI 0), .d (cI 0), .d (cI 0), .d (cI 0)], .row 42 [.d (cI y1.1.source), .d (cI y1.1.number), .d (cI y1.1.format), .d (cI y1.1.count)]], []⟩) rfl ?_
  refine .q (q_assign rfl) rfl ?_
  refine .q (q_assign rfl) rfl ?_
  refine .nil ?_
  refine .seq ?_
  refine .region ?_
  refine .q (x := .d (.agg (Head.row y1.1))) (q_loadOA one_42 sz_42 rfl rfl (Nat.le_of_ble_eq_true rfl) rfl) rfl ?_
  refine .q (q_move rfl) rfl ?_
  refine .u (u_store rfl rfl rfl rfl (Nat.le_of_ble_eq_true rfl) sz_42) rfl ?_
  refine .withSt (st' := ⟨[.row 42 [.d (cI y1.1.source), .d (cI y1.1.number), .d (cI y1.1.format), .d (cI y1.1.count)], .row 42 [.d (cI y1.1.source), .d (cI y1.1.number), .d (cI y1.1.format), .d (cI y1.1.count)]], []⟩) rfl ?_
  refine .q (q_assign rfl) rfl ?_
  refine .nil ?_
  refine .retN [.cell 2 42, .tmp 3] [.d (.agg (Head.row y1.1)), .d (cI y1.2.2)] Tryd.func14 Tryd.results14 ⟨⟨⟨_, _, rfl⟩, q_loadOA one_42 sz_42 rfl rfl (Nat.le_of_ble_eq_true rfl) rfl⟩, rfl, trivial⟩ ?_
  cases H
  exact ⟨_, EVle.tupL (ds := [.agg (Head.row y1.1), cI y1.2.2]) ⟨.rfl' _, .rfl' _, trivial⟩, rfl⟩

set_option maxRecDepth 100000 in
set_option maxHeartbeats 1000000 in
theorem c_f_billinglaw12_awake {r : Bool} (H : f_billinglaw12_awake = some r) : ACall Tryd.prog 7 [] (· = cB r) := by
  obtain ⟨i3, hi3, hz3, hs3, hb3⟩ := in_3
  obtain ⟨i31, hi31, hz31, hs31, hb31⟩ := in_31
  obtain ⟨i39, hi39, hz39, hs39, hb39⟩ := in_39
  obtain ⟨i42, hi42, hz42, hs42, hb42⟩ := in_42
  refine ACall.enter' Tryd.func7 rfl Tryd.ntmps7 rfl fun S hS => ?_
  unfold f_billinglaw12_awake at H
  change ARun _ _ _ _ _ _ [] _
  refine .seq ?_
  refine .region ?_
  refine .q (q_assign rfl) rfl ?_
  refine .nil ?_
  refine .seq ?_
  refine .region ?_
  refine .q (x := .d (.agg (Record.row (⟨6, 1, 1, ([49] : List UInt8), ([50] : List UInt8), 0, 90, 0, 0, false, 0, false⟩ : Record)))) (q_buildP pl_39 hi39 hz39 rfl rfl) rfl ?_
  refine .v (x := .ref 0 0) (v_alloc zr_39 rfl) rfl ?_
  refine .withSt (st' := ⟨[.row 39 [.d (cI 0), .d (cI 0), .d (cI 0), .d (cS ([] : List UInt8)), .d (cS ([] : List UInt8)), .d (cI 0), .d (cI 0), .d (cI 0), .d (cI 0), .d (cB false), .d (cI 0), .d (cB false)]], []⟩) rfl ?_
  refine .u (u_store rfl rfl rfl rfl (Nat.le_of_ble_eq_true rfl) sz_39) rfl ?_
  refine .withSt (st' := ⟨[.row 39 [.d (cI 6), .d (cI 1), .d (cI 1), .d (cS ([49] : List UInt8)), .d (cS ([50] : List UInt8)), .d (cI 0), .d (cI 90), .d (cI 0), .d (cI 0), .d (cB false), .d (cI 0), .d (cB false)]], []⟩) rfl ?_
  refine .nil ?_
  refine .seq ?_
  refine .region ?_
  refine .q (x := .d (.agg (Record.row (⟨6, 1, 1, ([49] : List UInt8), ([50] : List UInt8), 0, 90, 0, 0, false, 0, false⟩ : Record)))) (q_loadOA one_39 sz_39 rfl rfl (Nat.le_of_ble_eq_true rfl) rfl) rfl ?_
  refine .q (x := .d (.agg (Record.row (⟨0, 0, 2, ([] : List UInt8), ([] : List UInt8), 0, 1, 0, 0, false, 0, false⟩ : Record)))) (q_buildP pl_39 hi39 hz39 rfl rfl) rfl ?_
  refine .g (x := .d (slOf 12 Record.row ([(⟨6, 1, 1, ([49] : List UInt8), ([50] : List UInt8), 0, 90, 0, 0, false, 0, false⟩ : Record), (⟨0, 0, 2, ([] : List UInt8), ([] : List UInt8), 0, 1, 0, 0, false, 0, false⟩ : Record)] : List Record))) (g_buildSliceN (n := 2) (rows := ([(⟨6, 1, 1, ([49] : List UInt8), ([50] : List UInt8), 0, 90, 0, 0, false, 0, false⟩ : Record), (⟨0, 0, 2, ([] : List UInt8), ([] : List UInt8), 0, 1, 0, 0, false, 0, false⟩ : Record)] : List Record).map Record.row) Tryd.underlying22 hi39 hs39 hz39 rfl rfl rfl rfl rfl) rfl ?_
  obtain ⟨y1, hy1, H⟩ := bind_some' H
  refine .g (x := .d (.agg (Totals.row y1))) (g_call en_8 rfl rfl (c_f_batch_Totals (hy1))) rfl ?_
  refine .v (x := .ref 1 0) (v_alloc zr_27 rfl) rfl ?_
  refine .withSt (st' := ⟨[.row 39 [.d (cI 6), .d (cI 1), .d (cI 1), .d (cS ([49] : List UInt8)), .d (cS ([50] : List UInt8)), .d (cI 0), .d (cI 90), .d (cI 0), .d (cI 0), .d (cB false), .d (cI 0), .d (cB false)], .row 27 [.d (cI 0), .d (cI 0), .d (cI 0), .d (cI 0), .d (cI 0), .d (cI 0)]], []⟩) rfl ?_
  refine .u (u_store rfl rfl rfl rfl (Nat.le_of_ble_eq_true rfl) sz_27) rfl ?_
  refine .withSt (st' := ⟨[.row 39 [.d (cI 6), .d (cI 1), .d (cI 1), .d (cS ([49] : List UInt8)), .d (cS ([50] : List UInt8)), .d (cI 0), .d (cI 90), .d (cI 0), .d (cI 0), .d (cB false), .d (cI 0), .d (cB false)], .row 27 [.d (cI y1.count), .d (cI (nth y1.units 0)), .d (cI (nth y1.units 1)), .d (cI (nth y1.units 2)), .d (cI (nth y1.units 3)), .d (cI (nth y1.units 4))]], []⟩) rfl ?_
  refine .nil ?_
  refine .seq ?_
  refine .region ?_
  refine .q (x := .d (.agg (Batch.row (⟨1, 1, 1, ([] : List Record)⟩ : Batch)))) (OpQ.le (q_buildP pl_31 hi31 hz31 rfl rfl) (EVle.d (.agg ⟨.rfl' _, .rfl' _, .rfl' _, .nil 12, trivial⟩))) rfl ?_
  obtain ⟨y2, hy2, H⟩ := bind_some' H
  refine .g (x := .d (.tup [slOf 1 rB8 y2.1, cI y2.2])) (g_call en_10 rfl rfl (c_f_batch_Write (hy2))) rfl ?_
  refine .q (q_move rfl) rfl ?_
  refine .q (q_extract rfl rfl) rfl ?_
  refine .q (q_extract rfl rfl) rfl ?_
  refine .q (q_assign rfl) rfl ?_
  refine .q (q_assign rfl) rfl ?_
  refine .nil ?_
  refine .seq ?_
  refine .region ?_
  refine .q (q_move rfl) rfl ?_
  obtain ⟨y3, hy3, H⟩ := bind_some' H
  refine .g (x := .d (.tup [.agg (Head.row y3.1), cI y3.2])) (g_call en_14 rfl rfl (c_f_batch_Head (hy3))) rfl ?_
  refine .q (q_move rfl) rfl ?_
  refine .q (q_extract rfl rfl) rfl ?_
  refine .q (q_extract rfl rfl) rfl ?_
  refine .v (x := .ref 2 0) (v_alloc zr_42 rfl) rfl ?_
  refine .withSt (st' := ⟨[.row 39 [.d (cI 6), .d (cI 1), .d (cI 1), .d (cS ([49] : List UInt8)), .d (cS ([50] : List UInt8)), .d (cI 0), .d (cI 90), .d (cI 0), .d (cI 0), .d (cB false), .d (cI 0), .d (cB false)], .row 27 [.d (cI y1.count), .d (cI (nth y1.units 0)), .d (cI (nth y1.units 1)), .d (cI (nth y1.units 2)), .d (cI (nth y1.units 3)), .d (cI (nth y1.units 4))], .row 42 [.d (cI 0), .d (cI 0), .d (cI 0), .d (cI 0)]], []⟩) rfl ?_
  refine .u (u_store rfl rfl rfl rfl (Nat.le_of_ble_eq_true rfl) sz_42) rfl ?_
  refine .withSt (st' := ⟨[.row 39 [.d (cI 6), .d (cI 1), .d (cI 1), .d (cS ([49] : List UInt8)), .d (cS ([50] : List UInt8)), .d (cI 0), .d (cI 90), .d (cI 0), .d (cI 0), .d (cB false), .d (cI 0), .d (cB false)], .row 27 [.d (cI y1.count), .d (cI (nth y1.units 0)), .d (cI (nth y1.units 1)), .d (cI (nth y1.units 2)), .d (cI (nth y1.units 3)), .d (cI (nth y1.units 4))], .row 42 [.d (cI y3.1.source), .d (cI y3.1.number), .d (cI y3.1.format), .d (cI y3.1.count)]], []⟩) rfl ?_
  refine .q (q_assign rfl) rfl ?_
  refine .nil ?_
  refine .seq ?_
  refine .region ?_
  refine .q (q_fieldRef fo_27_0 rfl) rfl ?_
  refine .q (x := .d (cI y1.count)) (q_loadO one_3 rfl rfl rfl) rfl ?_
  refine .q (q_eql rfl rfl) rfl ?_
  refine .q (q_move rfl) rfl ?_
  refine .guardG (env' := [(2, _)]) rfl rfl rfl ⟨.inl rfl, trivial⟩ rfl (fun hg => OpQ.g (q_fieldRef fo_27_1 rfl)) ?_
  refine .guardG (b := (y1.count == 2)) (x := .ref 1 2) (env' := [(26, _)]) rfl rfl rfl ⟨.inr (.inl rfl), trivial⟩ rfl (fun hg => OpQ.g (q_idxArr (m := 1) (sz := 1) Tryd.underlying25 ⟨_, hi3, hs3⟩ rfl rfl rfl (by decide))) ?_
  refine .guardG (b := (y1.count == 2)) (x := .d (cI (nth y1.units 1))) (env' := [(27, _)]) rfl rfl rfl ⟨.inr (.inl rfl), trivial⟩ rfl (fun hg => OpQ.g (q_loadO one_3 rfl rfl rfl)) ?_
  refine .guardG (env' := [(28, _)]) rfl rfl rfl ⟨.inr (.inl rfl), trivial⟩ rfl (fun hg => OpQ.g (q_eql rfl rfl)) ?_
  refine .q (q_pickAndB rfl rfl rfl) rfl ?_
  refine .q (q_move rfl) rfl ?_
  refine .guardG (env' := [(2, _)]) rfl rfl rfl ⟨.inl rfl, trivial⟩ rfl (fun hg => OpQ.g (q_fieldRef fo_27_1 rfl)) ?_
  refine .guardG (b := ((y1.count == 2) && ((nth y1.units 1) == 90))) (x := .ref 1 3) (env' := [(32, _)]) rfl rfl rfl ⟨.inr (.inl rfl), trivial⟩ rfl (fun hg => OpQ.g (q_idxArr (m := 2) (sz := 1) Tryd.underlying25 ⟨_, hi3, hs3⟩ rfl rfl rfl (by decide))) ?_
  refine .guardG (b := ((y1.count == 2) && ((nth y1.units 1) == 90))) (x := .d (cI (nth y1.units 2))) (env' := [(33, _)]) rfl rfl rfl ⟨.inr (.inl rfl), trivial⟩ rfl (fun hg => OpQ.g (q_loadO one_3 rfl rfl rfl)) ?_
  refine .guardG (env' := [(34, _)]) rfl rfl rfl ⟨.inr (.inl rfl), trivial⟩ rfl (fun hg => OpQ.g (q_eql rfl rfl)) ?_
  refine .q (q_pickAndB rfl rfl rfl) rfl ?_
  refine .q (q_move rfl) rfl ?_
  refine .guardG (env' := [(4, _)]) rfl rfl rfl ⟨.inl rfl, trivial⟩ rfl (fun hg => OpQ.g (q_move rfl)) ?_
  refine .guardG (env' := [(38, _)]) rfl rfl rfl ⟨.inr (.inl rfl), trivial⟩ rfl (fun hg => OpQ.g (q_eql rfl rfl)) ?_
  refine .q (q_pickAndB rfl rfl rfl) rfl ?_
  refine .q (q_move rfl) rfl ?_
  refine .guardG (env' := [(3, _)]) rfl rfl rfl ⟨.inl rfl, trivial⟩ rfl (fun hg => OpQ.g (q_move rfl)) ?_
  refine .guardG (env' := [(42, _)]) rfl rfl rfl ⟨.inr (.inl rfl), trivial⟩ rfl (fun hg => OpQ.g (q_lenL (l := y2.1) (row := rB8) Tryd.underlying32 rfl rfl)) ?_
  refine .guardG (env' := [(43, _)]) rfl rfl rfl ⟨.inr (.inl rfl), trivial⟩ rfl (fun hg => OpQ.g (q_eql rfl rfl)) ?_
  refine .q (q_pickAndB rfl rfl rfl) rfl ?_
  refine .q (q_move rfl) rfl ?_
  refine .guardG (env' := [(6, _)]) rfl rfl rfl ⟨.inl rfl, trivial⟩ rfl (fun hg => OpQ.g (q_move rfl)) ?_
  refine .guardG (env' := [(47, _)]) rfl rfl rfl ⟨.inr (.inl rfl), trivial⟩ rfl (fun hg => OpQ.g (q_eql rfl rfl)) ?_
  refine .q (q_pickAndB rfl rfl rfl) rfl ?_
  refine .q (q_move rfl) rfl ?_
  refine .guardG (b := ((((((y1.count == 2) && ((nth y1.units 1) == 90)) && ((nth y1.units 2) == 1)) && (y2.2 == 0)) && ((y2.1.length : Int) == 24)) && (y3.2 == 0))) (x := .d (.agg (Head.row y3.1))) (env' := [(5, _)]) rfl rfl rfl ⟨.inl rfl, trivial⟩ rfl (fun hg => OpQ.g (q_loadOA one_42 sz_42 rfl rfl (Nat.le_of_ble_eq_true rfl) rfl)) ?_
  refine .guardG (b := ((((((y1.count == 2) && ((nth y1.units 1) == 90)) && ((nth y1.units 2) == 1)) && (y2.2 == 0)) && ((y2.1.length : Int) == 24)) && (y3.2 == 0))) (x := .d (.agg (Head.row (⟨1, 1, 1, 0⟩ : Head)))) (env' := []) rfl rfl rfl trivial rfl (fun hg => OpQ.g (q_buildP pl_42 hi42 hz42 rfl rfl)) ?_
  refine .guardG (b := ((((((y1.count == 2) && ((nth y1.units 1) == 90)) && ((nth y1.units 2) == 1)) && (y2.2 == 0)) && ((y2.1.length : Int) == 24)) && (y3.2 == 0))) (x := .d (cB (eqVs (Head.vals y3.1) (Head.vals (⟨1, 1, 1, 0⟩ : Head))))) (env' := [(51, _), (52, _)]) rfl rfl rfl ⟨.inr (.inl rfl), ⟨.inr (.inl rfl), trivial⟩⟩ rfl (fun hg => OpQ.g (q_steql fk_42 rfl rfl (xs := Head.vals y3.1) (ys := Head.vals (⟨1, 1, 1, 0⟩ : Head)) rfl rfl rfl rfl)) ?_
  refine .q (q_pickAndB rfl rfl rfl) rfl ?_
  refine .q (q_move rfl) rfl ?_
  refine .guardG (b := (((((((y1.count == 2) && ((nth y1.units 1) == 90)) && ((nth y1.units 2) == 1)) && (y2.2 == 0)) && ((y2.1.length : Int) == 24)) && (y3.2 == 0)) && (eqVs (Head.vals y3.1) (Head.vals (⟨1, 1, 1, 0⟩ : Head))))) (x := .d (.agg (Record.row (⟨6, 1, 1, ([49] : List UInt8), ([50] : List UInt8), 0, 90, 0, 0, false, 0, false⟩ : Record)))) (env' := [(1, _)]) rfl rfl rfl ⟨.inl rfl, trivial⟩ rfl (fun hg => OpQ.g (q_loadOA one_39 sz_39 rfl rfl (Nat.le_of_ble_eq_true rfl) rfl)) ?_
  refine .guardG (b := (((((((y1.count == 2) && ((nth y1.units 1) == 90)) && ((nth y1.units 2) == 1)) && (y2.2 == 0)) && ((y2.1.length : Int) == 24)) && (y3.2 == 0)) && (eqVs (Head.vals y3.1) (Head.vals (⟨1, 1, 1, 0⟩ : Head))))) (x := .d (slOf 12 Record.row ([(⟨6, 1, 1, ([49] : List UInt8), ([50] : List UInt8), 0, 90, 0, 0, false, 0, false⟩ : Record)] : List Record))) (env' := [(56, _)]) rfl rfl rfl ⟨.inr (.inl rfl), trivial⟩ rfl (fun hg => (g_buildSlice1 Tryd.underlying22 hi39 hs39 hz39 rfl rfl rfl rfl rfl)) ?_
  refine .guardG (b := (((((((y1.count == 2) && ((nth y1.units 1) == 90)) && ((nth y1.units 2) == 1)) && (y2.2 == 0)) && ((y2.1.length : Int) == 24)) && (y3.2 == 0)) && (eqVs (Head.vals y3.1) (Head.vals (⟨1, 1, 1, 0⟩ : Head))))) (x := .d (.agg (Batch.row (⟨5, 1, 1, ([(⟨6, 1, 1, ([49] : List UInt8), ([50] : List UInt8), 0, 90, 0, 0, false, 0, false⟩ : Record)] : List Record)⟩ : Batch)))) (env' := [(57, _)]) rfl rfl rfl ⟨.inr (.inl rfl), trivial⟩ rfl (fun hg => OpQ.g (q_buildP pl_31 hi31 hz31 rfl rfl)) ?_
  obtain ⟨y4, hy4, H⟩ := bind_some' H
  refine .guardG (b := (((((((y1.count == 2) && ((nth y1.units 1) == 90)) && ((nth y1.units 2) == 1)) && (y2.2 == 0)) && ((y2.1.length : Int) == 24)) && (y3.2 == 0)) && (eqVs (Head.vals y3.1) (Head.vals (⟨1, 1, 1, 0⟩ : Head))))) (x := .d (cI y4)) (env' := [(58, _)]) rfl rfl rfl ⟨.inr (.inl rfl), trivial⟩ rfl (fun hg => (g_call en_12 rfl rfl (c_f_batch_Check (gcall_some hy4 hg)))) ?_
  refine .guardG (env' := [(59, _)]) rfl rfl rfl ⟨.inr (.inl rfl), trivial⟩ rfl (fun hg => OpQ.g (q_eql rfl rfl)) ?_
  refine .q (q_pickAndB rfl rfl rfl) rfl ?_
  refine .q (q_assign rfl) rfl ?_
  refine .nil ?_
  refine .retN [.tmp 0] [.d (cB ((((((((y1.count == 2) && ((nth y1.units 1) == 90)) && ((nth y1.units 2) == 1)) && (y2.2 == 0)) && ((y2.1.length : Int) == 24)) && (y3.2 == 0)) && (eqVs (Head.vals y3.1) (Head.vals (⟨1, 1, 1, 0⟩ : Head)))) && (y4 == 8)))] Tryd.func7 Tryd.results7 ⟨rfl, trivial⟩ ?_
  cases H
  exact ⟨_, .rfl' _, rfl⟩

set_option maxRecDepth 100000 in
set_option maxHeartbeats 1000000 in
theorem c_f_billingref12_Totals {v0records : List Record} {r : Totals} (H : f_billingref12_Totals v0records = some r) : ACall Tryd.prog 9 [slOf 12 Record.row v0records] (· = .agg (Totals.row r)) := by
  obtain ⟨i3, hi3, hz3, hs3, hb3⟩ := in_3
  obtain ⟨i27, hi27, hz27, hs27, hb27⟩ := in_27
  obtain ⟨i39, hi39, hz39, hs39, hb39⟩ := in_39
  refine ACall.enter' Tryd.func9 rfl Tryd.ntmps9 rfl fun S hS => ?_
  unfold f_billingref12_Totals at H
  change ARun _ _ _ _ _ _ [(0, .d (slOf 12 Record.row v0records))] _
  refine .seq ?_
  refine .region ?_
  refine .v (x := .ref 0 0) (v_alloc zr_27 rfl) rfl ?_
  refine .withSt (st' := ⟨[.row 27 [.d (cI 0), .d (cI 0), .d (cI 0), .d (cI 0), .d (cI 0), .d (cI 0)]], []⟩) rfl ?_
  refine .nil ?_
  refine .seq ?_
  refine .region ?_
  refine .q (q_move rfl) rfl ?_
  refine .q (q_lenL (l := v0records) (row := Record.row) Tryd.underlying22 rfl rfl) rfl ?_
  refine .q (x := .d (.agg (Totals.row (⟨(v0records.length : Int), ([0, 0, 0, 0, 0] : List Int)⟩ : Totals)))) (q_buildP pl_27 hi27 hz27 rfl rfl) rfl ?_
  refine .v (x := .ref 1 0) (v_alloc zr_27 rfl) rfl ?_
  refine .withSt (st' := ⟨[.row 27 [.d (cI 0), .d (cI 0), .d (cI 0), .d (cI 0), .d (cI 0), .d (cI 0)], .row 27 [.d (cI 0), .d (cI 0), .d (cI 0), .d (cI 0), .d (cI 0), .d (cI 0)]], []⟩) rfl ?_
  refine .u (u_store rfl rfl rfl rfl (Nat.le_of_ble_eq_true rfl) sz_27) rfl ?_
  refine .withSt (st' := ⟨[.row 27 [.d (cI 0), .d (cI 0), .d (cI 0), .d (cI 0), .d (cI 0), .d (cI 0)], .row 27 [.d (cI (v0records.length : Int)), .d (cI 0), .d (cI 0), .d (cI 0), .d (cI 0), .d (cI 0)]], []⟩) rfl ?_
  refine .nil ?_
  refine .seq ?_
  refine .seq ?_
  refine .region ?_
  refine .q (q_assign rfl) rfl ?_
  refine .nil ?_
  refine .block ?_
  obtain ⟨n1, H⟩ := loop_some H
  refine .withSt (st' := ⟨[.row 27 [.d (cI 0), .d (cI 0), .d (cI 0), .d (cI 0), .d (cI 0), .d (cI 0)], .row 27 [.d (cI (v0records.length : Int)), .d (cI 0), .d (cI 0), .d (cI 0), .d (cI 0), .d (cI 0)]], []⟩) rfl <| .loop (ι := Nat × (Int × Int × Int × Int × Int × Int)) (fun p => [(0, .d (slOf 12 Record.row v0records)), (2, .ref 0 0), (3, .ref 1 0), (4, .d (cI p.2.1))]) (fun p => ⟨[.row 27 [.d (cI 0), .d (cI 0), .d (cI 0), .d (cI 0), .d (cI 0), .d (cI 0)], .row 27 [.d (cI (v0records.length : Int)), .d (cI p.2.2.1), .d (cI p.2.2.2.1), .d (cI p.2.2.2.2.1), .d (cI p.2.2.2.2.2.1), .d (cI p.2.2.2.2.2.2)]], []⟩) (fun p => iter (fun s => f_billingref12_Totals_l1 v0records s.1 s.2.1 s.2.2.1 s.2.2.2.1 s.2.2.2.2.1 s.2.2.2.2.2) p.1 p.2 = some r) (·.1) (n1, (0, 0, 0, 0, 0, 0)) H (.cons rfl (.rfl' _) (.cons rfl (.rfl' _) (.cons rfl (.rfl' _) (.cons rfl (.rfl' _) (.nil))))) rfl ?_
  rintro ⟨m1, v4il1, o1c1l1, o1c2l1, o1c3l1, o1c4l1, o1c5l1⟩ HI ih1
  obtain ⟨n1, q1, hm1, H, HK1⟩ := iter_succ HI
  clear HI
  replace H : f_billingref12_Totals_l1 v0records v4il1 o1c1l1 o1c2l1 o1c3l1 o1c4l1 o1c5l1 = some q1 := H
  unfold f_billingref12_Totals_l1 at H
  change ARun _ _ _ _ _ _ [(0, .d (slOf 12 Record.row v0records)), (2, .ref 0 0), (3, .ref 1 0), (4, .d (cI v4il1))] ⟨[.row 27 [.d (cI 0), .d (cI 0), .d (cI 0), .d (cI 0), .d (cI 0), .d (cI 0)], .row 27 [.d (cI (v0records.length : Int)), .d (cI o1c1l1), .d (cI o1c2l1), .d (cI o1c3l1), .d (cI o1c4l1), .d (cI o1c5l1)]], []⟩
  refine .seq ?_
  refine .seq ?_
  refine .region ?_
  refine .q (q_move rfl) rfl ?_
  refine .q (q_move rfl) rfl ?_
  refine .q (q_lenL (l := v0records) (row := Record.row) Tryd.underlying22 rfl rfl) rfl ?_
  refine .q (q_lss rfl rfl) rfl ?_
  refine .nil ?_
  refine .cond rfl (fun hc => ?_) (fun hc => ?_)
  · replace H := ifT hc H; clear hc
    refine .skip ?_
    refine .seq ?_
    refine .block ?_
    refine .seq ?_
    refine .region ?_
    refine .q (q_move rfl) rfl ?_
    refine .q (q_move rfl) rfl ?_
    obtain ⟨hk1, H⟩ := ck_some H
    refine .q (x := .d (.ro (Record.row (nth v0records (Int.toNat (v4il1)))))) (q_idxL (row := Record.row) (l := v0records) (i := v4il1) Tryd.underlying22 hi39 hs39 rfl rfl rfl hk1) rfl ?_
    refine .q (x := .d (.agg (Record.row (nth v0records (Int.toNat (v4il1)))))) (q_loadAll one_39 sz_39 rfl rfl) rfl ?_
    refine .v (x := .ref 2 0) (v_alloc zr_39 rfl) rfl ?_
    refine .withSt (st' := ⟨[.row 27 [.d (cI 0), .d (cI 0), .d (cI 0), .d (cI 0), .d (cI 0), .d (cI 0)], .row 27 [.d (cI (v0records.length : Int)), .d (cI o1c1l1), .d (cI o1c2l1), .d (cI o1c3l1), .d (cI o1c4l1), .d (cI o1c5l1)], .row 39 [.d (cI 0), .d (cI 0), .d (cI 0), .d (cS ([] : List UInt8)), .d (cS ([] : List UInt8)), .d (cI 0), .d (cI 0), .d (cI 0), .d (cI 0), .d (cB false), .d (cI 0), .d (cB false)]], []⟩) rfl ?_
    refine .u (u_store rfl rfl rfl rfl (Nat.le_of_ble_eq_true rfl) sz_39) rfl ?_
    refine .withSt (st' := ⟨[.row 27 [.d (cI 0), .d (cI 0), .d (cI 0), .d (cI 0), .d (cI 0), .d (cI 0)], .row 27 [.d (cI (v0records.length : Int)), .d (cI o1c1l1), .d (cI o1c2l1), .d (cI o1c3l1), .d (cI o1c4l1), .d (cI o1c5l1)], .row 39 [.d (cI ((nth v0records (Int.toNat (v4il1))).source)), .d (cI ((nth v0records (Int.toNat (v4il1))).serial)), .d (cI ((nth v0records (Int.toNat (v4il1))).kind)), .d (cS ((nth v0records (Int.toNat (v4il1))).a)), .d (cS ((nth v0records (Int.toNat (v4il1))).b)), .d (cI ((nth v0records (Int.toNat (v4il1))).start)), .d (cI ((nth v0records (Int.toNat (v4il1))).units)), .d (cI ((nth v0records (Int.toNat (v4il1))).call)), .d (cI ((nth v0records (Int.toNat (v4il1))).part)), .d (cB ((nth v0records (Int.toNat (v4il1))).last)), .d (cI ((nth v0records (Int.toNat (v4il1))).trunk)), .d (cB ((nth v0records (Int.toNat (v4il1))).inbound))]], []⟩) rfl ?_
    refine .nil ?_
    refine .seq ?_
    refine .region ?_
    refine .q (q_fieldRef fo_39_2 rfl) rfl ?_
    refine .q (x := .d (cI ((nth v0records (Int.toNat (v4il1))).kind))) (q_loadO one_3 rfl rfl rfl) rfl ?_
    refine .q (q_geq rfl rfl) rfl ?_
    refine .q (q_move rfl) rfl ?_
    refine .guardG (env' := [(5, _)]) rfl rfl rfl ⟨.inl rfl, trivial⟩ rfl (fun hg => OpQ.g (q_fieldRef fo_39_2 rfl)) ?_
    refine .guardG (b := decide (((nth v0records (Int.toNat (v4il1))).kind) ≥ 1)) (x := .d (cI ((nth v0records (Int.toNat (v4il1))).kind))) (env' := [(23, _)]) rfl rfl rfl ⟨.inr (.inl rfl), trivial⟩ rfl (fun hg => OpQ.g (q_loadO one_3 rfl rfl rfl)) ?_
    refine .guardG (env' := [(24, _)]) rfl rfl rfl ⟨.inr (.inl rfl), trivial⟩ rfl (fun hg => OpQ.g (q_lss rfl rfl)) ?_
    refine .q (q_pickAndB rfl rfl rfl) rfl ?_
    refine .q (q_move rfl) rfl ?_
    refine .guardG (env' := [(5, _)]) rfl rfl rfl ⟨.inl rfl, trivial⟩ rfl (fun hg => OpQ.g (q_fieldRef fo_39_6 rfl)) ?_
    refine .guardG (b := ((decide (((nth v0records (Int.toNat (v4il1))).kind) ≥ 1)) && (decide (((nth v0records (Int.toNat (v4il1))).kind) < 5)))) (x := .d (cI ((nth v0records (Int.toNat (v4il1))).units))) (env' := [(28, _)]) rfl rfl rfl ⟨.inr (.inl rfl), trivial⟩ rfl (fun hg => OpQ.g (q_loadO one_3 rfl rfl rfl)) ?_
    refine .guardG (env' := [(29, _)]) rfl rfl rfl ⟨.inr (.inl rfl), trivial⟩ rfl (fun hg => OpQ.g (q_geq rfl rfl)) ?_
    refine .q (q_pickAndB rfl rfl rfl) rfl ?_
    refine .q (q_move rfl) rfl ?_
    refine .guardG (env' := [(5, _)]) rfl rfl rfl ⟨.inl rfl, trivial⟩ rfl (fun hg => OpQ.g (q_fieldRef fo_39_6 rfl)) ?_
    refine .guardG (b := (((decide (((nth v0records (Int.toNat (v4il1))).kind) ≥ 1)) && (decide (((nth v0records (Int.toNat (v4il1))).kind) < 5))) && (decide (((nth v0records (Int.toNat (v4il1))).units) ≥ 0)))) (x := .d (cI ((nth v0records (Int.toNat (v4il1))).units))) (env' := [(33, _)]) rfl rfl rfl ⟨.inr (.inl rfl), trivial⟩ rfl (fun hg => OpQ.g (q_loadO one_3 rfl rfl rfl)) ?_
    refine .guardG (env' := [(34, _)]) rfl rfl rfl ⟨.inr (.inl rfl), trivial⟩ rfl (fun hg => OpQ.g (q_leq rfl rfl)) ?_
    refine .q (q_pickAndB rfl rfl rfl) rfl ?_
    refine .nil ?_
    refine .cond rfl (fun hc => ?_) (fun hc => ?_)
    · replace H := ifT hc H; clear hc
      refine .drawn 12 hMix (by kernel_rfl) ?_
      show DOps _ _ _ _ _ _ _ (_ :: _) _ _ _
      refine .q (q_fieldRef fo_39_2 rfl) rfl ?_
      refine .q (x := .d (cI ((nth v0records (Int.toNat (v4il1))).kind))) (q_loadO one_3 rfl rfl rfl) rfl ?_
      refine .q (q_fieldRef fo_39_2 rfl) rfl ?_
      refine .q (x := .d (cI ((nth v0records (Int.toNat (v4il1))).kind))) (q_loadO one_3 rfl rfl rfl) rfl ?_
      refine .q (q_fieldRef fo_27_1 rfl) rfl ?_
      obtain ⟨hk2, H⟩ := ck_some H
      refine .q (x := .ref 1 (1 + Int.toNat ((nth v0records (Int.toNat (v4il1))).kind))) (q_idxK (off := 1) (i := (nth v0records (Int.toNat (v4il1))).kind) Tryd.underlying25 ⟨_, hi3, hs3⟩ rfl rfl hk2) rfl ?_
      obtain ⟨hk3, H⟩ := ck_some H
      refine .q (x := .d (cI (nth ([o1c1l1, o1c2l1, o1c3l1, o1c4l1, o1c5l1] : List Int) (Int.toNat ((nth v0records (Int.toNat (v4il1))).kind))))) (q_loadK (n := 5) (off := 1) (i := Int.toNat ((nth v0records (Int.toNat (v4il1))).kind)) (l := ([o1c1l1, o1c2l1, o1c3l1, o1c4l1, o1c5l1] : List Int)) (c1 := cI) one_3 rfl rfl rfl hk3) rfl ?_
      refine .q (q_fieldRef fo_39_6 rfl) rfl ?_
      refine .q (x := .d (cI ((nth v0records (Int.toNat (v4il1))).units))) (q_loadO one_3 rfl rfl rfl) rfl ?_
      obtain ⟨hk4, H⟩ := ck_some H
      refine .q (q_addI rfl rfl hk4.1 hk4.2) rfl ?_
      refine .q (q_fieldRef fo_27_1 rfl) rfl ?_
      obtain ⟨hk5, H⟩ := ck_some H
      refine .q (x := .ref 1 (1 + Int.toNat ((nth v0records (Int.toNat (v4il1))).kind))) (q_idxK (off := 1) (i := (nth v0records (Int.toNat (v4il1))).kind) Tryd.underlying25 ⟨_, hi3, hs3⟩ rfl rfl hk5) rfl ?_
      refine .nil ?_
      show AOps _ _ _ _ _ _ (_ :: _) _ _ _
      obtain ⟨hk6, H⟩ := ck_some H
      refine .u (u_storeK (n := 5) (off := 1) (i := Int.toNat ((nth v0records (Int.toNat (v4il1))).kind)) (l := ([o1c1l1, o1c2l1, o1c3l1, o1c4l1, o1c5l1] : List Int)) (c1 := cI) (a := (nth ([o1c1l1, o1c2l1, o1c3l1, o1c4l1, o1c5l1] : List Int) (Int.toNat ((nth v0records (Int.toNat (v4il1))).kind))) + ((nth v0records (Int.toNat (v4il1))).units)) rfl rfl rfl rfl rfl hk6 sz_3) rfl ?_
      refine .withSt (st' := ⟨[.row 27 [.d (cI 0), .d (cI 0), .d (cI 0), .d (cI 0), .d (cI 0), .d (cI 0)], .row 27 [.d (cI (v0records.length : Int)), .d (cI (nth (setN ([o1c1l1, o1c2l1, o1c3l1, o1c4l1, o1c5l1] : List Int) 5 (Int.toNat ((nth v0records (Int.toNat (v4il1))).kind)) ((nth ([o1c1l1, o1c2l1, o1c3l1, o1c4l1, o1c5l1] : List Int) (Int.toNat ((nth v0records (Int.toNat (v4il1))).kind))) + ((nth v0records (Int.toNat (v4il1))).units))) 0)), .d (cI (nth (setN ([o1c1l1, o1c2l1, o1c3l1, o1c4l1, o1c5l1] : List Int) 5 (Int.toNat ((nth v0records (Int.toNat (v4il1))).kind)) ((nth ([o1c1l1, o1c2l1, o1c3l1, o1c4l1, o1c5l1] : List Int) (Int.toNat ((nth v0records (Int.toNat (v4il1))).kind))) + ((nth v0records (Int.toNat (v4il1))).units))) 1)), .d (cI (nth (setN ([o1c1l1, o1c2l1, o1c3l1, o1c4l1, o1c5l1] : List Int) 5 (Int.toNat ((nth v0records (Int.toNat (v4il1))).kind)) ((nth ([o1c1l1, o1c2l1, o1c3l1, o1c4l1, o1c5l1] : List Int) (Int.toNat ((nth v0records (Int.toNat (v4il1))).kind))) + ((nth v0records (Int.toNat (v4il1))).units))) 2)), .d (cI (nth (setN ([o1c1l1, o1c2l1, o1c3l1, o1c4l1, o1c5l1] : List Int) 5 (Int.toNat ((nth v0records (Int.toNat (v4il1))).kind)) ((nth ([o1c1l1, o1c2l1, o1c3l1, o1c4l1, o1c5l1] : List Int) (Int.toNat ((nth v0records (Int.toNat (v4il1))).kind))) + ((nth v0records (Int.toNat (v4il1))).units))) 3)), .d (cI (nth (setN ([o1c1l1, o1c2l1, o1c3l1, o1c4l1, o1c5l1] : List Int) 5 (Int.toNat ((nth v0records (Int.toNat (v4il1))).kind)) ((nth ([o1c1l1, o1c2l1, o1c3l1, o1c4l1, o1c5l1] : List Int) (Int.toNat ((nth v0records (Int.toNat (v4il1))).kind))) + ((nth v0records (Int.toNat (v4il1))).units))) 4))], .row 39 [.d (cI ((nth v0records (Int.toNat (v4il1))).source)), .d (cI ((nth v0records (Int.toNat (v4il1))).serial)), .d (cI ((nth v0records (Int.toNat (v4il1))).kind)), .d (cS ((nth v0records (Int.toNat (v4il1))).a)), .d (cS ((nth v0records (Int.toNat (v4il1))).b)), .d (cI ((nth v0records (Int.toNat (v4il1))).start)), .d (cI ((nth v0records (Int.toNat (v4il1))).units)), .d (cI ((nth v0records (Int.toNat (v4il1))).call)), .d (cI ((nth v0records (Int.toNat (v4il1))).part)), .d (cB ((nth v0records (Int.toNat (v4il1))).last)), .d (cI ((nth v0records (Int.toNat (v4il1))).trunk)), .d (cB ((nth v0records (Int.toNat (v4il1))).inbound))]], []⟩) rfl ?_
      refine .nil ?_
      refine .inBlock ?_
      refine .region ?_
      refine .q (q_move rfl) rfl ?_
      obtain ⟨hk7, H⟩ := ck_some H
      refine .q (q_addI rfl rfl hk7.1 hk7.2) rfl ?_
      refine .q (q_assign rfl) rfl ?_
      refine .nil ?_
      cases H
      exact .to 2 0 (env' := [(0, .d (slOf 12 Record.row v0records)), (2, .ref 0 0), (3, .ref 1 0), (4, .d (cI (v4il1 + 1)))]) (st' := ⟨[.row 27 [.d (cI 0), .d (cI 0), .d (cI 0), .d (cI 0), .d (cI 0), .d (cI 0)], .row 27 [.d (cI (v0records.length : Int)), .d (cI (nth (setN ([o1c1l1, o1c2l1, o1c3l1, o1c4l1, o1c5l1] : List Int) 5 (Int.toNat ((nth v0records (Int.toNat (v4il1))).kind)) ((nth ([o1c1l1, o1c2l1, o1c3l1, o1c4l1, o1c5l1] : List Int) (Int.toNat ((nth v0records (Int.toNat (v4il1))).kind))) + ((nth v0records (Int.toNat (v4il1))).units))) 0)), .d (cI (nth (setN ([o1c1l1, o1c2l1, o1c3l1, o1c4l1, o1c5l1] : List Int) 5 (Int.toNat ((nth v0records (Int.toNat (v4il1))).kind)) ((nth ([o1c1l1, o1c2l1, o1c3l1, o1c4l1, o1c5l1] : List Int) (Int.toNat ((nth v0records (Int.toNat (v4il1))).kind))) + ((nth v0records (Int.toNat (v4il1))).units))) 1)), .d (cI (nth (setN ([o1c1l1, o1c2l1, o1c3l1, o1c4l1, o1c5l1] : List Int) 5 (Int.toNat ((nth v0records (Int.toNat (v4il1))).kind)) ((nth ([o1c1l1, o1c2l1, o1c3l1, o1c4l1, o1c5l1] : List Int) (Int.toNat ((nth v0records (Int.toNat (v4il1))).kind))) + ((nth v0records (Int.toNat (v4il1))).units))) 2)), .d (cI (nth (setN ([o1c1l1, o1c2l1, o1c3l1, o1c4l1, o1c5l1] : List Int) 5 (Int.toNat ((nth v0records (Int.toNat (v4il1))).kind)) ((nth ([o1c1l1, o1c2l1, o1c3l1, o1c4l1, o1c5l1] : List Int) (Int.toNat ((nth v0records (Int.toNat (v4il1))).kind))) + ((nth v0records (Int.toNat (v4il1))).units))) 3)), .d (cI (nth (setN ([o1c1l1, o1c2l1, o1c3l1, o1c4l1, o1c5l1] : List Int) 5 (Int.toNat ((nth v0records (Int.toNat (v4il1))).kind)) ((nth ([o1c1l1, o1c2l1, o1c3l1, o1c4l1, o1c5l1] : List Int) (Int.toNat ((nth v0records (Int.toNat (v4il1))).kind))) + ((nth v0records (Int.toNat (v4il1))).units))) 4))]], []⟩) (.cons rfl (.rfl' _) (.cons rfl (.rfl' _) (.cons rfl (.rfl' _) (.cons rfl (.rfl' _) (.nil))))) rfl rfl rfl rfl rfl (by rw [hS]; exact Nat.le_of_ble_eq_true rfl) (by rw [hS]; exact Nat.le_of_ble_eq_true rfl) <| .sub (.cons rfl (.rfl' _) (.cons rfl (.rfl' _) (.cons rfl (.rfl' _) (.cons rfl (.rfl' _) (.nil))))) (ih1 (n1, (v4il1 + 1, nth (setN ([o1c1l1, o1c2l1, o1c3l1, o1c4l1, o1c5l1] : List Int) 5 (Int.toNat ((nth v0records (Int.toNat (v4il1))).kind)) ((nth ([o1c1l1, o1c2l1, o1c3l1, o1c4l1, o1c5l1] : List Int) (Int.toNat ((nth v0records (Int.toNat (v4il1))).kind))) + ((nth v0records (Int.toNat (v4il1))).units))) 0, nth (setN ([o1c1l1, o1c2l1, o1c3l1, o1c4l1, o1c5l1] : List Int) 5 (Int.toNat ((nth v0records (Int.toNat (v4il1))).kind)) ((nth ([o1c1l1, o1c2l1, o1c3l1, o1c4l1, o1c5l1] : List Int) (Int.toNat ((nth v0records (Int.toNat (v4il1))).kind))) + ((nth v0records (Int.toNat (v4il1))).units))) 1, nth (setN ([o1c1l1, o1c2l1, o1c3l1, o1c4l1, o1c5l1] : List Int) 5 (Int.toNat ((nth v0records (Int.toNat (v4il1))).kind)) ((nth ([o1c1l1, o1c2l1, o1c3l1, o1c4l1, o1c5l1] : List Int) (Int.toNat ((nth v0records (Int.toNat (v4il1))).kind))) + ((nth v0records (Int.toNat (v4il1))).units))) 2, nth (setN ([o1c1l1, o1c2l1, o1c3l1, o1c4l1, o1c5l1] : List Int) 5 (Int.toNat ((nth v0records (Int.toNat (v4il1))).kind)) ((nth ([o1c1l1, o1c2l1, o1c3l1, o1c4l1, o1c5l1] : List Int) (Int.toNat ((nth v0records (Int.toNat (v4il1))).kind))) + ((nth v0records (Int.toNat (v4il1))).units))) 3, nth (setN ([o1c1l1, o1c2l1, o1c3l1, o1c4l1, o1c5l1] : List Int) 5 (Int.toNat ((nth v0records (Int.toNat (v4il1))).kind)) ((nth ([o1c1l1, o1c2l1, o1c3l1, o1c4l1, o1c5l1] : List Int) (Int.toNat ((nth v0records (Int.toNat (v4il1))).kind))) + ((nth v0records (Int.toNat (v4il1))).units))) 4)) HK1 hm1)
    · replace H := ifF hc H; clear hc
      refine .skip ?_
      refine .inBlock ?_
      refine .region ?_
      refine .q (q_move rfl) rfl ?_
      obtain ⟨hk8, H⟩ := ck_some H
      refine .q (q_addI rfl rfl hk8.1 hk8.2) rfl ?_
      refine .q (q_assign rfl) rfl ?_
      refine .nil ?_
      cases H
      exact .to 2 0 (env' := [(0, .d (slOf 12 Record.row v0records)), (2, .ref 0 0), (3, .ref 1 0), (4, .d (cI (v4il1 + 1)))]) (st' := ⟨[.row 27 [.d (cI 0), .d (cI 0), .d (cI 0), .d (cI 0), .d (cI 0), .d (cI 0)], .row 27 [.d (cI (v0records.length : Int)), .d (cI o1c1l1), .d (cI o1c2l1), .d (cI o1c3l1), .d (cI o1c4l1), .d (cI o1c5l1)]], []⟩) (.cons rfl (.rfl' _) (.cons rfl (.rfl' _) (.cons rfl (.rfl' _) (.cons rfl (.rfl' _) (.nil))))) rfl rfl rfl rfl rfl (by rw [hS]; exact Nat.le_of_ble_eq_true rfl) (by rw [hS]; exact Nat.le_of_ble_eq_true rfl) <| .sub (.cons rfl (.rfl' _) (.cons rfl (.rfl' _) (.cons rfl (.rfl' _) (.cons rfl (.rfl' _) (.nil))))) (ih1 (n1, (v4il1 + 1, o1c1l1, o1c2l1, o1c3l1, o1c4l1, o1c5l1)) HK1 hm1)
  · replace H := ifF hc H; clear hc
    refine .exit rfl ?_
    refine .seq ?_
    refine .region ?_
    refine .q (x := .d (.agg (Totals.row (⟨(v0records.length : Int), ([o1c1l1, o1c2l1, o1c3l1, o1c4l1, o1c5l1] : List Int)⟩ : Totals)))) (q_loadOA one_27 sz_27 rfl rfl (Nat.le_of_ble_eq_true rfl) rfl) rfl ?_
    refine .u (u_store rfl rfl rfl rfl (Nat.le_of_ble_eq_true rfl) sz_27) rfl ?_
    refine .withSt (st' := ⟨[.row 27 [.d (cI (v0records.length : Int)), .d (cI o1c1l1), .d (cI o1c2l1), .d (cI o1c3l1), .d (cI o1c4l1), .d (cI o1c5l1)], .row 27 [.d (cI (v0records.length : Int)), .d (cI o1c1l1), .d (cI o1c2l1), .d (cI o1c3l1), .d (cI o1c4l1), .d (cI o1c5l1)]], []⟩) rfl ?_
    refine .nil ?_
    refine .retN [.cell 2 27] [.d (.agg (Totals.row (⟨(v0records.length : Int), ([o1c1l1, o1c2l1, o1c3l1, o1c4l1, o1c5l1] : List Int)⟩ : Totals)))] Tryd.func9 Tryd.results9 ⟨⟨⟨_, _, rfl⟩, q_loadOA one_27 sz_27 rfl rfl (Nat.le_of_ble_eq_true rfl) rfl⟩, trivial⟩ ?_
    cases H
    cases HK1
    exact ⟨_, .rfl' _, rfl⟩

set_option maxRecDepth 100000 in
set_option maxHeartbeats 1000000 in
theorem c_f_billingref12_head {v0source : Int} {v1number : Int} {v2format : Int} {r : Int} (H : f_billingref12_head v0source v1number v2format = some r) : ACall Tryd.prog 25 [cI v0source, cI v1number, cI v2format] (· = cI r) := by
  refine ACall.enter' Tryd.func25 rfl Tryd.ntmps25 rfl fun S hS => ?_
  unfold f_billingref12_head at H
  change ARun _ _ _ _ _ _ [(0, .d (cI v0source)), (1, .d (cI v1number)), (2, .d (cI v2format))] _
  refine .seq ?_
  refine .region ?_
  refine .q (q_assign rfl) rfl ?_
  refine .nil ?_
  refine .seq ?_
  refine .seq ?_
  refine .region ?_
  refine .q (q_move rfl) rfl ?_
  refine .q (q_lss rfl rfl) rfl ?_
  refine .q (q_move rfl) rfl ?_
  refine .guardG (env' := [(0, _)]) rfl rfl rfl ⟨.inl rfl, trivial⟩ rfl (fun hg => OpQ.g (q_move rfl)) ?_
  refine .guardG (env' := [(10, _)]) rfl rfl rfl ⟨.inr (.inl rfl), trivial⟩ rfl (fun hg => OpQ.g (q_gtr rfl rfl)) ?_
  refine .q (q_pickOrB rfl rfl rfl) rfl ?_
  refine .q (q_move rfl) rfl ?_
  refine .guardG (env' := [(1, _)]) rfl rfl rfl ⟨.inl rfl, trivial⟩ rfl (fun hg => OpQ.g (q_move rfl)) ?_
  refine .guardG (env' := [(14, _)]) rfl rfl rfl ⟨.inr (.inl rfl), trivial⟩ rfl (fun hg => OpQ.g (q_lss rfl rfl)) ?_
  refine .q (q_pickOrB rfl rfl rfl) rfl ?_
  refine .q (q_move rfl) rfl ?_
  refine .guardG (env' := [(1, _)]) rfl rfl rfl ⟨.inl rfl, trivial⟩ rfl (fun hg => OpQ.g (q_move rfl)) ?_
  refine .guardG (env' := [(18, _)]) rfl rfl rfl ⟨.inr (.inl rfl), trivial⟩ rfl (fun hg => OpQ.g (q_gtr rfl rfl)) ?_
  refine .q (q_pickOrB rfl rfl rfl) rfl ?_
  refine .nil ?_
  refine .cond rfl (fun hc => ?_) (fun hc => ?_)
  · replace H := ifT hc H; clear hc
    refine .seq ?_
    refine .region ?_
    refine .q (q_assign rfl) rfl ?_
    refine .nil ?_
    refine .retN [.tmp 6] [.d (cI 6)] Tryd.func25 Tryd.results25 ⟨rfl, trivial⟩ ?_
    cases H
    exact ⟨_, .rfl' _, rfl⟩
  · replace H := ifF hc H; clear hc
    refine .skip ?_
    refine .seq ?_
    refine .seq ?_
    refine .region ?_
    refine .q (q_move rfl) rfl ?_
    refine .q (q_lss rfl rfl) rfl ?_
    refine .q (q_move rfl) rfl ?_
    refine .guardG (env' := [(2, _)]) rfl rfl rfl ⟨.inl rfl, trivial⟩ rfl (fun hg => OpQ.g (q_move rfl)) ?_
    refine .guardG (env' := [(24, _)]) rfl rfl rfl ⟨.inr (.inl rfl), trivial⟩ rfl (fun hg => OpQ.g (q_geq rfl rfl)) ?_
    refine .q (q_pickOrB rfl rfl rfl) rfl ?_
    refine .nil ?_
    refine .cond rfl (fun hc => ?_) (fun hc => ?_)
    · replace H := ifT hc H; clear hc
      refine .seq ?_
      refine .region ?_
      refine .q (q_assign rfl) rfl ?_
      refine .nil ?_
      refine .retN [.tmp 6] [.d (cI 7)] Tryd.func25 Tryd.results25 ⟨rfl, trivial⟩ ?_
      cases H
      exact ⟨_, .rfl' _, rfl⟩
    · replace H := ifF hc H; clear hc
      refine .skip ?_
      refine .seq ?_
      refine .region ?_
      refine .q (q_assign rfl) rfl ?_
      refine .nil ?_
      refine .retN [.tmp 6] [.d (cI 0)] Tryd.func25 Tryd.results25 ⟨rfl, trivial⟩ ?_
      cases H
      exact ⟨_, .rfl' _, rfl⟩

set_option maxRecDepth 100000 in
set_option maxHeartbeats 1000000 in
theorem c_f_billingref09_in {v0n : Int} {v1low : Int} {v2high : Int} {r : Bool} (H : f_billingref09_in v0n v1low v2high = some r) : ACall Tryd.prog 43 [cI v0n, cI v1low, cI v2high] (· = cB r) := by
  refine ACall.enter' Tryd.func43 rfl Tryd.ntmps43 rfl fun S hS => ?_
  unfold f_billingref09_in at H
  change ARun _ _ _ _ _ _ [(0, .d (cI v0n)), (1, .d (cI v1low)), (2, .d (cI v2high))] _
  refine .seq ?_
  refine .region ?_
  refine .q (q_assign rfl) rfl ?_
  refine .nil ?_
  refine .seq ?_
  refine .region ?_
  refine .q (q_move rfl) rfl ?_
  refine .q (q_move rfl) rfl ?_
  refine .q (q_geq rfl rfl) rfl ?_
  refine .q (q_move rfl) rfl ?_
  refine .guardG (env' := [(0, _)]) rfl rfl rfl ⟨.inl rfl, trivial⟩ rfl (fun hg => OpQ.g (q_move rfl)) ?_
  refine .guardG (env' := [(2, _)]) rfl rfl rfl ⟨.inl rfl, trivial⟩ rfl (fun hg => OpQ.g (q_move rfl)) ?_
  refine .guardG (env' := [(11, _), (12, _)]) rfl rfl rfl ⟨.inr (.inl rfl), ⟨.inr (.inl rfl), trivial⟩⟩ rfl (fun hg => OpQ.g (q_leq rfl rfl)) ?_
  refine .q (q_pickAndB rfl rfl rfl) rfl ?_
  refine .q (q_assign rfl) rfl ?_
  refine .nil ?_
  refine .retN [.tmp 6] [.d (cB ((decide (v0n ≥ v1low)) && (decide (v0n ≤ v2high))))] Tryd.func43 Tryd.results43 ⟨rfl, trivial⟩ ?_
  cases H
  exact ⟨_, .rfl' _, rfl⟩

set_option maxRecDepth 100000 in
set_option maxHeartbeats 1000000 in
theorem c_f_billingref02_Valid {v0s : List UInt8} {r : Bool} (H : f_billingref02_Valid v0s = some r) : ACall Tryd.prog 44 [cS v0s] (· = cB r) := by
  refine ACall.enter' Tryd.func44 rfl Tryd.ntmps44 rfl fun S hS => ?_
  unfold f_billingref02_Valid at H
  change ARun _ _ _ _ _ _ [(0, .d (cS v0s))] _
  refine .seq ?_
  refine .region ?_
  refine .q (q_assign rfl) rfl ?_
  refine .nil ?_
  refine .seq ?_
  refine .seq ?_
  refine .region ?_
  refine .q (q_assign rfl) rfl ?_
  refine .nil ?_
  refine .blockJoin2 (ι := Unit) (fun s => [(0, .d (cS v0s))]) (fun s => ⟨[], []⟩) (fun s => f_billingref02_Valid_j1 v0s = some r) ?_ ?_
  · rintro _ H
    replace H : f_billingref02_Valid_j1 v0s = some r := H
    unfold f_billingref02_Valid_j1 at H
    change ARun _ _ _ _ _ _ [(0, .d (cS v0s))] ⟨[], []⟩
    refine .seq ?_
    refine .region ?_
    refine .q (q_move rfl) rfl ?_
    refine .q (q_lenS Tryd.underlying9 rfl) rfl ?_
    refine .q (q_geq rfl rfl) rfl ?_
    refine .q (q_move rfl) rfl ?_
    refine .guardG (env' := [(0, _)]) rfl rfl rfl ⟨.inl rfl, trivial⟩ rfl (fun hg => OpQ.g (q_move rfl)) ?_
    refine .guardG (env' := [(24, _)]) rfl rfl rfl ⟨.inr (.inl rfl), trivial⟩ rfl (fun hg => OpQ.g (q_lenS Tryd.underlying9 rfl)) ?_
    refine .guardG (env' := [(25, _)]) rfl rfl rfl ⟨.inr (.inl rfl), trivial⟩ rfl (fun hg => OpQ.g (q_leq rfl rfl)) ?_
    refine .q (q_pickAndB rfl rfl rfl) rfl ?_
    refine .q (q_assign rfl) rfl ?_
    refine .nil ?_
    refine .retN [.tmp 2] [.d (cB ((decide ((v0s.length : Int) ≥ 1)) && (decide ((v0s.length : Int) ≤ 15))))] Tryd.func44 Tryd.results44 ⟨rfl, trivial⟩ ?_
    cases H
    exact ⟨_, .rfl' _, rfl⟩
  · intro hj1 hj1x
    obtain ⟨n1, H⟩ := loop_some H
    refine .loop (ι := Nat × (Int)) (fun p => [(0, .d (cS v0s)), (3, .d (cI p.2))]) (fun p => ⟨[], []⟩) (fun p => iter (fun s => f_billingref02_Valid_l1 v0s s) p.1 p.2 = some r) (·.1) (n1, 0) H (.cons rfl (.rfl' _) (.cons rfl (.rfl' _) (.nil))) rfl ?_
    rintro ⟨m1, v3il1⟩ HI ih1
    obtain ⟨n1, q1, hm1, H, HK1⟩ := iter_succ HI
    clear HI
    replace H : f_billingref02_Valid_l1 v0s v3il1 = some q1 := H
    unfold f_billingref02_Valid_l1 at H
    change ARun _ _ _ _ _ _ [(0, .d (cS v0s)), (3, .d (cI v3il1))] ⟨[], []⟩
    refine .seq ?_
    refine .seq ?_
    refine .region ?_
    refine .q (q_move rfl) rfl ?_
    refine .q (q_move rfl) rfl ?_
    refine .q (q_lenS Tryd.underlying9 rfl) rfl ?_
    refine .q (q_lss rfl rfl) rfl ?_
    refine .nil ?_
    refine .cond rfl (fun hc => ?_) (fun hc => ?_)
    · replace H := ifT hc H; clear hc
      refine .skip ?_
      refine .seq ?_
      refine .block ?_
      refine .seq ?_
      refine .region ?_
      refine .q (q_move rfl) rfl ?_
      refine .q (q_move rfl) rfl ?_
      obtain ⟨hk1, H⟩ := ck_some H
      refine .q (x := .d (cU8 (nth v0s (Int.toNat (v3il1))))) (q_indexL (i := v3il1) Tryd.underlying9 rfl rfl hk1) rfl ?_
      refine .q (x := .d (cB (decide ((nth v0s (Int.toNat (v3il1))) < 48)))) (q8_lss (a := nth v0s (Int.toNat (v3il1))) (b := 48) rfl rfl) rfl ?_
      refine .q (q_move rfl) rfl ?_
      refine .guardG (env' := [(0, _)]) rfl rfl rfl ⟨.inl rfl, trivial⟩ rfl (fun hg => OpQ.g (q_move rfl)) ?_
      refine .guardG (env' := [(3, _)]) rfl rfl rfl ⟨.inl rfl, trivial⟩ rfl (fun hg => OpQ.g (q_move rfl)) ?_
      obtain ⟨hk2, H⟩ := ck_some H
      refine .guardG (b := (!(decide ((nth v0s (Int.toNat (v3il1))) < 48)))) (x := .d (cU8 (nth v0s (Int.toNat (v3il1))))) (env' := [(15, _), (16, _)]) rfl rfl rfl ⟨.inr (.inl rfl), ⟨.inr (.inl rfl), trivial⟩⟩ rfl (fun hg => OpQ.g (q_indexL (i := v3il1) Tryd.underlying9 rfl rfl (hk2 hg))) ?_
      refine .guardG (b := (!(decide ((nth v0s (Int.toNat (v3il1))) < 48)))) (x := .d (cB (decide ((nth v0s (Int.toNat (v3il1))) > 57)))) (env' := [(17, _)]) rfl rfl rfl ⟨.inr (.inl rfl), trivial⟩ rfl (fun hg => OpQ.g (q8_gtr (a := nth v0s (Int.toNat (v3il1))) (b := 57) rfl rfl)) ?_
      refine .q (q_pickOrB rfl rfl rfl) rfl ?_
      refine .nil ?_
      refine .cond rfl (fun hc => ?_) (fun hc => ?_)
      · replace H := ifT hc H; clear hc
        refine .seq ?_
        refine .region ?_
        refine .q (q_assign rfl) rfl ?_
        refine .nil ?_
        refine .retN [.tmp 2] [.d (cB false)] Tryd.func44 Tryd.results44 ⟨rfl, trivial⟩ ?_
        cases H
        cases HK1
        exact ⟨_, .rfl' _, rfl⟩
      · replace H := ifF hc H; clear hc
        refine .skip ?_
        refine .inBlock ?_
        refine .region ?_
        refine .q (q_move rfl) rfl ?_
        obtain ⟨hk3, H⟩ := ck_some H
        refine .q (q_addI rfl rfl hk3.1 hk3.2) rfl ?_
        refine .q (q_assign rfl) rfl ?_
        refine .nil ?_
        cases H
        exact .sub (.cons rfl (.rfl' _) (.cons rfl (.rfl' _) (.nil))) (ih1 (n1, (v3il1 + 1)) HK1 hm1)
    · replace H := ifF hc H; clear hc
      refine .exit rfl ?_
      obtain ⟨q0, H9, hq0⟩ := map_some' H; clear H; cases hq0
      cases HK1
      have H := H9
      exact .sub (.cons rfl (.rfl' _) (.nil)) (hj1x () H)

set_option maxRecDepth 100000 in
set_option maxHeartbeats 1000000 in
theorem c_f_billingref09_Error {v0 : Record} {r : Int} (H : f_billingref09_Error v0 = some r) : ACall Tryd.prog 26 [.agg (Record.row v0)] (· = cI r) := by
  refine ACall.enter' Tryd.func26 rfl Tryd.ntmps26 rfl fun S hS => ?_
  unfold f_billingref09_Error at H
  change ARun _ _ _ _ _ _ [(0, .d (.agg (Record.row v0)))] _
  refine .seq ?_
  refine .region ?_
  refine .v (x := .ref 0 0) (v_box rfl rfl) rfl ?_
  refine .withSt (st' := ⟨[.row 39 [.d (cI v0.source), .d (cI v0.serial), .d (cI v0.kind), .d (cS v0.a), .d (cS v0.b), .d (cI v0.start), .d (cI v0.units), .d (cI v0.call), .d (cI v0.part), .d (cB v0.last), .d (cI v0.trunk), .d (cB v0.inbound)]], []⟩) rfl ?_
  refine .q (q_assign rfl) rfl ?_
  refine .nil ?_
  refine .seq ?_
  refine .block ?_
  refine .seq ?_
  refine .region ?_
  refine .q (q_fieldRef fo_39_0 rfl) rfl ?_
  refine .q (x := .d (cI v0.source)) (q_loadO one_3 rfl rfl rfl) rfl ?_
  obtain ⟨y1, hy1, H⟩ := bind_some' H
  refine .g (x := .d (cB y1)) (g_call en_43 rfl rfl (c_f_billingref09_in (hy1))) rfl ?_
  refine .q (q_not rfl) rfl ?_
  refine .q (q_move rfl) rfl ?_
  refine .guardG (env' := [(1, _)]) rfl rfl rfl ⟨.inl rfl, trivial⟩ rfl (fun hg => OpQ.g (q_fieldRef fo_39_1 rfl)) ?_
  refine .guardG (b := (!(!y1))) (x := .d (cI v0.serial)) (env' := [(9, _)]) rfl rfl rfl ⟨.inr (.inl rfl), trivial⟩ rfl (fun hg => OpQ.g (q_loadO one_3 rfl rfl rfl)) ?_
  obtain ⟨y2, hy2, H⟩ := bind_some' H
  refine .guardG (b := (!(!y1))) (x := .d (cB y2)) (env' := [(10, _)]) rfl rfl rfl ⟨.inr (.inl rfl), trivial⟩ rfl (fun hg => (g_call en_43 rfl rfl (c_f_billingref09_in (gcall_some hy2 hg)))) ?_
  refine .guardG (env' := [(11, _)]) rfl rfl rfl ⟨.inr (.inl rfl), trivial⟩ rfl (fun hg => OpQ.g (q_not rfl)) ?_
  refine .q (q_pickOrB rfl rfl rfl) rfl ?_
  refine .q (q_assign rfl) rfl ?_
  refine .nil ?_
  refine .cond rfl (fun hc => ?_) (fun hc => ?_)
  · replace H := ifT hc H; clear hc
    refine .seq ?_
    refine .region ?_
    refine .q (q_assign rfl) rfl ?_
    refine .nil ?_
    refine .retN [.tmp 2] [.d (cI 6)] Tryd.func26 Tryd.results26 ⟨rfl, trivial⟩ ?_
    cases H
    exact ⟨_, .rfl' _, rfl⟩
  · replace H := ifF hc H; clear hc
    refine .seq ?_
    refine .region ?_
    refine .q (q_fieldRef fo_39_2 rfl) rfl ?_
    refine .q (x := .d (cI v0.kind)) (q_loadO one_3 rfl rfl rfl) rfl ?_
    obtain ⟨y3, hy3, H⟩ := bind_some' H
    refine .g (x := .d (cB y3)) (g_call en_43 rfl rfl (c_f_billingref09_in (hy3))) rfl ?_
    refine .q (q_not rfl) rfl ?_
    refine .q (q_assign rfl) rfl ?_
    refine .nil ?_
    refine .cond rfl (fun hc => ?_) (fun hc => ?_)
    · replace H := ifT hc H; clear hc
      refine .seq ?_
      refine .region ?_
      refine .q (q_assign rfl) rfl ?_
      refine .nil ?_
      refine .retN [.tmp 2] [.d (cI 7)] Tryd.func26 Tryd.results26 ⟨rfl, trivial⟩ ?_
      cases H
      exact ⟨_, .rfl' _, rfl⟩
    · replace H := ifF hc H; clear hc
      refine .seq ?_
      refine .region ?_
      refine .q (q_fieldRef fo_39_3 rfl) rfl ?_
      refine .q (x := .d (cS v0.a)) (q_loadO one_9 rfl rfl rfl) rfl ?_
      obtain ⟨y4, hy4, H⟩ := bind_some' H
      refine .g (x := .d (cB y4)) (g_call en_44 rfl rfl (c_f_billingref02_Valid (hy4))) rfl ?_
      refine .q (q_not rfl) rfl ?_
      refine .q (q_assign rfl) rfl ?_
      refine .nil ?_
      refine .cond rfl (fun hc => ?_) (fun hc => ?_)
      · replace H := ifT hc H; clear hc
        refine .seq ?_
        refine .region ?_
        refine .q (q_assign rfl) rfl ?_
        refine .nil ?_
        refine .retN [.tmp 2] [.d (cI 12)] Tryd.func26 Tryd.results26 ⟨rfl, trivial⟩ ?_
        cases H
        exact ⟨_, .rfl' _, rfl⟩
      · replace H := ifF hc H; clear hc
        refine .seq ?_
        refine .region ?_
        refine .q (q_fieldRef fo_39_4 rfl) rfl ?_
        refine .q (x := .d (cS v0.b)) (q_loadO one_9 rfl rfl rfl) rfl ?_
        obtain ⟨y5, hy5, H⟩ := bind_some' H
        refine .g (x := .d (cB y5)) (g_call en_44 rfl rfl (c_f_billingref02_Valid (hy5))) rfl ?_
        refine .q (q_not rfl) rfl ?_
        refine .q (q_move rfl) rfl ?_
        refine .guardG (env' := [(1, _)]) rfl rfl rfl ⟨.inl rfl, trivial⟩ rfl (fun hg => OpQ.g (q_fieldRef fo_39_4 rfl)) ?_
        refine .guardG (b := (!y5)) (x := .d (cS v0.b)) (env' := [(30, _)]) rfl rfl rfl ⟨.inr (.inl rfl), trivial⟩ rfl (fun hg => OpQ.g (q_loadO one_9 rfl rfl rfl)) ?_
        refine .guardG (env' := [(31, _)]) rfl rfl rfl ⟨.inr (.inl rfl), trivial⟩ rfl (fun hg => OpQ.g (q_sneq rfl rfl)) ?_
        refine .guardG (env' := [(32, _)]) rfl rfl rfl ⟨.inr (.inl rfl), trivial⟩ rfl (fun hg => OpQ.g (q_move rfl)) ?_
        refine .guardG (env' := [(1, _)]) rfl rfl rfl ⟨.inl rfl, trivial⟩ rfl (fun hg => OpQ.g (q_fieldRef fo_39_2 rfl)) ?_
        refine .guardG (b := ((!y5) && (!(v0.b != ([] : List UInt8))))) (x := .d (cI v0.kind)) (env' := [(34, _)]) rfl rfl rfl ⟨.inr (.inl rfl), trivial⟩ rfl (fun hg => OpQ.g (q_loadO one_3 rfl rfl rfl)) ?_
        refine .guardG (env' := [(35, _)]) rfl rfl rfl ⟨.inr (.inl rfl), trivial⟩ rfl (fun hg => OpQ.g (q_neq rfl rfl)) ?_
        refine .guardG (env' := [(36, _)]) rfl rfl rfl ⟨.inr (.inl rfl), trivial⟩ rfl (fun hg => OpQ.g (q_move rfl)) ?_
        refine .guardG (env' := [(1, _)]) rfl rfl rfl ⟨.inl rfl, trivial⟩ rfl (fun hg => OpQ.g (q_fieldRef fo_39_2 rfl)) ?_
        refine .guardG (b := (((!y5) && (!(v0.b != ([] : List UInt8)))) && (v0.kind != 3))) (x := .d (cI v0.kind)) (env' := [(38, _)]) rfl rfl rfl ⟨.inr (.inl rfl), trivial⟩ rfl (fun hg => OpQ.g (q_loadO one_3 rfl rfl rfl)) ?_
        refine .guardG (env' := [(39, _)]) rfl rfl rfl ⟨.inr (.inl rfl), trivial⟩ rfl (fun hg => OpQ.g (q_neq rfl rfl)) ?_
        refine .guardG (env' := [(37, _), (40, _)]) rfl rfl rfl ⟨.inr (.inl rfl), ⟨.inr (.inr ⟨_, _, rfl, rfl⟩), trivial⟩⟩ rfl (fun hg => OpQ.g (q_pickAndB rfl rfl rfl)) ?_
        refine .guardG (env' := [(33, _), (41, _)]) rfl rfl rfl ⟨.inr (.inl rfl), ⟨.inr (.inr ⟨_, _, rfl, rfl⟩), trivial⟩⟩ rfl (fun hg => OpQ.g (q_pickOrB rfl rfl rfl)) ?_
        refine .q (q_pickAndB rfl rfl rfl) rfl ?_
        refine .q (q_assign rfl) rfl ?_
        refine .nil ?_
        refine .cond rfl (fun hc => ?_) (fun hc => ?_)
        · replace H := ifT hc H; clear hc
          refine .seq ?_
          refine .region ?_
          refine .q (q_assign rfl) rfl ?_
          refine .nil ?_
          refine .retN [.tmp 2] [.d (cI 12)] Tryd.func26 Tryd.results26 ⟨rfl, trivial⟩ ?_
          cases H
          exact ⟨_, .rfl' _, rfl⟩
        · replace H := ifF hc H; clear hc
          refine .seq ?_
          refine .region ?_
          refine .q (q_fieldRef fo_39_5 rfl) rfl ?_
          refine .q (x := .d (cI v0.start)) (q_loadO one_3 rfl rfl rfl) rfl ?_
          obtain ⟨y6, hy6, H⟩ := bind_some' H
          refine .g (x := .d (cB y6)) (g_call en_43 rfl rfl (c_f_billingref09_in (hy6))) rfl ?_
          refine .q (q_not rfl) rfl ?_
          refine .q (q_assign rfl) rfl ?_
          refine .nil ?_
          refine .cond rfl (fun hc => ?_) (fun hc => ?_)
          · replace H := ifT hc H; clear hc
            refine .seq ?_
            refine .region ?_
            refine .q (q_assign rfl) rfl ?_
            refine .nil ?_
            refine .retN [.tmp 2] [.d (cI 15)] Tryd.func26 Tryd.results26 ⟨rfl, trivial⟩ ?_
            cases H
            exact ⟨_, .rfl' _, rfl⟩
          · replace H := ifF hc H; clear hc
            refine .seq ?_
            refine .region ?_
            refine .q (q_fieldRef fo_39_6 rfl) rfl ?_
            refine .q (x := .d (cI v0.units)) (q_loadO one_3 rfl rfl rfl) rfl ?_
            obtain ⟨y7, hy7, H⟩ := bind_some' H
            refine .g (x := .d (cB y7)) (g_call en_43 rfl rfl (c_f_billingref09_in (hy7))) rfl ?_
            refine .q (q_not rfl) rfl ?_
            refine .q (q_move rfl) rfl ?_
            refine .guardG (env' := [(1, _)]) rfl rfl rfl ⟨.inl rfl, trivial⟩ rfl (fun hg => OpQ.g (q_fieldRef fo_39_2 rfl)) ?_
            refine .guardG (b := (!(!y7))) (x := .d (cI v0.kind)) (env' := [(55, _)]) rfl rfl rfl ⟨.inr (.inl rfl), trivial⟩ rfl (fun hg => OpQ.g (q_loadO one_3 rfl rfl rfl)) ?_
            refine .guardG (env' := [(56, _)]) rfl rfl rfl ⟨.inr (.inl rfl), trivial⟩ rfl (fun hg => OpQ.g (q_eql rfl rfl)) ?_
            refine .guardG (env' := [(57, _)]) rfl rfl rfl ⟨.inr (.inl rfl), trivial⟩ rfl (fun hg => OpQ.g (q_move rfl)) ?_
            refine .guardG (env' := [(1, _)]) rfl rfl rfl ⟨.inl rfl, trivial⟩ rfl (fun hg => OpQ.g (q_fieldRef fo_39_6 rfl)) ?_
            refine .guardG (b := ((!(!y7)) && (v0.kind == 1))) (x := .d (cI v0.units)) (env' := [(59, _)]) rfl rfl rfl ⟨.inr (.inl rfl), trivial⟩ rfl (fun hg => OpQ.g (q_loadO one_3 rfl rfl rfl)) ?_
            refine .guardG (env' := [(60, _)]) rfl rfl rfl ⟨.inr (.inl rfl), trivial⟩ rfl (fun hg => OpQ.g (q_gtr rfl rfl)) ?_
            refine .guardG (env' := [(58, _), (61, _)]) rfl rfl rfl ⟨.inr (.inl rfl), ⟨.inr (.inr ⟨_, _, rfl, rfl⟩), trivial⟩⟩ rfl (fun hg => OpQ.g (q_pickAndB rfl rfl rfl)) ?_
            refine .q (q_pickOrB rfl rfl rfl) rfl ?_
            refine .q (q_assign rfl) rfl ?_
            refine .nil ?_
            refine .cond rfl (fun hc => ?_) (fun hc => ?_)
            · replace H := ifT hc H; clear hc
              refine .seq ?_
              refine .region ?_
              refine .q (q_assign rfl) rfl ?_
              refine .nil ?_
              refine .retN [.tmp 2] [.d (cI 6)] Tryd.func26 Tryd.results26 ⟨rfl, trivial⟩ ?_
              cases H
              exact ⟨_, .rfl' _, rfl⟩
            · replace H := ifF hc H; clear hc
              refine .seq ?_
              refine .region ?_
              refine .q (q_fieldRef fo_39_2 rfl) rfl ?_
              refine .q (x := .d (cI v0.kind)) (q_loadO one_3 rfl rfl rfl) rfl ?_
              refine .q (q_eql rfl rfl) rfl ?_
              refine .q (q_move rfl) rfl ?_
              refine .guardG (env' := [(1, _)]) rfl rfl rfl ⟨.inl rfl, trivial⟩ rfl (fun hg => OpQ.g (q_fieldRef fo_39_5 rfl)) ?_
              refine .guardG (b := (v0.kind == 1)) (x := .d (cI v0.start)) (env' := [(69, _)]) rfl rfl rfl ⟨.inr (.inl rfl), trivial⟩ rfl (fun hg => OpQ.g (q_loadO one_3 rfl rfl rfl)) ?_
              refine .guardG (env' := [(1, _)]) rfl rfl rfl ⟨.inl rfl, trivial⟩ rfl (fun hg => OpQ.g (q_fieldRef fo_39_6 rfl)) ?_
              refine .guardG (b := (v0.kind == 1)) (x := .d (cI v0.units)) (env' := [(71, _)]) rfl rfl rfl ⟨.inr (.inl rfl), trivial⟩ rfl (fun hg => OpQ.g (q_loadO one_3 rfl rfl rfl)) ?_
              obtain ⟨hk1, H⟩ := ck_some H
              refine .guardG (env' := [(70, _), (72, _)]) rfl rfl rfl ⟨.inr (.inl rfl), ⟨.inr (.inl rfl), trivial⟩⟩ rfl (fun hg => OpQ.g (q_addI rfl rfl (hk1 hg).1 (hk1 hg).2)) ?_
              refine .guardG (env' := [(73, _)]) rfl rfl rfl ⟨.inr (.inl rfl), trivial⟩ rfl (fun hg => OpQ.g (q_gtr rfl rfl)) ?_
              refine .q (q_pickAndB rfl rfl rfl) rfl ?_
              refine .q (q_assign rfl) rfl ?_
              refine .nil ?_
              refine .cond rfl (fun hc => ?_) (fun hc => ?_)
              · replace H := ifT hc H; clear hc
                refine .seq ?_
                refine .region ?_
                refine .q (q_assign rfl) rfl ?_
                refine .nil ?_
                refine .retN [.tmp 2] [.d (cI 15)] Tryd.func26 Tryd.results26 ⟨rfl, trivial⟩ ?_
                cases H
                exact ⟨_, .rfl' _, rfl⟩
              · replace H := ifF hc H; clear hc
                refine .seq ?_
                refine .region ?_
                refine .q (q_fieldRef fo_39_7 rfl) rfl ?_
                refine .q (x := .d (cI v0.call)) (q_loadO one_3 rfl rfl rfl) rfl ?_
                obtain ⟨y8, hy8, H⟩ := bind_some' H
                refine .g (x := .d (cB y8)) (g_call en_43 rfl rfl (c_f_billingref09_in (hy8))) rfl ?_
                refine .q (q_not rfl) rfl ?_
                refine .q (q_move rfl) rfl ?_
                refine .guardG (env' := [(1, _)]) rfl rfl rfl ⟨.inl rfl, trivial⟩ rfl (fun hg => OpQ.g (q_fieldRef fo_39_8 rfl)) ?_
                refine .guardG (b := (!(!y8))) (x := .d (cI v0.part)) (env' := [(82, _)]) rfl rfl rfl ⟨.inr (.inl rfl), trivial⟩ rfl (fun hg => OpQ.g (q_loadO one_3 rfl rfl rfl)) ?_
                obtain ⟨y9, hy9, H⟩ := bind_some' H
                refine .guardG (b := (!(!y8))) (x := .d (cB y9)) (env' := [(83, _)]) rfl rfl rfl ⟨.inr (.inl rfl), trivial⟩ rfl (fun hg => (g_call en_43 rfl rfl (c_f_billingref09_in (gcall_some hy9 hg)))) ?_
                refine .guardG (env' := [(84, _)]) rfl rfl rfl ⟨.inr (.inl rfl), trivial⟩ rfl (fun hg => OpQ.g (q_not rfl)) ?_
                refine .q (q_pickOrB rfl rfl rfl) rfl ?_
                refine .q (q_assign rfl) rfl ?_
                refine .nil ?_
                refine .cond rfl (fun hc => ?_) (fun hc => ?_)
                · replace H := ifT hc H; clear hc
                  refine .seq ?_
                  refine .region ?_
                  refine .q (q_assign rfl) rfl ?_
                  refine .nil ?_
                  refine .retN [.tmp 2] [.d (cI 6)] Tryd.func26 Tryd.results26 ⟨rfl, trivial⟩ ?_
                  cases H
                  exact ⟨_, .rfl' _, rfl⟩
                · replace H := ifF hc H; clear hc
                  refine .seq ?_
                  refine .region ?_
                  refine .q (q_fieldRef fo_39_8 rfl) rfl ?_
                  refine .q (x := .d (cI v0.part)) (q_loadO one_3 rfl rfl rfl) rfl ?_
                  refine .q (q_eql rfl rfl) rfl ?_
                  refine .q (q_fieldRef fo_39_7 rfl) rfl ?_
                  refine .q (x := .d (cI v0.call)) (q_loadO one_3 rfl rfl rfl) rfl ?_
                  refine .q (q_eql rfl rfl) rfl ?_
                  refine .q (x := .d (cB ((v0.part == 0) != (v0.call == 0)))) (q_bneq rfl Tryd.underlying4 rfl) rfl ?_
                  refine .q (q_move rfl) rfl ?_
                  refine .guardG (env' := [(1, _)]) rfl rfl rfl ⟨.inl rfl, trivial⟩ rfl (fun hg => OpQ.g (q_fieldRef fo_39_9 rfl)) ?_
                  refine .guardG (b := (!((v0.part == 0) != (v0.call == 0)))) (x := .d (cB v0.last)) (env' := [(96, _)]) rfl rfl rfl ⟨.inr (.inl rfl), trivial⟩ rfl (fun hg => OpQ.g (q_loadO one_4 rfl rfl rfl)) ?_
                  refine .guardG (env' := [(97, _)]) rfl rfl rfl ⟨.inr (.inl rfl), trivial⟩ rfl (fun hg => OpQ.g (q_move rfl)) ?_
                  refine .guardG (env' := [(1, _)]) rfl rfl rfl ⟨.inl rfl, trivial⟩ rfl (fun hg => OpQ.g (q_fieldRef fo_39_8 rfl)) ?_
                  refine .guardG (b := ((!((v0.part == 0) != (v0.call == 0))) && v0.last)) (x := .d (cI v0.part)) (env' := [(99, _)]) rfl rfl rfl ⟨.inr (.inl rfl), trivial⟩ rfl (fun hg => OpQ.g (q_loadO one_3 rfl rfl rfl)) ?_
                  refine .guardG (env' := [(100, _)]) rfl rfl rfl ⟨.inr (.inl rfl), trivial⟩ rfl (fun hg => OpQ.g (q_eql rfl rfl)) ?_
                  refine .guardG (env' := [(98, _), (101, _)]) rfl rfl rfl ⟨.inr (.inl rfl), ⟨.inr (.inr ⟨_, _, rfl, rfl⟩), trivial⟩⟩ rfl (fun hg => OpQ.g (q_pickAndB rfl rfl rfl)) ?_
                  refine .q (q_pickOrB rfl rfl rfl) rfl ?_
                  refine .q (q_assign rfl) rfl ?_
                  refine .nil ?_
                  refine .cond rfl (fun hc => ?_) (fun hc => ?_)
                  · replace H := ifT hc H; clear hc
                    refine .seq ?_
                    refine .region ?_
                    refine .q (q_assign rfl) rfl ?_
                    refine .nil ?_
                    refine .retN [.tmp 2] [.d (cI 8)] Tryd.func26 Tryd.results26 ⟨rfl, trivial⟩ ?_
                    cases H
                    exact ⟨_, .rfl' _, rfl⟩
                  · replace H := ifF hc H; clear hc
                    refine .seq ?_
                    refine .region ?_
                    refine .q (q_fieldRef fo_39_10 rfl) rfl ?_
                    refine .q (x := .d (cI v0.trunk)) (q_loadO one_3 rfl rfl rfl) rfl ?_
                    obtain ⟨y10, hy10, H⟩ := bind_some' H
                    refine .g (x := .d (cB y10)) (g_call en_43 rfl rfl (c_f_billingref09_in (hy10))) rfl ?_
                    refine .q (q_not rfl) rfl ?_
                    refine .q (q_assign rfl) rfl ?_
                    refine .nil ?_
                    refine .cond rfl (fun hc => ?_) (fun hc => ?_)
                    · replace H := ifT hc H; clear hc
                      refine .seq ?_
                      refine .region ?_
                      refine .q (q_assign rfl) rfl ?_
                      refine .nil ?_
                      refine .retN [.tmp 2] [.d (cI 6)] Tryd.func26 Tryd.results26 ⟨rfl, trivial⟩ ?_
                      cases H
                      exact ⟨_, .rfl' _, rfl⟩
                    · replace H := ifF hc H; clear hc
                      refine .seq ?_
                      refine .region ?_
                      refine .q (q_fieldRef fo_39_11 rfl) rfl ?_
                      refine .q (x := .d (cB v0.inbound)) (q_loadO one_4 rfl rfl rfl) rfl ?_
                      refine .q (q_move rfl) rfl ?_
                      refine .guardG (env' := [(1, _)]) rfl rfl rfl ⟨.inl rfl, trivial⟩ rfl (fun hg => OpQ.g (q_fieldRef fo_39_10 rfl)) ?_
                      refine .guardG (b := v0.inbound) (x := .d (cI v0.trunk)) (env' := [(113, _)]) rfl rfl rfl ⟨.inr (.inl rfl), trivial⟩ rfl (fun hg => OpQ.g (q_loadO one_3 rfl rfl rfl)) ?_
                      refine .guardG (env' := [(114, _)]) rfl rfl rfl ⟨.inr (.inl rfl), trivial⟩ rfl (fun hg => OpQ.g (q_eql rfl rfl)) ?_
                      refine .q (q_pickAndB rfl rfl rfl) rfl ?_
                      refine .q (q_assign rfl) rfl ?_
                      refine .nil ?_
                      refine .cond rfl (fun hc => ?_) (fun hc => ?_)
                      · replace H := ifT hc H; clear hc
                        refine .seq ?_
                        refine .region ?_
                        refine .q (q_assign rfl) rfl ?_
                        refine .nil ?_
                        refine .retN [.tmp 2] [.d (cI 8)] Tryd.func26 Tryd.results26 ⟨rfl, trivial⟩ ?_
                        cases H
                        exact ⟨_, .rfl' _, rfl⟩
                      · replace H := ifF hc H; clear hc
                        refine .skip ?_
                        refine .inBlock ?_
                        refine .seq ?_
                        refine .region ?_
                        refine .q (q_assign rfl) rfl ?_
                        refine .nil ?_
                        refine .retN [.tmp 2] [.d (cI 0)] Tryd.func26 Tryd.results26 ⟨rfl, trivial⟩ ?_
                        cases H
                        exact ⟨_, .rfl' _, rfl⟩

set_option maxRecDepth 100000 in
set_option maxHeartbeats 1000000 in
theorem c_f_billingref12_Check {v0b : Batch} {r : Int} (H : f_billingref12_Check v0b = some r) : ACall Tryd.prog 13 [.agg (Batch.row v0b)] (· = cI r) := by
  obtain ⟨i39, hi39, hz39, hs39, hb39⟩ := in_39
  refine ACall.enter' Tryd.func13 rfl Tryd.ntmps13 rfl fun S hS => ?_
  unfold f_billingref12_Check at H
  change ARun _ _ _ _ _ _ [(0, .d (.agg (Batch.row v0b)))] _
  refine .seq ?_
  refine .region ?_
  refine .v (x := .ref 0 0) (v_box rfl rfl) rfl ?_
  refine .withSt (st' := ⟨[.row 31 [.d (cI v0b.source), .d (cI v0b.number), .d (cI v0b.format), .d (slOf 12 Record.row v0b.records)]], []⟩) rfl ?_
  refine .q (q_assign rfl) rfl ?_
  refine .nil ?_
  refine .seq ?_
  refine .seq ?_
  refine .region ?_
  refine .q (q_fieldRef fo_31_0 rfl) rfl ?_
  refine .q (x := .d (cI v0b.source)) (q_loadO one_3 rfl rfl rfl) rfl ?_
  refine .q (q_fieldRef fo_31_1 rfl) rfl ?_
  refine .q (x := .d (cI v0b.number)) (q_loadO one_3 rfl rfl rfl) rfl ?_
  refine .q (q_fieldRef fo_31_2 rfl) rfl ?_
  refine .q (x := .d (cI v0b.format)) (q_loadO one_3 rfl rfl rfl) rfl ?_
  obtain ⟨y1, hy1, H⟩ := bind_some' H
  refine .g (x := .d (cI y1)) (g_call en_25 rfl rfl (c_f_billingref12_head (hy1))) rfl ?_
  refine .q (q_assign rfl) rfl ?_
  refine .nil ?_
  refine .seq ?_
  refine .region ?_
  refine .q (q_move rfl) rfl ?_
  refine .q (q_neq rfl rfl) rfl ?_
  refine .nil ?_
  refine .cond rfl (fun hc => ?_) (fun hc => ?_)
  · replace H := ifT hc H; clear hc
    refine .seq ?_
    refine .region ?_
    refine .q (q_move rfl) rfl ?_
    refine .q (q_assign rfl) rfl ?_
    refine .nil ?_
    refine .retN [.tmp 2] [.d (cI y1)] Tryd.func13 Tryd.results13 ⟨rfl, trivial⟩ ?_
    cases H
    exact ⟨_, .rfl' _, rfl⟩
  · replace H := ifF hc H; clear hc
    refine .skip ?_
    refine .seq ?_
    refine .seq ?_
    refine .region ?_
    refine .q (q_fieldRef fo_31_3 rfl) rfl ?_
    refine .q (x := .d (slOf 12 Record.row v0b.records)) (q_loadO one_22 rfl rfl rfl) rfl ?_
    refine .q (q_lenL (l := v0b.records) (row := Record.row) Tryd.underlying22 rfl rfl) rfl ?_
    refine .q (q_gtr rfl rfl) rfl ?_
    refine .nil ?_
    refine .cond rfl (fun hc => ?_) (fun hc => ?_)
    · replace H := ifT hc H; clear hc
      refine .seq ?_
      refine .region ?_
      refine .q (q_assign rfl) rfl ?_
      refine .nil ?_
      refine .retN [.tmp 2] [.d (cI 5)] Tryd.func13 Tryd.results13 ⟨rfl, trivial⟩ ?_
      cases H
      exact ⟨_, .rfl' _, rfl⟩
    · replace H := ifF hc H; clear hc
      refine .skip ?_
      refine .seq ?_
      refine .seq ?_
      refine .region ?_
      refine .q (q_assign rfl) rfl ?_
      refine .nil ?_
      refine .block ?_
      obtain ⟨n1, H⟩ := loop_some H
      refine .loop (ι := Nat × (Int)) (fun p => [(1, .ref 0 0), (4, .d (cI p.2))]) (fun p => ⟨[.row 31 [.d (cI v0b.source), .d (cI v0b.number), .d (cI v0b.format), .d (slOf 12 Record.row v0b.records)]], []⟩) (fun p => iter (fun s => f_billingref12_Check_l1 v0b s) p.1 p.2 = some r) (·.1) (n1, 0) H (.cons rfl (.rfl' _) (.cons rfl (.rfl' _) (.nil))) rfl ?_
      rintro ⟨m1, v4il1⟩ HI ih1
      obtain ⟨n1, q1, hm1, H, HK1⟩ := iter_succ HI
      clear HI
      replace H : f_billingref12_Check_l1 v0b v4il1 = some q1 := H
      unfold f_billingref12_Check_l1 at H
      change ARun _ _ _ _ _ _ [(1, .ref 0 0), (4, .d (cI v4il1))] ⟨[.row 31 [.d (cI v0b.source), .d (cI v0b.number), .d (cI v0b.format), .d (slOf 12 Record.row v0b.records)]], []⟩
      refine .seq ?_
      refine .seq ?_
      refine .region ?_
      refine .q (q_move rfl) rfl ?_
      refine .q (q_fieldRef fo_31_3 rfl) rfl ?_
      refine .q (x := .d (slOf 12 Record.row v0b.records)) (q_loadO one_22 rfl rfl rfl) rfl ?_
      refine .q (q_lenL (l := v0b.records) (row := Record.row) Tryd.underlying22 rfl rfl) rfl ?_
      refine .q (q_lss rfl rfl) rfl ?_
      refine .nil ?_
      refine .cond rfl (fun hc => ?_) (fun hc => ?_)
      · replace H := ifT hc H; clear hc
        refine .skip ?_
        refine .seq ?_
        refine .block ?_
        refine .seq ?_
        refine .seq ?_
        refine .region ?_
        refine .q (q_fieldRef fo_31_3 rfl) rfl ?_
        refine .q (x := .d (slOf 12 Record.row v0b.records)) (q_loadO one_22 rfl rfl rfl) rfl ?_
        refine .q (q_move rfl) rfl ?_
        obtain ⟨hk1, H⟩ := ck_some H
        refine .q (x := .d (.ro (Record.row (nth v0b.records (Int.toNat (v4il1)))))) (q_idxL (row := Record.row) (l := v0b.records) (i := v4il1) Tryd.underlying22 hi39 hs39 rfl rfl rfl hk1) rfl ?_
        refine .q (x := .d (.agg (Record.row (nth v0b.records (Int.toNat (v4il1)))))) (q_loadAll one_39 sz_39 rfl rfl) rfl ?_
        obtain ⟨y2, hy2, H⟩ := bind_some' H
        refine .g (x := .d (cI y2)) (g_call en_26 rfl rfl (c_f_billingref09_Error (hy2))) rfl ?_
        refine .q (q_assign rfl) rfl ?_
        refine .nil ?_
        refine .seq ?_
        refine .region ?_
        refine .q (q_move rfl) rfl ?_
        refine .q (q_neq rfl rfl) rfl ?_
        refine .nil ?_
        refine .cond rfl (fun hc => ?_) (fun hc => ?_)
        · replace H := ifT hc H; clear hc
          refine .seq ?_
          refine .region ?_
          refine .q (q_move rfl) rfl ?_
          refine .q (q_assign rfl) rfl ?_
          refine .nil ?_
          refine .retN [.tmp 2] [.d (cI y2)] Tryd.func13 Tryd.results13 ⟨rfl, trivial⟩ ?_
          cases H
          cases HK1
          exact ⟨_, .rfl' _, rfl⟩
        · replace H := ifF hc H; clear hc
          refine .skip ?_
          refine .seq ?_
          refine .drawn 9 hMix (by kernel_rfl) ?_
          show DOps _ _ _ _ _ _ _ (_ :: _) _ _ _
          refine .q (q_fieldRef fo_31_3 rfl) rfl ?_
          refine .q (x := .d (slOf 12 Record.row v0b.records)) (q_loadO one_22 rfl rfl rfl) rfl ?_
          refine .q (q_move rfl) rfl ?_
          obtain ⟨hk2, H⟩ := ck_some H
          refine .q (x := .d (.ro (Record.row (nth v0b.records (Int.toNat (v4il1)))))) (q_idxL (row := Record.row) (l := v0b.records) (i := v4il1) Tryd.underlying22 hi39 hs39 rfl rfl rfl hk2) rfl ?_
          refine .q (q_fieldRo fo_39_0 rfl) rfl ?_
          refine .q (x := .d (cI ((nth v0b.records (Int.toNat (v4il1))).source))) (q_load one_3 rfl) rfl ?_
          refine .q (q_fieldRef fo_31_0 rfl) rfl ?_
          refine .q (x := .d (cI v0b.source)) (q_loadO one_3 rfl rfl rfl) rfl ?_
          refine .q (q_neq rfl rfl) rfl ?_
          refine .nil ?_
          show AOps _ _ _ _ _ _ [] _ _ _
          refine .nil ?_
          refine .cond rfl (fun hc => ?_) (fun hc => ?_)
          · replace H := ifT hc H; clear hc
            refine .seq ?_
            refine .region ?_
            refine .q (q_assign rfl) rfl ?_
            refine .nil ?_
            refine .retN [.tmp 2] [.d (cI 8)] Tryd.func13 Tryd.results13 ⟨rfl, trivial⟩ ?_
            cases H
            cases HK1
            exact ⟨_, .rfl' _, rfl⟩
          · replace H := ifF hc H; clear hc
            refine .skip ?_
            refine .inBlock ?_
            refine .region ?_
            refine .q (q_move rfl) rfl ?_
            obtain ⟨hk3, H⟩ := ck_some H
            refine .q (q_addI rfl rfl hk3.1 hk3.2) rfl ?_
            refine .q (q_assign rfl) rfl ?_
            refine .nil ?_
            cases H
            exact .sub (.cons rfl (.rfl' _) (.cons rfl (.rfl' _) (.nil))) (ih1 (n1, (v4il1 + 1)) HK1 hm1)
      · replace H := ifF hc H; clear hc
        refine .exit rfl ?_
        refine .seq ?_
        refine .region ?_
        refine .q (q_assign rfl) rfl ?_
        refine .nil ?_
        refine .retN [.tmp 2] [.d (cI 0)] Tryd.func13 Tryd.results13 ⟨rfl, trivial⟩ ?_
        cases H
        cases HK1
        exact ⟨_, .rfl' _, rfl⟩

end Go.Proofs.YtccmaffefdcikaaDoor
