/- Our own texts LW1 LW2 of this seat in one. -/
import Derived.Test.YtmdpmallgcekgaaDoorZ2
set_option linter.unusedSimpArgs false
set_option linter.unusedVariables false
namespace Go.Proofs.YtmdpmallgcekgaaDoor
open Go.RowKit Go.Abs
set_option maxRecDepth 100000 in
set_option maxHeartbeats 1000000 in
theorem c_f_digits_Pack {v0s : List UInt8} {r : (List UInt8) × Int} (H : f_digits_Pack v0s = some r) : ACall Tryd.prog 27 [cS v0s] (· = .tup [slOf 1 rB8 r.1, cI r.2]) := by
  obtain ⟨i5, hi5, hz5, hs5, hb5⟩ := in_5
  refine ACall.enter' Tryd.func27 rfl Tryd.ntmps27 rfl fun S hS => ?_
  unfold f_digits_Pack at H
  change ARun _ _ _ _ _ _ [(0, .d (cS v0s))] _
  refine .seq ?_
  refine .region ?_
  refine .q (q_assign rfl) rfl ?_
  refine .q (q_assign rfl) rfl ?_
  refine .nil ?_
  refine .seq ?_
  refine .seq ?_
  refine .region ?_
  refine .q (q_move rfl) rfl ?_
  obtain ⟨y1, hy1, H⟩ := bind_some' H
  refine .g (x := .d (cB y1)) (g_call en_41 rfl rfl (c_f_digits_Valid (hy1))) rfl ?_
  refine .q (q_not rfl) rfl ?_
  refine .nil ?_
  refine .cond rfl (fun hc => ?_) (fun hc => ?_)
  · replace H := ifT hc H; clear hc
    refine .seq ?_
    refine .region ?_
    refine .q (q_assign rfl) rfl ?_
    refine .q (q_assign rfl) rfl ?_
    refine .nil ?_
    refine .retN [.tmp 2, .tmp 3] [.d (nilD), .d (cI 12)] Tryd.func27 Tryd.results27 ⟨rfl, rfl, trivial⟩ ?_
    cases H
    exact ⟨_, EVle.tupL (ds := [slOf 1 rB8 ([] : List UInt8), cI 12]) ⟨.nil 1, .rfl' _, trivial⟩, rfl⟩
  · replace H := ifF hc H; clear hc
    refine .skip ?_
    refine .seq ?_
    refine .region ?_
    refine .q (q_assign rfl) rfl ?_
    refine .nil ?_
    refine .seq ?_
    refine .seq ?_
    refine .region ?_
    refine .q (q_assign rfl) rfl ?_
    refine .nil ?_
    refine .block ?_
    refine .tok (i := 4) (e := 5) (sz := 1) rfl ?_
    refine .withSt (st' := ⟨[], [⟨5, 1, ([] : List UInt8).length, none⟩]⟩) rfl ?_
    obtain ⟨n1, H⟩ := loop_some H
    refine .withSt (st' := ⟨[], [⟨5, 1, ([] : List UInt8).length, none⟩]⟩) rfl <| .loop (ι := Nat × (List UInt8 × Int)) (fun p => [(0, .d (cS v0s)), (4, .tsl 1 (p.2.1.map rB8) 0), (5, .d (cI p.2.2))]) (fun p => ⟨[], [⟨5, 1, p.2.1.length, none⟩]⟩) (fun p => iter (fun s => f_digits_Pack_l1 v0s s.1 s.2) p.1 p.2 = some r) (·.1) (n1, (([] : List UInt8), 0)) H (.cons rfl (.rfl' _) (.cons rfl (.rfl' _) (.cons rfl (.rfl' _) (.nil)))) rfl ?_
    rintro ⟨m1, v4bl1, v5il1⟩ HI ih1
    obtain ⟨n1, q1, hm1, H, HK1⟩ := iter_succ HI
    clear HI
    replace H : f_digits_Pack_l1 v0s v4bl1 v5il1 = some q1 := H
    unfold f_digits_Pack_l1 at H
    change ARun _ _ _ _ _ _ [(0, .d (cS v0s)), (4, .tsl 1 (v4bl1.map rB8) 0), (5, .d (cI v5il1))] ⟨[], [⟨5, 1, v4bl1.length, none⟩]⟩
    refine .seq ?_
    refine .seq ?_
    refine .region ?_
    refine .q (q_move rfl) rfl ?_
    refine .q (q_move rfl) rfl ?_
    refine .q (q_lenS Tryd.underlying9 rfl) rfl ?_
    refine .q (q_lss rfl rfl) rfl ?_
    refine .nil ?_
    refine .cond rfl (fun hc => ?_) (fun hc => ?_)
    · replace H := ifT hc H; clear hc
      refine .skip ?_
      refine .seq ?_
      refine .block ?_
      refine .seq ?_
      refine .region ?_
      refine .q (q_assign rfl) rfl ?_
      refine .nil ?_
      refine .seqJoin (ι := UInt8) (fun s => [(0, .d (cS v0s)), (4, .tsl 1 (v4bl1.map rB8) 0), (5, .d (cI v5il1)), (6, .d (cU8 s))]) (fun s => ⟨[], [⟨5, 1, v4bl1.length, none⟩]⟩) (fun s => f_digits_Pack_j1 v0s v4bl1 v5il1 s = some q1) ?_ ?_
      · rintro v6lowj1 H
        replace H : f_digits_Pack_j1 v0s v4bl1 v5il1 v6lowj1 = some q1 := H
        unfold f_digits_Pack_j1 at H
        change ARun _ _ _ _ _ _ [(0, .d (cS v0s)), (4, .tsl 1 (v4bl1.map rB8) 0), (5, .d (cI v5il1)), (6, .d (cU8 v6lowj1))] ⟨[], [⟨5, 1, v4bl1.length, none⟩]⟩
        refine .region ?_
        refine .q (q_move rfl) rfl ?_
        refine .q (q_move rfl) rfl ?_
        refine .q (q_move rfl) rfl ?_
        obtain ⟨hk1, H⟩ := ck_some H
        refine .q (x := .d (cU8 (nth v0s (Int.toNat (v5il1))))) (q_indexL (i := v5il1) Tryd.underlying9 rfl rfl hk1) rfl ?_
        refine .q (x := .d (cU8 ((nth v0s (Int.toNat (v5il1))) - 48))) (q8_sub (a := nth v0s (Int.toNat (v5il1))) (b := 48) rfl rfl) rfl ?_
        obtain ⟨hk2, H⟩ := ck_some H
        refine .q (x := .d (cU8 (u8shl ((nth v0s (Int.toNat (v5il1))) - 48) 4))) (q8_shl (a := (nth v0s (Int.toNat (v5il1))) - 48) (n := 4) rfl rfl hk2) rfl ?_
        refine .q (q_move rfl) rfl ?_
        refine .q (x := .d (cU8 ((u8shl ((nth v0s (Int.toNat (v5il1))) - 48) 4) ||| v6lowj1))) (q8_or (a := u8shl ((nth v0s (Int.toNat (v5il1))) - 48) 4) (b := v6lowj1) rfl rfl) rfl ?_
        refine .g (x := .d (slOf 1 rB8 ([(u8shl ((nth v0s (Int.toNat (v5il1))) - 48) 4) ||| v6lowj1] : List UInt8))) (g_buildSlice1 Tryd.underlying25 hi5 hs5 hz5 rfl rfl rfl rfl rfl) rfl ?_
        obtain ⟨hk3, H⟩ := ck_some H
        refine .v (x := .tsl 1 ((v4bl1 ++ ([(u8shl ((nth v0s (Int.toNat (v5il1))) - 48) 4) ||| v6lowj1] : List UInt8)).map rB8) 0) (v_appendL (l := v4bl1) (l' := ([(u8shl ((nth v0s (Int.toNat (v5il1))) - 48) 4) ||| v6lowj1] : List UInt8)) (row := rB8) Tryd.underlying25 hi5 hz5 hs5 rfl (by rw [hb5]; decide) rfl rfl rfl rfl hk3) rfl ?_
        refine .withSt (st' := ⟨[], [⟨5, 1, (v4bl1 ++ ([(u8shl ((nth v0s (Int.toNat (v5il1))) - 48) 4) ||| v6lowj1] : List UInt8)).length, none⟩]⟩) rfl ?_
        refine .q (q_assign rfl) rfl ?_
        refine .nil ?_
        refine .inBlock ?_
        refine .region ?_
        refine .q (q_move rfl) rfl ?_
        obtain ⟨hk4, H⟩ := ck_some H
        refine .q (q_addI rfl rfl hk4.1 hk4.2) rfl ?_
        refine .q (q_assign rfl) rfl ?_
        refine .nil ?_
        cases H
        exact .withSt (st' := ⟨[], [⟨5, 1, (v4bl1 ++ ([(u8shl ((nth v0s (Int.toNat (v5il1))) - 48) 4) ||| v6lowj1] : List UInt8)).length, none⟩]⟩) rfl <| .sub (.cons rfl (.rfl' _) (.cons rfl (.rfl' _) (.cons rfl (.rfl' _) (.nil)))) (ih1 (n1, (v4bl1 ++ ([(u8shl ((nth v0s (Int.toNat (v5il1))) - 48) 4) ||| v6lowj1] : List UInt8), v5il1 + 2)) HK1 hm1)
      · intro hj1
        refine .seq ?_
        refine .region ?_
        refine .q (q_move rfl) rfl ?_
        obtain ⟨hk5, H⟩ := ck_some H
        refine .q (q_addI rfl rfl hk5.1 hk5.2) rfl ?_
        refine .q (q_move rfl) rfl ?_
        refine .q (q_lenS Tryd.underlying9 rfl) rfl ?_
        refine .q (q_lss rfl rfl) rfl ?_
        refine .nil ?_
        refine .cond rfl (fun hc => ?_) (fun hc => ?_)
        · replace H := ifT hc H; clear hc
          refine .region ?_
          refine .q (q_move rfl) rfl ?_
          refine .q (q_move rfl) rfl ?_
          obtain ⟨hk6, H⟩ := ck_some H
          refine .q (q_addI rfl rfl hk6.1 hk6.2) rfl ?_
          obtain ⟨hk7, H⟩ := ck_some H
          refine .q (x := .d (cU8 (nth v0s (Int.toNat (v5il1 + 1))))) (q_indexL (i := v5il1 + 1) Tryd.underlying9 rfl rfl hk7) rfl ?_
          refine .q (x := .d (cU8 ((nth v0s (Int.toNat (v5il1 + 1))) - 48))) (q8_sub (a := nth v0s (Int.toNat (v5il1 + 1))) (b := 48) rfl rfl) rfl ?_
          refine .q (q_assign rfl) rfl ?_
          refine .nil ?_
          exact .sub (.cons rfl (.rfl' _) (.cons rfl (.rfl' _) (.cons rfl (.rfl' _) (.cons rfl (.rfl' _) (.nil))))) (hj1 ((nth v0s (Int.toNat (v5il1 + 1))) - 48) H)
        · replace H := ifF hc H; clear hc
          refine .skip ?_
          exact .sub (.cons rfl (.rfl' _) (.cons rfl (.rfl' _) (.cons rfl (.rfl' _) (.cons rfl (.rfl' _) (.nil))))) (hj1 15 H)
    · replace H := ifF hc H; clear hc
      refine .exit rfl ?_
      refine .seq ?_
      refine .region ?_
      refine .q (q_move rfl) rfl ?_
      refine .q (q_assign rfl) rfl ?_
      refine .q (q_assign rfl) rfl ?_
      refine .nil ?_
      refine .retN [.tmp 2, .tmp 3] [.tsl 1 (v4bl1.map rB8) 0, .d (cI 0)] Tryd.func27 Tryd.results27 ⟨rfl, rfl, trivial⟩ ?_
      cases H
      cases HK1
      exact ⟨_, EVle.tupL (ds := [slOf 1 rB8 v4bl1, cI 0]) ⟨.tsl _ _ _, .rfl' _, trivial⟩, rfl⟩

set_option maxRecDepth 100000 in
set_option maxHeartbeats 1000000 in
theorem c_f_tagged_bytes {v0n : Int} {r : (List UInt8)} (H : f_tagged_bytes v0n = some r) : ACall Tryd.prog 29 [cI v0n] (· = slOf 1 rB8 r) := by
  obtain ⟨i5, hi5, hz5, hs5, hb5⟩ := in_5
  refine ACall.enter' Tryd.func29 rfl Tryd.ntmps29 rfl fun S hS => ?_
  unfold f_tagged_bytes at H
  change ARun _ _ _ _ _ _ [(0, .d (cI v0n))] _
  refine .seq ?_
  refine .region ?_
  refine .q (q_assign rfl) rfl ?_
  refine .nil ?_
  refine .seq ?_
  refine .region ?_
  refine .q (q_assign rfl) rfl ?_
  refine .nil ?_
  refine .seq ?_
  refine .block ?_
  obtain ⟨n1, H⟩ := loop_some H
  refine .loop (ι := Nat × (Int × List UInt8)) (fun p => [(0, .d (cI p.2.1)), (3, .d (slOf 1 rB8 p.2.2))]) (fun p => ⟨[], []⟩) (fun p => iter (fun s => f_tagged_bytes_l1 s.1 s.2) p.1 p.2 = some r) (·.1) (n1, (v0n, [])) H (.cons rfl (.rfl' _) (.cons rfl (.nil 1) (.nil))) rfl ?_
  rintro ⟨m1, v0nl1, v3outl1⟩ HI ih1
  obtain ⟨n1, q1, hm1, H, HK1⟩ := iter_succ HI
  clear HI
  replace H : f_tagged_bytes_l1 v0nl1 v3outl1 = some q1 := H
  unfold f_tagged_bytes_l1 at H
  change ARun _ _ _ _ _ _ [(0, .d (cI v0nl1)), (3, .d (slOf 1 rB8 v3outl1))] ⟨[], []⟩
  refine .seq ?_
  refine .seq ?_
  refine .region ?_
  refine .q (q_move rfl) rfl ?_
  refine .q (q_gtr rfl rfl) rfl ?_
  refine .nil ?_
  refine .cond rfl (fun hc => ?_) (fun hc => ?_)
  · replace H := ifT hc H; clear hc
    refine .skip ?_
    refine .seq ?_
    refine .block ?_
    refine .region ?_
    refine .q (q_move rfl) rfl ?_
    refine .q (x := .d (cU8 (UInt8.ofInt v0nl1))) (q_conv8 Tryd.underlying3 Tryd.underlying5 rfl) rfl ?_
    refine .v (x := .tsl 1 (([UInt8.ofInt v0nl1] : List UInt8).map rB8) 0) (v_buildSliceT (n := 1) Tryd.underlying25 hi5 hs5 hz5 rfl rfl rfl rfl rfl) rfl ?_
    refine .withSt (st' := ⟨[], [⟨5, 1, ([UInt8.ofInt v0nl1] : List UInt8).length, none⟩]⟩) rfl ?_
    refine .q (q_move rfl) rfl ?_
    obtain ⟨hk1, H⟩ := ck_some H
    refine .v (x := .tsl 1 ((([UInt8.ofInt v0nl1] : List UInt8) ++ v3outl1).map rB8) 0) (v_appendL (l := ([UInt8.ofInt v0nl1] : List UInt8)) (l' := v3outl1) (row := rB8) Tryd.underlying25 hi5 hz5 hs5 rfl (by rw [hb5]; decide) rfl rfl rfl rfl hk1) rfl ?_
    refine .withSt (st' := ⟨[], [⟨5, 1, (([UInt8.ofInt v0nl1] : List UInt8) ++ v3outl1).length, none⟩]⟩) rfl ?_
    refine .q (q_assign rfl) rfl ?_
    refine .nil ?_
    refine .inBlock ?_
    refine .region ?_
    refine .q (q_move rfl) rfl ?_
    obtain ⟨hk2, H⟩ := ck_some H
    refine .q (x := .d (cI (v0nl1 / 2 ^ (Int.toNat (8))))) (q_shrI rfl rfl hk2) rfl ?_
    refine .q (q_assign rfl) rfl ?_
    refine .nil ?_
    cases H
    exact .to 0 0 (env' := [(0, .d (cI (v0nl1 / 2 ^ (Int.toNat (8))))), (3, .d (slOf 1 rB8 (([UInt8.ofInt v0nl1] : List UInt8) ++ v3outl1)))]) (st' := ⟨[], []⟩) (.cons rfl (.rfl' _) (.cons rfl (.tsl _ _ _) .nil)) rfl rfl rfl rfl rfl (by rw [hS]; exact Nat.le_of_ble_eq_true rfl) (by rw [hS]; exact Nat.le_of_ble_eq_true rfl) <| .sub (.cons rfl (.rfl' _) (.cons rfl (.rfl' _) (.nil))) (ih1 (n1, (v0nl1 / 2 ^ (Int.toNat (8)), ([UInt8.ofInt v0nl1] : List UInt8) ++ v3outl1)) HK1 hm1)
  · replace H := ifF hc H; clear hc
    refine .exit rfl ?_
    refine .seq ?_
    refine .region ?_
    refine .q (q_move rfl) rfl ?_
    refine .q (q_assign rfl) rfl ?_
    refine .nil ?_
    refine .retN [.tmp 2] [.d (slOf 1 rB8 v3outl1)] Tryd.func29 Tryd.results29 ⟨rfl, trivial⟩ ?_
    cases H
    cases HK1
    exact ⟨_, .rfl' _, rfl⟩

set_option maxRecDepth 100000 in
set_option maxHeartbeats 1000000 in
theorem c_f_tagged_flag {v0holds : Bool} {v1n : Int} {r : Int} (H : f_tagged_flag v0holds v1n = some r) : ACall Tryd.prog 30 [cB v0holds, cI v1n] (· = cI r) := by
  refine ACall.enter' Tryd.func30 rfl Tryd.ntmps30 rfl fun S hS => ?_
  unfold f_tagged_flag at H
  change ARun _ _ _ _ _ _ [(0, .d (cB v0holds)), (1, .d (cI v1n))] _
  refine .seq ?_
  refine .region ?_
  refine .q (q_assign rfl) rfl ?_
  refine .nil ?_
  refine .seq ?_
  refine .seq ?_
  refine .region ?_
  refine .q (q_move rfl) rfl ?_
  refine .nil ?_
  refine .cond rfl (fun hc => ?_) (fun hc => ?_)
  · replace H := ifT hc H; clear hc
    refine .seq ?_
    refine .region ?_
    refine .q (q_move rfl) rfl ?_
    refine .q (q_assign rfl) rfl ?_
    refine .nil ?_
    refine .retN [.tmp 4] [.d (cI v1n)] Tryd.func30 Tryd.results30 ⟨rfl, trivial⟩ ?_
    cases H
    exact ⟨_, .rfl' _, rfl⟩
  · replace H := ifF hc H; clear hc
    refine .skip ?_
    refine .seq ?_
    refine .region ?_
    refine .q (q_assign rfl) rfl ?_
    refine .nil ?_
    refine .retN [.tmp 4] [.d (cI 0)] Tryd.func30 Tryd.results30 ⟨rfl, trivial⟩ ?_
    cases H
    exact ⟨_, .rfl' _, rfl⟩

set_option maxRecDepth 100000 in
set_option maxHeartbeats 1000000 in
theorem c_g_tagged_put_v2 {v1tag : Int} {v2value : List UInt8} {y0t0p : List UInt8} {n0p : Nat} {r : (List UInt8)} (H : g_tagged_put_v2 v1tag v2value y0t0p = some r) : ACallS Tryd.prog 25 [.vc 0 n0p, .d (cI v1tag), .d (slOf 1 rB8 v2value)] ⟨[], [⟨5, 1, n0p, some (y0t0p.map rB8)⟩]⟩ (QE (.vc 0 ((r).length)) ⟨[], [⟨5, 1, r.length, some (r.map rB8)⟩]⟩) := by
  obtain ⟨i5, hi5, hz5, hs5, hb5⟩ := in_5
  refine ACallS.keep ?_
  refine ACallS.enter Tryd.func25 rfl Tryd.ntmps25 rfl fun S hS => ?_
  unfold g_tagged_put_v2 at H
  change ARun _ _ _ _ _ _ [(0, .vc 0 n0p), (1, .d (cI v1tag)), (2, .d (slOf 1 rB8 v2value))] _
  refine .seq ?_
  refine .region ?_
  refine .q (q_assign rfl) rfl ?_
  refine .nil ?_
  refine .seq ?_
  refine .region ?_
  refine .q (q_move rfl) rfl ?_
  refine .q (q_move rfl) rfl ?_
  refine .q (x := .d (cU8 (UInt8.ofInt v1tag))) (q_conv8 Tryd.underlying3 Tryd.underlying5 rfl) rfl ?_
  refine .q (q_move rfl) rfl ?_
  refine .q (q_lenL (l := v2value) (row := rB8) Tryd.underlying25 rfl rfl) rfl ?_
  refine .q (x := .d (cU8 (UInt8.ofInt (v2value.length : Int)))) (q_conv8 Tryd.underlying3 Tryd.underlying5 rfl) rfl ?_
  refine .g (x := .d (slOf 1 rB8 ([UInt8.ofInt v1tag, UInt8.ofInt (v2value.length : Int)] : List UInt8))) (g_buildSliceN (n := 2) (rows := ([UInt8.ofInt v1tag, UInt8.ofInt (v2value.length : Int)] : List UInt8).map rB8) Tryd.underlying25 hi5 hs5 hz5 rfl rfl rfl rfl rfl) rfl ?_
  obtain ⟨hk1, H⟩ := ck_some H
  refine .v (x := .vc 0 ((y0t0p ++ ([UInt8.ofInt v1tag, UInt8.ofInt (v2value.length : Int)] : List UInt8)).length)) (v_appendV (l := y0t0p) (l' := ([UInt8.ofInt v1tag, UInt8.ofInt (v2value.length : Int)] : List UInt8)) (row := rB8) Tryd.underlying25 hi5 hz5 hs5 rfl (by rw [hb5]; decide) rfl rfl rfl rfl hk1) rfl ?_
  refine .withSt (st' := ⟨[], [⟨5, 1, ((y0t0p ++ ([UInt8.ofInt v1tag, UInt8.ofInt (v2value.length : Int)] : List UInt8)).length), some ((y0t0p ++ ([UInt8.ofInt v1tag, UInt8.ofInt (v2value.length : Int)] : List UInt8)).map rB8)⟩]⟩) rfl ?_
  refine .q (q_assign rfl) rfl ?_
  refine .nil ?_
  refine .seq ?_
  refine .region ?_
  refine .q (q_move rfl) rfl ?_
  refine .q (q_move rfl) rfl ?_
  obtain ⟨hk2, H⟩ := ck_some H
  refine .v (x := .vc 0 (((y0t0p ++ ([UInt8.ofInt v1tag, UInt8.ofInt (v2value.length : Int)] : List UInt8)) ++ v2value).length)) (v_appendV (l := y0t0p ++ ([UInt8.ofInt v1tag, UInt8.ofInt (v2value.length : Int)] : List UInt8)) (l' := v2value) (row := rB8) Tryd.underlying25 hi5 hz5 hs5 rfl (by rw [hb5]; decide) rfl rfl rfl rfl hk2) rfl ?_
  refine .withSt (st' := ⟨[], [⟨5, 1, (((y0t0p ++ ([UInt8.ofInt v1tag, UInt8.ofInt (v2value.length : Int)] : List UInt8)) ++ v2value).length), some (((y0t0p ++ ([UInt8.ofInt v1tag, UInt8.ofInt (v2value.length : Int)] : List UInt8)) ++ v2value).map rB8)⟩]⟩) rfl ?_
  refine .q (q_assign rfl) rfl ?_
  refine .nil ?_
  refine .retN [.tmp 6] [.vc 0 (((y0t0p ++ ([UInt8.ofInt v1tag, UInt8.ofInt (v2value.length : Int)] : List UInt8)) ++ v2value).length)] Tryd.func25 Tryd.results25 ⟨rfl, trivial⟩ ?_
  cases H
  exact ⟨[], [0], rfl, rfl, rfl, rfl, rfl, rfl, rfl, rfl, .rfl' _⟩

set_option maxRecDepth 100000 in
set_option maxHeartbeats 1000000 in
theorem c_g_tagged_Encode_1 {v0tag : Int} {v1value : List UInt8} {y0t0p : List UInt8} {n0p : Nat} {r : (List UInt8)} (H : g_tagged_Encode_1 v0tag v1value y0t0p = some r) : ACallS Tryd.prog 28 [.d (cI v0tag), .d (slOf 1 rB8 v1value), .ref 0 0] ⟨[.row 25 [.vc 0 n0p]], [⟨5, 1, n0p, some (y0t0p.map rB8)⟩]⟩ (QE (.d (.tup [])) ⟨[.row 25 [.vc 0 r.length]], [⟨5, 1, r.length, some (r.map rB8)⟩]⟩) := by
  refine ACallS.keep ?_
  refine ACallS.enter Tryd.func28 rfl Tryd.ntmps28 rfl fun S hS => ?_
  unfold g_tagged_Encode_1 at H
  change ARun _ _ _ _ _ _ [(0, .d (cI v0tag)), (1, .d (slOf 1 rB8 v1value)), (2, .ref 0 0)] _
  refine .seq ?_
  refine .region ?_
  refine .q (q_move rfl) rfl ?_
  refine .q (q_lenL (l := v1value) (row := rB8) Tryd.underlying25 rfl rfl) rfl ?_
  refine .q (q_gtr rfl rfl) rfl ?_
  refine .nil ?_
  refine .cond rfl (fun hc => ?_) (fun hc => ?_)
  · replace H := ifT hc H; clear hc
    refine .region ?_
    refine .q (x := .vc 0 n0p) (q_loadO one_25 rfl rfl rfl) rfl ?_
    refine .q (q_move rfl) rfl ?_
    refine .q (q_move rfl) rfl ?_
    obtain ⟨y1, hy1, H⟩ := bind_some' H
    refine .callF en_25 rfl [] [0] (x := .vc 0 ((y1).length)) (st' := ⟨[.row 25 [.vc 0 n0p]], [⟨5, 1, y1.length, some (y1.map rB8)⟩]⟩) rfl (c_g_tagged_put_v2 (hy1)) ⟨.rfl' _, .rfl' _, .rfl' _, trivial⟩ rfl rfl rfl rfl rfl rfl ?_
    refine .withSt (st' := ⟨[.row 25 [.vc 0 n0p]], [⟨5, 1, y1.length, some (y1.map rB8)⟩]⟩) rfl ?_
    refine .u (u_store rfl rfl rfl rfl (Nat.le_of_ble_eq_true rfl) sz_25) rfl ?_
    refine .withSt (st' := ⟨[.row 25 [.vc 0 ((y1).length)]], [⟨5, 1, y1.length, some (y1.map rB8)⟩]⟩) rfl ?_
    refine .nil ?_
    refine .fin0 Tryd.func28 Tryd.results28 ?_
    cases H
    exact ⟨[0], [0], rfl, rfl, rfl, rfl, rfl, rfl, rfl, rfl, EVle.tupL (ds := []) trivial⟩
  · replace H := ifF hc H; clear hc
    refine .skip ?_
    refine .normV (l := y0t0p) (row := rB8) (tk := 0) (fun z => []) (fun z => ⟨[.row 25 [.vc 0 z]], [⟨5, 1, z, some (y0t0p.map rB8)⟩]⟩) rfl (.nil) rfl ?_
    refine .fin0 Tryd.func28 Tryd.results28 ?_
    cases H
    exact ⟨[0], [0], rfl, rfl, rfl, rfl, rfl, rfl, rfl, rfl, EVle.tupL (ds := []) trivial⟩

set_option maxRecDepth 100000 in
set_option maxHeartbeats 1000000 in
theorem c_f_tagged_Encode {v0 : Record} {r : (List UInt8) × Int} (H : f_tagged_Encode v0 = some r) : ACall Tryd.prog 17 [.agg (Record.row v0)] (· = .tup [slOf 1 rB8 r.1, cI r.2]) := by
  obtain ⟨i5, hi5, hz5, hs5, hb5⟩ := in_5
  refine ACall.enter' Tryd.func17 rfl Tryd.ntmps17 rfl fun S hS => ?_
  unfold f_tagged_Encode at H
  change ARun _ _ _ _ _ _ [(0, .d (.agg (Record.row v0)))] _
  refine .seq ?_
  refine .region ?_
  refine .v (x := .ref 0 0) (v_box rfl rfl) rfl ?_
  refine .withSt (st' := ⟨[.row 34 [.d (cI v0.source), .d (cI v0.serial), .d (cI v0.kind), .d (cS v0.a), .d (cS v0.b), .d (cI v0.start), .d (cI v0.units), .d (cI v0.call), .d (cI v0.part), .d (cB v0.last), .d (cI v0.trunk), .d (cB v0.inbound)]], []⟩) rfl ?_
  refine .q (q_assign rfl) rfl ?_
  refine .q (q_assign rfl) rfl ?_
  refine .nil ?_
  refine .seq ?_
  refine .seq ?_
  refine .region ?_
  refine .q (x := .d (.agg (Record.row v0))) (q_loadOA one_34 sz_34 rfl rfl (Nat.le_of_ble_eq_true rfl) rfl) rfl ?_
  obtain ⟨y1, hy1, H⟩ := bind_some' H
  refine .g (x := .d (.tup [cS y1.1, cI y1.2])) (g_call en_26 rfl rfl (c_f_textual_Encode (hy1))) rfl ?_
  refine .q (q_move rfl) rfl ?_
  refine .q (q_extract rfl rfl) rfl ?_
  refine .q (q_extract rfl rfl) rfl ?_
  refine .q (q_assign rfl) rfl ?_
  refine .q (q_assign rfl) rfl ?_
  refine .nil ?_
  refine .seq ?_
  refine .region ?_
  refine .q (q_move rfl) rfl ?_
  refine .q (q_neq rfl rfl) rfl ?_
  refine .nil ?_
  refine .cond rfl (fun hc => ?_) (fun hc => ?_)
  · replace H := ifT hc H; clear hc
    refine .seq ?_
    refine .region ?_
    refine .q (q_move rfl) rfl ?_
    refine .q (q_assign rfl) rfl ?_
    refine .q (q_assign rfl) rfl ?_
    refine .nil ?_
    refine .retN [.tmp 2, .tmp 3] [.d (nilD), .d (cI y1.2)] Tryd.func17 Tryd.results17 ⟨rfl, rfl, trivial⟩ ?_
    cases H
    exact ⟨_, EVle.tupL (ds := [slOf 1 rB8 ([] : List UInt8), cI y1.2]) ⟨.nil 1, .rfl' _, trivial⟩, rfl⟩
  · replace H := ifF hc H; clear hc
    refine .skip ?_
    refine .seq ?_
    refine .region ?_
    refine .q (q_fieldRef fo_34_3 rfl) rfl ?_
    refine .q (x := .d (cS v0.a)) (q_loadO one_9 rfl rfl rfl) rfl ?_
    obtain ⟨y2, hy2, H⟩ := bind_some' H
    refine .g (x := .d (.tup [slOf 1 rB8 y2.1, cI y2.2])) (g_call en_27 rfl rfl (c_f_digits_Pack (hy2))) rfl ?_
    refine .q (q_move rfl) rfl ?_
    refine .q (q_extract rfl rfl) rfl ?_
    refine .q (q_extract rfl rfl) rfl ?_
    refine .q (q_assign rfl) rfl ?_
    refine .q (q_assign rfl) rfl ?_
    refine .nil ?_
    refine .seq ?_
    refine .region ?_
    refine .q (q_fieldRef fo_34_4 rfl) rfl ?_
    refine .q (x := .d (cS v0.b)) (q_loadO one_9 rfl rfl rfl) rfl ?_
    obtain ⟨y3, hy3, H⟩ := bind_some' H
    refine .g (x := .d (.tup [slOf 1 rB8 y3.1, cI y3.2])) (g_call en_27 rfl rfl (c_f_digits_Pack (hy3))) rfl ?_
    refine .q (q_move rfl) rfl ?_
    refine .q (q_extract rfl rfl) rfl ?_
    refine .q (q_extract rfl rfl) rfl ?_
    refine .q (q_assign rfl) rfl ?_
    refine .q (q_assign rfl) rfl ?_
    refine .nil ?_
    refine .seq ?_
    refine .region ?_
    obtain ⟨hk1, H⟩ := ck_some H
    refine .v (x := .vc 0 ((List.replicate (Int.toNat (2)) 0 : List UInt8).length)) (v_makeV (row := rB8) (a := 2) (b := 2) (a0 := 0) Tryd.underlying25 hi5 hz5 hs5 rfl (by rw [hb5]; decide) rfl rfl rfl hk1) rfl ?_
    refine .withSt (st' := ⟨[.row 34 [.d (cI v0.source), .d (cI v0.serial), .d (cI v0.kind), .d (cS v0.a), .d (cS v0.b), .d (cI v0.start), .d (cI v0.units), .d (cI v0.call), .d (cI v0.part), .d (cB v0.last), .d (cI v0.trunk), .d (cB v0.inbound)]], [⟨5, 1, ((List.replicate (Int.toNat (2)) 0 : List UInt8).length), some ((List.replicate (Int.toNat (2)) 0 : List UInt8).map rB8)⟩]⟩) rfl ?_
    refine .v (x := .ref 1 0) (v_alloc zr_25 rfl) rfl ?_
    refine .withSt (st' := ⟨[.row 34 [.d (cI v0.source), .d (cI v0.serial), .d (cI v0.kind), .d (cS v0.a), .d (cS v0.b), .d (cI v0.start), .d (cI v0.units), .d (cI v0.call), .d (cI v0.part), .d (cB v0.last), .d (cI v0.trunk), .d (cB v0.inbound)], .row 25 [.d (nilD)]], [⟨5, 1, ((List.replicate (Int.toNat (2)) 0 : List UInt8).length), some ((List.replicate (Int.toNat (2)) 0 : List UInt8).map rB8)⟩]⟩) rfl ?_
    refine .u (u_store rfl rfl rfl rfl (Nat.le_of_ble_eq_true rfl) sz_25) rfl ?_
    refine .withSt (st' := ⟨[.row 34 [.d (cI v0.source), .d (cI v0.serial), .d (cI v0.kind), .d (cS v0.a), .d (cS v0.b), .d (cI v0.start), .d (cI v0.units), .d (cI v0.call), .d (cI v0.part), .d (cB v0.last), .d (cI v0.trunk), .d (cB v0.inbound)], .row 25 [.vc 0 ((List.replicate (Int.toNat (2)) 0 : List UInt8).length)]], [⟨5, 1, ((List.replicate (Int.toNat (2)) 0 : List UInt8).length), some ((List.replicate (Int.toNat (2)) 0 : List UInt8).map rB8)⟩]⟩) rfl ?_
    refine .nil ?_
    refine .seq ?_
    refine .region ?_
    refine .q (x := .clo 28 [.ref 1 0]) (q_makeFunc rfl) rfl ?_
    refine .q (q_assign rfl) rfl ?_
    refine .nil ?_
    refine .seq ?_
    refine .region ?_
    refine .q (q_move rfl) rfl ?_
    refine .q (q_fieldRef fo_34_2 rfl) rfl ?_
    refine .q (x := .d (cI v0.kind)) (q_loadO one_3 rfl rfl rfl) rfl ?_
    obtain ⟨y4, hy4, H⟩ := bind_some' H
    refine .g (x := .d (slOf 1 rB8 y4)) (g_call en_29 rfl rfl (c_f_tagged_bytes (hy4))) rfl ?_
    obtain ⟨y5, hy5, H⟩ := bind_some' H
    refine .callFC en_28 rfl rfl [1] [0] (x := .d (.tup [])) (st' := ⟨[.row 34 [.d (cI v0.source), .d (cI v0.serial), .d (cI v0.kind), .d (cS v0.a), .d (cS v0.b), .d (cI v0.start), .d (cI v0.units), .d (cI v0.call), .d (cI v0.part), .d (cB v0.last), .d (cI v0.trunk), .d (cB v0.inbound)], .row 25 [.vc 0 y5.length]], [⟨5, 1, y5.length, some (y5.map rB8)⟩]⟩) rfl (c_g_tagged_Encode_1 (hy5)) ⟨.rfl' _, .rfl' _, .rfl' _, trivial⟩ rfl rfl rfl rfl rfl rfl ?_
    refine .withSt (st' := ⟨[.row 34 [.d (cI v0.source), .d (cI v0.serial), .d (cI v0.kind), .d (cS v0.a), .d (cS v0.b), .d (cI v0.start), .d (cI v0.units), .d (cI v0.call), .d (cI v0.part), .d (cB v0.last), .d (cI v0.trunk), .d (cB v0.inbound)], .row 25 [.vc 0 y5.length]], [⟨5, 1, y5.length, some (y5.map rB8)⟩]⟩) rfl ?_
    refine .nil ?_
    refine .seq ?_
    refine .region ?_
    refine .q (q_move rfl) rfl ?_
    refine .q (q_fieldRef fo_34_0 rfl) rfl ?_
    refine .q (x := .d (cI v0.source)) (q_loadO one_3 rfl rfl rfl) rfl ?_
    obtain ⟨y6, hy6, H⟩ := bind_some' H
    refine .g (x := .d (slOf 1 rB8 y6)) (g_call en_29 rfl rfl (c_f_tagged_bytes (hy6))) rfl ?_
    obtain ⟨y7, hy7, H⟩ := bind_some' H
    refine .callFC en_28 rfl rfl [1] [0] (x := .d (.tup [])) (st' := ⟨[.row 34 [.d (cI v0.source), .d (cI v0.serial), .d (cI v0.kind), .d (cS v0.a), .d (cS v0.b), .d (cI v0.start), .d (cI v0.units), .d (cI v0.call), .d (cI v0.part), .d (cB v0.last), .d (cI v0.trunk), .d (cB v0.inbound)], .row 25 [.vc 0 y7.length]], [⟨5, 1, y7.length, some (y7.map rB8)⟩]⟩) rfl (c_g_tagged_Encode_1 (hy7)) ⟨.rfl' _, .rfl' _, .rfl' _, trivial⟩ rfl rfl rfl rfl rfl rfl ?_
    refine .withSt (st' := ⟨[.row 34 [.d (cI v0.source), .d (cI v0.serial), .d (cI v0.kind), .d (cS v0.a), .d (cS v0.b), .d (cI v0.start), .d (cI v0.units), .d (cI v0.call), .d (cI v0.part), .d (cB v0.last), .d (cI v0.trunk), .d (cB v0.inbound)], .row 25 [.vc 0 y7.length]], [⟨5, 1, y7.length, some (y7.map rB8)⟩]⟩) rfl ?_
    refine .nil ?_
    refine .seq ?_
    refine .region ?_
    refine .q (q_move rfl) rfl ?_
    refine .q (q_fieldRef fo_34_1 rfl) rfl ?_
    refine .q (x := .d (cI v0.serial)) (q_loadO one_3 rfl rfl rfl) rfl ?_
    obtain ⟨y8, hy8, H⟩ := bind_some' H
    refine .g (x := .d (slOf 1 rB8 y8)) (g_call en_29 rfl rfl (c_f_tagged_bytes (hy8))) rfl ?_
    obtain ⟨y9, hy9, H⟩ := bind_some' H
    refine .callFC en_28 rfl rfl [1] [0] (x := .d (.tup [])) (st' := ⟨[.row 34 [.d (cI v0.source), .d (cI v0.serial), .d (cI v0.kind), .d (cS v0.a), .d (cS v0.b), .d (cI v0.start), .d (cI v0.units), .d (cI v0.call), .d (cI v0.part), .d (cB v0.last), .d (cI v0.trunk), .d (cB v0.inbound)], .row 25 [.vc 0 y9.length]], [⟨5, 1, y9.length, some (y9.map rB8)⟩]⟩) rfl (c_g_tagged_Encode_1 (hy9)) ⟨.rfl' _, .rfl' _, .rfl' _, trivial⟩ rfl rfl rfl rfl rfl rfl ?_
    refine .withSt (st' := ⟨[.row 34 [.d (cI v0.source), .d (cI v0.serial), .d (cI v0.kind), .d (cS v0.a), .d (cS v0.b), .d (cI v0.start), .d (cI v0.units), .d (cI v0.call), .d (cI v0.part), .d (cB v0.last), .d (cI v0.trunk), .d (cB v0.inbound)], .row 25 [.vc 0 y9.length]], [⟨5, 1, y9.length, some (y9.map rB8)⟩]⟩) rfl ?_
    refine .nil ?_
    refine .seq ?_
    refine .region ?_
    refine .q (q_move rfl) rfl ?_
    refine .q (q_move rfl) rfl ?_
    obtain ⟨y10, hy10, H⟩ := bind_some' H
    refine .callFC en_28 rfl rfl [1] [0] (x := .d (.tup [])) (st' := ⟨[.row 34 [.d (cI v0.source), .d (cI v0.serial), .d (cI v0.kind), .d (cS v0.a), .d (cS v0.b), .d (cI v0.start), .d (cI v0.units), .d (cI v0.call), .d (cI v0.part), .d (cB v0.last), .d (cI v0.trunk), .d (cB v0.inbound)], .row 25 [.vc 0 y10.length]], [⟨5, 1, y10.length, some (y10.map rB8)⟩]⟩) rfl (c_g_tagged_Encode_1 (hy10)) ⟨.rfl' _, .rfl' _, .rfl' _, trivial⟩ rfl rfl rfl rfl rfl rfl ?_
    refine .withSt (st' := ⟨[.row 34 [.d (cI v0.source), .d (cI v0.serial), .d (cI v0.kind), .d (cS v0.a), .d (cS v0.b), .d (cI v0.start), .d (cI v0.units), .d (cI v0.call), .d (cI v0.part), .d (cB v0.last), .d (cI v0.trunk), .d (cB v0.inbound)], .row 25 [.vc 0 y10.length]], [⟨5, 1, y10.length, some (y10.map rB8)⟩]⟩) rfl ?_
    refine .nil ?_
    refine .seq ?_
    refine .region ?_
    refine .q (q_move rfl) rfl ?_
    refine .q (q_move rfl) rfl ?_
    obtain ⟨y11, hy11, H⟩ := bind_some' H
    refine .callFC en_28 rfl rfl [1] [0] (x := .d (.tup [])) (st' := ⟨[.row 34 [.d (cI v0.source), .d (cI v0.serial), .d (cI v0.kind), .d (cS v0.a), .d (cS v0.b), .d (cI v0.start), .d (cI v0.units), .d (cI v0.call), .d (cI v0.part), .d (cB v0.last), .d (cI v0.trunk), .d (cB v0.inbound)], .row 25 [.vc 0 y11.length]], [⟨5, 1, y11.length, some (y11.map rB8)⟩]⟩) rfl (c_g_tagged_Encode_1 (hy11)) ⟨.rfl' _, .rfl' _, .rfl' _, trivial⟩ rfl rfl rfl rfl rfl rfl ?_
    refine .withSt (st' := ⟨[.row 34 [.d (cI v0.source), .d (cI v0.serial), .d (cI v0.kind), .d (cS v0.a), .d (cS v0.b), .d (cI v0.start), .d (cI v0.units), .d (cI v0.call), .d (cI v0.part), .d (cB v0.last), .d (cI v0.trunk), .d (cB v0.inbound)], .row 25 [.vc 0 y11.length]], [⟨5, 1, y11.length, some (y11.map rB8)⟩]⟩) rfl ?_
    refine .nil ?_
    refine .seq ?_
    refine .region ?_
    refine .q (q_move rfl) rfl ?_
    refine .q (q_fieldRef fo_34_5 rfl) rfl ?_
    refine .q (x := .d (cI v0.start)) (q_loadO one_3 rfl rfl rfl) rfl ?_
    obtain ⟨y12, hy12, H⟩ := bind_some' H
    refine .g (x := .d (slOf 1 rB8 y12)) (g_call en_29 rfl rfl (c_f_tagged_bytes (hy12))) rfl ?_
    obtain ⟨y13, hy13, H⟩ := bind_some' H
    refine .callFC en_28 rfl rfl [1] [0] (x := .d (.tup [])) (st' := ⟨[.row 34 [.d (cI v0.source), .d (cI v0.serial), .d (cI v0.kind), .d (cS v0.a), .d (cS v0.b), .d (cI v0.start), .d (cI v0.units), .d (cI v0.call), .d (cI v0.part), .d (cB v0.last), .d (cI v0.trunk), .d (cB v0.inbound)], .row 25 [.vc 0 y13.length]], [⟨5, 1, y13.length, some (y13.map rB8)⟩]⟩) rfl (c_g_tagged_Encode_1 (hy13)) ⟨.rfl' _, .rfl' _, .rfl' _, trivial⟩ rfl rfl rfl rfl rfl rfl ?_
    refine .withSt (st' := ⟨[.row 34 [.d (cI v0.source), .d (cI v0.serial), .d (cI v0.kind), .d (cS v0.a), .d (cS v0.b), .d (cI v0.start), .d (cI v0.units), .d (cI v0.call), .d (cI v0.part), .d (cB v0.last), .d (cI v0.trunk), .d (cB v0.inbound)], .row 25 [.vc 0 y13.length]], [⟨5, 1, y13.length, some (y13.map rB8)⟩]⟩) rfl ?_
    refine .nil ?_
    refine .seq ?_
    refine .region ?_
    refine .q (q_move rfl) rfl ?_
    refine .q (q_fieldRef fo_34_6 rfl) rfl ?_
    refine .q (x := .d (cI v0.units)) (q_loadO one_3 rfl rfl rfl) rfl ?_
    obtain ⟨y14, hy14, H⟩ := bind_some' H
    refine .g (x := .d (slOf 1 rB8 y14)) (g_call en_29 rfl rfl (c_f_tagged_bytes (hy14))) rfl ?_
    obtain ⟨y15, hy15, H⟩ := bind_some' H
    refine .callFC en_28 rfl rfl [1] [0] (x := .d (.tup [])) (st' := ⟨[.row 34 [.d (cI v0.source), .d (cI v0.serial), .d (cI v0.kind), .d (cS v0.a), .d (cS v0.b), .d (cI v0.start), .d (cI v0.units), .d (cI v0.call), .d (cI v0.part), .d (cB v0.last), .d (cI v0.trunk), .d (cB v0.inbound)], .row 25 [.vc 0 y15.length]], [⟨5, 1, y15.length, some (y15.map rB8)⟩]⟩) rfl (c_g_tagged_Encode_1 (hy15)) ⟨.rfl' _, .rfl' _, .rfl' _, trivial⟩ rfl rfl rfl rfl rfl rfl ?_
    refine .withSt (st' := ⟨[.row 34 [.d (cI v0.source), .d (cI v0.serial), .d (cI v0.kind), .d (cS v0.a), .d (cS v0.b), .d (cI v0.start), .d (cI v0.units), .d (cI v0.call), .d (cI v0.part), .d (cB v0.last), .d (cI v0.trunk), .d (cB v0.inbound)], .row 25 [.vc 0 y15.length]], [⟨5, 1, y15.length, some (y15.map rB8)⟩]⟩) rfl ?_
    refine .nil ?_
    refine .seq ?_
    refine .region ?_
    refine .q (q_move rfl) rfl ?_
    refine .q (q_fieldRef fo_34_7 rfl) rfl ?_
    refine .q (x := .d (cI v0.call)) (q_loadO one_3 rfl rfl rfl) rfl ?_
    obtain ⟨y16, hy16, H⟩ := bind_some' H
    refine .g (x := .d (slOf 1 rB8 y16)) (g_call en_29 rfl rfl (c_f_tagged_bytes (hy16))) rfl ?_
    obtain ⟨y17, hy17, H⟩ := bind_some' H
    refine .callFC en_28 rfl rfl [1] [0] (x := .d (.tup [])) (st' := ⟨[.row 34 [.d (cI v0.source), .d (cI v0.serial), .d (cI v0.kind), .d (cS v0.a), .d (cS v0.b), .d (cI v0.start), .d (cI v0.units), .d (cI v0.call), .d (cI v0.part), .d (cB v0.last), .d (cI v0.trunk), .d (cB v0.inbound)], .row 25 [.vc 0 y17.length]], [⟨5, 1, y17.length, some (y17.map rB8)⟩]⟩) rfl (c_g_tagged_Encode_1 (hy17)) ⟨.rfl' _, .rfl' _, .rfl' _, trivial⟩ rfl rfl rfl rfl rfl rfl ?_
    refine .withSt (st' := ⟨[.row 34 [.d (cI v0.source), .d (cI v0.serial), .d (cI v0.kind), .d (cS v0.a), .d (cS v0.b), .d (cI v0.start), .d (cI v0.units), .d (cI v0.call), .d (cI v0.part), .d (cB v0.last), .d (cI v0.trunk), .d (cB v0.inbound)], .row 25 [.vc 0 y17.length]], [⟨5, 1, y17.length, some (y17.map rB8)⟩]⟩) rfl ?_
    refine .nil ?_
    refine .seq ?_
    refine .region ?_
    refine .q (q_move rfl) rfl ?_
    refine .q (q_fieldRef fo_34_8 rfl) rfl ?_
    refine .q (x := .d (cI v0.part)) (q_loadO one_3 rfl rfl rfl) rfl ?_
    obtain ⟨y18, hy18, H⟩ := bind_some' H
    refine .g (x := .d (slOf 1 rB8 y18)) (g_call en_29 rfl rfl (c_f_tagged_bytes (hy18))) rfl ?_
    obtain ⟨y19, hy19, H⟩ := bind_some' H
    refine .callFC en_28 rfl rfl [1] [0] (x := .d (.tup [])) (st' := ⟨[.row 34 [.d (cI v0.source), .d (cI v0.serial), .d (cI v0.kind), .d (cS v0.a), .d (cS v0.b), .d (cI v0.start), .d (cI v0.units), .d (cI v0.call), .d (cI v0.part), .d (cB v0.last), .d (cI v0.trunk), .d (cB v0.inbound)], .row 25 [.vc 0 y19.length]], [⟨5, 1, y19.length, some (y19.map rB8)⟩]⟩) rfl (c_g_tagged_Encode_1 (hy19)) ⟨.rfl' _, .rfl' _, .rfl' _, trivial⟩ rfl rfl rfl rfl rfl rfl ?_
    refine .withSt (st' := ⟨[.row 34 [.d (cI v0.source), .d (cI v0.serial), .d (cI v0.kind), .d (cS v0.a), .d (cS v0.b), .d (cI v0.start), .d (cI v0.units), .d (cI v0.call), .d (cI v0.part), .d (cB v0.last), .d (cI v0.trunk), .d (cB v0.inbound)], .row 25 [.vc 0 y19.length]], [⟨5, 1, y19.length, some (y19.map rB8)⟩]⟩) rfl ?_
    refine .nil ?_
    refine .seq ?_
    refine .region ?_
    refine .q (q_move rfl) rfl ?_
    refine .q (q_fieldRef fo_34_10 rfl) rfl ?_
    refine .q (x := .d (cI v0.trunk)) (q_loadO one_3 rfl rfl rfl) rfl ?_
    obtain ⟨y20, hy20, H⟩ := bind_some' H
    refine .g (x := .d (slOf 1 rB8 y20)) (g_call en_29 rfl rfl (c_f_tagged_bytes (hy20))) rfl ?_
    obtain ⟨y21, hy21, H⟩ := bind_some' H
    refine .callFC en_28 rfl rfl [1] [0] (x := .d (.tup [])) (st' := ⟨[.row 34 [.d (cI v0.source), .d (cI v0.serial), .d (cI v0.kind), .d (cS v0.a), .d (cS v0.b), .d (cI v0.start), .d (cI v0.units), .d (cI v0.call), .d (cI v0.part), .d (cB v0.last), .d (cI v0.trunk), .d (cB v0.inbound)], .row 25 [.vc 0 y21.length]], [⟨5, 1, y21.length, some (y21.map rB8)⟩]⟩) rfl (c_g_tagged_Encode_1 (hy21)) ⟨.rfl' _, .rfl' _, .rfl' _, trivial⟩ rfl rfl rfl rfl rfl rfl ?_
    refine .withSt (st' := ⟨[.row 34 [.d (cI v0.source), .d (cI v0.serial), .d (cI v0.kind), .d (cS v0.a), .d (cS v0.b), .d (cI v0.start), .d (cI v0.units), .d (cI v0.call), .d (cI v0.part), .d (cB v0.last), .d (cI v0.trunk), .d (cB v0.inbound)], .row 25 [.vc 0 y21.length]], [⟨5, 1, y21.length, some (y21.map rB8)⟩]⟩) rfl ?_
    refine .nil ?_
    refine .seq ?_
    refine .drawn 9 hMix (by kernel_rfl) ?_
    show DOps _ _ _ _ _ _ _ (_ :: _) _ _ _
    refine .q (q_move rfl) rfl ?_
    refine .q (q_fieldRef fo_34_9 rfl) rfl ?_
    refine .q (x := .d (cB v0.last)) (q_loadO one_4 rfl rfl rfl) rfl ?_
    obtain ⟨y22, hy22, H⟩ := bind_some' H
    refine .g (x := .d (cI y22)) (g_call en_30 rfl rfl (c_f_tagged_flag (hy22))) rfl ?_
    refine .q (q_fieldRef fo_34_11 rfl) rfl ?_
    refine .q (x := .d (cB v0.inbound)) (q_loadO one_4 rfl rfl rfl) rfl ?_
    obtain ⟨y23, hy23, H⟩ := bind_some' H
    refine .g (x := .d (cI y23)) (g_call en_30 rfl rfl (c_f_tagged_flag (hy23))) rfl ?_
    obtain ⟨hk2, H⟩ := ck_some H
    refine .q (q_addI rfl rfl hk2.1 hk2.2) rfl ?_
    obtain ⟨y24, hy24, H⟩ := bind_some' H
    refine .g (x := .d (slOf 1 rB8 y24)) (g_call en_29 rfl rfl (c_f_tagged_bytes (hy24))) rfl ?_
    refine .nil ?_
    show AOps _ _ _ _ _ _ (_ :: _) _ _ _
    obtain ⟨y25, hy25, H⟩ := bind_some' H
    refine .callFC en_28 rfl rfl [1] [0] (x := .d (.tup [])) (st' := ⟨[.row 34 [.d (cI v0.source), .d (cI v0.serial), .d (cI v0.kind), .d (cS v0.a), .d (cS v0.b), .d (cI v0.start), .d (cI v0.units), .d (cI v0.call), .d (cI v0.part), .d (cB v0.last), .d (cI v0.trunk), .d (cB v0.inbound)], .row 25 [.vc 0 y25.length]], [⟨5, 1, y25.length, some (y25.map rB8)⟩]⟩) rfl (c_g_tagged_Encode_1 (hy25)) ⟨.rfl' _, .rfl' _, .rfl' _, trivial⟩ rfl rfl rfl rfl rfl rfl ?_
    refine .withSt (st' := ⟨[.row 34 [.d (cI v0.source), .d (cI v0.serial), .d (cI v0.kind), .d (cS v0.a), .d (cS v0.b), .d (cI v0.start), .d (cI v0.units), .d (cI v0.call), .d (cI v0.part), .d (cB v0.last), .d (cI v0.trunk), .d (cB v0.inbound)], .row 25 [.vc 0 y25.length]], [⟨5, 1, y25.length, some (y25.map rB8)⟩]⟩) rfl ?_
    refine .nil ?_
    refine .seq ?_
    refine .region ?_
    refine .q (x := .vc 0 y25.length) (q_loadO one_25 rfl rfl rfl) rfl ?_
    refine .q (x := .d (cI (y25.length : Int))) (q_lenV (l := y25) (row := rB8) Tryd.underlying25 rfl rfl) rfl ?_
    obtain ⟨hk3, H⟩ := ck_some H
    refine .q (q_subI rfl rfl hk3.1 hk3.2) rfl ?_
    refine .q (q_assign rfl) rfl ?_
    refine .nil ?_
    refine .seq ?_
    obtain ⟨hk4, H⟩ := ck_some H
    obtain ⟨hk5, H⟩ := ck_some H
    obtain ⟨hk6, H⟩ := ck_some H
    refine .orders1 9 8 [⟨[.row 34 [.d (cI v0.source), .d (cI v0.serial), .d (cI v0.kind), .d (cS v0.a), .d (cS v0.b), .d (cI v0.start), .d (cI v0.units), .d (cI v0.call), .d (cI v0.part), .d (cB v0.last), .d (cI v0.trunk), .d (cB v0.inbound)], .row 25 [.vc 0 y25.length]], [⟨5, 1, y25.length, some (y25.map rB8)⟩]⟩, ⟨[.row 34 [.d (cI v0.source), .d (cI v0.serial), .d (cI v0.kind), .d (cS v0.a), .d (cS v0.b), .d (cI v0.start), .d (cI v0.units), .d (cI v0.call), .d (cI v0.part), .d (cB v0.last), .d (cI v0.trunk), .d (cB v0.inbound)], .row 25 [.vc 0 y25.length]], [⟨5, 1, y25.length, some ((y25.set (Int.toNat (0)) (UInt8.ofInt (((y25.length : Int) - 2) / 2 ^ (Int.toNat (8))))).map rB8)⟩]⟩] hMix (by kernel_rfl) (by decide) rfl ?_
    show XOps _ _ _ _ _ _ _ _ _ _ (_ :: _) _ _
    refine .g (x := .vc 0 y25.length) 0 0 ⟨OpQ.g (q_loadO one_25 rfl rfl rfl), trivial⟩ rfl (by kernel_rfl) rfl ?_
    refine .g (x := .vc 0 y25.length) 0 1 ⟨OpQ.g (q_loadO one_25 rfl rfl rfl), OpQ.g (q_loadO one_25 rfl rfl rfl), trivial⟩ rfl (by kernel_rfl) rfl ?_
    refine .g (x := .d (cI ((y25.length : Int) - 2))) 0 0 ⟨OpQ.g (q_move rfl), trivial⟩ rfl (by kernel_rfl) rfl ?_
    refine .g (x := .d (cI (((y25.length : Int) - 2) / 2 ^ (Int.toNat (8))))) 0 0 ⟨OpQ.g (q_shrI rfl rfl hk4), trivial⟩ rfl (by kernel_rfl) rfl ?_
    refine .g (x := .d (cU8 (UInt8.ofInt (((y25.length : Int) - 2) / 2 ^ (Int.toNat (8)))))) 0 0 ⟨OpQ.g (q_conv8 Tryd.underlying3 Tryd.underlying5 rfl), trivial⟩ rfl (by kernel_rfl) rfl ?_
    refine .g (x := .d (cI ((y25.length : Int) - 2))) 0 1 ⟨OpQ.g (q_move rfl), OpQ.g (q_move rfl), trivial⟩ rfl (by kernel_rfl) rfl ?_
    refine .g (x := .d (cU8 (UInt8.ofInt ((y25.length : Int) - 2)))) 0 1 ⟨OpQ.g (q_conv8 Tryd.underlying3 Tryd.underlying5 rfl), OpQ.g (q_conv8 Tryd.underlying3 Tryd.underlying5 rfl), trivial⟩ rfl (by kernel_rfl) rfl ?_
    refine .g (x := .vp 0 y25.length (Int.toNat (0)) 0) 0 0 ⟨OpQ.g (q_idxV (l := y25) (row := rB8) (i := 0) Tryd.underlying25 hi5 hs5 rfl rfl rfl hk5), trivial⟩ rfl (by kernel_rfl) rfl ?_
    refine .u 0 (u_storeV (l := y25) (row := rB8) (a := UInt8.ofInt (((y25.length : Int) - 2) / 2 ^ (Int.toNat (8)))) rfl rfl hk6 rfl rfl sz_5 rfl (Nat.le_of_ble_eq_true rfl) rfl) rfl rfl rfl rfl ?_
    refine .nil rfl ?_
    show AOps _ _ _ _ _ _ (_ :: _) _ _ _
    obtain ⟨hk7, H⟩ := ck_some H
    refine .q (x := .vp 0 y25.length (Int.toNat (1)) 0) (q_idxV (l := y25.set (Int.toNat (0)) (UInt8.ofInt (((y25.length : Int) - 2) / 2 ^ (Int.toNat (8))))) (row := rB8) (i := 1) Tryd.underlying25 hi5 hs5 rfl rfl rfl hk7) rfl ?_
    obtain ⟨hk8, H⟩ := ck_some H
    refine .u (u_storeV (l := y25.set (Int.toNat (0)) (UInt8.ofInt (((y25.length : Int) - 2) / 2 ^ (Int.toNat (8))))) (row := rB8) (a := UInt8.ofInt ((y25.length : Int) - 2)) rfl rfl hk8 rfl rfl sz_5 rfl (Nat.le_of_ble_eq_true rfl) rfl) rfl ?_
    refine .withSt (st' := ⟨[.row 34 [.d (cI v0.source), .d (cI v0.serial), .d (cI v0.kind), .d (cS v0.a), .d (cS v0.b), .d (cI v0.start), .d (cI v0.units), .d (cI v0.call), .d (cI v0.part), .d (cB v0.last), .d (cI v0.trunk), .d (cB v0.inbound)], .row 25 [.vc 0 y25.length]], [⟨5, 1, y25.length, some (((y25.set (Int.toNat (0)) (UInt8.ofInt (((y25.length : Int) - 2) / 2 ^ (Int.toNat (8))))).set (Int.toNat (1)) (UInt8.ofInt ((y25.length : Int) - 2))).map rB8)⟩]⟩) rfl ?_
    refine .nil ?_
    refine .seq ?_
    refine .region ?_
    refine .q (x := .vc 0 y25.length) (q_loadO one_25 rfl rfl rfl) rfl ?_
    refine .q (q_assign rfl) rfl ?_
    refine .q (q_assign rfl) rfl ?_
    refine .nil ?_
    refine .freezeL (l := (y25.set (Int.toNat (0)) (UInt8.ofInt (((y25.length : Int) - 2) / 2 ^ (Int.toNat (8))))).set (Int.toNat (1)) (UInt8.ofInt ((y25.length : Int) - 2))) (row := rB8) (i := 2) rfl rfl ?_
    refine .withSt (st' := ⟨[.row 34 [.d (cI v0.source), .d (cI v0.serial), .d (cI v0.kind), .d (cS v0.a), .d (cS v0.b), .d (cI v0.start), .d (cI v0.units), .d (cI v0.call), .d (cI v0.part), .d (cB v0.last), .d (cI v0.trunk), .d (cB v0.inbound)], .row 25 [.vc 0 y25.length]], [⟨5, 1, ((y25.set (Int.toNat (0)) (UInt8.ofInt (((y25.length : Int) - 2) / 2 ^ (Int.toNat (8))))).set (Int.toNat (1)) (UInt8.ofInt ((y25.length : Int) - 2))).length, none⟩]⟩) rfl ?_
    refine .retN [.tmp 2, .tmp 3] [.tsl 1 (((y25.set (Int.toNat (0)) (UInt8.ofInt (((y25.length : Int) - 2) / 2 ^ (Int.toNat (8))))).set (Int.toNat (1)) (UInt8.ofInt ((y25.length : Int) - 2))).map rB8) 0, .d (cI 0)] Tryd.func17 Tryd.results17 ⟨rfl, rfl, trivial⟩ ?_
    cases H
    exact ⟨_, EVle.tupL (ds := [slOf 1 rB8 ((y25.set (Int.toNat (0)) (UInt8.ofInt (((y25.length : Int) - 2) / 2 ^ (Int.toNat (8))))).set (Int.toNat (1)) (UInt8.ofInt ((y25.length : Int) - 2))), cI 0]) ⟨.tsl _ _ _, .rfl' _, trivial⟩, rfl⟩

set_option maxRecDepth 100000 in
set_option maxHeartbeats 1000000 in
theorem c_f_billinglaw10_awake {r : Bool} (H : f_billinglaw10_awake = some r) : ACall Tryd.prog 10 [] (· = cB r) := by
  obtain ⟨i5, hi5, hz5, hs5, hb5⟩ := in_5
  obtain ⟨i34, hi34, hz34, hs34, hb34⟩ := in_34
  obtain ⟨i47, hi47, hz47, hs47, hb47⟩ := in_47
  refine ACall.enter' Tryd.func10 rfl Tryd.ntmps10 rfl fun S hS => ?_
  unfold f_billinglaw10_awake at H
  change ARun _ _ _ _ _ _ [] _
  refine .seq ?_
  refine .region ?_
  refine .q (q_assign rfl) rfl ?_
  refine .nil ?_
  refine .seq ?_
  refine .region ?_
  refine .g (x := .d (slOf 1 rB8 ([1, 2] : List UInt8))) (g_buildSliceN (n := 2) (rows := ([1, 2] : List UInt8).map rB8) Tryd.underlying25 hi5 hs5 hz5 rfl rfl rfl rfl rfl) rfl ?_
  refine .q (x := .d (.agg (Element.row (⟨5, ([1, 2] : List UInt8)⟩ : Element)))) (q_buildP pl_47 hi47 hz47 rfl rfl) rfl ?_
  refine .g (x := .d (slOf 2 Element.row ([(⟨5, ([1, 2] : List UInt8)⟩ : Element)] : List Element))) (g_buildSlice1 Tryd.underlying22 hi47 hs47 hz47 rfl rfl rfl rfl rfl) rfl ?_
  obtain ⟨y1, hy1, H⟩ := bind_some' H
  refine .g (x := .d (.tup [slOf 1 rB8 y1.1, cI y1.2])) (g_call en_11 rfl rfl (c_f_tagged_Build (hy1))) rfl ?_
  refine .q (q_move rfl) rfl ?_
  refine .q (q_extract rfl rfl) rfl ?_
  refine .q (q_extract rfl rfl) rfl ?_
  refine .q (q_assign rfl) rfl ?_
  refine .q (q_assign rfl) rfl ?_
  refine .nil ?_
  refine .seq ?_
  refine .region ?_
  refine .q (x := .d (.agg (Element.row (⟨5, ([] : List UInt8)⟩ : Element)))) (OpQ.le (q_buildP pl_47 hi47 hz47 rfl rfl) (EVle.d (.agg ⟨.rfl' _, .nil 1, trivial⟩))) rfl ?_
  refine .q (x := .d (.agg (Element.row (⟨5, ([] : List UInt8)⟩ : Element)))) (OpQ.le (q_buildP pl_47 hi47 hz47 rfl rfl) (EVle.d (.agg ⟨.rfl' _, .nil 1, trivial⟩))) rfl ?_
  refine .g (x := .d (slOf 2 Element.row ([(⟨5, ([] : List UInt8)⟩ : Element), (⟨5, ([] : List UInt8)⟩ : Element)] : List Element))) (g_buildSliceN (n := 2) (rows := ([(⟨5, ([] : List UInt8)⟩ : Element), (⟨5, ([] : List UInt8)⟩ : Element)] : List Element).map Element.row) Tryd.underlying22 hi47 hs47 hz47 rfl rfl rfl rfl rfl) rfl ?_
  obtain ⟨y2, hy2, H⟩ := bind_some' H
  refine .g (x := .d (.tup [slOf 1 rB8 y2.1, cI y2.2])) (g_call en_11 rfl rfl (c_f_tagged_Build (hy2))) rfl ?_
  refine .q (q_move rfl) rfl ?_
  refine .q (q_extract rfl rfl) rfl ?_
  refine .q (q_extract rfl rfl) rfl ?_
  refine .q (q_assign rfl) rfl ?_
  refine .q (q_assign rfl) rfl ?_
  refine .nil ?_
  refine .seq ?_
  refine .region ?_
  refine .g (x := .d (slOf 1 rB8 ([0, 0] : List UInt8))) (g_buildSliceN (n := 2) (rows := ([0, 0] : List UInt8).map rB8) Tryd.underlying25 hi5 hs5 hz5 rfl rfl rfl rfl rfl) rfl ?_
  obtain ⟨y3, hy3, H⟩ := bind_some' H
  refine .g (x := .d (.tup [slOf 2 Element.row y3.1, cI y3.2])) (g_call en_13 rfl rfl (c_f_tagged_Elements (hy3))) rfl ?_
  refine .q (q_move rfl) rfl ?_
  refine .q (q_extract rfl rfl) rfl ?_
  refine .q (q_extract rfl rfl) rfl ?_
  refine .q (q_assign rfl) rfl ?_
  refine .q (q_assign rfl) rfl ?_
  refine .nil ?_
  refine .seq ?_
  refine .region ?_
  refine .g (x := .d (slOf 1 rB8 ([1, 2, 0] : List UInt8))) (g_buildSliceN (n := 3) (rows := ([1, 2, 0] : List UInt8).map rB8) Tryd.underlying25 hi5 hs5 hz5 rfl rfl rfl rfl rfl) rfl ?_
  obtain ⟨y4, hy4, H⟩ := bind_some' H
  refine .g (x := .d (.tup [slOf 2 Element.row y4.1, cI y4.2])) (g_call en_13 rfl rfl (c_f_tagged_Elements (hy4))) rfl ?_
  refine .q (q_move rfl) rfl ?_
  refine .q (q_extract rfl rfl) rfl ?_
  refine .q (q_extract rfl rfl) rfl ?_
  refine .q (q_assign rfl) rfl ?_
  refine .q (q_assign rfl) rfl ?_
  refine .nil ?_
  refine .seq ?_
  refine .region ?_
  refine .q (x := .d (.agg (Record.row (⟨1, 300, 3, ([49, 50, 51] : List UInt8), ([] : List UInt8), 0, 2, 0, 0, false, 0, false⟩ : Record)))) (q_buildP pl_34 hi34 hz34 rfl rfl) rfl ?_
  obtain ⟨y5, hy5, H⟩ := bind_some' H
  refine .g (x := .d (.tup [slOf 1 rB8 y5.1, cI y5.2])) (g_call en_17 rfl rfl (c_f_tagged_Encode (hy5))) rfl ?_
  refine .q (q_move rfl) rfl ?_
  refine .q (q_extract rfl rfl) rfl ?_
  refine .q (q_extract rfl rfl) rfl ?_
  refine .q (q_assign rfl) rfl ?_
  refine .q (q_assign rfl) rfl ?_
  refine .nil ?_
  refine .seq ?_
  refine .seq ?_
  refine .region ?_
  refine .q (q_move rfl) rfl ?_
  refine .q (q_neq rfl rfl) rfl ?_
  refine .q (q_move rfl) rfl ?_
  refine .guardG (env' := [(4, _)]) rfl rfl rfl ⟨.inl rfl, trivial⟩ rfl (fun hg => OpQ.g (q_move rfl)) ?_
  refine .guardG (env' := [(43, _)]) rfl rfl rfl ⟨.inr (.inl rfl), trivial⟩ rfl (fun hg => OpQ.g (q_neq rfl rfl)) ?_
  refine .q (q_pickOrB rfl rfl rfl) rfl ?_
  refine .q (q_move rfl) rfl ?_
  refine .guardG (env' := [(6, _)]) rfl rfl rfl ⟨.inl rfl, trivial⟩ rfl (fun hg => OpQ.g (q_move rfl)) ?_
  refine .guardG (env' := [(47, _)]) rfl rfl rfl ⟨.inr (.inl rfl), trivial⟩ rfl (fun hg => OpQ.g (q_neq rfl rfl)) ?_
  refine .q (q_pickOrB rfl rfl rfl) rfl ?_
  refine .q (q_move rfl) rfl ?_
  refine .guardG (env' := [(8, _)]) rfl rfl rfl ⟨.inl rfl, trivial⟩ rfl (fun hg => OpQ.g (q_move rfl)) ?_
  refine .guardG (env' := [(51, _)]) rfl rfl rfl ⟨.inr (.inl rfl), trivial⟩ rfl (fun hg => OpQ.g (q_neq rfl rfl)) ?_
  refine .q (q_pickOrB rfl rfl rfl) rfl ?_
  refine .q (q_move rfl) rfl ?_
  refine .guardG (env' := [(10, _)]) rfl rfl rfl ⟨.inl rfl, trivial⟩ rfl (fun hg => OpQ.g (q_move rfl)) ?_
  refine .guardG (env' := [(55, _)]) rfl rfl rfl ⟨.inr (.inl rfl), trivial⟩ rfl (fun hg => OpQ.g (q_neq rfl rfl)) ?_
  refine .q (q_pickOrB rfl rfl rfl) rfl ?_
  refine .nil ?_
  refine .cond rfl (fun hc => ?_) (fun hc => ?_)
  · replace H := ifT hc H; clear hc
    refine .seq ?_
    refine .region ?_
    refine .q (q_assign rfl) rfl ?_
    refine .nil ?_
    refine .retN [.tmp 0] [.d (cB false)] Tryd.func10 Tryd.results10 ⟨rfl, trivial⟩ ?_
    cases H
    exact ⟨_, .rfl' _, rfl⟩
  · replace H := ifF hc H; clear hc
    refine .skip ?_
    refine .seq ?_
    refine .region ?_
    refine .q (q_move rfl) rfl ?_
    refine .q (x := .d (cS y1.1)) (q_bytesStrL (a := y1.1) Tryd.underlying25 Tryd.underlying5 Tryd.underlying9 rfl rfl) rfl ?_
    refine .q (q_seql rfl rfl) rfl ?_
    refine .q (q_move rfl) rfl ?_
    refine .guardG (env' := [(9, _)]) rfl rfl rfl ⟨.inl rfl, trivial⟩ rfl (fun hg => OpQ.g (q_move rfl)) ?_
    refine .guardG (b := (y1.1 == ([5, 2, 1, 2] : List UInt8))) (x := .d (cS y5.1)) (env' := [(62, _)]) rfl rfl rfl ⟨.inr (.inl rfl), trivial⟩ rfl (fun hg => OpQ.g (q_bytesStrL (a := y5.1) Tryd.underlying25 Tryd.underlying5 Tryd.underlying9 rfl rfl)) ?_
    refine .guardG (env' := [(63, _)]) rfl rfl rfl ⟨.inr (.inl rfl), trivial⟩ rfl (fun hg => OpQ.g (q_seql rfl rfl)) ?_
    refine .q (q_pickAndB rfl rfl rfl) rfl ?_
    refine .q (q_assign rfl) rfl ?_
    refine .nil ?_
    refine .retN [.tmp 0] [.d (cB ((y1.1 == ([5, 2, 1, 2] : List UInt8)) && (y5.1 == ([0, 17, 1, 1, 3, 2, 1, 1, 3, 2, 1, 44, 4, 2, 18, 63, 7, 1, 2] : List UInt8))))] Tryd.func10 Tryd.results10 ⟨rfl, trivial⟩ ?_
    cases H
    exact ⟨_, .rfl' _, rfl⟩

set_option maxRecDepth 100000 in
set_option maxHeartbeats 1000000 in
theorem c_f_billingref10_Build {v0list : List Element} {r : (List UInt8) × Int} (H : f_billingref10_Build v0list = some r) : ACall Tryd.prog 12 [slOf 2 Element.row v0list] (· = .tup [slOf 1 rB8 r.1, cI r.2]) := by
  obtain ⟨i5, hi5, hz5, hs5, hb5⟩ := in_5
  obtain ⟨i47, hi47, hz47, hs47, hb47⟩ := in_47
  refine ACall.enter' Tryd.func12 rfl Tryd.ntmps12 rfl fun S hS => ?_
  unfold f_billingref10_Build at H
  change ARun _ _ _ _ _ _ [(0, .d (slOf 2 Element.row v0list))] _
  refine .seq ?_
  refine .region ?_
  refine .q (q_assign rfl) rfl ?_
  refine .q (q_assign rfl) rfl ?_
  refine .nil ?_
  refine .seq ?_
  refine .region ?_
  refine .q (q_assign rfl) rfl ?_
  refine .nil ?_
  refine .seq ?_
  refine .region ?_
  refine .q (q_assign rfl) rfl ?_
  refine .nil ?_
  refine .seq ?_
  refine .seq ?_
  refine .region ?_
  refine .q (q_assign rfl) rfl ?_
  refine .nil ?_
  refine .block ?_
  refine .tok (i := 4) (e := 5) (sz := 1) rfl ?_
  refine .withSt (st' := ⟨[], [⟨5, 1, ([] : List UInt8).length, none⟩]⟩) rfl ?_
  obtain ⟨n1, H⟩ := loop_some H
  refine .withSt (st' := ⟨[], [⟨5, 1, ([] : List UInt8).length, none⟩]⟩) rfl <| .loop (ι := Nat × (List UInt8 × Int × Int)) (fun p => [(0, .d (slOf 2 Element.row v0list)), (4, .tsl 1 (p.2.1.map rB8) 0), (5, .d (cI p.2.2.1)), (6, .d (cI p.2.2.2))]) (fun p => ⟨[], [⟨5, 1, p.2.1.length, none⟩]⟩) (fun p => iter (fun s => f_billingref10_Build_l1 v0list s.1 s.2.1 s.2.2) p.1 p.2 = some r) (·.1) (n1, (([] : List UInt8), 0, 0)) H (.cons rfl (.rfl' _) (.cons rfl (.rfl' _) (.cons rfl (.rfl' _) (.cons rfl (.rfl' _) (.nil))))) rfl ?_
  rintro ⟨m1, v4outl1, v5lastl1, v6il1⟩ HI ih1
  obtain ⟨n1, q1, hm1, H, HK1⟩ := iter_succ HI
  clear HI
  replace H : f_billingref10_Build_l1 v0list v4outl1 v5lastl1 v6il1 = some q1 := H
  unfold f_billingref10_Build_l1 at H
  change ARun _ _ _ _ _ _ [(0, .d (slOf 2 Element.row v0list)), (4, .tsl 1 (v4outl1.map rB8) 0), (5, .d (cI v5lastl1)), (6, .d (cI v6il1))] ⟨[], [⟨5, 1, v4outl1.length, none⟩]⟩
  refine .seq ?_
  refine .seq ?_
  refine .region ?_
  refine .q (q_move rfl) rfl ?_
  refine .q (q_move rfl) rfl ?_
  refine .q (q_lenL (l := v0list) (row := Element.row) Tryd.underlying22 rfl rfl) rfl ?_
  refine .q (q_lss rfl rfl) rfl ?_
  refine .nil ?_
  refine .cond rfl (fun hc => ?_) (fun hc => ?_)
  · replace H := ifT hc H; clear hc
    refine .skip ?_
    refine .seq ?_
    refine .block ?_
    refine .seq ?_
    refine .region ?_
    refine .q (q_move rfl) rfl ?_
    refine .q (q_move rfl) rfl ?_
    obtain ⟨hk1, H⟩ := ck_some H
    refine .q (x := .d (.ro (Element.row (nth v0list (Int.toNat (v6il1)))))) (q_idxL (row := Element.row) (l := v0list) (i := v6il1) Tryd.underlying22 hi47 hs47 rfl rfl rfl hk1) rfl ?_
    refine .q (x := .d (.agg (Element.row (nth v0list (Int.toNat (v6il1)))))) (q_loadAll one_47 sz_47 rfl rfl) rfl ?_
    refine .v (x := .ref 0 0) (v_alloc zr_47 rfl) rfl ?_
    refine .withSt (st' := ⟨[.row 47 [.d (cI 0), .d (nilD)]], [⟨5, 1, v4outl1.length, none⟩]⟩) rfl ?_
    refine .u (u_store rfl rfl rfl rfl (Nat.le_of_ble_eq_true rfl) sz_47) rfl ?_
    refine .withSt (st' := ⟨[.row 47 [.d (cI ((nth v0list (Int.toNat (v6il1))).tag)), .d (slOf 1 rB8 ((nth v0list (Int.toNat (v6il1))).value))]], [⟨5, 1, v4outl1.length, none⟩]⟩) rfl ?_
    refine .nil ?_
    refine .seq ?_
    refine .seq ?_
    refine .region ?_
    refine .q (q_fieldRef fo_47_0 rfl) rfl ?_
    refine .q (x := .d (cI ((nth v0list (Int.toNat (v6il1))).tag))) (q_loadO one_3 rfl rfl rfl) rfl ?_
    refine .q (q_lss rfl rfl) rfl ?_
    refine .q (q_move rfl) rfl ?_
    refine .guardG (env' := [(7, _)]) rfl rfl rfl ⟨.inl rfl, trivial⟩ rfl (fun hg => OpQ.g (q_fieldRef fo_47_0 rfl)) ?_
    refine .guardG (b := (!(decide (((nth v0list (Int.toNat (v6il1))).tag) < 1)))) (x := .d (cI ((nth v0list (Int.toNat (v6il1))).tag))) (env' := [(22, _)]) rfl rfl rfl ⟨.inr (.inl rfl), trivial⟩ rfl (fun hg => OpQ.g (q_loadO one_3 rfl rfl rfl)) ?_
    refine .guardG (env' := [(23, _)]) rfl rfl rfl ⟨.inr (.inl rfl), trivial⟩ rfl (fun hg => OpQ.g (q_gtr rfl rfl)) ?_
    refine .q (q_pickOrB rfl rfl rfl) rfl ?_
    refine .nil ?_
    refine .cond rfl (fun hc => ?_) (fun hc => ?_)
    · replace H := ifT hc H; clear hc
      refine .seq ?_
      refine .region ?_
      refine .q (q_assign rfl) rfl ?_
      refine .q (q_assign rfl) rfl ?_
      refine .nil ?_
      refine .retN [.tmp 2, .tmp 3] [.d (nilD), .d (cI 6)] Tryd.func12 Tryd.results12 ⟨rfl, rfl, trivial⟩ ?_
      cases H
      cases HK1
      exact ⟨_, EVle.tupL (ds := [slOf 1 rB8 ([] : List UInt8), cI 6]) ⟨.nil 1, .rfl' _, trivial⟩, rfl⟩
    · replace H := ifF hc H; clear hc
      refine .skip ?_
      refine .seq ?_
      refine .seq ?_
      refine .region ?_
      refine .q (q_fieldRef fo_47_0 rfl) rfl ?_
      refine .q (x := .d (cI ((nth v0list (Int.toNat (v6il1))).tag))) (q_loadO one_3 rfl rfl rfl) rfl ?_
      refine .q (q_move rfl) rfl ?_
      refine .q (q_leq rfl rfl) rfl ?_
      refine .nil ?_
      refine .cond rfl (fun hc => ?_) (fun hc => ?_)
      · replace H := ifT hc H; clear hc
        refine .seq ?_
        refine .region ?_
        refine .q (q_assign rfl) rfl ?_
        refine .q (q_assign rfl) rfl ?_
        refine .nil ?_
        refine .retN [.tmp 2, .tmp 3] [.d (nilD), .d (cI 9)] Tryd.func12 Tryd.results12 ⟨rfl, rfl, trivial⟩ ?_
        cases H
        cases HK1
        exact ⟨_, EVle.tupL (ds := [slOf 1 rB8 ([] : List UInt8), cI 9]) ⟨.nil 1, .rfl' _, trivial⟩, rfl⟩
      · replace H := ifF hc H; clear hc
        refine .skip ?_
        refine .seq ?_
        refine .seq ?_
        refine .region ?_
        refine .q (q_fieldRef fo_47_1 rfl) rfl ?_
        refine .q (x := .d (slOf 1 rB8 ((nth v0list (Int.toNat (v6il1))).value))) (q_loadO one_25 rfl rfl rfl) rfl ?_
        refine .q (q_lenL (l := (nth v0list (Int.toNat (v6il1))).value) (row := rB8) Tryd.underlying25 rfl rfl) rfl ?_
        refine .q (q_gtr rfl rfl) rfl ?_
        refine .nil ?_
        refine .cond rfl (fun hc => ?_) (fun hc => ?_)
        · replace H := ifT hc H; clear hc
          refine .seq ?_
          refine .region ?_
          refine .q (q_assign rfl) rfl ?_
          refine .q (q_assign rfl) rfl ?_
          refine .nil ?_
          refine .retN [.tmp 2, .tmp 3] [.d (nilD), .d (cI 5)] Tryd.func12 Tryd.results12 ⟨rfl, rfl, trivial⟩ ?_
          cases H
          cases HK1
          exact ⟨_, EVle.tupL (ds := [slOf 1 rB8 ([] : List UInt8), cI 5]) ⟨.nil 1, .rfl' _, trivial⟩, rfl⟩
        · replace H := ifF hc H; clear hc
          refine .skip ?_
          refine .seq ?_
          refine .region ?_
          refine .q (q_move rfl) rfl ?_
          refine .q (q_fieldRef fo_47_0 rfl) rfl ?_
          refine .q (x := .d (cI ((nth v0list (Int.toNat (v6il1))).tag))) (q_loadO one_3 rfl rfl rfl) rfl ?_
          refine .q (x := .d (cU8 (UInt8.ofInt ((nth v0list (Int.toNat (v6il1))).tag)))) (q_conv8 Tryd.underlying3 Tryd.underlying5 rfl) rfl ?_
          refine .q (q_fieldRef fo_47_1 rfl) rfl ?_
          refine .q (x := .d (slOf 1 rB8 ((nth v0list (Int.toNat (v6il1))).value))) (q_loadO one_25 rfl rfl rfl) rfl ?_
          refine .q (q_lenL (l := (nth v0list (Int.toNat (v6il1))).value) (row := rB8) Tryd.underlying25 rfl rfl) rfl ?_
          refine .q (x := .d (cU8 (UInt8.ofInt (((nth v0list (Int.toNat (v6il1))).value).length : Int)))) (q_conv8 Tryd.underlying3 Tryd.underlying5 rfl) rfl ?_
          refine .g (x := .d (slOf 1 rB8 ([UInt8.ofInt ((nth v0list (Int.toNat (v6il1))).tag), UInt8.ofInt (((nth v0list (Int.toNat (v6il1))).value).length : Int)] : List UInt8))) (g_buildSliceN (n := 2) (rows := ([UInt8.ofInt ((nth v0list (Int.toNat (v6il1))).tag), UInt8.ofInt (((nth v0list (Int.toNat (v6il1))).value).length : Int)] : List UInt8).map rB8) Tryd.underlying25 hi5 hs5 hz5 rfl rfl rfl rfl rfl) rfl ?_
          obtain ⟨hk2, H⟩ := ck_some H
          refine .v (x := .tsl 1 ((v4outl1 ++ ([UInt8.ofInt ((nth v0list (Int.toNat (v6il1))).tag), UInt8.ofInt (((nth v0list (Int.toNat (v6il1))).value).length : Int)] : List UInt8)).map rB8) 0) (v_appendL (l := v4outl1) (l' := ([UInt8.ofInt ((nth v0list (Int.toNat (v6il1))).tag), UInt8.ofInt (((nth v0list (Int.toNat (v6il1))).value).length : Int)] : List UInt8)) (row := rB8) Tryd.underlying25 hi5 hz5 hs5 rfl (by rw [hb5]; decide) rfl rfl rfl rfl hk2) rfl ?_
          refine .withSt (st' := ⟨[.row 47 [.d (cI ((nth v0list (Int.toNat (v6il1))).tag)), .d (slOf 1 rB8 ((nth v0list (Int.toNat (v6il1))).value))]], [⟨5, 1, (v4outl1 ++ ([UInt8.ofInt ((nth v0list (Int.toNat (v6il1))).tag), UInt8.ofInt (((nth v0list (Int.toNat (v6il1))).value).length : Int)] : List UInt8)).length, none⟩]⟩) rfl ?_
          refine .q (q_assign rfl) rfl ?_
          refine .nil ?_
          refine .seq ?_
          refine .region ?_
          refine .q (q_move rfl) rfl ?_
          refine .q (q_fieldRef fo_47_1 rfl) rfl ?_
          refine .q (x := .d (slOf 1 rB8 ((nth v0list (Int.toNat (v6il1))).value))) (q_loadO one_25 rfl rfl rfl) rfl ?_
          obtain ⟨hk3, H⟩ := ck_some H
          refine .v (x := .tsl 1 (((v4outl1 ++ ([UInt8.ofInt ((nth v0list (Int.toNat (v6il1))).tag), UInt8.ofInt (((nth v0list (Int.toNat (v6il1))).value).length : Int)] : List UInt8)) ++ ((nth v0list (Int.toNat (v6il1))).value)).map rB8) 0) (v_appendL (l := v4outl1 ++ ([UInt8.ofInt ((nth v0list (Int.toNat (v6il1))).tag), UInt8.ofInt (((nth v0list (Int.toNat (v6il1))).value).length : Int)] : List UInt8)) (l' := (nth v0list (Int.toNat (v6il1))).value) (row := rB8) Tryd.underlying25 hi5 hz5 hs5 rfl (by rw [hb5]; decide) rfl rfl rfl rfl hk3) rfl ?_
          refine .withSt (st' := ⟨[.row 47 [.d (cI ((nth v0list (Int.toNat (v6il1))).tag)), .d (slOf 1 rB8 ((nth v0list (Int.toNat (v6il1))).value))]], [⟨5, 1, ((v4outl1 ++ ([UInt8.ofInt ((nth v0list (Int.toNat (v6il1))).tag), UInt8.ofInt (((nth v0list (Int.toNat (v6il1))).value).length : Int)] : List UInt8)) ++ ((nth v0list (Int.toNat (v6il1))).value)).length, none⟩]⟩) rfl ?_
          refine .q (q_assign rfl) rfl ?_
          refine .nil ?_
          refine .region ?_
          refine .q (q_fieldRef fo_47_0 rfl) rfl ?_
          refine .q (x := .d (cI ((nth v0list (Int.toNat (v6il1))).tag))) (q_loadO one_3 rfl rfl rfl) rfl ?_
          refine .q (q_assign rfl) rfl ?_
          refine .nil ?_
          refine .inBlock ?_
          refine .region ?_
          refine .q (q_move rfl) rfl ?_
          obtain ⟨hk4, H⟩ := ck_some H
          refine .q (q_addI rfl rfl hk4.1 hk4.2) rfl ?_
          refine .q (q_assign rfl) rfl ?_
          refine .nil ?_
          cases H
          exact .to 0 1 (env' := [(0, .d (slOf 2 Element.row v0list)), (4, .tsl 1 (((v4outl1 ++ ([UInt8.ofInt ((nth v0list (Int.toNat (v6il1))).tag), UInt8.ofInt (((nth v0list (Int.toNat (v6il1))).value).length : Int)] : List UInt8)) ++ ((nth v0list (Int.toNat (v6il1))).value)).map rB8) 0), (5, .d (cI ((nth v0list (Int.toNat (v6il1))).tag))), (6, .d (cI (v6il1 + 1)))]) (st' := ⟨[], [⟨5, 1, ((v4outl1 ++ ([UInt8.ofInt ((nth v0list (Int.toNat (v6il1))).tag), UInt8.ofInt (((nth v0list (Int.toNat (v6il1))).value).length : Int)] : List UInt8)) ++ ((nth v0list (Int.toNat (v6il1))).value)).length, none⟩]⟩) (.cons rfl (.rfl' _) (.cons rfl (.rfl' _) (.cons rfl (.rfl' _) (.cons rfl (.rfl' _) (.nil))))) rfl rfl rfl rfl rfl (by rw [hS]; exact Nat.le_of_ble_eq_true rfl) (by rw [hS]; exact Nat.le_of_ble_eq_true rfl) <| .sub (.cons rfl (.rfl' _) (.cons rfl (.rfl' _) (.cons rfl (.rfl' _) (.cons rfl (.rfl' _) (.nil))))) (ih1 (n1, ((v4outl1 ++ ([UInt8.ofInt ((nth v0list (Int.toNat (v6il1))).tag), UInt8.ofInt (((nth v0list (Int.toNat (v6il1))).value).length : Int)] : List UInt8)) ++ ((nth v0list (Int.toNat (v6il1))).value), (nth v0list (Int.toNat (v6il1))).tag, v6il1 + 1)) HK1 hm1)
  · replace H := ifF hc H; clear hc
    refine .exit rfl ?_
    refine .seq ?_
    refine .region ?_
    refine .q (q_move rfl) rfl ?_
    refine .q (q_assign rfl) rfl ?_
    refine .q (q_assign rfl) rfl ?_
    refine .nil ?_
    refine .retN [.tmp 2, .tmp 3] [.tsl 1 (v4outl1.map rB8) 0, .d (cI 0)] Tryd.func12 Tryd.results12 ⟨rfl, rfl, trivial⟩ ?_
    cases H
    cases HK1
    exact ⟨_, EVle.tupL (ds := [slOf 1 rB8 v4outl1, cI 0]) ⟨.tsl _ _ _, .rfl' _, trivial⟩, rfl⟩

set_option maxRecDepth 100000 in
set_option maxHeartbeats 1000000 in
theorem c_f_billingref10_Same {v0a : List Element} {v1b : List Element} {r : Bool} (H : f_billingref10_Same v0a v1b = some r) : ACall Tryd.prog 14 [slOf 2 Element.row v0a, slOf 2 Element.row v1b] (· = cB r) := by
  obtain ⟨i47, hi47, hz47, hs47, hb47⟩ := in_47
  refine ACall.enter' Tryd.func14 rfl Tryd.ntmps14 rfl fun S hS => ?_
  unfold f_billingref10_Same at H
  change ARun _ _ _ _ _ _ [(0, .d (slOf 2 Element.row v0a)), (1, .d (slOf 2 Element.row v1b))] _
  refine .seq ?_
  refine .region ?_
  refine .q (q_assign rfl) rfl ?_
  refine .nil ?_
  refine .seq ?_
  refine .seq ?_
  refine .region ?_
  refine .q (q_move rfl) rfl ?_
  refine .q (q_lenL (l := v0a) (row := Element.row) Tryd.underlying22 rfl rfl) rfl ?_
  refine .q (q_move rfl) rfl ?_
  refine .q (q_lenL (l := v1b) (row := Element.row) Tryd.underlying22 rfl rfl) rfl ?_
  refine .q (q_neq rfl rfl) rfl ?_
  refine .nil ?_
  refine .cond rfl (fun hc => ?_) (fun hc => ?_)
  · replace H := ifT hc H; clear hc
    refine .seq ?_
    refine .region ?_
    refine .q (q_assign rfl) rfl ?_
    refine .nil ?_
    refine .retN [.tmp 4] [.d (cB false)] Tryd.func14 Tryd.results14 ⟨rfl, trivial⟩ ?_
    cases H
    exact ⟨_, .rfl' _, rfl⟩
  · replace H := ifF hc H; clear hc
    refine .skip ?_
    refine .seq ?_
    refine .seq ?_
    refine .region ?_
    refine .q (q_assign rfl) rfl ?_
    refine .nil ?_
    refine .block ?_
    obtain ⟨n1, H⟩ := loop_some H
    refine .loop (ι := Nat × (Int)) (fun p => [(0, .d (slOf 2 Element.row v0a)), (1, .d (slOf 2 Element.row v1b)), (5, .d (cI p.2))]) (fun p => ⟨[], []⟩) (fun p => iter (fun s => f_billingref10_Same_l1 v0a v1b s) p.1 p.2 = some r) (·.1) (n1, 0) H (.cons rfl (.rfl' _) (.cons rfl (.rfl' _) (.cons rfl (.rfl' _) (.nil)))) rfl ?_
    rintro ⟨m1, v5il1⟩ HI ih1
    obtain ⟨n1, q1, hm1, H, HK1⟩ := iter_succ HI
    clear HI
    replace H : f_billingref10_Same_l1 v0a v1b v5il1 = some q1 := H
    unfold f_billingref10_Same_l1 at H
    change ARun _ _ _ _ _ _ [(0, .d (slOf 2 Element.row v0a)), (1, .d (slOf 2 Element.row v1b)), (5, .d (cI v5il1))] ⟨[], []⟩
    refine .seq ?_
    refine .seq ?_
    refine .region ?_
    refine .q (q_move rfl) rfl ?_
    refine .q (q_move rfl) rfl ?_
    refine .q (q_lenL (l := v0a) (row := Element.row) Tryd.underlying22 rfl rfl) rfl ?_
    refine .q (q_lss rfl rfl) rfl ?_
    refine .nil ?_
    refine .cond rfl (fun hc => ?_) (fun hc => ?_)
    · replace H := ifT hc H; clear hc
      refine .skip ?_
      refine .seq ?_
      refine .block ?_
      refine .seq ?_
      refine .drawn 26 hMix (by kernel_rfl) ?_
      show DOps _ _ _ _ _ _ _ (_ :: _) _ _ _
      refine .q (q_move rfl) rfl ?_
      refine .q (q_move rfl) rfl ?_
      obtain ⟨hk1, H⟩ := ck_some H
      refine .q (x := .d (.ro (Element.row (nth v0a (Int.toNat (v5il1)))))) (q_idxL (row := Element.row) (l := v0a) (i := v5il1) Tryd.underlying22 hi47 hs47 rfl rfl rfl hk1) rfl ?_
      refine .q (q_fieldRo fo_47_0 rfl) rfl ?_
      refine .q (x := .d (cI ((nth v0a (Int.toNat (v5il1))).tag))) (q_load one_3 rfl) rfl ?_
      refine .q (q_move rfl) rfl ?_
      refine .q (q_move rfl) rfl ?_
      obtain ⟨hk2, H⟩ := ck_some H
      refine .q (x := .d (.ro (Element.row (nth v1b (Int.toNat (v5il1)))))) (q_idxL (row := Element.row) (l := v1b) (i := v5il1) Tryd.underlying22 hi47 hs47 rfl rfl rfl hk2) rfl ?_
      refine .q (q_fieldRo fo_47_0 rfl) rfl ?_
      refine .q (x := .d (cI ((nth v1b (Int.toNat (v5il1))).tag))) (q_load one_3 rfl) rfl ?_
      refine .q (q_neq rfl rfl) rfl ?_
      refine .q (q_move rfl) rfl ?_
      refine .guardG (env' := [(0, _)]) rfl rfl rfl ⟨.inl rfl, trivial⟩ rfl (fun hg => OpQ.g (q_move rfl)) ?_
      refine .guardG (env' := [(5, _)]) rfl rfl rfl ⟨.inl rfl, trivial⟩ rfl (fun hg => OpQ.g (q_move rfl)) ?_
      obtain ⟨hk3, H⟩ := ck_some H
      refine .guardG (b := (!(((nth v0a (Int.toNat (v5il1))).tag) != ((nth v1b (Int.toNat (v5il1))).tag)))) (x := .d (.ro (Element.row (nth v0a (Int.toNat (v5il1)))))) (env' := [(29, _), (30, _)]) rfl rfl rfl ⟨.inr (.inl rfl), ⟨.inr (.inl rfl), trivial⟩⟩ rfl (fun hg => OpQ.g (q_idxL (row := Element.row) (l := v0a) (i := v5il1) Tryd.underlying22 hi47 hs47 rfl rfl rfl (hk3 hg))) ?_
      refine .guardG (env' := [(31, _)]) rfl rfl rfl ⟨.inr (.inl rfl), trivial⟩ rfl (fun hg => OpQ.g (q_fieldRo fo_47_1 rfl)) ?_
      refine .guardG (b := (!(((nth v0a (Int.toNat (v5il1))).tag) != ((nth v1b (Int.toNat (v5il1))).tag)))) (x := .d (slOf 1 rB8 ((nth v0a (Int.toNat (v5il1))).value))) (env' := [(32, _)]) rfl rfl rfl ⟨.inr (.inl rfl), trivial⟩ rfl (fun hg => OpQ.g (q_load one_25 rfl)) ?_
      refine .guardG (b := (!(((nth v0a (Int.toNat (v5il1))).tag) != ((nth v1b (Int.toNat (v5il1))).tag)))) (x := .d (cS ((nth v0a (Int.toNat (v5il1))).value))) (env' := [(33, _)]) rfl rfl rfl ⟨.inr (.inl rfl), trivial⟩ rfl (fun hg => OpQ.g (q_bytesStrL (a := (nth v0a (Int.toNat (v5il1))).value) Tryd.underlying25 Tryd.underlying5 Tryd.underlying9 rfl rfl)) ?_
      refine .guardG (env' := [(1, _)]) rfl rfl rfl ⟨.inl rfl, trivial⟩ rfl (fun hg => OpQ.g (q_move rfl)) ?_
      refine .guardG (env' := [(5, _)]) rfl rfl rfl ⟨.inl rfl, trivial⟩ rfl (fun hg => OpQ.g (q_move rfl)) ?_
      obtain ⟨hk4, H⟩ := ck_some H
      refine .guardG (b := (!(((nth v0a (Int.toNat (v5il1))).tag) != ((nth v1b (Int.toNat (v5il1))).tag)))) (x := .d (.ro (Element.row (nth v1b (Int.toNat (v5il1)))))) (env' := [(35, _), (36, _)]) rfl rfl rfl ⟨.inr (.inl rfl), ⟨.inr (.inl rfl), trivial⟩⟩ rfl (fun hg => OpQ.g (q_idxL (row := Element.row) (l := v1b) (i := v5il1) Tryd.underlying22 hi47 hs47 rfl rfl rfl (hk4 hg))) ?_
      refine .guardG (env' := [(37, _)]) rfl rfl rfl ⟨.inr (.inl rfl), trivial⟩ rfl (fun hg => OpQ.g (q_fieldRo fo_47_1 rfl)) ?_
      refine .guardG (b := (!(((nth v0a (Int.toNat (v5il1))).tag) != ((nth v1b (Int.toNat (v5il1))).tag)))) (x := .d (slOf 1 rB8 ((nth v1b (Int.toNat (v5il1))).value))) (env' := [(38, _)]) rfl rfl rfl ⟨.inr (.inl rfl), trivial⟩ rfl (fun hg => OpQ.g (q_load one_25 rfl)) ?_
      refine .guardG (b := (!(((nth v0a (Int.toNat (v5il1))).tag) != ((nth v1b (Int.toNat (v5il1))).tag)))) (x := .d (cS ((nth v1b (Int.toNat (v5il1))).value))) (env' := [(39, _)]) rfl rfl rfl ⟨.inr (.inl rfl), trivial⟩ rfl (fun hg => OpQ.g (q_bytesStrL (a := (nth v1b (Int.toNat (v5il1))).value) Tryd.underlying25 Tryd.underlying5 Tryd.underlying9 rfl rfl)) ?_
      refine .guardG (env' := [(34, _), (40, _)]) rfl rfl rfl ⟨.inr (.inl rfl), ⟨.inr (.inl rfl), trivial⟩⟩ rfl (fun hg => OpQ.g (q_sneq rfl rfl)) ?_
      refine .q (q_pickOrB rfl rfl rfl) rfl ?_
      refine .nil ?_
      show AOps _ _ _ _ _ _ [] _ _ _
      refine .nil ?_
      refine .cond rfl (fun hc => ?_) (fun hc => ?_)
      · replace H := ifT hc H; clear hc
        refine .seq ?_
        refine .region ?_
        refine .q (q_assign rfl) rfl ?_
        refine .nil ?_
        refine .retN [.tmp 4] [.d (cB false)] Tryd.func14 Tryd.results14 ⟨rfl, trivial⟩ ?_
        cases H
        cases HK1
        exact ⟨_, .rfl' _, rfl⟩
      · replace H := ifF hc H; clear hc
        refine .skip ?_
        refine .inBlock ?_
        refine .region ?_
        refine .q (q_move rfl) rfl ?_
        obtain ⟨hk5, H⟩ := ck_some H
        refine .q (q_addI rfl rfl hk5.1 hk5.2) rfl ?_
        refine .q (q_assign rfl) rfl ?_
        refine .nil ?_
        cases H
        exact .sub (.cons rfl (.rfl' _) (.cons rfl (.rfl' _) (.cons rfl (.rfl' _) (.nil)))) (ih1 (n1, (v5il1 + 1)) HK1 hm1)
    · replace H := ifF hc H; clear hc
      refine .exit rfl ?_
      refine .seq ?_
      refine .region ?_
      refine .q (q_assign rfl) rfl ?_
      refine .nil ?_
      refine .retN [.tmp 4] [.d (cB true)] Tryd.func14 Tryd.results14 ⟨rfl, trivial⟩ ?_
      cases H
      cases HK1
      exact ⟨_, .rfl' _, rfl⟩

set_option maxRecDepth 100000 in
set_option maxHeartbeats 1000000 in
theorem c_f_billinglaw10_TaggedBuilds {v0list : List Element} {r : Bool} (H : f_billinglaw10_TaggedBuilds v0list = some r) : ACall Tryd.prog 3 [slOf 2 Element.row v0list] (· = cB r) := by
  refine ACall.enter' Tryd.func3 rfl Tryd.ntmps3 rfl fun S hS => ?_
  unfold f_billinglaw10_TaggedBuilds at H
  change ARun _ _ _ _ _ _ [(0, .d (slOf 2 Element.row v0list))] _
  refine .seq ?_
  refine .region ?_
  refine .q (q_assign rfl) rfl ?_
  refine .nil ?_
  refine .seq ?_
  refine .seq ?_
  refine .region ?_
  refine .q (q_move rfl) rfl ?_
  obtain ⟨y1, hy1, H⟩ := bind_some' H
  refine .g (x := .d (cB y1)) (g_call en_9 rfl rfl (c_f_billinglaw10_light (hy1))) rfl ?_
  refine .q (q_not rfl) rfl ?_
  refine .nil ?_
  refine .cond rfl (fun hc => ?_) (fun hc => ?_)
  · replace H := ifT hc H; clear hc
    refine .seq ?_
    refine .region ?_
    obtain ⟨y2, hy2, H⟩ := bind_some' H
    refine .g (x := .d (cB y2)) (g_call en_10 rfl rfl (c_f_billinglaw10_awake (hy2))) rfl ?_
    refine .q (q_assign rfl) rfl ?_
    refine .nil ?_
    refine .retN [.tmp 2] [.d (cB y2)] Tryd.func3 Tryd.results3 ⟨rfl, trivial⟩ ?_
    cases H
    exact ⟨_, .rfl' _, rfl⟩
  · replace H := ifF hc H; clear hc
    refine .skip ?_
    refine .seq ?_
    refine .region ?_
    refine .q (q_move rfl) rfl ?_
    obtain ⟨y3, hy3, H⟩ := bind_some' H
    refine .g (x := .d (.tup [slOf 1 rB8 y3.1, cI y3.2])) (g_call en_11 rfl rfl (c_f_tagged_Build (hy3))) rfl ?_
    refine .q (q_move rfl) rfl ?_
    refine .q (q_extract rfl rfl) rfl ?_
    refine .q (q_extract rfl rfl) rfl ?_
    refine .q (q_assign rfl) rfl ?_
    refine .q (q_assign rfl) rfl ?_
    refine .nil ?_
    refine .seq ?_
    refine .region ?_
    refine .q (q_move rfl) rfl ?_
    obtain ⟨y4, hy4, H⟩ := bind_some' H
    refine .g (x := .d (.tup [slOf 1 rB8 y4.1, cI y4.2])) (g_call en_12 rfl rfl (c_f_billingref10_Build (hy4))) rfl ?_
    refine .q (q_move rfl) rfl ?_
    refine .q (q_extract rfl rfl) rfl ?_
    refine .q (q_extract rfl rfl) rfl ?_
    refine .q (q_assign rfl) rfl ?_
    refine .q (q_assign rfl) rfl ?_
    refine .nil ?_
    refine .seq ?_
    refine .seq ?_
    refine .region ?_
    refine .q (q_move rfl) rfl ?_
    refine .q (x := .d (cS y3.1)) (q_bytesStrL (a := y3.1) Tryd.underlying25 Tryd.underlying5 Tryd.underlying9 rfl rfl) rfl ?_
    refine .q (q_move rfl) rfl ?_
    refine .q (x := .d (cS y4.1)) (q_bytesStrL (a := y4.1) Tryd.underlying25 Tryd.underlying5 Tryd.underlying9 rfl rfl) rfl ?_
    refine .q (q_sneq rfl rfl) rfl ?_
    refine .q (q_move rfl) rfl ?_
    refine .guardG (env' := [(4, _)]) rfl rfl rfl ⟨.inl rfl, trivial⟩ rfl (fun hg => OpQ.g (q_move rfl)) ?_
    refine .guardG (env' := [(6, _)]) rfl rfl rfl ⟨.inl rfl, trivial⟩ rfl (fun hg => OpQ.g (q_move rfl)) ?_
    refine .guardG (env' := [(29, _), (30, _)]) rfl rfl rfl ⟨.inr (.inl rfl), ⟨.inr (.inl rfl), trivial⟩⟩ rfl (fun hg => OpQ.g (q_neq rfl rfl)) ?_
    refine .q (q_pickOrB rfl rfl rfl) rfl ?_
    refine .nil ?_
    refine .cond rfl (fun hc => ?_) (fun hc => ?_)
    · replace H := ifT hc H; clear hc
      refine .seq ?_
      refine .region ?_
      refine .q (q_assign rfl) rfl ?_
      refine .nil ?_
      refine .retN [.tmp 2] [.d (cB false)] Tryd.func3 Tryd.results3 ⟨rfl, trivial⟩ ?_
      cases H
      exact ⟨_, .rfl' _, rfl⟩
    · replace H := ifF hc H; clear hc
      refine .skip ?_
      refine .seq ?_
      refine .seq ?_
      refine .region ?_
      refine .q (q_move rfl) rfl ?_
      refine .q (q_neq rfl rfl) rfl ?_
      refine .nil ?_
      refine .cond rfl (fun hc => ?_) (fun hc => ?_)
      · replace H := ifT hc H; clear hc
        refine .seq ?_
        refine .region ?_
        obtain ⟨y5, hy5, H⟩ := bind_some' H
        refine .g (x := .d (cB y5)) (g_call en_10 rfl rfl (c_f_billinglaw10_awake (hy5))) rfl ?_
        refine .q (q_assign rfl) rfl ?_
        refine .nil ?_
        refine .retN [.tmp 2] [.d (cB y5)] Tryd.func3 Tryd.results3 ⟨rfl, trivial⟩ ?_
        cases H
        exact ⟨_, .rfl' _, rfl⟩
      · replace H := ifF hc H; clear hc
        refine .skip ?_
        refine .seq ?_
        refine .region ?_
        refine .q (q_move rfl) rfl ?_
        obtain ⟨y6, hy6, H⟩ := bind_some' H
        refine .g (x := .d (.tup [slOf 2 Element.row y6.1, cI y6.2])) (g_call en_13 rfl rfl (c_f_tagged_Elements (hy6))) rfl ?_
        refine .q (q_move rfl) rfl ?_
        refine .q (q_extract rfl rfl) rfl ?_
        refine .q (q_extract rfl rfl) rfl ?_
        refine .q (q_assign rfl) rfl ?_
        refine .q (q_assign rfl) rfl ?_
        refine .nil ?_
        refine .seq ?_
        refine .region ?_
        refine .q (q_move rfl) rfl ?_
        refine .q (q_eql rfl rfl) rfl ?_
        refine .q (q_move rfl) rfl ?_
        refine .guardG (env' := [(7, _)]) rfl rfl rfl ⟨.inl rfl, trivial⟩ rfl (fun hg => OpQ.g (q_move rfl)) ?_
        refine .guardG (env' := [(0, _)]) rfl rfl rfl ⟨.inl rfl, trivial⟩ rfl (fun hg => OpQ.g (q_move rfl)) ?_
        obtain ⟨y7, hy7, H⟩ := bind_some' H
        refine .guardG (b := (y6.2 == 0)) (x := .d (cB y7)) (env' := [(44, _), (45, _)]) rfl rfl rfl ⟨.inr (.inl rfl), ⟨.inr (.inl rfl), trivial⟩⟩ rfl (fun hg => (g_call en_14 rfl rfl (c_f_billingref10_Same (gcall_some hy7 hg)))) ?_
        refine .q (q_pickAndB rfl rfl rfl) rfl ?_
        refine .q (q_move rfl) rfl ?_
        obtain ⟨y8, hy8, H⟩ := bind_some' H
        refine .guardG (b := ((y6.2 == 0) && y7)) (x := .d (cB y8)) (env' := []) rfl rfl rfl trivial rfl (fun hg => (g_call en_10 rfl rfl (c_f_billinglaw10_awake (gcall_some hy8 hg)))) ?_
        refine .q (q_pickAndB rfl rfl rfl) rfl ?_
        refine .q (q_assign rfl) rfl ?_
        refine .nil ?_
        refine .retN [.tmp 2] [.d (cB (((y6.2 == 0) && y7) && y8))] Tryd.func3 Tryd.results3 ⟨rfl, trivial⟩ ?_
        cases H
        exact ⟨_, .rfl' _, rfl⟩

end Go.Proofs.YtmdpmallgcekgaaDoor

set_option linter.unusedSimpArgs false
set_option linter.unusedVariables false
namespace Go.Proofs.YtmdpmallgcekgaaDoor
open Go.RowKit Go.Abs
set_option maxRecDepth 100000 in
set_option maxHeartbeats 1000000 in
theorem c_f_billingref10_Elements {v0 : List UInt8} {r : (List Element) × Int} (H : f_billingref10_Elements v0 = some r) : ACall Tryd.prog 15 [slOf 1 rB8 v0] (· = .tup [slOf 2 Element.row r.1, cI r.2]) := by
  obtain ⟨i5, hi5, hz5, hs5, hb5⟩ := in_5
  obtain ⟨i47, hi47, hz47, hs47, hb47⟩ := in_47
  refine ACall.enter' Tryd.func15 rfl Tryd.ntmps15 rfl fun S hS => ?_
  unfold f_billingref10_Elements at H
  change ARun _ _ _ _ _ _ [(0, .d (slOf 1 rB8 v0))] _
  refine .seq ?_
  refine .region ?_
  refine .q (q_assign rfl) rfl ?_
  refine .q (q_assign rfl) rfl ?_
  refine .nil ?_
  refine .seq ?_
  refine .region ?_
  refine .q (q_assign rfl) rfl ?_
  refine .nil ?_
  refine .seq ?_
  refine .region ?_
  refine .q (q_assign rfl) rfl ?_
  refine .q (q_assign rfl) rfl ?_
  refine .nil ?_
  refine .seq ?_
  refine .block ?_
  refine .tok (i := 4) (e := 47) (sz := 2) rfl ?_
  refine .withSt (st' := ⟨[], [⟨47, 2, ([] : List Element).length, none⟩]⟩) rfl ?_
  obtain ⟨n1, H⟩ := loop_some H
  refine .withSt (st' := ⟨[], [⟨47, 2, ([] : List Element).length, none⟩]⟩) rfl <| .loop (ι := Nat × (List Element × Int × Int)) (fun p => [(0, .d (slOf 1 rB8 v0)), (4, .tsl 2 (p.2.1.map Element.row) 0), (5, .d (cI p.2.2.1)), (6, .d (cI p.2.2.2))]) (fun p => ⟨[], [⟨47, 2, p.2.1.length, none⟩]⟩) (fun p => iter (fun s => f_billingref10_Elements_l1 v0 s.1 s.2.1 s.2.2) p.1 p.2 = some r) (·.1) (n1, (([] : List Element), 0, 0)) H (.cons rfl (.rfl' _) (.cons rfl (.rfl' _) (.cons rfl (.rfl' _) (.cons rfl (.rfl' _) (.nil))))) rfl ?_
  rintro ⟨m1, v4l1, v5l1, v6l1⟩ HI ih1
  obtain ⟨n1, q1, hm1, H, HK1⟩ := iter_succ HI
  clear HI
  replace H : f_billingref10_Elements_l1 v0 v4l1 v5l1 v6l1 = some q1 := H
  unfold f_billingref10_Elements_l1 at H
  change ARun _ _ _ _ _ _ [(0, .d (slOf 1 rB8 v0)), (4, .tsl 2 (v4l1.map Element.row) 0), (5, .d (cI v5l1)), (6, .d (cI v6l1))] ⟨[], [⟨47, 2, v4l1.length, none⟩]⟩
  refine .seq ?_
  refine .seq ?_
  refine .region ?_
  refine .q (q_move rfl) rfl ?_
  refine .q (q_move rfl) rfl ?_
  refine .q (q_lenL (l := v0) (row := rB8) Tryd.underlying25 rfl rfl) rfl ?_
  refine .q (q_lss rfl rfl) rfl ?_
  refine .nil ?_
  refine .cond rfl (fun hc => ?_) (fun hc => ?_)
  · replace H := ifT hc H; clear hc
    refine .skip ?_
    refine .block ?_
    refine .seq ?_
    refine .region ?_
    refine .q (q_move rfl) rfl ?_
    refine .q (q_move rfl) rfl ?_
    obtain ⟨hk1, H⟩ := ck_some H
    refine .q (x := .d (.ro (rB8 (nth v0 (Int.toNat (v6l1)))))) (q_idxL (row := rB8) (l := v0) (i := v6l1) Tryd.underlying25 hi5 hs5 rfl rfl rfl hk1) rfl ?_
    refine .q (x := .d (cU8 (nth v0 (Int.toNat (v6l1))))) (q_load one_5 rfl) rfl ?_
    refine .q (x := .d (cI ((nth v0 (Int.toNat (v6l1))).toNat : Int))) (q_conv8i (a := nth v0 (Int.toNat (v6l1))) Tryd.underlying5 Tryd.underlying3 rfl) rfl ?_
    refine .q (q_assign rfl) rfl ?_
    refine .nil ?_
    refine .seq ?_
    refine .seq ?_
    refine .region ?_
    refine .q (q_move rfl) rfl ?_
    refine .q (q_eql rfl rfl) rfl ?_
    refine .nil ?_
    refine .cond rfl (fun hc => ?_) (fun hc => ?_)
    · replace H := ifT hc H; clear hc
      refine .seq ?_
      refine .region ?_
      refine .q (q_assign rfl) rfl ?_
      refine .q (q_assign rfl) rfl ?_
      refine .nil ?_
      refine .retN [.tmp 2, .tmp 3] [.d (nilD), .d (cI 6)] Tryd.func15 Tryd.results15 ⟨rfl, rfl, trivial⟩ ?_
      cases H
      cases HK1
      exact ⟨_, EVle.tupL (ds := [slOf 2 Element.row ([] : List Element), cI 6]) ⟨.nil 2, .rfl' _, trivial⟩, rfl⟩
    · replace H := ifF hc H; clear hc
      refine .skip ?_
      refine .seq ?_
      refine .seq ?_
      refine .region ?_
      refine .q (q_move rfl) rfl ?_
      refine .q (q_move rfl) rfl ?_
      refine .q (q_leq rfl rfl) rfl ?_
      refine .nil ?_
      refine .cond rfl (fun hc => ?_) (fun hc => ?_)
      · replace H := ifT hc H; clear hc
        refine .seq ?_
        refine .region ?_
        refine .q (q_assign rfl) rfl ?_
        refine .q (q_assign rfl) rfl ?_
        refine .nil ?_
        refine .retN [.tmp 2, .tmp 3] [.d (nilD), .d (cI 9)] Tryd.func15 Tryd.results15 ⟨rfl, rfl, trivial⟩ ?_
        cases H
        cases HK1
        exact ⟨_, EVle.tupL (ds := [slOf 2 Element.row ([] : List Element), cI 9]) ⟨.nil 2, .rfl' _, trivial⟩, rfl⟩
      · replace H := ifF hc H; clear hc
        refine .skip ?_
        refine .seq ?_
        refine .seq ?_
        refine .region ?_
        refine .q (q_move rfl) rfl ?_
        obtain ⟨hk2, H⟩ := ck_some H
        refine .q (q_addI rfl rfl hk2.1 hk2.2) rfl ?_
        refine .q (q_move rfl) rfl ?_
        refine .q (q_lenL (l := v0) (row := rB8) Tryd.underlying25 rfl rfl) rfl ?_
        refine .q (q_eql rfl rfl) rfl ?_
        refine .q (q_move rfl) rfl ?_
        refine .guardG (env' := [(6, _)]) rfl rfl rfl ⟨.inl rfl, trivial⟩ rfl (fun hg => OpQ.g (q_move rfl)) ?_
        obtain ⟨hk3, H⟩ := ck_some H
        refine .guardG (env' := [(29, _)]) rfl rfl rfl ⟨.inr (.inl rfl), trivial⟩ rfl (fun hg => OpQ.g (q_addI rfl rfl (hk3 hg).1 (hk3 hg).2)) ?_
        refine .guardG (env' := [(0, _)]) rfl rfl rfl ⟨.inl rfl, trivial⟩ rfl (fun hg => OpQ.g (q_move rfl)) ?_
        refine .guardG (env' := [(6, _)]) rfl rfl rfl ⟨.inl rfl, trivial⟩ rfl (fun hg => OpQ.g (q_move rfl)) ?_
        obtain ⟨hk4, H⟩ := ck_some H
        refine .guardG (env' := [(32, _)]) rfl rfl rfl ⟨.inr (.inl rfl), trivial⟩ rfl (fun hg => OpQ.g (q_addI rfl rfl (hk4 hg).1 (hk4 hg).2)) ?_
        obtain ⟨hk5, H⟩ := ck_some H
        refine .guardG (b := (!((v6l1 + 1) == (v0.length : Int)))) (x := .d (.ro (rB8 (nth v0 (Int.toNat (v6l1 + 1)))))) (env' := [(31, _), (33, _)]) rfl rfl rfl ⟨.inr (.inl rfl), ⟨.inr (.inl rfl), trivial⟩⟩ rfl (fun hg => OpQ.g (q_idxL (row := rB8) (l := v0) (i := v6l1 + 1) Tryd.underlying25 hi5 hs5 rfl rfl rfl (hk5 hg))) ?_
        refine .guardG (b := (!((v6l1 + 1) == (v0.length : Int)))) (x := .d (cU8 (nth v0 (Int.toNat (v6l1 + 1))))) (env' := [(34, _)]) rfl rfl rfl ⟨.inr (.inl rfl), trivial⟩ rfl (fun hg => OpQ.g (q_load one_5 rfl)) ?_
        refine .guardG (b := (!((v6l1 + 1) == (v0.length : Int)))) (x := .d (cI ((nth v0 (Int.toNat (v6l1 + 1))).toNat : Int))) (env' := [(35, _)]) rfl rfl rfl ⟨.inr (.inl rfl), trivial⟩ rfl (fun hg => OpQ.g (q_conv8i (a := nth v0 (Int.toNat (v6l1 + 1))) Tryd.underlying5 Tryd.underlying3 rfl)) ?_
        obtain ⟨hk6, H⟩ := ck_some H
        refine .guardG (env' := [(30, _), (36, _)]) rfl rfl rfl ⟨.inr (.inl rfl), ⟨.inr (.inl rfl), trivial⟩⟩ rfl (fun hg => OpQ.g (q_addI rfl rfl (hk6 hg).1 (hk6 hg).2)) ?_
        refine .guardG (env' := [(0, _)]) rfl rfl rfl ⟨.inl rfl, trivial⟩ rfl (fun hg => OpQ.g (q_move rfl)) ?_
        refine .guardG (env' := [(38, _)]) rfl rfl rfl ⟨.inr (.inl rfl), trivial⟩ rfl (fun hg => OpQ.g (q_lenL (l := v0) (row := rB8) Tryd.underlying25 rfl rfl)) ?_
        refine .guardG (env' := [(37, _), (39, _)]) rfl rfl rfl ⟨.inr (.inl rfl), ⟨.inr (.inl rfl), trivial⟩⟩ rfl (fun hg => OpQ.g (q_gtr rfl rfl)) ?_
        refine .q (q_pickOrB rfl rfl rfl) rfl ?_
        refine .nil ?_
        refine .cond rfl (fun hc => ?_) (fun hc => ?_)
        · replace H := ifT hc H; clear hc
          refine .seq ?_
          refine .region ?_
          refine .q (q_assign rfl) rfl ?_
          refine .q (q_assign rfl) rfl ?_
          refine .nil ?_
          refine .retN [.tmp 2, .tmp 3] [.d (nilD), .d (cI 2)] Tryd.func15 Tryd.results15 ⟨rfl, rfl, trivial⟩ ?_
          cases H
          cases HK1
          exact ⟨_, EVle.tupL (ds := [slOf 2 Element.row ([] : List Element), cI 2]) ⟨.nil 2, .rfl' _, trivial⟩, rfl⟩
        · replace H := ifF hc H; clear hc
          refine .skip ?_
          refine .seq ?_
          refine .region ?_
          refine .q (q_move rfl) rfl ?_
          refine .q (q_move rfl) rfl ?_
          obtain ⟨hk7, H⟩ := ck_some H
          refine .q (q_addI rfl rfl hk7.1 hk7.2) rfl ?_
          obtain ⟨hk8, H⟩ := ck_some H
          refine .q (x := .d (.ro (rB8 (nth v0 (Int.toNat (v6l1 + 1)))))) (q_idxL (row := rB8) (l := v0) (i := v6l1 + 1) Tryd.underlying25 hi5 hs5 rfl rfl rfl hk8) rfl ?_
          refine .q (x := .d (cU8 (nth v0 (Int.toNat (v6l1 + 1))))) (q_load one_5 rfl) rfl ?_
          refine .q (x := .d (cI ((nth v0 (Int.toNat (v6l1 + 1))).toNat : Int))) (q_conv8i (a := nth v0 (Int.toNat (v6l1 + 1))) Tryd.underlying5 Tryd.underlying3 rfl) rfl ?_
          refine .q (q_assign rfl) rfl ?_
          refine .nil ?_
          refine .seq ?_
          refine .region ?_
          refine .q (q_move rfl) rfl ?_
          refine .q (q_move rfl) rfl ?_
          refine .g (x := .d (.e0 1)) ((hs5 ▸ g_buildSlice0 Tryd.underlying25 hi5)) rfl ?_
          refine .q (q_move rfl) rfl ?_
          refine .q (q_move rfl) rfl ?_
          obtain ⟨hk9, H⟩ := ck_some H
          refine .q (q_addI rfl rfl hk9.1 hk9.2) rfl ?_
          refine .q (q_move rfl) rfl ?_
          obtain ⟨hk10, H⟩ := ck_some H
          refine .q (q_addI rfl rfl hk10.1 hk10.2) rfl ?_
          refine .q (q_move rfl) rfl ?_
          obtain ⟨hk11, H⟩ := ck_some H
          refine .q (q_addI rfl rfl hk11.1 hk11.2) rfl ?_
          obtain ⟨hk12, H⟩ := ck_some H
          refine .q (x := .d (slOf 1 rB8 ((v0.take (Int.toNat ((v6l1 + 2) + ((nth v0 (Int.toNat (v6l1 + 1))).toNat : Int)))).drop (Int.toNat (v6l1 + 2))))) (q_slLHL (l := v0) (row := rB8) Tryd.underlying25 hi5 hs5 rfl rfl rfl rfl hk12) rfl ?_
          obtain ⟨hk13, H⟩ := ck_some H
          refine .g (x := .d (slOf 1 rB8 ((v0.take (Int.toNat ((v6l1 + 2) + ((nth v0 (Int.toNat (v6l1 + 1))).toNat : Int)))).drop (Int.toNat (v6l1 + 2))))) (g_append0L (l' := (v0.take (Int.toNat ((v6l1 + 2) + ((nth v0 (Int.toNat (v6l1 + 1))).toNat : Int)))).drop (Int.toNat (v6l1 + 2))) (row := rB8) Tryd.underlying25 hi5 hz5 hs5 rfl (by rw [hb5]; decide) rfl (.inl rfl) rfl rfl hk13) rfl ?_
          refine .q (x := .d (.agg (Element.row (⟨((nth v0 (Int.toNat (v6l1))).toNat : Int), (v0.take (Int.toNat ((v6l1 + 2) + ((nth v0 (Int.toNat (v6l1 + 1))).toNat : Int)))).drop (Int.toNat (v6l1 + 2))⟩ : Element)))) (q_buildP pl_47 hi47 hz47 rfl rfl) rfl ?_
          refine .g (x := .d (slOf 2 Element.row ([(⟨((nth v0 (Int.toNat (v6l1))).toNat : Int), (v0.take (Int.toNat ((v6l1 + 2) + ((nth v0 (Int.toNat (v6l1 + 1))).toNat : Int)))).drop (Int.toNat (v6l1 + 2))⟩ : Element)] : List Element))) (g_buildSlice1 Tryd.underlying22 hi47 hs47 hz47 rfl rfl rfl rfl rfl) rfl ?_
          obtain ⟨hk14, H⟩ := ck_some H
          refine .v (x := .tsl 2 ((v4l1 ++ ([(⟨((nth v0 (Int.toNat (v6l1))).toNat : Int), (v0.take (Int.toNat ((v6l1 + 2) + ((nth v0 (Int.toNat (v6l1 + 1))).toNat : Int)))).drop (Int.toNat (v6l1 + 2))⟩ : Element)] : List Element)).map Element.row) 0) (v_appendL (l := v4l1) (l' := ([(⟨((nth v0 (Int.toNat (v6l1))).toNat : Int), (v0.take (Int.toNat ((v6l1 + 2) + ((nth v0 (Int.toNat (v6l1 + 1))).toNat : Int)))).drop (Int.toNat (v6l1 + 2))⟩ : Element)] : List Element)) (row := Element.row) Tryd.underlying22 hi47 hz47 hs47 rfl (by rw [hb47]; decide) rfl rfl rfl rfl hk14) rfl ?_
          refine .withSt (st' := ⟨[], [⟨47, 2, (v4l1 ++ ([(⟨((nth v0 (Int.toNat (v6l1))).toNat : Int), (v0.take (Int.toNat ((v6l1 + 2) + ((nth v0 (Int.toNat (v6l1 + 1))).toNat : Int)))).drop (Int.toNat (v6l1 + 2))⟩ : Element)] : List Element)).length, none⟩]⟩) rfl ?_
          refine .q (q_assign rfl) rfl ?_
          refine .nil ?_
          refine .region ?_
          refine .q (q_move rfl) rfl ?_
          refine .q (q_move rfl) rfl ?_
          obtain ⟨hk15, H⟩ := ck_some H
          refine .q (q_addI rfl rfl hk15.1 hk15.2) rfl ?_
          refine .q (q_move rfl) rfl ?_
          obtain ⟨hk16, H⟩ := ck_some H
          refine .q (q_addI rfl rfl hk16.1 hk16.2) rfl ?_
          refine .q (q_assign rfl) rfl ?_
          refine .q (q_assign rfl) rfl ?_
          refine .nil ?_
          refine .inBlock ?_
          cases H
          exact .withSt (st' := ⟨[], [⟨47, 2, (v4l1 ++ ([(⟨((nth v0 (Int.toNat (v6l1))).toNat : Int), (v0.take (Int.toNat ((v6l1 + 2) + ((nth v0 (Int.toNat (v6l1 + 1))).toNat : Int)))).drop (Int.toNat (v6l1 + 2))⟩ : Element)] : List Element)).length, none⟩]⟩) rfl <| .sub (.cons rfl (.rfl' _) (.cons rfl (.rfl' _) (.cons rfl (.rfl' _) (.cons rfl (.rfl' _) (.nil))))) (ih1 (n1, (v4l1 ++ ([(⟨((nth v0 (Int.toNat (v6l1))).toNat : Int), (v0.take (Int.toNat ((v6l1 + 2) + ((nth v0 (Int.toNat (v6l1 + 1))).toNat : Int)))).drop (Int.toNat (v6l1 + 2))⟩ : Element)] : List Element), ((nth v0 (Int.toNat (v6l1))).toNat : Int), (v6l1 + 2) + ((nth v0 (Int.toNat (v6l1 + 1))).toNat : Int))) HK1 hm1)
  · replace H := ifF hc H; clear hc
    refine .exit rfl ?_
    refine .seq ?_
    refine .region ?_
    refine .q (q_move rfl) rfl ?_
    refine .q (q_assign rfl) rfl ?_
    refine .q (q_assign rfl) rfl ?_
    refine .nil ?_
    refine .retN [.tmp 2, .tmp 3] [.tsl 2 (v4l1.map Element.row) 0, .d (cI 0)] Tryd.func15 Tryd.results15 ⟨rfl, rfl, trivial⟩ ?_
    cases H
    cases HK1
    exact ⟨_, EVle.tupL (ds := [slOf 2 Element.row v4l1, cI 0]) ⟨.tsl _ _ _, .rfl' _, trivial⟩, rfl⟩

set_option maxRecDepth 100000 in
set_option maxHeartbeats 1000000 in
theorem c_f_billinglaw10_TaggedElements {v0b : List UInt8} {r : Bool} (H : f_billinglaw10_TaggedElements v0b = some r) : ACall Tryd.prog 4 [slOf 1 rB8 v0b] (· = cB r) := by
  refine ACall.enter' Tryd.func4 rfl Tryd.ntmps4 rfl fun S hS => ?_
  unfold f_billinglaw10_TaggedElements at H
  change ARun _ _ _ _ _ _ [(0, .d (slOf 1 rB8 v0b))] _
  refine .seq ?_
  refine .region ?_
  refine .q (q_assign rfl) rfl ?_
  refine .nil ?_
  refine .seq ?_
  refine .seq ?_
  refine .region ?_
  refine .q (q_move rfl) rfl ?_
  refine .q (q_lenL (l := v0b) (row := rB8) Tryd.underlying25 rfl rfl) rfl ?_
  refine .q (q_gtr rfl rfl) rfl ?_
  refine .nil ?_
  refine .cond rfl (fun hc => ?_) (fun hc => ?_)
  · replace H := ifT hc H; clear hc
    refine .seq ?_
    refine .region ?_
    obtain ⟨y1, hy1, H⟩ := bind_some' H
    refine .g (x := .d (cB y1)) (g_call en_10 rfl rfl (c_f_billinglaw10_awake (hy1))) rfl ?_
    refine .q (q_assign rfl) rfl ?_
    refine .nil ?_
    refine .retN [.tmp 2] [.d (cB y1)] Tryd.func4 Tryd.results4 ⟨rfl, trivial⟩ ?_
    cases H
    exact ⟨_, .rfl' _, rfl⟩
  · replace H := ifF hc H; clear hc
    refine .skip ?_
    refine .seq ?_
    refine .region ?_
    refine .q (q_move rfl) rfl ?_
    obtain ⟨y2, hy2, H⟩ := bind_some' H
    refine .g (x := .d (.tup [slOf 2 Element.row y2.1, cI y2.2])) (g_call en_13 rfl rfl (c_f_tagged_Elements (hy2))) rfl ?_
    refine .q (q_move rfl) rfl ?_
    refine .q (q_extract rfl rfl) rfl ?_
    refine .q (q_extract rfl rfl) rfl ?_
    refine .q (q_assign rfl) rfl ?_
    refine .q (q_assign rfl) rfl ?_
    refine .nil ?_
    refine .seq ?_
    refine .region ?_
    refine .q (q_move rfl) rfl ?_
    obtain ⟨y3, hy3, H⟩ := bind_some' H
    refine .g (x := .d (.tup [slOf 2 Element.row y3.1, cI y3.2])) (g_call en_15 rfl rfl (c_f_billingref10_Elements (hy3))) rfl ?_
    refine .q (q_move rfl) rfl ?_
    refine .q (q_extract rfl rfl) rfl ?_
    refine .q (q_extract rfl rfl) rfl ?_
    refine .q (q_assign rfl) rfl ?_
    refine .q (q_assign rfl) rfl ?_
    refine .nil ?_
    refine .seq ?_
    refine .seq ?_
    refine .region ?_
    refine .q (q_move rfl) rfl ?_
    refine .q (q_move rfl) rfl ?_
    obtain ⟨y4, hy4, H⟩ := bind_some' H
    refine .g (x := .d (cB y4)) (g_call en_14 rfl rfl (c_f_billingref10_Same (hy4))) rfl ?_
    refine .q (q_not rfl) rfl ?_
    refine .q (q_move rfl) rfl ?_
    refine .guardG (env' := [(4, _)]) rfl rfl rfl ⟨.inl rfl, trivial⟩ rfl (fun hg => OpQ.g (q_move rfl)) ?_
    refine .guardG (env' := [(6, _)]) rfl rfl rfl ⟨.inl rfl, trivial⟩ rfl (fun hg => OpQ.g (q_move rfl)) ?_
    refine .guardG (env' := [(28, _), (29, _)]) rfl rfl rfl ⟨.inr (.inl rfl), ⟨.inr (.inl rfl), trivial⟩⟩ rfl (fun hg => OpQ.g (q_neq rfl rfl)) ?_
    refine .q (q_pickOrB rfl rfl rfl) rfl ?_
    refine .nil ?_
    refine .cond rfl (fun hc => ?_) (fun hc => ?_)
    · replace H := ifT hc H; clear hc
      refine .seq ?_
      refine .region ?_
      refine .q (q_assign rfl) rfl ?_
      refine .nil ?_
      refine .retN [.tmp 2] [.d (cB false)] Tryd.func4 Tryd.results4 ⟨rfl, trivial⟩ ?_
      cases H
      exact ⟨_, .rfl' _, rfl⟩
    · replace H := ifF hc H; clear hc
      refine .skip ?_
      refine .seq ?_
      refine .seq ?_
      refine .region ?_
      refine .q (q_move rfl) rfl ?_
      refine .q (q_neq rfl rfl) rfl ?_
      refine .nil ?_
      refine .cond rfl (fun hc => ?_) (fun hc => ?_)
      · replace H := ifT hc H; clear hc
        refine .seq ?_
        refine .region ?_
        obtain ⟨y5, hy5, H⟩ := bind_some' H
        refine .g (x := .d (cB y5)) (g_call en_10 rfl rfl (c_f_billinglaw10_awake (hy5))) rfl ?_
        refine .q (q_assign rfl) rfl ?_
        refine .nil ?_
        refine .retN [.tmp 2] [.d (cB y5)] Tryd.func4 Tryd.results4 ⟨rfl, trivial⟩ ?_
        cases H
        exact ⟨_, .rfl' _, rfl⟩
      · replace H := ifF hc H; clear hc
        refine .skip ?_
        refine .seq ?_
        refine .region ?_
        refine .q (q_move rfl) rfl ?_
        obtain ⟨y6, hy6, H⟩ := bind_some' H
        refine .g (x := .d (.tup [slOf 1 rB8 y6.1, cI y6.2])) (g_call en_11 rfl rfl (c_f_tagged_Build (hy6))) rfl ?_
        refine .q (q_move rfl) rfl ?_
        refine .q (q_extract rfl rfl) rfl ?_
        refine .q (q_extract rfl rfl) rfl ?_
        refine .q (q_assign rfl) rfl ?_
        refine .q (q_assign rfl) rfl ?_
        refine .nil ?_
        refine .seq ?_
        refine .region ?_
        refine .q (q_move rfl) rfl ?_
        refine .q (q_eql rfl rfl) rfl ?_
        refine .q (q_move rfl) rfl ?_
        refine .guardG (env' := [(7, _)]) rfl rfl rfl ⟨.inl rfl, trivial⟩ rfl (fun hg => OpQ.g (q_move rfl)) ?_
        refine .guardG (b := (y6.2 == 0)) (x := .d (cS y6.1)) (env' := [(43, _)]) rfl rfl rfl ⟨.inr (.inl rfl), trivial⟩ rfl (fun hg => OpQ.g (q_bytesStrL (a := y6.1) Tryd.underlying25 Tryd.underlying5 Tryd.underlying9 rfl rfl)) ?_
        refine .guardG (env' := [(0, _)]) rfl rfl rfl ⟨.inl rfl, trivial⟩ rfl (fun hg => OpQ.g (q_move rfl)) ?_
        refine .guardG (b := (y6.2 == 0)) (x := .d (cS v0b)) (env' := [(45, _)]) rfl rfl rfl ⟨.inr (.inl rfl), trivial⟩ rfl (fun hg => OpQ.g (q_bytesStrL (a := v0b) Tryd.underlying25 Tryd.underlying5 Tryd.underlying9 rfl rfl)) ?_
        refine .guardG (env' := [(44, _), (46, _)]) rfl rfl rfl ⟨.inr (.inl rfl), ⟨.inr (.inl rfl), trivial⟩⟩ rfl (fun hg => OpQ.g (q_seql rfl rfl)) ?_
        refine .q (q_pickAndB rfl rfl rfl) rfl ?_
        refine .q (q_move rfl) rfl ?_
        obtain ⟨y7, hy7, H⟩ := bind_some' H
        refine .guardG (b := ((y6.2 == 0) && (y6.1 == v0b))) (x := .d (cB y7)) (env' := []) rfl rfl rfl trivial rfl (fun hg => (g_call en_10 rfl rfl (c_f_billinglaw10_awake (gcall_some hy7 hg)))) ?_
        refine .q (q_pickAndB rfl rfl rfl) rfl ?_
        refine .q (q_assign rfl) rfl ?_
        refine .nil ?_
        refine .retN [.tmp 2] [.d (cB (((y6.2 == 0) && (y6.1 == v0b)) && y7))] Tryd.func4 Tryd.results4 ⟨rfl, trivial⟩ ?_
        cases H
        exact ⟨_, .rfl' _, rfl⟩

set_option maxRecDepth 100000 in
set_option maxHeartbeats 1000000 in
theorem c_f_billinglaw10_short {v0r : Record} {r : Bool} (H : f_billinglaw10_short v0r = some r) : ACall Tryd.prog 16 [.agg (Record.row v0r)] (· = cB r) := by
  refine ACall.enter' Tryd.func16 rfl Tryd.ntmps16 rfl fun S hS => ?_
  unfold f_billinglaw10_short at H
  change ARun _ _ _ _ _ _ [(0, .d (.agg (Record.row v0r)))] _
  refine .seq ?_
  refine .region ?_
  refine .v (x := .ref 0 0) (v_box rfl rfl) rfl ?_
  refine .withSt (st' := ⟨[.row 34 [.d (cI v0r.source), .d (cI v0r.serial), .d (cI v0r.kind), .d (cS v0r.a), .d (cS v0r.b), .d (cI v0r.start), .d (cI v0r.units), .d (cI v0r.call), .d (cI v0r.part), .d (cB v0r.last), .d (cI v0r.trunk), .d (cB v0r.inbound)]], []⟩) rfl ?_
  refine .q (q_assign rfl) rfl ?_
  refine .nil ?_
  refine .seq ?_
  refine .region ?_
  refine .q (q_fieldRef fo_34_3 rfl) rfl ?_
  refine .q (x := .d (cS v0r.a)) (q_loadO one_9 rfl rfl rfl) rfl ?_
  refine .q (q_lenS Tryd.underlying9 rfl) rfl ?_
  refine .q (q_leq rfl rfl) rfl ?_
  refine .q (q_move rfl) rfl ?_
  refine .guardG (env' := [(1, _)]) rfl rfl rfl ⟨.inl rfl, trivial⟩ rfl (fun hg => OpQ.g (q_fieldRef fo_34_4 rfl)) ?_
  refine .guardG (b := decide ((v0r.a.length : Int) ≤ 200)) (x := .d (cS v0r.b)) (env' := [(8, _)]) rfl rfl rfl ⟨.inr (.inl rfl), trivial⟩ rfl (fun hg => OpQ.g (q_loadO one_9 rfl rfl rfl)) ?_
  refine .guardG (env' := [(9, _)]) rfl rfl rfl ⟨.inr (.inl rfl), trivial⟩ rfl (fun hg => OpQ.g (q_lenS Tryd.underlying9 rfl)) ?_
  refine .guardG (env' := [(10, _)]) rfl rfl rfl ⟨.inr (.inl rfl), trivial⟩ rfl (fun hg => OpQ.g (q_leq rfl rfl)) ?_
  refine .q (q_pickAndB rfl rfl rfl) rfl ?_
  refine .q (q_assign rfl) rfl ?_
  refine .nil ?_
  refine .retN [.tmp 2] [.d (cB ((decide ((v0r.a.length : Int) ≤ 200)) && (decide ((v0r.b.length : Int) ≤ 200))))] Tryd.func16 Tryd.results16 ⟨rfl, trivial⟩ ?_
  cases H
  exact ⟨_, .rfl' _, rfl⟩

set_option maxRecDepth 100000 in
set_option maxHeartbeats 1000000 in
theorem c_f_billingref09_in {v0n : Int} {v1low : Int} {v2high : Int} {r : Bool} (H : f_billingref09_in v0n v1low v2high = some r) : ACall Tryd.prog 42 [cI v0n, cI v1low, cI v2high] (· = cB r) := by
  refine ACall.enter' Tryd.func42 rfl Tryd.ntmps42 rfl fun S hS => ?_
  unfold f_billingref09_in at H
  change ARun _ _ _ _ _ _ [(0, .d (cI v0n)), (1, .d (cI v1low)), (2, .d (cI v2high))] _
  refine .seq ?_
  refine .region ?_
  refine .q (q_assign rfl) rfl ?_
  refine .nil ?_
  refine .seq ?_
  refine .region ?_
  refine .q (q_move rfl) rfl ?_
  refine .q (q_move rfl) rfl ?_
  refine .q (q_geq rfl rfl) rfl ?_
  refine .q (q_move rfl) rfl ?_
  refine .guardG (env' := [(0, _)]) rfl rfl rfl ⟨.inl rfl, trivial⟩ rfl (fun hg => OpQ.g (q_move rfl)) ?_
  refine .guardG (env' := [(2, _)]) rfl rfl rfl ⟨.inl rfl, trivial⟩ rfl (fun hg => OpQ.g (q_move rfl)) ?_
  refine .guardG (env' := [(11, _), (12, _)]) rfl rfl rfl ⟨.inr (.inl rfl), ⟨.inr (.inl rfl), trivial⟩⟩ rfl (fun hg => OpQ.g (q_leq rfl rfl)) ?_
  refine .q (q_pickAndB rfl rfl rfl) rfl ?_
  refine .q (q_assign rfl) rfl ?_
  refine .nil ?_
  refine .retN [.tmp 6] [.d (cB ((decide (v0n ≥ v1low)) && (decide (v0n ≤ v2high))))] Tryd.func42 Tryd.results42 ⟨rfl, trivial⟩ ?_
  cases H
  exact ⟨_, .rfl' _, rfl⟩

set_option maxRecDepth 100000 in
set_option maxHeartbeats 1000000 in
theorem c_f_billingref02_Valid {v0s : List UInt8} {r : Bool} (H : f_billingref02_Valid v0s = some r) : ACall Tryd.prog 43 [cS v0s] (· = cB r) := by
  refine ACall.enter' Tryd.func43 rfl Tryd.ntmps43 rfl fun S hS => ?_
  unfold f_billingref02_Valid at H
  change ARun _ _ _ _ _ _ [(0, .d (cS v0s))] _
  refine .seq ?_
  refine .region ?_
  refine .q (q_assign rfl) rfl ?_
  refine .nil ?_
  refine .seq ?_
  refine .seq ?_
  refine .region ?_
  refine .q (q_assign rfl) rfl ?_
  refine .nil ?_
  refine .blockJoin2 (ι := Unit) (fun s => [(0, .d (cS v0s))]) (fun s => ⟨[], []⟩) (fun s => f_billingref02_Valid_j1 v0s = some r) ?_ ?_
  · rintro _ H
    replace H : f_billingref02_Valid_j1 v0s = some r := H
    unfold f_billingref02_Valid_j1 at H
    change ARun _ _ _ _ _ _ [(0, .d (cS v0s))] ⟨[], []⟩
    refine .seq ?_
    refine .region ?_
    refine .q (q_move rfl) rfl ?_
    refine .q (q_lenS Tryd.underlying9 rfl) rfl ?_
    refine .q (q_geq rfl rfl) rfl ?_
    refine .q (q_move rfl) rfl ?_
    refine .guardG (env' := [(0, _)]) rfl rfl rfl ⟨.inl rfl, trivial⟩ rfl (fun hg => OpQ.g (q_move rfl)) ?_
    refine .guardG (env' := [(24, _)]) rfl rfl rfl ⟨.inr (.inl rfl), trivial⟩ rfl (fun hg => OpQ.g (q_lenS Tryd.underlying9 rfl)) ?_
    refine .guardG (env' := [(25, _)]) rfl rfl rfl ⟨.inr (.inl rfl), trivial⟩ rfl (fun hg => OpQ.g (q_leq rfl rfl)) ?_
    refine .q (q_pickAndB rfl rfl rfl) rfl ?_
    refine .q (q_assign rfl) rfl ?_
    refine .nil ?_
    refine .retN [.tmp 2] [.d (cB ((decide ((v0s.length : Int) ≥ 1)) && (decide ((v0s.length : Int) ≤ 15))))] Tryd.func43 Tryd.results43 ⟨rfl, trivial⟩ ?_
    cases H
    exact ⟨_, .rfl' _, rfl⟩
  · intro hj1 hj1x
    obtain ⟨n1, H⟩ := loop_some H
    refine .loop (ι := Nat × (Int)) (fun p => [(0, .d (cS v0s)), (3, .d (cI p.2))]) (fun p => ⟨[], []⟩) (fun p => iter (fun s => f_billingref02_Valid_l1 v0s s) p.1 p.2 = some r) (·.1) (n1, 0) H (.cons rfl (.rfl' _) (.cons rfl (.rfl' _) (.nil))) rfl ?_
    rintro ⟨m1, v3il1⟩ HI ih1
    obtain ⟨n1, q1, hm1, H, HK1⟩ := iter_succ HI
    clear HI
    replace H : f_billingref02_Valid_l1 v0s v3il1 = some q1 := H
    unfold f_billingref02_Valid_l1 at H
    change ARun _ _ _ _ _ _ [(0, .d (cS v0s)), (3, .d (cI v3il1))] ⟨[], []⟩
    refine .seq ?_
    refine .seq ?_
    refine .region ?_
    refine .q (q_move rfl) rfl ?_
    refine .q (q_move rfl) rfl ?_
    refine .q (q_lenS Tryd.underlying9 rfl) rfl ?_
    refine .q (q_lss rfl rfl) rfl ?_
    refine .nil ?_
    refine .cond rfl (fun hc => ?_) (fun hc => ?_)
    · replace H := ifT hc H; clear hc
      refine .skip ?_
      refine .seq ?_
      refine .block ?_
      refine .seq ?_
      refine .region ?_
      refine .q (q_move rfl) rfl ?_
      refine .q (q_move rfl) rfl ?_
      obtain ⟨hk1, H⟩ := ck_some H
      refine .q (x := .d (cU8 (nth v0s (Int.toNat (v3il1))))) (q_indexL (i := v3il1) Tryd.underlying9 rfl rfl hk1) rfl ?_
      refine .q (x := .d (cB (decide ((nth v0s (Int.toNat (v3il1))) < 48)))) (q8_lss (a := nth v0s (Int.toNat (v3il1))) (b := 48) rfl rfl) rfl ?_
      refine .q (q_move rfl) rfl ?_
      refine .guardG (env' := [(0, _)]) rfl rfl rfl ⟨.inl rfl, trivial⟩ rfl (fun hg => OpQ.g (q_move rfl)) ?_
      refine .guardG (env' := [(3, _)]) rfl rfl rfl ⟨.inl rfl, trivial⟩ rfl (fun hg => OpQ.g (q_move rfl)) ?_
      obtain ⟨hk2, H⟩ := ck_some H
      refine .guardG (b := (!(decide ((nth v0s (Int.toNat (v3il1))) < 48)))) (x := .d (cU8 (nth v0s (Int.toNat (v3il1))))) (env' := [(15, _), (16, _)]) rfl rfl rfl ⟨.inr (.inl rfl), ⟨.inr (.inl rfl), trivial⟩⟩ rfl (fun hg => OpQ.g (q_indexL (i := v3il1) Tryd.underlying9 rfl rfl (hk2 hg))) ?_
      refine .guardG (b := (!(decide ((nth v0s (Int.toNat (v3il1))) < 48)))) (x := .d (cB (decide ((nth v0s (Int.toNat (v3il1))) > 57)))) (env' := [(17, _)]) rfl rfl rfl ⟨.inr (.inl rfl), trivial⟩ rfl (fun hg => OpQ.g (q8_gtr (a := nth v0s (Int.toNat (v3il1))) (b := 57) rfl rfl)) ?_
      refine .q (q_pickOrB rfl rfl rfl) rfl ?_
      refine .nil ?_
      refine .cond rfl (fun hc => ?_) (fun hc => ?_)
      · replace H := ifT hc H; clear hc
        refine .seq ?_
        refine .region ?_
        refine .q (q_assign rfl) rfl ?_
        refine .nil ?_
        refine .retN [.tmp 2] [.d (cB false)] Tryd.func43 Tryd.results43 ⟨rfl, trivial⟩ ?_
        cases H
        cases HK1
        exact ⟨_, .rfl' _, rfl⟩
      · replace H := ifF hc H; clear hc
        refine .skip ?_
        refine .inBlock ?_
        refine .region ?_
        refine .q (q_move rfl) rfl ?_
        obtain ⟨hk3, H⟩ := ck_some H
        refine .q (q_addI rfl rfl hk3.1 hk3.2) rfl ?_
        refine .q (q_assign rfl) rfl ?_
        refine .nil ?_
        cases H
        exact .sub (.cons rfl (.rfl' _) (.cons rfl (.rfl' _) (.nil))) (ih1 (n1, (v3il1 + 1)) HK1 hm1)
    · replace H := ifF hc H; clear hc
      refine .exit rfl ?_
      obtain ⟨q0, H9, hq0⟩ := map_some' H; clear H; cases hq0
      cases HK1
      have H := H9
      exact .sub (.cons rfl (.rfl' _) (.nil)) (hj1x () H)

set_option maxRecDepth 100000 in
set_option maxHeartbeats 1000000 in
theorem c_f_billingref09_Error {v0 : Record} {r : Int} (H : f_billingref09_Error v0 = some r) : ACall Tryd.prog 31 [.agg (Record.row v0)] (· = cI r) := by
  refine ACall.enter' Tryd.func31 rfl Tryd.ntmps31 rfl fun S hS => ?_
  unfold f_billingref09_Error at H
  change ARun _ _ _ _ _ _ [(0, .d (.agg (Record.row v0)))] _
  refine .seq ?_
  refine .region ?_
  refine .v (x := .ref 0 0) (v_box rfl rfl) rfl ?_
  refine .withSt (st' := ⟨[.row 34 [.d (cI v0.source), .d (cI v0.serial), .d (cI v0.kind), .d (cS v0.a), .d (cS v0.b), .d (cI v0.start), .d (cI v0.units), .d (cI v0.call), .d (cI v0.part), .d (cB v0.last), .d (cI v0.trunk), .d (cB v0.inbound)]], []⟩) rfl ?_
  refine .q (q_assign rfl) rfl ?_
  refine .nil ?_
  refine .seq ?_
  refine .block ?_
  refine .seq ?_
  refine .region ?_
  refine .q (q_fieldRef fo_34_0 rfl) rfl ?_
  refine .q (x := .d (cI v0.source)) (q_loadO one_3 rfl rfl rfl) rfl ?_
  obtain ⟨y1, hy1, H⟩ := bind_some' H
  refine .g (x := .d (cB y1)) (g_call en_42 rfl rfl (c_f_billingref09_in (hy1))) rfl ?_
  refine .q (q_not rfl) rfl ?_
  refine .q (q_move rfl) rfl ?_
  refine .guardG (env' := [(1, _)]) rfl rfl rfl ⟨.inl rfl, trivial⟩ rfl (fun hg => OpQ.g (q_fieldRef fo_34_1 rfl)) ?_
  refine .guardG (b := (!(!y1))) (x := .d (cI v0.serial)) (env' := [(9, _)]) rfl rfl rfl ⟨.inr (.inl rfl), trivial⟩ rfl (fun hg => OpQ.g (q_loadO one_3 rfl rfl rfl)) ?_
  obtain ⟨y2, hy2, H⟩ := bind_some' H
  refine .guardG (b := (!(!y1))) (x := .d (cB y2)) (env' := [(10, _)]) rfl rfl rfl ⟨.inr (.inl rfl), trivial⟩ rfl (fun hg => (g_call en_42 rfl rfl (c_f_billingref09_in (gcall_some hy2 hg)))) ?_
  refine .guardG (env' := [(11, _)]) rfl rfl rfl ⟨.inr (.inl rfl), trivial⟩ rfl (fun hg => OpQ.g (q_not rfl)) ?_
  refine .q (q_pickOrB rfl rfl rfl) rfl ?_
  refine .q (q_assign rfl) rfl ?_
  refine .nil ?_
  refine .cond rfl (fun hc => ?_) (fun hc => ?_)
  · replace H := ifT hc H; clear hc
    refine .seq ?_
    refine .region ?_
    refine .q (q_assign rfl) rfl ?_
    refine .nil ?_
    refine .retN [.tmp 2] [.d (cI 6)] Tryd.func31 Tryd.results31 ⟨rfl, trivial⟩ ?_
    cases H
    exact ⟨_, .rfl' _, rfl⟩
  · replace H := ifF hc H; clear hc
    refine .seq ?_
    refine .region ?_
    refine .q (q_fieldRef fo_34_2 rfl) rfl ?_
    refine .q (x := .d (cI v0.kind)) (q_loadO one_3 rfl rfl rfl) rfl ?_
    obtain ⟨y3, hy3, H⟩ := bind_some' H
    refine .g (x := .d (cB y3)) (g_call en_42 rfl rfl (c_f_billingref09_in (hy3))) rfl ?_
    refine .q (q_not rfl) rfl ?_
    refine .q (q_assign rfl) rfl ?_
    refine .nil ?_
    refine .cond rfl (fun hc => ?_) (fun hc => ?_)
    · replace H := ifT hc H; clear hc
      refine .seq ?_
      refine .region ?_
      refine .q (q_assign rfl) rfl ?_
      refine .nil ?_
      refine .retN [.tmp 2] [.d (cI 7)] Tryd.func31 Tryd.results31 ⟨rfl, trivial⟩ ?_
      cases H
      exact ⟨_, .rfl' _, rfl⟩
    · replace H := ifF hc H; clear hc
      refine .seq ?_
      refine .region ?_
      refine .q (q_fieldRef fo_34_3 rfl) rfl ?_
      refine .q (x := .d (cS v0.a)) (q_loadO one_9 rfl rfl rfl) rfl ?_
      obtain ⟨y4, hy4, H⟩ := bind_some' H
      refine .g (x := .d (cB y4)) (g_call en_43 rfl rfl (c_f_billingref02_Valid (hy4))) rfl ?_
      refine .q (q_not rfl) rfl ?_
      refine .q (q_assign rfl) rfl ?_
      refine .nil ?_
      refine .cond rfl (fun hc => ?_) (fun hc => ?_)
      · replace H := ifT hc H; clear hc
        refine .seq ?_
        refine .region ?_
        refine .q (q_assign rfl) rfl ?_
        refine .nil ?_
        refine .retN [.tmp 2] [.d (cI 12)] Tryd.func31 Tryd.results31 ⟨rfl, trivial⟩ ?_
        cases H
        exact ⟨_, .rfl' _, rfl⟩
      · replace H := ifF hc H; clear hc
        refine .seq ?_
        refine .region ?_
        refine .q (q_fieldRef fo_34_4 rfl) rfl ?_
        refine .q (x := .d (cS v0.b)) (q_loadO one_9 rfl rfl rfl) rfl ?_
        obtain ⟨y5, hy5, H⟩ := bind_some' H
        refine .g (x := .d (cB y5)) (g_call en_43 rfl rfl (c_f_billingref02_Valid (hy5))) rfl ?_
        refine .q (q_not rfl) rfl ?_
        refine .q (q_move rfl) rfl ?_
        refine .guardG (env' := [(1, _)]) rfl rfl rfl ⟨.inl rfl, trivial⟩ rfl (fun hg => OpQ.g (q_fieldRef fo_34_4 rfl)) ?_
        refine .guardG (b := (!y5)) (x := .d (cS v0.b)) (env' := [(30, _)]) rfl rfl rfl ⟨.inr (.inl rfl), trivial⟩ rfl (fun hg => OpQ.g (q_loadO one_9 rfl rfl rfl)) ?_
        refine .guardG (env' := [(31, _)]) rfl rfl rfl ⟨.inr (.inl rfl), trivial⟩ rfl (fun hg => OpQ.g (q_sneq rfl rfl)) ?_
        refine .guardG (env' := [(32, _)]) rfl rfl rfl ⟨.inr (.inl rfl), trivial⟩ rfl (fun hg => OpQ.g (q_move rfl)) ?_
        refine .guardG (env' := [(1, _)]) rfl rfl rfl ⟨.inl rfl, trivial⟩ rfl (fun hg => OpQ.g (q_fieldRef fo_34_2 rfl)) ?_
        refine .guardG (b := ((!y5) && (!(v0.b != ([] : List UInt8))))) (x := .d (cI v0.kind)) (env' := [(34, _)]) rfl rfl rfl ⟨.inr (.inl rfl), trivial⟩ rfl (fun hg => OpQ.g (q_loadO one_3 rfl rfl rfl)) ?_
        refine .guardG (env' := [(35, _)]) rfl rfl rfl ⟨.inr (.inl rfl), trivial⟩ rfl (fun hg => OpQ.g (q_neq rfl rfl)) ?_
        refine .guardG (env' := [(36, _)]) rfl rfl rfl ⟨.inr (.inl rfl), trivial⟩ rfl (fun hg => OpQ.g (q_move rfl)) ?_
        refine .guardG (env' := [(1, _)]) rfl rfl rfl ⟨.inl rfl, trivial⟩ rfl (fun hg => OpQ.g (q_fieldRef fo_34_2 rfl)) ?_
        refine .guardG (b := (((!y5) && (!(v0.b != ([] : List UInt8)))) && (v0.kind != 3))) (x := .d (cI v0.kind)) (env' := [(38, _)]) rfl rfl rfl ⟨.inr (.inl rfl), trivial⟩ rfl (fun hg => OpQ.g (q_loadO one_3 rfl rfl rfl)) ?_
        refine .guardG (env' := [(39, _)]) rfl rfl rfl ⟨.inr (.inl rfl), trivial⟩ rfl (fun hg => OpQ.g (q_neq rfl rfl)) ?_
        refine .guardG (env' := [(37, _), (40, _)]) rfl rfl rfl ⟨.inr (.inl rfl), ⟨.inr (.inr ⟨_, _, rfl, rfl⟩), trivial⟩⟩ rfl (fun hg => OpQ.g (q_pickAndB rfl rfl rfl)) ?_
        refine .guardG (env' := [(33, _), (41, _)]) rfl rfl rfl ⟨.inr (.inl rfl), ⟨.inr (.inr ⟨_, _, rfl, rfl⟩), trivial⟩⟩ rfl (fun hg => OpQ.g (q_pickOrB rfl rfl rfl)) ?_
        refine .q (q_pickAndB rfl rfl rfl) rfl ?_
        refine .q (q_assign rfl) rfl ?_
        refine .nil ?_
        refine .cond rfl (fun hc => ?_) (fun hc => ?_)
        · replace H := ifT hc H; clear hc
          refine .seq ?_
          refine .region ?_
          refine .q (q_assign rfl) rfl ?_
          refine .nil ?_
          refine .retN [.tmp 2] [.d (cI 12)] Tryd.func31 Tryd.results31 ⟨rfl, trivial⟩ ?_
          cases H
          exact ⟨_, .rfl' _, rfl⟩
        · replace H := ifF hc H; clear hc
          refine .seq ?_
          refine .region ?_
          refine .q (q_fieldRef fo_34_5 rfl) rfl ?_
          refine .q (x := .d (cI v0.start)) (q_loadO one_3 rfl rfl rfl) rfl ?_
          obtain ⟨y6, hy6, H⟩ := bind_some' H
          refine .g (x := .d (cB y6)) (g_call en_42 rfl rfl (c_f_billingref09_in (hy6))) rfl ?_
          refine .q (q_not rfl) rfl ?_
          refine .q (q_assign rfl) rfl ?_
          refine .nil ?_
          refine .cond rfl (fun hc => ?_) (fun hc => ?_)
          · replace H := ifT hc H; clear hc
            refine .seq ?_
            refine .region ?_
            refine .q (q_assign rfl) rfl ?_
            refine .nil ?_
            refine .retN [.tmp 2] [.d (cI 15)] Tryd.func31 Tryd.results31 ⟨rfl, trivial⟩ ?_
            cases H
            exact ⟨_, .rfl' _, rfl⟩
          · replace H := ifF hc H; clear hc
            refine .seq ?_
            refine .region ?_
            refine .q (q_fieldRef fo_34_6 rfl) rfl ?_
            refine .q (x := .d (cI v0.units)) (q_loadO one_3 rfl rfl rfl) rfl ?_
            obtain ⟨y7, hy7, H⟩ := bind_some' H
            refine .g (x := .d (cB y7)) (g_call en_42 rfl rfl (c_f_billingref09_in (hy7))) rfl ?_
            refine .q (q_not rfl) rfl ?_
            refine .q (q_move rfl) rfl ?_
            refine .guardG (env' := [(1, _)]) rfl rfl rfl ⟨.inl rfl, trivial⟩ rfl (fun hg => OpQ.g (q_fieldRef fo_34_2 rfl)) ?_
            refine .guardG (b := (!(!y7))) (x := .d (cI v0.kind)) (env' := [(55, _)]) rfl rfl rfl ⟨.inr (.inl rfl), trivial⟩ rfl (fun hg => OpQ.g (q_loadO one_3 rfl rfl rfl)) ?_
            refine .guardG (env' := [(56, _)]) rfl rfl rfl ⟨.inr (.inl rfl), trivial⟩ rfl (fun hg => OpQ.g (q_eql rfl rfl)) ?_
            refine .guardG (env' := [(57, _)]) rfl rfl rfl ⟨.inr (.inl rfl), trivial⟩ rfl (fun hg => OpQ.g (q_move rfl)) ?_
            refine .guardG (env' := [(1, _)]) rfl rfl rfl ⟨.inl rfl, trivial⟩ rfl (fun hg => OpQ.g (q_fieldRef fo_34_6 rfl)) ?_
            refine .guardG (b := ((!(!y7)) && (v0.kind == 1))) (x := .d (cI v0.units)) (env' := [(59, _)]) rfl rfl rfl ⟨.inr (.inl rfl), trivial⟩ rfl (fun hg => OpQ.g (q_loadO one_3 rfl rfl rfl)) ?_
            refine .guardG (env' := [(60, _)]) rfl rfl rfl ⟨.inr (.inl rfl), trivial⟩ rfl (fun hg => OpQ.g (q_gtr rfl rfl)) ?_
            refine .guardG (env' := [(58, _), (61, _)]) rfl rfl rfl ⟨.inr (.inl rfl), ⟨.inr (.inr ⟨_, _, rfl, rfl⟩), trivial⟩⟩ rfl (fun hg => OpQ.g (q_pickAndB rfl rfl rfl)) ?_
            refine .q (q_pickOrB rfl rfl rfl) rfl ?_
            refine .q (q_assign rfl) rfl ?_
            refine .nil ?_
            refine .cond rfl (fun hc => ?_) (fun hc => ?_)
            · replace H := ifT hc H; clear hc
              refine .seq ?_
              refine .region ?_
              refine .q (q_assign rfl) rfl ?_
              refine .nil ?_
              refine .retN [.tmp 2] [.d (cI 6)] Tryd.func31 Tryd.results31 ⟨rfl, trivial⟩ ?_
              cases H
              exact ⟨_, .rfl' _, rfl⟩
            · replace H := ifF hc H; clear hc
              refine .seq ?_
              refine .region ?_
              refine .q (q_fieldRef fo_34_2 rfl) rfl ?_
              refine .q (x := .d (cI v0.kind)) (q_loadO one_3 rfl rfl rfl) rfl ?_
              refine .q (q_eql rfl rfl) rfl ?_
              refine .q (q_move rfl) rfl ?_
              refine .guardG (env' := [(1, _)]) rfl rfl rfl ⟨.inl rfl, trivial⟩ rfl (fun hg => OpQ.g (q_fieldRef fo_34_5 rfl)) ?_
              refine .guardG (b := (v0.kind == 1)) (x := .d (cI v0.start)) (env' := [(69, _)]) rfl rfl rfl ⟨.inr (.inl rfl), trivial⟩ rfl (fun hg => OpQ.g (q_loadO one_3 rfl rfl rfl)) ?_
              refine .guardG (env' := [(1, _)]) rfl rfl rfl ⟨.inl rfl, trivial⟩ rfl (fun hg => OpQ.g (q_fieldRef fo_34_6 rfl)) ?_
              refine .guardG (b := (v0.kind == 1)) (x := .d (cI v0.units)) (env' := [(71, _)]) rfl rfl rfl ⟨.inr (.inl rfl), trivial⟩ rfl (fun hg => OpQ.g (q_loadO one_3 rfl rfl rfl)) ?_
              obtain ⟨hk1, H⟩ := ck_some H
              refine .guardG (env' := [(70, _), (72, _)]) rfl rfl rfl ⟨.inr (.inl rfl), ⟨.inr (.inl rfl), trivial⟩⟩ rfl (fun hg => OpQ.g (q_addI rfl rfl (hk1 hg).1 (hk1 hg).2)) ?_
              refine .guardG (env' := [(73, _)]) rfl rfl rfl ⟨.inr (.inl rfl), trivial⟩ rfl (fun hg => OpQ.g (q_gtr rfl rfl)) ?_
              refine .q (q_pickAndB rfl rfl rfl) rfl ?_
              refine .q (q_assign rfl) rfl ?_
              refine .nil ?_
              refine .cond rfl (fun hc => ?_) (fun hc => ?_)
              · replace H := ifT hc H; clear hc
                refine .seq ?_
                refine .region ?_
                refine .q (q_assign rfl) rfl ?_
                refine .nil ?_
                refine .retN [.tmp 2] [.d (cI 15)] Tryd.func31 Tryd.results31 ⟨rfl, trivial⟩ ?_
                cases H
                exact ⟨_, .rfl' _, rfl⟩
              · replace H := ifF hc H; clear hc
                refine .seq ?_
                refine .region ?_
                refine .q (q_fieldRef fo_34_7 rfl) rfl ?_
                refine .q (x := .d (cI v0.call)) (q_loadO one_3 rfl rfl rfl) rfl ?_
                obtain ⟨y8, hy8, H⟩ := bind_some' H
                refine .g (x := .d (cB y8)) (g_call en_42 rfl rfl (c_f_billingref09_in (hy8))) rfl ?_
                refine .q (q_not rfl) rfl ?_
                refine .q (q_move rfl) rfl ?_
                refine .guardG (env' := [(1, _)]) rfl rfl rfl ⟨.inl rfl, trivial⟩ rfl (fun hg => OpQ.g (q_fieldRef fo_34_8 rfl)) ?_
                refine .guardG (b := (!(!y8))) (x := .d (cI v0.part)) (env' := [(82, _)]) rfl rfl rfl ⟨.inr (.inl rfl), trivial⟩ rfl (fun hg => OpQ.g (q_loadO one_3 rfl rfl rfl)) ?_
                obtain ⟨y9, hy9, H⟩ := bind_some' H
                refine .guardG (b := (!(!y8))) (x := .d (cB y9)) (env' := [(83, _)]) rfl rfl rfl ⟨.inr (.inl rfl), trivial⟩ rfl (fun hg => (g_call en_42 rfl rfl (c_f_billingref09_in (gcall_some hy9 hg)))) ?_
                refine .guardG (env' := [(84, _)]) rfl rfl rfl ⟨.inr (.inl rfl), trivial⟩ rfl (fun hg => OpQ.g (q_not rfl)) ?_
                refine .q (q_pickOrB rfl rfl rfl) rfl ?_
                refine .q (q_assign rfl) rfl ?_
                refine .nil ?_
                refine .cond rfl (fun hc => ?_) (fun hc => ?_)
                · replace H := ifT hc H; clear hc
                  refine .seq ?_
                  refine .region ?_
                  refine .q (q_assign rfl) rfl ?_
                  refine .nil ?_
                  refine .retN [.tmp 2] [.d (cI 6)] Tryd.func31 Tryd.results31 ⟨rfl, trivial⟩ ?_
                  cases H
                  exact ⟨_, .rfl' _, rfl⟩
                · replace H := ifF hc H; clear hc
                  refine .seq ?_
                  refine .region ?_
                  refine .q (q_fieldRef fo_34_8 rfl) rfl ?_
                  refine .q (x := .d (cI v0.part)) (q_loadO one_3 rfl rfl rfl) rfl ?_
                  refine .q (q_eql rfl rfl) rfl ?_
                  refine .q (q_fieldRef fo_34_7 rfl) rfl ?_
                  refine .q (x := .d (cI v0.call)) (q_loadO one_3 rfl rfl rfl) rfl ?_
                  refine .q (q_eql rfl rfl) rfl ?_
                  refine .q (x := .d (cB ((v0.part == 0) != (v0.call == 0)))) (q_bneq rfl Tryd.underlying4 rfl) rfl ?_
                  refine .q (q_move rfl) rfl ?_
                  refine .guardG (env' := [(1, _)]) rfl rfl rfl ⟨.inl rfl, trivial⟩ rfl (fun hg => OpQ.g (q_fieldRef fo_34_9 rfl)) ?_
                  refine .guardG (b := (!((v0.part == 0) != (v0.call == 0)))) (x := .d (cB v0.last)) (env' := [(96, _)]) rfl rfl rfl ⟨.inr (.inl rfl), trivial⟩ rfl (fun hg => OpQ.g (q_loadO one_4 rfl rfl rfl)) ?_
                  refine .guardG (env' := [(97, _)]) rfl rfl rfl ⟨.inr (.inl rfl), trivial⟩ rfl (fun hg => OpQ.g (q_move rfl)) ?_
                  refine .guardG (env' := [(1, _)]) rfl rfl rfl ⟨.inl rfl, trivial⟩ rfl (fun hg => OpQ.g (q_fieldRef fo_34_8 rfl)) ?_
                  refine .guardG (b := ((!((v0.part == 0) != (v0.call == 0))) && v0.last)) (x := .d (cI v0.part)) (env' := [(99, _)]) rfl rfl rfl ⟨.inr (.inl rfl), trivial⟩ rfl (fun hg => OpQ.g (q_loadO one_3 rfl rfl rfl)) ?_
                  refine .guardG (env' := [(100, _)]) rfl rfl rfl ⟨.inr (.inl rfl), trivial⟩ rfl (fun hg => OpQ.g (q_eql rfl rfl)) ?_
                  refine .guardG (env' := [(98, _), (101, _)]) rfl rfl rfl ⟨.inr (.inl rfl), ⟨.inr (.inr ⟨_, _, rfl, rfl⟩), trivial⟩⟩ rfl (fun hg => OpQ.g (q_pickAndB rfl rfl rfl)) ?_
                  refine .q (q_pickOrB rfl rfl rfl) rfl ?_
                  refine .q (q_assign rfl) rfl ?_
                  refine .nil ?_
                  refine .cond rfl (fun hc => ?_) (fun hc => ?_)
                  · replace H := ifT hc H; clear hc
                    refine .seq ?_
                    refine .region ?_
                    refine .q (q_assign rfl) rfl ?_
                    refine .nil ?_
                    refine .retN [.tmp 2] [.d (cI 8)] Tryd.func31 Tryd.results31 ⟨rfl, trivial⟩ ?_
                    cases H
                    exact ⟨_, .rfl' _, rfl⟩
                  · replace H := ifF hc H; clear hc
                    refine .seq ?_
                    refine .region ?_
                    refine .q (q_fieldRef fo_34_10 rfl) rfl ?_
                    refine .q (x := .d (cI v0.trunk)) (q_loadO one_3 rfl rfl rfl) rfl ?_
                    obtain ⟨y10, hy10, H⟩ := bind_some' H
                    refine .g (x := .d (cB y10)) (g_call en_42 rfl rfl (c_f_billingref09_in (hy10))) rfl ?_
                    refine .q (q_not rfl) rfl ?_
                    refine .q (q_assign rfl) rfl ?_
                    refine .nil ?_
                    refine .cond rfl (fun hc => ?_) (fun hc => ?_)
                    · replace H := ifT hc H; clear hc
                      refine .seq ?_
                      refine .region ?_
                      refine .q (q_assign rfl) rfl ?_
                      refine .nil ?_
                      refine .retN [.tmp 2] [.d (cI 6)] Tryd.func31 Tryd.results31 ⟨rfl, trivial⟩ ?_
                      cases H
                      exact ⟨_, .rfl' _, rfl⟩
                    · replace H := ifF hc H; clear hc
                      refine .seq ?_
                      refine .region ?_
                      refine .q (q_fieldRef fo_34_11 rfl) rfl ?_
                      refine .q (x := .d (cB v0.inbound)) (q_loadO one_4 rfl rfl rfl) rfl ?_
                      refine .q (q_move rfl) rfl ?_
                      refine .guardG (env' := [(1, _)]) rfl rfl rfl ⟨.inl rfl, trivial⟩ rfl (fun hg => OpQ.g (q_fieldRef fo_34_10 rfl)) ?_
                      refine .guardG (b := v0.inbound) (x := .d (cI v0.trunk)) (env' := [(113, _)]) rfl rfl rfl ⟨.inr (.inl rfl), trivial⟩ rfl (fun hg => OpQ.g (q_loadO one_3 rfl rfl rfl)) ?_
                      refine .guardG (env' := [(114, _)]) rfl rfl rfl ⟨.inr (.inl rfl), trivial⟩ rfl (fun hg => OpQ.g (q_eql rfl rfl)) ?_
                      refine .q (q_pickAndB rfl rfl rfl) rfl ?_
                      refine .q (q_assign rfl) rfl ?_
                      refine .nil ?_
                      refine .cond rfl (fun hc => ?_) (fun hc => ?_)
                      · replace H := ifT hc H; clear hc
                        refine .seq ?_
                        refine .region ?_
                        refine .q (q_assign rfl) rfl ?_
                        refine .nil ?_
                        refine .retN [.tmp 2] [.d (cI 8)] Tryd.func31 Tryd.results31 ⟨rfl, trivial⟩ ?_
                        cases H
                        exact ⟨_, .rfl' _, rfl⟩
                      · replace H := ifF hc H; clear hc
                        refine .skip ?_
                        refine .inBlock ?_
                        refine .seq ?_
                        refine .region ?_
                        refine .q (q_assign rfl) rfl ?_
                        refine .nil ?_
                        refine .retN [.tmp 2] [.d (cI 0)] Tryd.func31 Tryd.results31 ⟨rfl, trivial⟩ ?_
                        cases H
                        exact ⟨_, .rfl' _, rfl⟩

set_option maxRecDepth 100000 in
set_option maxHeartbeats 1000000 in
theorem c_f_billingref02_Pack {v0s : List UInt8} {r : (List UInt8) × Int} (H : f_billingref02_Pack v0s = some r) : ACall Tryd.prog 32 [cS v0s] (· = .tup [slOf 1 rB8 r.1, cI r.2]) := by
  obtain ⟨i5, hi5, hz5, hs5, hb5⟩ := in_5
  refine ACall.enter' Tryd.func32 rfl Tryd.ntmps32 rfl fun S hS => ?_
  unfold f_billingref02_Pack at H
  change ARun _ _ _ _ _ _ [(0, .d (cS v0s))] _
  refine .seq ?_
  refine .region ?_
  refine .q (q_assign rfl) rfl ?_
  refine .q (q_assign rfl) rfl ?_
  refine .nil ?_
  refine .seq ?_
  refine .seq ?_
  refine .region ?_
  refine .q (q_move rfl) rfl ?_
  obtain ⟨y1, hy1, H⟩ := bind_some' H
  refine .g (x := .d (cB y1)) (g_call en_43 rfl rfl (c_f_billingref02_Valid (hy1))) rfl ?_
  refine .q (q_not rfl) rfl ?_
  refine .nil ?_
  refine .cond rfl (fun hc => ?_) (fun hc => ?_)
  · replace H := ifT hc H; clear hc
    refine .seq ?_
    refine .region ?_
    refine .q (q_assign rfl) rfl ?_
    refine .q (q_assign rfl) rfl ?_
    refine .nil ?_
    refine .retN [.tmp 2, .tmp 3] [.d (nilD), .d (cI 12)] Tryd.func32 Tryd.results32 ⟨rfl, rfl, trivial⟩ ?_
    cases H
    exact ⟨_, EVle.tupL (ds := [slOf 1 rB8 ([] : List UInt8), cI 12]) ⟨.nil 1, .rfl' _, trivial⟩, rfl⟩
  · replace H := ifF hc H; clear hc
    refine .skip ?_
    refine .seq ?_
    refine .region ?_
    refine .v (x := .tsl 1 (([] : List UInt8).map rB8) 0) (v_build0T Tryd.underlying25 hi5 hs5) rfl ?_
    refine .withSt (st' := ⟨[], [⟨5, 1, ([] : List UInt8).length, none⟩]⟩) rfl ?_
    refine .q (q_assign rfl) rfl ?_
    refine .nil ?_
    refine .seq ?_
    refine .seq ?_
    refine .region ?_
    refine .q (q_assign rfl) rfl ?_
    refine .nil ?_
    refine .block ?_
    obtain ⟨n1, H⟩ := loop_some H
    refine .withSt (st' := ⟨[], [⟨5, 1, ([] : List UInt8).length, none⟩]⟩) rfl <| .loop (ι := Nat × (List UInt8 × Int)) (fun p => [(0, .d (cS v0s)), (4, .tsl 1 (p.2.1.map rB8) 0), (5, .d (cI p.2.2))]) (fun p => ⟨[], [⟨5, 1, p.2.1.length, none⟩]⟩) (fun p => iter (fun s => f_billingref02_Pack_l1 v0s s.1 s.2) p.1 p.2 = some r) (·.1) (n1, (([] : List UInt8), 0)) H (.cons rfl (.rfl' _) (.cons rfl (.rfl' _) (.cons rfl (.rfl' _) (.nil)))) rfl ?_
    rintro ⟨m1, v4outl1, v5il1⟩ HI ih1
    obtain ⟨n1, q1, hm1, H, HK1⟩ := iter_succ HI
    clear HI
    replace H : f_billingref02_Pack_l1 v0s v4outl1 v5il1 = some q1 := H
    unfold f_billingref02_Pack_l1 at H
    change ARun _ _ _ _ _ _ [(0, .d (cS v0s)), (4, .tsl 1 (v4outl1.map rB8) 0), (5, .d (cI v5il1))] ⟨[], [⟨5, 1, v4outl1.length, none⟩]⟩
    refine .seq ?_
    refine .seq ?_
    refine .region ?_
    refine .q (q_move rfl) rfl ?_
    refine .q (q_move rfl) rfl ?_
    refine .q (q_lenS Tryd.underlying9 rfl) rfl ?_
    refine .q (q_lss rfl rfl) rfl ?_
    refine .nil ?_
    refine .cond rfl (fun hc => ?_) (fun hc => ?_)
    · replace H := ifT hc H; clear hc
      refine .skip ?_
      refine .seq ?_
      refine .block ?_
      refine .seq ?_
      refine .region ?_
      refine .q (q_assign rfl) rfl ?_
      refine .nil ?_
      refine .seqJoin (ι := UInt8) (fun s => [(0, .d (cS v0s)), (4, .tsl 1 (v4outl1.map rB8) 0), (5, .d (cI v5il1)), (6, .d (cU8 s))]) (fun s => ⟨[], [⟨5, 1, v4outl1.length, none⟩]⟩) (fun s => f_billingref02_Pack_j1 v0s v4outl1 v5il1 s = some q1) ?_ ?_
      · rintro v6lowj1 H
        replace H : f_billingref02_Pack_j1 v0s v4outl1 v5il1 v6lowj1 = some q1 := H
        unfold f_billingref02_Pack_j1 at H
        change ARun _ _ _ _ _ _ [(0, .d (cS v0s)), (4, .tsl 1 (v4outl1.map rB8) 0), (5, .d (cI v5il1)), (6, .d (cU8 v6lowj1))] ⟨[], [⟨5, 1, v4outl1.length, none⟩]⟩
        refine .region ?_
        refine .q (q_move rfl) rfl ?_
        refine .q (q_move rfl) rfl ?_
        refine .q (q_move rfl) rfl ?_
        obtain ⟨hk1, H⟩ := ck_some H
        refine .q (x := .d (cU8 (nth v0s (Int.toNat (v5il1))))) (q_indexL (i := v5il1) Tryd.underlying9 rfl rfl hk1) rfl ?_
        refine .q (x := .d (cU8 ((nth v0s (Int.toNat (v5il1))) - 48))) (q8_sub (a := nth v0s (Int.toNat (v5il1))) (b := 48) rfl rfl) rfl ?_
        obtain ⟨hk2, H⟩ := ck_some H
        refine .q (x := .d (cU8 (u8shl ((nth v0s (Int.toNat (v5il1))) - 48) 4))) (q8_shl (a := (nth v0s (Int.toNat (v5il1))) - 48) (n := 4) rfl rfl hk2) rfl ?_
        refine .q (q_move rfl) rfl ?_
        refine .q (x := .d (cU8 ((u8shl ((nth v0s (Int.toNat (v5il1))) - 48) 4) ||| v6lowj1))) (q8_or (a := u8shl ((nth v0s (Int.toNat (v5il1))) - 48) 4) (b := v6lowj1) rfl rfl) rfl ?_
        refine .g (x := .d (slOf 1 rB8 ([(u8shl ((nth v0s (Int.toNat (v5il1))) - 48) 4) ||| v6lowj1] : List UInt8))) (g_buildSlice1 Tryd.underlying25 hi5 hs5 hz5 rfl rfl rfl rfl rfl) rfl ?_
        obtain ⟨hk3, H⟩ := ck_some H
        refine .v (x := .tsl 1 ((v4outl1 ++ ([(u8shl ((nth v0s (Int.toNat (v5il1))) - 48) 4) ||| v6lowj1] : List UInt8)).map rB8) 0) (v_appendL (l := v4outl1) (l' := ([(u8shl ((nth v0s (Int.toNat (v5il1))) - 48) 4) ||| v6lowj1] : List UInt8)) (row := rB8) Tryd.underlying25 hi5 hz5 hs5 rfl (by rw [hb5]; decide) rfl rfl rfl rfl hk3) rfl ?_
        refine .withSt (st' := ⟨[], [⟨5, 1, (v4outl1 ++ ([(u8shl ((nth v0s (Int.toNat (v5il1))) - 48) 4) ||| v6lowj1] : List UInt8)).length, none⟩]⟩) rfl ?_
        refine .q (q_assign rfl) rfl ?_
        refine .nil ?_
        refine .inBlock ?_
        refine .region ?_
        refine .q (q_move rfl) rfl ?_
        obtain ⟨hk4, H⟩ := ck_some H
        refine .q (q_addI rfl rfl hk4.1 hk4.2) rfl ?_
        refine .q (q_assign rfl) rfl ?_
        refine .nil ?_
        cases H
        exact .withSt (st' := ⟨[], [⟨5, 1, (v4outl1 ++ ([(u8shl ((nth v0s (Int.toNat (v5il1))) - 48) 4) ||| v6lowj1] : List UInt8)).length, none⟩]⟩) rfl <| .sub (.cons rfl (.rfl' _) (.cons rfl (.rfl' _) (.cons rfl (.rfl' _) (.nil)))) (ih1 (n1, (v4outl1 ++ ([(u8shl ((nth v0s (Int.toNat (v5il1))) - 48) 4) ||| v6lowj1] : List UInt8), v5il1 + 2)) HK1 hm1)
      · intro hj1
        refine .seq ?_
        refine .region ?_
        refine .q (q_move rfl) rfl ?_
        obtain ⟨hk5, H⟩ := ck_some H
        refine .q (q_addI rfl rfl hk5.1 hk5.2) rfl ?_
        refine .q (q_move rfl) rfl ?_
        refine .q (q_lenS Tryd.underlying9 rfl) rfl ?_
        refine .q (q_lss rfl rfl) rfl ?_
        refine .nil ?_
        refine .cond rfl (fun hc => ?_) (fun hc => ?_)
        · replace H := ifT hc H; clear hc
          refine .region ?_
          refine .q (q_move rfl) rfl ?_
          refine .q (q_move rfl) rfl ?_
          obtain ⟨hk6, H⟩ := ck_some H
          refine .q (q_addI rfl rfl hk6.1 hk6.2) rfl ?_
          obtain ⟨hk7, H⟩ := ck_some H
          refine .q (x := .d (cU8 (nth v0s (Int.toNat (v5il1 + 1))))) (q_indexL (i := v5il1 + 1) Tryd.underlying9 rfl rfl hk7) rfl ?_
          refine .q (x := .d (cU8 ((nth v0s (Int.toNat (v5il1 + 1))) - 48))) (q8_sub (a := nth v0s (Int.toNat (v5il1 + 1))) (b := 48) rfl rfl) rfl ?_
          refine .q (q_assign rfl) rfl ?_
          refine .nil ?_
          exact .sub (.cons rfl (.rfl' _) (.cons rfl (.rfl' _) (.cons rfl (.rfl' _) (.cons rfl (.rfl' _) (.nil))))) (hj1 ((nth v0s (Int.toNat (v5il1 + 1))) - 48) H)
        · replace H := ifF hc H; clear hc
          refine .skip ?_
          exact .sub (.cons rfl (.rfl' _) (.cons rfl (.rfl' _) (.cons rfl (.rfl' _) (.cons rfl (.rfl' _) (.nil))))) (hj1 15 H)
    · replace H := ifF hc H; clear hc
      refine .exit rfl ?_
      refine .seq ?_
      refine .region ?_
      refine .q (q_move rfl) rfl ?_
      refine .q (q_assign rfl) rfl ?_
      refine .q (q_assign rfl) rfl ?_
      refine .nil ?_
      refine .retN [.tmp 2, .tmp 3] [.tsl 1 (v4outl1.map rB8) 0, .d (cI 0)] Tryd.func32 Tryd.results32 ⟨rfl, rfl, trivial⟩ ?_
      cases H
      cases HK1
      exact ⟨_, EVle.tupL (ds := [slOf 1 rB8 v4outl1, cI 0]) ⟨.tsl _ _ _, .rfl' _, trivial⟩, rfl⟩

set_option maxRecDepth 100000 in
set_option maxHeartbeats 1000000 in
theorem c_f_billingref10_shortest {v0n : Int} {r : (List UInt8)} (H : f_billingref10_shortest v0n = some r) : ACall Tryd.prog 33 [cI v0n] (· = slOf 1 rB8 r) := by
  obtain ⟨i5, hi5, hz5, hs5, hb5⟩ := in_5
  refine ACall.enter' Tryd.func33 rfl Tryd.ntmps33 rfl fun S hS => ?_
  unfold f_billingref10_shortest at H
  change ARun _ _ _ _ _ _ [(0, .d (cI v0n))] _
  refine .seq ?_
  refine .region ?_
  refine .q (q_assign rfl) rfl ?_
  refine .nil ?_
  refine .seq ?_
  refine .region ?_
  refine .q (q_assign rfl) rfl ?_
  refine .nil ?_
  refine .seq ?_
  refine .block ?_
  obtain ⟨n1, H⟩ := loop_some H
  refine .loop (ι := Nat × (Int × List UInt8)) (fun p => [(0, .d (cI p.2.1)), (3, .d (slOf 1 rB8 p.2.2))]) (fun p => ⟨[], []⟩) (fun p => iter (fun s => f_billingref10_shortest_l1 s.1 s.2) p.1 p.2 = some r) (·.1) (n1, (v0n, [])) H (.cons rfl (.rfl' _) (.cons rfl (.nil 1) (.nil))) rfl ?_
  rintro ⟨m1, v0nl1, v3outl1⟩ HI ih1
  obtain ⟨n1, q1, hm1, H, HK1⟩ := iter_succ HI
  clear HI
  replace H : f_billingref10_shortest_l1 v0nl1 v3outl1 = some q1 := H
  unfold f_billingref10_shortest_l1 at H
  change ARun _ _ _ _ _ _ [(0, .d (cI v0nl1)), (3, .d (slOf 1 rB8 v3outl1))] ⟨[], []⟩
  refine .seq ?_
  refine .seq ?_
  refine .region ?_
  refine .q (q_move rfl) rfl ?_
  refine .q (q_gtr rfl rfl) rfl ?_
  refine .nil ?_
  refine .cond rfl (fun hc => ?_) (fun hc => ?_)
  · replace H := ifT hc H; clear hc
    refine .skip ?_
    refine .seq ?_
    refine .block ?_
    refine .region ?_
    refine .q (q_move rfl) rfl ?_
    obtain ⟨hk1, H⟩ := ck_some H
    refine .q (x := .d (cI (Int.tmod v0nl1 256))) (q_remT rfl rfl hk1) rfl ?_
    refine .q (x := .d (cU8 (UInt8.ofInt (Int.tmod v0nl1 256)))) (q_conv8 Tryd.underlying3 Tryd.underlying5 rfl) rfl ?_
    refine .v (x := .tsl 1 (([UInt8.ofInt (Int.tmod v0nl1 256)] : List UInt8).map rB8) 0) (v_buildSliceT (n := 1) Tryd.underlying25 hi5 hs5 hz5 rfl rfl rfl rfl rfl) rfl ?_
    refine .withSt (st' := ⟨[], [⟨5, 1, ([UInt8.ofInt (Int.tmod v0nl1 256)] : List UInt8).length, none⟩]⟩) rfl ?_
    refine .q (q_move rfl) rfl ?_
    obtain ⟨hk2, H⟩ := ck_some H
    refine .v (x := .tsl 1 ((([UInt8.ofInt (Int.tmod v0nl1 256)] : List UInt8) ++ v3outl1).map rB8) 0) (v_appendL (l := ([UInt8.ofInt (Int.tmod v0nl1 256)] : List UInt8)) (l' := v3outl1) (row := rB8) Tryd.underlying25 hi5 hz5 hs5 rfl (by rw [hb5]; decide) rfl rfl rfl rfl hk2) rfl ?_
    refine .withSt (st' := ⟨[], [⟨5, 1, (([UInt8.ofInt (Int.tmod v0nl1 256)] : List UInt8) ++ v3outl1).length, none⟩]⟩) rfl ?_
    refine .q (q_assign rfl) rfl ?_
    refine .nil ?_
    refine .inBlock ?_
    refine .region ?_
    refine .q (q_move rfl) rfl ?_
    obtain ⟨hk3, H⟩ := ck_some H
    refine .q (x := .d (cI (Int.tdiv v0nl1 256))) (q_quoT rfl rfl hk3) rfl ?_
    refine .q (q_assign rfl) rfl ?_
    refine .nil ?_
    cases H
    exact .to 0 0 (env' := [(0, .d (cI (Int.tdiv v0nl1 256))), (3, .d (slOf 1 rB8 (([UInt8.ofInt (Int.tmod v0nl1 256)] : List UInt8) ++ v3outl1)))]) (st' := ⟨[], []⟩) (.cons rfl (.rfl' _) (.cons rfl (.tsl _ _ _) .nil)) rfl rfl rfl rfl rfl (by rw [hS]; exact Nat.le_of_ble_eq_true rfl) (by rw [hS]; exact Nat.le_of_ble_eq_true rfl) <| .sub (.cons rfl (.rfl' _) (.cons rfl (.rfl' _) (.nil))) (ih1 (n1, (Int.tdiv v0nl1 256, ([UInt8.ofInt (Int.tmod v0nl1 256)] : List UInt8) ++ v3outl1)) HK1 hm1)
  · replace H := ifF hc H; clear hc
    refine .exit rfl ?_
    refine .seq ?_
    refine .region ?_
    refine .q (q_move rfl) rfl ?_
    refine .q (q_assign rfl) rfl ?_
    refine .nil ?_
    refine .retN [.tmp 2] [.d (slOf 1 rB8 v3outl1)] Tryd.func33 Tryd.results33 ⟨rfl, trivial⟩ ?_
    cases H
    cases HK1
    exact ⟨_, .rfl' _, rfl⟩

set_option maxRecDepth 100000 in
set_option maxHeartbeats 1000000 in
theorem c_f_billingref10_flags {v0r : Record} {r : Int} (H : f_billingref10_flags v0r = some r) : ACall Tryd.prog 34 [.agg (Record.row v0r)] (· = cI r) := by
  refine ACall.enter' Tryd.func34 rfl Tryd.ntmps34 rfl fun S hS => ?_
  unfold f_billingref10_flags at H
  change ARun _ _ _ _ _ _ [(0, .d (.agg (Record.row v0r)))] _
  refine .seq ?_
  refine .region ?_
  refine .v (x := .ref 0 0) (v_box rfl rfl) rfl ?_
  refine .withSt (st' := ⟨[.row 34 [.d (cI v0r.source), .d (cI v0r.serial), .d (cI v0r.kind), .d (cS v0r.a), .d (cS v0r.b), .d (cI v0r.start), .d (cI v0r.units), .d (cI v0r.call), .d (cI v0r.part), .d (cB v0r.last), .d (cI v0r.trunk), .d (cB v0r.inbound)]], []⟩) rfl ?_
  refine .q (q_assign rfl) rfl ?_
  refine .nil ?_
  refine .seq ?_
  refine .region ?_
  refine .q (q_assign rfl) rfl ?_
  refine .nil ?_
  refine .seqJoin (ι := Int) (fun s => [(1, .ref 0 0), (3, .d (cI s))]) (fun s => ⟨[.row 34 [.d (cI v0r.source), .d (cI v0r.serial), .d (cI v0r.kind), .d (cS v0r.a), .d (cS v0r.b), .d (cI v0r.start), .d (cI v0r.units), .d (cI v0r.call), .d (cI v0r.part), .d (cB v0r.last), .d (cI v0r.trunk), .d (cB v0r.inbound)]], []⟩) (fun s => f_billingref10_flags_j1 v0r s = some r) ?_ ?_
  · rintro v3nj1 H
    replace H : f_billingref10_flags_j1 v0r v3nj1 = some r := H
    unfold f_billingref10_flags_j1 at H
    change ARun _ _ _ _ _ _ [(1, .ref 0 0), (3, .d (cI v3nj1))] ⟨[.row 34 [.d (cI v0r.source), .d (cI v0r.serial), .d (cI v0r.kind), .d (cS v0r.a), .d (cS v0r.b), .d (cI v0r.start), .d (cI v0r.units), .d (cI v0r.call), .d (cI v0r.part), .d (cB v0r.last), .d (cI v0r.trunk), .d (cB v0r.inbound)]], []⟩
    refine .seq ?_
    refine .seq ?_
    refine .region ?_
    refine .q (q_fieldRef fo_34_11 rfl) rfl ?_
    refine .q (x := .d (cB v0r.inbound)) (q_loadO one_4 rfl rfl rfl) rfl ?_
    refine .nil ?_
    refine .cond rfl (fun hc => ?_) (fun hc => ?_)
    · replace H := ifT hc H; clear hc
      refine .region ?_
      refine .q (q_move rfl) rfl ?_
      obtain ⟨hk1, H⟩ := ck_some H
      refine .q (q_addI rfl rfl hk1.1 hk1.2) rfl ?_
      refine .q (q_assign rfl) rfl ?_
      refine .nil ?_
      refine .seq ?_
      refine .region ?_
      refine .q (q_move rfl) rfl ?_
      refine .q (q_assign rfl) rfl ?_
      refine .nil ?_
      refine .retN [.tmp 2] [.d (cI (v3nj1 + 2))] Tryd.func34 Tryd.results34 ⟨rfl, trivial⟩ ?_
      cases H
      exact ⟨_, .rfl' _, rfl⟩
    · replace H := ifF hc H; clear hc
      refine .skip ?_
      refine .seq ?_
      refine .region ?_
      refine .q (q_move rfl) rfl ?_
      refine .q (q_assign rfl) rfl ?_
      refine .nil ?_
      refine .retN [.tmp 2] [.d (cI v3nj1)] Tryd.func34 Tryd.results34 ⟨rfl, trivial⟩ ?_
      cases H
      exact ⟨_, .rfl' _, rfl⟩
  · intro hj1
    refine .seq ?_
    refine .region ?_
    refine .q (q_fieldRef fo_34_9 rfl) rfl ?_
    refine .q (x := .d (cB v0r.last)) (q_loadO one_4 rfl rfl rfl) rfl ?_
    refine .nil ?_
    refine .cond rfl (fun hc => ?_) (fun hc => ?_)
    · replace H := ifT hc H; clear hc
      refine .region ?_
      refine .q (q_move rfl) rfl ?_
      obtain ⟨hk2, H⟩ := ck_some H
      refine .q (q_addI rfl rfl hk2.1 hk2.2) rfl ?_
      refine .q (q_assign rfl) rfl ?_
      refine .nil ?_
      exact .sub (.cons rfl (.rfl' _) (.cons rfl (.rfl' _) (.nil))) (hj1 (0 + 1) H)
    · replace H := ifF hc H; clear hc
      refine .skip ?_
      exact .sub (.cons rfl (.rfl' _) (.cons rfl (.rfl' _) (.nil))) (hj1 0 H)

set_option maxRecDepth 100000 in
set_option maxHeartbeats 1000000 in
theorem c_f_billingref10_Encode {v0 : Record} {r : (List UInt8) × Int} (H : f_billingref10_Encode v0 = some r) : ACall Tryd.prog 18 [.agg (Record.row v0)] (· = .tup [slOf 1 rB8 r.1, cI r.2]) := by
  obtain ⟨i5, hi5, hz5, hs5, hb5⟩ := in_5
  obtain ⟨i25, hi25, hz25, hs25, hb25⟩ := in_25
  obtain ⟨i47, hi47, hz47, hs47, hb47⟩ := in_47
  refine ACall.enter' Tryd.func18 rfl Tryd.ntmps18 rfl fun S hS => ?_
  unfold f_billingref10_Encode at H
  change ARun _ _ _ _ _ _ [(0, .d (.agg (Record.row v0)))] _
  refine .seq ?_
  refine .region ?_
  refine .v (x := .ref 0 0) (v_box rfl rfl) rfl ?_
  refine .withSt (st' := ⟨[.row 34 [.d (cI v0.source), .d (cI v0.serial), .d (cI v0.kind), .d (cS v0.a), .d (cS v0.b), .d (cI v0.start), .d (cI v0.units), .d (cI v0.call), .d (cI v0.part), .d (cB v0.last), .d (cI v0.trunk), .d (cB v0.inbound)]], []⟩) rfl ?_
  refine .q (q_assign rfl) rfl ?_
  refine .q (q_assign rfl) rfl ?_
  refine .nil ?_
  refine .seq ?_
  refine .seq ?_
  refine .region ?_
  refine .q (x := .d (.agg (Record.row v0))) (q_loadOA one_34 sz_34 rfl rfl (Nat.le_of_ble_eq_true rfl) rfl) rfl ?_
  obtain ⟨y1, hy1, H⟩ := bind_some' H
  refine .g (x := .d (cI y1)) (g_call en_31 rfl rfl (c_f_billingref09_Error (hy1))) rfl ?_
  refine .q (q_assign rfl) rfl ?_
  refine .nil ?_
  refine .seq ?_
  refine .region ?_
  refine .q (q_move rfl) rfl ?_
  refine .q (q_neq rfl rfl) rfl ?_
  refine .nil ?_
  refine .cond rfl (fun hc => ?_) (fun hc => ?_)
  · replace H := ifT hc H; clear hc
    refine .seq ?_
    refine .region ?_
    refine .q (q_move rfl) rfl ?_
    refine .q (q_assign rfl) rfl ?_
    refine .q (q_assign rfl) rfl ?_
    refine .nil ?_
    refine .retN [.tmp 2, .tmp 3] [.d (nilD), .d (cI y1)] Tryd.func18 Tryd.results18 ⟨rfl, rfl, trivial⟩ ?_
    cases H
    exact ⟨_, EVle.tupL (ds := [slOf 1 rB8 ([] : List UInt8), cI y1]) ⟨.nil 1, .rfl' _, trivial⟩, rfl⟩
  · replace H := ifF hc H; clear hc
    refine .skip ?_
    refine .seq ?_
    refine .region ?_
    refine .q (q_fieldRef fo_34_3 rfl) rfl ?_
    refine .q (x := .d (cS v0.a)) (q_loadO one_9 rfl rfl rfl) rfl ?_
    obtain ⟨y2, hy2, H⟩ := bind_some' H
    refine .g (x := .d (.tup [slOf 1 rB8 y2.1, cI y2.2])) (g_call en_32 rfl rfl (c_f_billingref02_Pack (hy2))) rfl ?_
    refine .q (q_move rfl) rfl ?_
    refine .q (q_extract rfl rfl) rfl ?_
    refine .q (q_extract rfl rfl) rfl ?_
    refine .q (q_assign rfl) rfl ?_
    refine .q (q_assign rfl) rfl ?_
    refine .nil ?_
    refine .seq ?_
    refine .region ?_
    refine .q (q_assign rfl) rfl ?_
    refine .nil ?_
    refine .seqJoin (ι := List UInt8) (fun s => [(1, .ref 0 0), (5, .d (slOf 1 rB8 y2.1)), (7, .d (slOf 1 rB8 s))]) (fun s => ⟨[.row 34 [.d (cI v0.source), .d (cI v0.serial), .d (cI v0.kind), .d (cS v0.a), .d (cS v0.b), .d (cI v0.start), .d (cI v0.units), .d (cI v0.call), .d (cI v0.part), .d (cB v0.last), .d (cI v0.trunk), .d (cB v0.inbound)]], []⟩) (fun s => f_billingref10_Encode_j1 v0 y2 s = some r) ?_ ?_
    · rintro v7j1 H
      replace H : f_billingref10_Encode_j1 v0 y2 v7j1 = some r := H
      unfold f_billingref10_Encode_j1 at H
      change ARun _ _ _ _ _ _ [(1, .ref 0 0), (5, .d (slOf 1 rB8 y2.1)), (7, .d (slOf 1 rB8 v7j1))] ⟨[.row 34 [.d (cI v0.source), .d (cI v0.serial), .d (cI v0.kind), .d (cS v0.a), .d (cS v0.b), .d (cI v0.start), .d (cI v0.units), .d (cI v0.call), .d (cI v0.part), .d (cB v0.last), .d (cI v0.trunk), .d (cB v0.inbound)]], []⟩
      refine .seq ?_
      refine .drawn 31 hMix (by kernel_rfl) ?_
      show DOps _ _ _ _ _ _ _ (_ :: _) _ _ _
      refine .q (q_fieldRef fo_34_2 rfl) rfl ?_
      refine .q (x := .d (cI v0.kind)) (q_loadO one_3 rfl rfl rfl) rfl ?_
      obtain ⟨y3, hy3, H⟩ := bind_some' H
      refine .g (x := .d (slOf 1 rB8 y3)) (g_call en_33 rfl rfl (c_f_billingref10_shortest (hy3))) rfl ?_
      refine .q (q_fieldRef fo_34_0 rfl) rfl ?_
      refine .q (x := .d (cI v0.source)) (q_loadO one_3 rfl rfl rfl) rfl ?_
      obtain ⟨y4, hy4, H⟩ := bind_some' H
      refine .g (x := .d (slOf 1 rB8 y4)) (g_call en_33 rfl rfl (c_f_billingref10_shortest (hy4))) rfl ?_
      refine .q (q_fieldRef fo_34_1 rfl) rfl ?_
      refine .q (x := .d (cI v0.serial)) (q_loadO one_3 rfl rfl rfl) rfl ?_
      obtain ⟨y5, hy5, H⟩ := bind_some' H
      refine .g (x := .d (slOf 1 rB8 y5)) (g_call en_33 rfl rfl (c_f_billingref10_shortest (hy5))) rfl ?_
      refine .q (q_move rfl) rfl ?_
      refine .q (q_move rfl) rfl ?_
      refine .q (q_fieldRef fo_34_5 rfl) rfl ?_
      refine .q (x := .d (cI v0.start)) (q_loadO one_3 rfl rfl rfl) rfl ?_
      obtain ⟨y6, hy6, H⟩ := bind_some' H
      refine .g (x := .d (slOf 1 rB8 y6)) (g_call en_33 rfl rfl (c_f_billingref10_shortest (hy6))) rfl ?_
      refine .q (q_fieldRef fo_34_6 rfl) rfl ?_
      refine .q (x := .d (cI v0.units)) (q_loadO one_3 rfl rfl rfl) rfl ?_
      obtain ⟨y7, hy7, H⟩ := bind_some' H
      refine .g (x := .d (slOf 1 rB8 y7)) (g_call en_33 rfl rfl (c_f_billingref10_shortest (hy7))) rfl ?_
      refine .q (q_fieldRef fo_34_7 rfl) rfl ?_
      refine .q (x := .d (cI v0.call)) (q_loadO one_3 rfl rfl rfl) rfl ?_
      obtain ⟨y8, hy8, H⟩ := bind_some' H
      refine .g (x := .d (slOf 1 rB8 y8)) (g_call en_33 rfl rfl (c_f_billingref10_shortest (hy8))) rfl ?_
      refine .q (q_fieldRef fo_34_8 rfl) rfl ?_
      refine .q (x := .d (cI v0.part)) (q_loadO one_3 rfl rfl rfl) rfl ?_
      obtain ⟨y9, hy9, H⟩ := bind_some' H
      refine .g (x := .d (slOf 1 rB8 y9)) (g_call en_33 rfl rfl (c_f_billingref10_shortest (hy9))) rfl ?_
      refine .q (q_fieldRef fo_34_10 rfl) rfl ?_
      refine .q (x := .d (cI v0.trunk)) (q_loadO one_3 rfl rfl rfl) rfl ?_
      obtain ⟨y10, hy10, H⟩ := bind_some' H
      refine .g (x := .d (slOf 1 rB8 y10)) (g_call en_33 rfl rfl (c_f_billingref10_shortest (hy10))) rfl ?_
      refine .q (x := .d (.agg (Record.row v0))) (q_loadOA one_34 sz_34 rfl rfl (Nat.le_of_ble_eq_true rfl) rfl) rfl ?_
      obtain ⟨y11, hy11, H⟩ := bind_some' H
      refine .g (x := .d (cI y11)) (g_call en_34 rfl rfl (c_f_billingref10_flags (hy11))) rfl ?_
      obtain ⟨y12, hy12, H⟩ := bind_some' H
      refine .g (x := .d (slOf 1 rB8 y12)) (g_call en_33 rfl rfl (c_f_billingref10_shortest (hy12))) rfl ?_
      refine .g (x := .d (slOf 1 (rSl 1 rB8) ([([] : List UInt8), y3, y4, y5, y2.1, v7j1, y6, y7, y8, y9, y10, y12] : List (List UInt8)))) (OpG.le (g_buildSliceN (n := 12) (rows := [[nilD], [slOf 1 rB8 y3], [slOf 1 rB8 y4], [slOf 1 rB8 y5], [slOf 1 rB8 y2.1], [slOf 1 rB8 v7j1], [slOf 1 rB8 y6], [slOf 1 rB8 y7], [slOf 1 rB8 y8], [slOf 1 rB8 y9], [slOf 1 rB8 y10], [slOf 1 rB8 y12]]) Tryd.underlying58 hi25 hs25 hz25 rfl rfl rfl (by kernel_rfl) rfl) (EVle.d (.sl ⟨⟨.nil 1, trivial⟩, ⟨.rfl' _, trivial⟩, ⟨.rfl' _, trivial⟩, ⟨.rfl' _, trivial⟩, ⟨.rfl' _, trivial⟩, ⟨.rfl' _, trivial⟩, ⟨.rfl' _, trivial⟩, ⟨.rfl' _, trivial⟩, ⟨.rfl' _, trivial⟩, ⟨.rfl' _, trivial⟩, ⟨.rfl' _, trivial⟩, ⟨.rfl' _, trivial⟩, trivial⟩))) rfl ?_
      refine .q (q_assign rfl) rfl ?_
      refine .nil ?_
      show AOps _ _ _ _ _ _ [] _ _ _
      refine .nil ?_
      refine .seq ?_
      refine .region ?_
      refine .q (q_assign rfl) rfl ?_
      refine .nil ?_
      refine .seq ?_
      refine .seq ?_
      refine .region ?_
      refine .q (q_assign rfl) rfl ?_
      refine .nil ?_
      refine .tok (i := 9) (e := 47) (sz := 2) rfl ?_
      refine .withSt (st' := ⟨[.row 34 [.d (cI v0.source), .d (cI v0.serial), .d (cI v0.kind), .d (cS v0.a), .d (cS v0.b), .d (cI v0.start), .d (cI v0.units), .d (cI v0.call), .d (cI v0.part), .d (cB v0.last), .d (cI v0.trunk), .d (cB v0.inbound)]], [⟨47, 2, ([] : List Element).length, none⟩]⟩) rfl ?_
      refine .blockJoin2 (ι := List Element) (fun s => [(9, .tsl 2 (s.map Element.row) 0)]) (fun s => ⟨[.row 34 [.d (cI v0.source), .d (cI v0.serial), .d (cI v0.kind), .d (cS v0.a), .d (cS v0.b), .d (cI v0.start), .d (cI v0.units), .d (cI v0.call), .d (cI v0.part), .d (cB v0.last), .d (cI v0.trunk), .d (cB v0.inbound)]], [⟨47, 2, s.length, none⟩]⟩) (fun s => f_billingref10_Encode_j2 s = some r) ?_ ?_
      · rintro v9j2 H
        replace H : f_billingref10_Encode_j2 v9j2 = some r := H
        unfold f_billingref10_Encode_j2 at H
        change ARun _ _ _ _ _ _ [(9, .tsl 2 (v9j2.map Element.row) 0)] ⟨[.row 34 [.d (cI v0.source), .d (cI v0.serial), .d (cI v0.kind), .d (cS v0.a), .d (cS v0.b), .d (cI v0.start), .d (cI v0.units), .d (cI v0.call), .d (cI v0.part), .d (cB v0.last), .d (cI v0.trunk), .d (cB v0.inbound)]], [⟨47, 2, v9j2.length, none⟩]⟩
        refine .seq ?_
        refine .region ?_
        refine .q (q_move rfl) rfl ?_
        obtain ⟨y13, hy13, H⟩ := bind_some' H
        refine .g (x := .d (.tup [slOf 1 rB8 y13.1, cI y13.2])) (g_call en_12 rfl rfl (c_f_billingref10_Build (hy13))) rfl ?_
        refine .q (q_move rfl) rfl ?_
        refine .q (q_extract rfl rfl) rfl ?_
        refine .q (q_extract rfl rfl) rfl ?_
        refine .q (q_assign rfl) rfl ?_
        refine .q (q_assign rfl) rfl ?_
        refine .nil ?_
        refine .seq ?_
        refine .region ?_
        refine .q (q_move rfl) rfl ?_
        refine .q (q_lenL (l := y13.1) (row := rB8) Tryd.underlying25 rfl rfl) rfl ?_
        obtain ⟨hk1, H⟩ := ck_some H
        refine .q (x := .d (cI (Int.tdiv (y13.1.length : Int) 256))) (q_quoT rfl rfl hk1) rfl ?_
        refine .q (x := .d (cU8 (UInt8.ofInt (Int.tdiv (y13.1.length : Int) 256)))) (q_conv8 Tryd.underlying3 Tryd.underlying5 rfl) rfl ?_
        refine .q (q_move rfl) rfl ?_
        refine .q (q_lenL (l := y13.1) (row := rB8) Tryd.underlying25 rfl rfl) rfl ?_
        obtain ⟨hk2, H⟩ := ck_some H
        refine .q (x := .d (cI (Int.tmod (y13.1.length : Int) 256))) (q_remT rfl rfl hk2) rfl ?_
        refine .q (x := .d (cU8 (UInt8.ofInt (Int.tmod (y13.1.length : Int) 256)))) (q_conv8 Tryd.underlying3 Tryd.underlying5 rfl) rfl ?_
        refine .v (x := .tsl 1 (([UInt8.ofInt (Int.tdiv (y13.1.length : Int) 256), UInt8.ofInt (Int.tmod (y13.1.length : Int) 256)] : List UInt8).map rB8) 1) (v_buildSliceT (n := 2) Tryd.underlying25 hi5 hs5 hz5 rfl rfl rfl rfl rfl) rfl ?_
        refine .withSt (st' := ⟨[.row 34 [.d (cI v0.source), .d (cI v0.serial), .d (cI v0.kind), .d (cS v0.a), .d (cS v0.b), .d (cI v0.start), .d (cI v0.units), .d (cI v0.call), .d (cI v0.part), .d (cB v0.last), .d (cI v0.trunk), .d (cB v0.inbound)]], [⟨47, 2, v9j2.length, none⟩, ⟨5, 1, ([UInt8.ofInt (Int.tdiv (y13.1.length : Int) 256), UInt8.ofInt (Int.tmod (y13.1.length : Int) 256)] : List UInt8).length, none⟩]⟩) rfl ?_
        refine .q (q_move rfl) rfl ?_
        obtain ⟨hk3, H⟩ := ck_some H
        refine .v (x := .tsl 1 ((([UInt8.ofInt (Int.tdiv (y13.1.length : Int) 256), UInt8.ofInt (Int.tmod (y13.1.length : Int) 256)] : List UInt8) ++ y13.1).map rB8) 1) (v_appendL (l := ([UInt8.ofInt (Int.tdiv (y13.1.length : Int) 256), UInt8.ofInt (Int.tmod (y13.1.length : Int) 256)] : List UInt8)) (l' := y13.1) (row := rB8) Tryd.underlying25 hi5 hz5 hs5 rfl (by rw [hb5]; decide) rfl rfl rfl rfl hk3) rfl ?_
        refine .withSt (st' := ⟨[.row 34 [.d (cI v0.source), .d (cI v0.serial), .d (cI v0.kind), .d (cS v0.a), .d (cS v0.b), .d (cI v0.start), .d (cI v0.units), .d (cI v0.call), .d (cI v0.part), .d (cB v0.last), .d (cI v0.trunk), .d (cB v0.inbound)]], [⟨47, 2, v9j2.length, none⟩, ⟨5, 1, (([UInt8.ofInt (Int.tdiv (y13.1.length : Int) 256), UInt8.ofInt (Int.tmod (y13.1.length : Int) 256)] : List UInt8) ++ y13.1).length, none⟩]⟩) rfl ?_
        refine .q (q_assign rfl) rfl ?_
        refine .q (q_assign rfl) rfl ?_
        refine .nil ?_
        refine .retN [.tmp 2, .tmp 3] [.tsl 1 ((([UInt8.ofInt (Int.tdiv (y13.1.length : Int) 256), UInt8.ofInt (Int.tmod (y13.1.length : Int) 256)] : List UInt8) ++ y13.1).map rB8) 1, .d (cI 0)] Tryd.func18 Tryd.results18 ⟨rfl, rfl, trivial⟩ ?_
        cases H
        exact ⟨_, EVle.tupL (ds := [slOf 1 rB8 (([UInt8.ofInt (Int.tdiv (y13.1.length : Int) 256), UInt8.ofInt (Int.tmod (y13.1.length : Int) 256)] : List UInt8) ++ y13.1), cI 0]) ⟨.tsl _ _ _, .rfl' _, trivial⟩, rfl⟩
      · intro hj2 hj2x
        obtain ⟨n1, H⟩ := loop_some H
        refine .withSt (st' := ⟨[.row 34 [.d (cI v0.source), .d (cI v0.serial), .d (cI v0.kind), .d (cS v0.a), .d (cS v0.b), .d (cI v0.start), .d (cI v0.units), .d (cI v0.call), .d (cI v0.part), .d (cB v0.last), .d (cI v0.trunk), .d (cB v0.inbound)]], [⟨47, 2, ([] : List Element).length, none⟩]⟩) rfl <| .loop (ι := Nat × (List Element × Int)) (fun p => [(8, .d (slOf 1 (rSl 1 rB8) ([([] : List UInt8), y3, y4, y5, y2.1, v7j1, y6, y7, y8, y9, y10, y12] : List (List UInt8)))), (9, .tsl 2 (p.2.1.map Element.row) 0), (10, .d (cI p.2.2))]) (fun p => ⟨[.row 34 [.d (cI v0.source), .d (cI v0.serial), .d (cI v0.kind), .d (cS v0.a), .d (cS v0.b), .d (cI v0.start), .d (cI v0.units), .d (cI v0.call), .d (cI v0.part), .d (cB v0.last), .d (cI v0.trunk), .d (cB v0.inbound)]], [⟨47, 2, p.2.1.length, none⟩]⟩) (fun p => iter (fun s => f_billingref10_Encode_l1 y2 v7j1 y3 y4 y5 y6 y7 y8 y9 y10 y12 s.1 s.2) p.1 p.2 = some r) (·.1) (n1, (([] : List Element), 1)) H (.cons rfl (.rfl' _) (.cons rfl (.rfl' _) (.cons rfl (.rfl' _) (.nil)))) rfl ?_
        rintro ⟨m1, v9l1, v10l1⟩ HI ih1
        obtain ⟨n1, q1, hm1, H, HK1⟩ := iter_succ HI
        clear HI
        replace H : f_billingref10_Encode_l1 y2 v7j1 y3 y4 y5 y6 y7 y8 y9 y10 y12 v9l1 v10l1 = some q1 := H
        unfold f_billingref10_Encode_l1 at H
        change ARun _ _ _ _ _ _ [(8, .d (slOf 1 (rSl 1 rB8) ([([] : List UInt8), y3, y4, y5, y2.1, v7j1, y6, y7, y8, y9, y10, y12] : List (List UInt8)))), (9, .tsl 2 (v9l1.map Element.row) 0), (10, .d (cI v10l1))] ⟨[.row 34 [.d (cI v0.source), .d (cI v0.serial), .d (cI v0.kind), .d (cS v0.a), .d (cS v0.b), .d (cI v0.start), .d (cI v0.units), .d (cI v0.call), .d (cI v0.part), .d (cB v0.last), .d (cI v0.trunk), .d (cB v0.inbound)]], [⟨47, 2, v9l1.length, none⟩]⟩
        refine .seq ?_
        refine .seq ?_
        refine .region ?_
        refine .q (q_move rfl) rfl ?_
        refine .q (q_move rfl) rfl ?_
        refine .q (q_lenL (l := ([([] : List UInt8), y3, y4, y5, y2.1, v7j1, y6, y7, y8, y9, y10, y12] : List (List UInt8))) (row := (rSl 1 rB8)) Tryd.underlying58 rfl rfl) rfl ?_
        refine .q (q_lss rfl rfl) rfl ?_
        refine .nil ?_
        refine .cond rfl (fun hc => ?_) (fun hc => ?_)
        · replace H := ifT hc H; clear hc
          refine .skip ?_
          refine .seq ?_
          refine .block ?_
          refine .seq ?_
          refine .region ?_
          refine .q (q_move rfl) rfl ?_
          refine .q (q_move rfl) rfl ?_
          obtain ⟨hk4, H⟩ := ck_some H
          refine .q (x := .d (.ro ((rSl 1 rB8) (nth ([([] : List UInt8), y3, y4, y5, y2.1, v7j1, y6, y7, y8, y9, y10, y12] : List (List UInt8)) (Int.toNat (v10l1)))))) (q_idxL (row := (rSl 1 rB8)) (l := ([([] : List UInt8), y3, y4, y5, y2.1, v7j1, y6, y7, y8, y9, y10, y12] : List (List UInt8))) (i := v10l1) Tryd.underlying58 hi25 hs25 rfl rfl rfl hk4) rfl ?_
          refine .q (x := .d (slOf 1 rB8 (nth ([([] : List UInt8), y3, y4, y5, y2.1, v7j1, y6, y7, y8, y9, y10, y12] : List (List UInt8)) (Int.toNat (v10l1))))) (q_load one_25 rfl) rfl ?_
          refine .q (q_lenL (l := nth ([([] : List UInt8), y3, y4, y5, y2.1, v7j1, y6, y7, y8, y9, y10, y12] : List (List UInt8)) (Int.toNat (v10l1))) (row := rB8) Tryd.underlying25 rfl rfl) rfl ?_
          refine .q (q_gtr rfl rfl) rfl ?_
          refine .nil ?_
          refine .cond rfl (fun hc => ?_) (fun hc => ?_)
          · replace H := ifT hc H; clear hc
            refine .region ?_
            refine .q (q_move rfl) rfl ?_
            refine .q (q_move rfl) rfl ?_
            refine .q (q_move rfl) rfl ?_
            refine .q (q_move rfl) rfl ?_
            obtain ⟨hk5, H⟩ := ck_some H
            refine .q (x := .d (.ro ((rSl 1 rB8) (nth ([([] : List UInt8), y3, y4, y5, y2.1, v7j1, y6, y7, y8, y9, y10, y12] : List (List UInt8)) (Int.toNat (v10l1)))))) (q_idxL (row := (rSl 1 rB8)) (l := ([([] : List UInt8), y3, y4, y5, y2.1, v7j1, y6, y7, y8, y9, y10, y12] : List (List UInt8))) (i := v10l1) Tryd.underlying58 hi25 hs25 rfl rfl rfl hk5) rfl ?_
            refine .q (x := .d (slOf 1 rB8 (nth ([([] : List UInt8), y3, y4, y5, y2.1, v7j1, y6, y7, y8, y9, y10, y12] : List (List UInt8)) (Int.toNat (v10l1))))) (q_load one_25 rfl) rfl ?_
            refine .q (x := .d (.agg (Element.row (⟨v10l1, nth ([([] : List UInt8), y3, y4, y5, y2.1, v7j1, y6, y7, y8, y9, y10, y12] : List (List UInt8)) (Int.toNat (v10l1))⟩ : Element)))) (q_buildP pl_47 hi47 hz47 rfl rfl) rfl ?_
            refine .g (x := .d (slOf 2 Element.row ([(⟨v10l1, nth ([([] : List UInt8), y3, y4, y5, y2.1, v7j1, y6, y7, y8, y9, y10, y12] : List (List UInt8)) (Int.toNat (v10l1))⟩ : Element)] : List Element))) (g_buildSlice1 Tryd.underlying22 hi47 hs47 hz47 rfl rfl rfl rfl rfl) rfl ?_
            obtain ⟨hk6, H⟩ := ck_some H
            refine .v (x := .tsl 2 ((v9l1 ++ ([(⟨v10l1, nth ([([] : List UInt8), y3, y4, y5, y2.1, v7j1, y6, y7, y8, y9, y10, y12] : List (List UInt8)) (Int.toNat (v10l1))⟩ : Element)] : List Element)).map Element.row) 0) (v_appendL (l := v9l1) (l' := ([(⟨v10l1, nth ([([] : List UInt8), y3, y4, y5, y2.1, v7j1, y6, y7, y8, y9, y10, y12] : List (List UInt8)) (Int.toNat (v10l1))⟩ : Element)] : List Element)) (row := Element.row) Tryd.underlying22 hi47 hz47 hs47 rfl (by rw [hb47]; decide) rfl rfl rfl rfl hk6) rfl ?_
            refine .withSt (st' := ⟨[.row 34 [.d (cI v0.source), .d (cI v0.serial), .d (cI v0.kind), .d (cS v0.a), .d (cS v0.b), .d (cI v0.start), .d (cI v0.units), .d (cI v0.call), .d (cI v0.part), .d (cB v0.last), .d (cI v0.trunk), .d (cB v0.inbound)]], [⟨47, 2, (v9l1 ++ ([(⟨v10l1, nth ([([] : List UInt8), y3, y4, y5, y2.1, v7j1, y6, y7, y8, y9, y10, y12] : List (List UInt8)) (Int.toNat (v10l1))⟩ : Element)] : List Element)).length, none⟩]⟩) rfl ?_
            refine .q (q_assign rfl) rfl ?_
            refine .nil ?_
            refine .inBlock ?_
            refine .region ?_
            refine .q (q_move rfl) rfl ?_
            obtain ⟨hk7, H⟩ := ck_some H
            refine .q (q_addI rfl rfl hk7.1 hk7.2) rfl ?_
            refine .q (q_assign rfl) rfl ?_
            refine .nil ?_
            cases H
            exact .withSt (st' := ⟨[.row 34 [.d (cI v0.source), .d (cI v0.serial), .d (cI v0.kind), .d (cS v0.a), .d (cS v0.b), .d (cI v0.start), .d (cI v0.units), .d (cI v0.call), .d (cI v0.part), .d (cB v0.last), .d (cI v0.trunk), .d (cB v0.inbound)]], [⟨47, 2, (v9l1 ++ ([(⟨v10l1, nth ([([] : List UInt8), y3, y4, y5, y2.1, v7j1, y6, y7, y8, y9, y10, y12] : List (List UInt8)) (Int.toNat (v10l1))⟩ : Element)] : List Element)).length, none⟩]⟩) rfl <| .sub (.cons rfl (.rfl' _) (.cons rfl (.rfl' _) (.cons rfl (.rfl' _) (.nil)))) (ih1 (n1, (v9l1 ++ ([(⟨v10l1, nth ([([] : List UInt8), y3, y4, y5, y2.1, v7j1, y6, y7, y8, y9, y10, y12] : List (List UInt8)) (Int.toNat (v10l1))⟩ : Element)] : List Element), v10l1 + 1)) HK1 hm1)
          · replace H := ifF hc H; clear hc
            refine .skip ?_
            refine .inBlock ?_
            refine .region ?_
            refine .q (q_move rfl) rfl ?_
            obtain ⟨hk8, H⟩ := ck_some H
            refine .q (q_addI rfl rfl hk8.1 hk8.2) rfl ?_
            refine .q (q_assign rfl) rfl ?_
            refine .nil ?_
            cases H
            exact .sub (.cons rfl (.rfl' _) (.cons rfl (.rfl' _) (.cons rfl (.rfl' _) (.nil)))) (ih1 (n1, (v9l1, v10l1 + 1)) HK1 hm1)
        · replace H := ifF hc H; clear hc
          refine .exit rfl ?_
          obtain ⟨q0, H9, hq0⟩ := map_some' H; clear H; cases hq0
          cases HK1
          have H := H9
          exact .withSt (st' := ⟨[.row 34 [.d (cI v0.source), .d (cI v0.serial), .d (cI v0.kind), .d (cS v0.a), .d (cS v0.b), .d (cI v0.start), .d (cI v0.units), .d (cI v0.call), .d (cI v0.part), .d (cB v0.last), .d (cI v0.trunk), .d (cB v0.inbound)]], [⟨47, 2, v9l1.length, none⟩]⟩) rfl <| .sub (.cons rfl (.rfl' _) (.nil)) (hj2x v9l1 H)
    · intro hj1
      refine .seq ?_
      refine .region ?_
      refine .q (q_fieldRef fo_34_4 rfl) rfl ?_
      refine .q (x := .d (cS v0.b)) (q_loadO one_9 rfl rfl rfl) rfl ?_
      refine .q (q_sneq rfl rfl) rfl ?_
      refine .nil ?_
      refine .cond rfl (fun hc => ?_) (fun hc => ?_)
      · replace H := ifT hc H; clear hc
        refine .region ?_
        refine .q (q_fieldRef fo_34_4 rfl) rfl ?_
        refine .q (x := .d (cS v0.b)) (q_loadO one_9 rfl rfl rfl) rfl ?_
        obtain ⟨y14, hy14, H⟩ := bind_some' H
        refine .g (x := .d (.tup [slOf 1 rB8 y14.1, cI y14.2])) (g_call en_32 rfl rfl (c_f_billingref02_Pack (hy14))) rfl ?_
        refine .q (q_move rfl) rfl ?_
        refine .q (q_extract rfl rfl) rfl ?_
        refine .q (q_extract rfl rfl) rfl ?_
        refine .q (q_assign rfl) rfl ?_
        refine .nil ?_
        exact .sub (.cons rfl (.rfl' _) (.cons rfl (.rfl' _) (.cons rfl (.rfl' _) (.nil)))) (hj1 y14.1 H)
      · replace H := ifF hc H; clear hc
        refine .skip ?_
        exact .sub (.cons rfl (.rfl' _) (.cons rfl (.rfl' _) (.cons rfl (.nil 1) (.nil)))) (hj1 [] H)

end Go.Proofs.YtmdpmallgcekgaaDoor
