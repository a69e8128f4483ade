import Derived.Test.YtmdpmallgcekgaaDoorLW0
import Derived.Test.YtmdpmallgcekgaaDoorLF
import Derived.Test.YtmdpmallgcekgaaDoorLX
set_option linter.unusedSimpArgs false
set_option linter.unusedVariables false
namespace Go.Proofs.YtmdpmallgcekgaaDoor
open Go.RowKit Go.Abs
set_option maxRecDepth 100000 in
set_option maxHeartbeats 1000000 in
theorem c_f_digits_Pack {v0s : List UInt8} {r : (List UInt8) × Int} (H : f_digits_Pack v0s = some r) : ACall Tryd.prog 27 [cS v0s] (· = .tup [slOf 1 rB8 r.1, cI r.2]) := by
  obtain ⟨i5, hi5, hz5, hs5, hb5⟩ := in_5
  refine ACall.enter' Tryd.func27 rfl Tryd.ntmps27 rfl fun S hS => ?_
  unfold f_digits_Pack at H
  change ARun _ _ _ _ _ _ [(0, .d (cS v0s))] _
  refine .seq ?_
  refine .region ?_
  refine .q (x := .d (nilD)) (q_assign rfl) rfl ?_
  refine .q (x := .d (cI 0)) (q_assign rfl) rfl ?_
  refine .nil ?_
  refine .seq ?_
  refine .seq ?_
  refine .region ?_
  refine .q (x := .d (cS v0s)) (q_move rfl) rfl ?_
  obtain ⟨y1, hy1, H⟩ := bind_some' H
  refine .g (x := .d (cB y1)) (g_call en_41 rfl rfl (c_f_digits_Valid (hy1))) rfl ?_
  refine .q (x := .d (cB (!y1))) (q_not rfl) rfl ?_
  refine .nil ?_
  refine .cond rfl (fun hc => ?_) (fun hc => ?_)
  · replace H := ifT hc H; clear hc
    refine .seq ?_
    refine .region ?_
    refine .q (x := .d (nilD)) (q_assign rfl) rfl ?_
    refine .q (x := .d (cI 12)) (q_assign rfl) rfl ?_
    refine .nil ?_
    refine .retN [.tmp 2, .tmp 3] [.d (nilD), .d (cI 12)] Tryd.func27 Tryd.results27 ⟨rfl, rfl, trivial⟩ ?_
    cases H
    exact ⟨_, EVle.tupL (ds := [slOf 1 rB8 ([] : List UInt8), cI 12]) ⟨.nil 1, .rfl' _, trivial⟩, rfl⟩
  · replace H := ifF hc H; clear hc
    refine .skip ?_
    refine .seq ?_
    refine .region ?_
    refine .q (x := .d (nilD)) (q_assign rfl) rfl ?_
    refine .nil ?_
    refine .seq ?_
    refine .seq ?_
    refine .region ?_
    refine .q (x := .d (cI 0)) (q_assign rfl) rfl ?_
    refine .nil ?_
    refine .block ?_
    refine .tok (i := 4) (e := 5) (sz := 1) rfl ?_
    refine .withSt (st' := ⟨[], [⟨5, 1, ([] : List UInt8).length, none⟩]⟩) rfl ?_
    obtain ⟨n1, H⟩ := loop_some H
    refine .withSt (st' := ⟨[], [⟨5, 1, ([] : List UInt8).length, none⟩]⟩) rfl <| .loop (ι := Nat × (List UInt8 × Int)) (fun p => [(0, .d (cS v0s)), (4, .tsl 1 (p.2.1.map rB8) 0), (5, .d (cI p.2.2))]) (fun p => ⟨[], [⟨5, 1, p.2.1.length, none⟩]⟩) (fun p => iter (fun s => f_digits_Pack_l1 v0s s.1 s.2) p.1 p.2 = some r) (·.1) (n1, (([] : List UInt8), 0)) H (.cons rfl (.rfl' _) (.cons rfl (.rfl' _) (.cons rfl (.rfl' _) (.nil)))) rfl ?_
    rintro ⟨m1, v4bl1, v5il1⟩ HI ih1
    obtain ⟨n1, q1, hm1, H, HK1⟩ := iter_succ HI
    clear HI
    replace H : f_digits_Pack_l1 v0s v4bl1 v5il1 = some q1 := H
    unfold f_digits_Pack_l1 at H
    change ARun _ _ _ _ _ _ [(0, .d (cS v0s)), (4, .tsl 1 (v4bl1.map rB8) 0), (5, .d (cI v5il1))] ⟨[], [⟨5, 1, v4bl1.length, none⟩]⟩
    refine .seq ?_
    refine .seq ?_
    refine .region ?_
    refine .q (x := .d (cI v5il1)) (q_move rfl) rfl ?_
    refine .q (x := .d (cS v0s)) (q_move rfl) rfl ?_
    refine .q (x := .d (cI (v0s.length : Int))) (q_lenS Tryd.underlying9 rfl) rfl ?_
    refine .q (x := .d (cB (decide (v5il1 < (v0s.length : Int))))) (q_lss rfl rfl) rfl ?_
    refine .nil ?_
    refine .cond rfl (fun hc => ?_) (fun hc => ?_)
    · replace H := ifT hc H; clear hc
      refine .skip ?_
      refine .seq ?_
      refine .block ?_
      refine .seq ?_
      refine .region ?_
      refine .q (x := .d (cU8 15)) (q_assign rfl) rfl ?_
      refine .nil ?_
      refine .seqJoin (ι := UInt8) (fun s => [(0, .d (cS v0s)), (4, .tsl 1 (v4bl1.map rB8) 0), (5, .d (cI v5il1)), (6, .d (cU8 s))]) (fun s => ⟨[], [⟨5, 1, v4bl1.length, none⟩]⟩) (fun s => f_digits_Pack_j1 v0s v4bl1 v5il1 s = some q1) ?_ ?_
      · rintro v6lowj1 H
        replace H : f_digits_Pack_j1 v0s v4bl1 v5il1 v6lowj1 = some q1 := H
        unfold f_digits_Pack_j1 at H
        change ARun _ _ _ _ _ _ [(0, .d (cS v0s)), (4, .tsl 1 (v4bl1.map rB8) 0), (5, .d (cI v5il1)), (6, .d (cU8 v6lowj1))] ⟨[], [⟨5, 1, v4bl1.length, none⟩]⟩
        refine .region ?_
        refine .q (x := .tsl 1 (v4bl1.map rB8) 0) (q_move rfl) rfl ?_
        refine .q (x := .d (cS v0s)) (q_move rfl) rfl ?_
        refine .q (x := .d (cI v5il1)) (q_move rfl) rfl ?_
        obtain ⟨hk1, H⟩ := ck_some H
        refine .q (x := .d (cU8 (nth v0s (Int.toNat (v5il1))))) (q_indexL (i := v5il1) Tryd.underlying9 rfl rfl hk1) rfl ?_
        refine .q (x := .d (cU8 ((nth v0s (Int.toNat (v5il1))) - 48))) (q8_sub (a := nth v0s (Int.toNat (v5il1))) (b := 48) rfl rfl) rfl ?_
        obtain ⟨hk2, H⟩ := ck_some H
        refine .q (x := .d (cU8 (u8shl ((nth v0s (Int.toNat (v5il1))) - 48) 4))) (q8_shl (a := (nth v0s (Int.toNat (v5il1))) - 48) (n := 4) rfl rfl hk2) rfl ?_
        refine .q (x := .d (cU8 v6lowj1)) (q_move rfl) rfl ?_
        refine .q (x := .d (cU8 ((u8shl ((nth v0s (Int.toNat (v5il1))) - 48) 4) ||| v6lowj1))) (q8_or (a := u8shl ((nth v0s (Int.toNat (v5il1))) - 48) 4) (b := v6lowj1) rfl rfl) rfl ?_
        refine .g (x := .d (slOf 1 rB8 ([(u8shl ((nth v0s (Int.toNat (v5il1))) - 48) 4) ||| v6lowj1] : List UInt8))) (g_buildSlice1 Tryd.underlying25 hi5 hs5 hz5 rfl rfl rfl rfl rfl) rfl ?_
        obtain ⟨hk3, H⟩ := ck_some H
        refine .v (x := .tsl 1 ((v4bl1 ++ ([(u8shl ((nth v0s (Int.toNat (v5il1))) - 48) 4) ||| v6lowj1] : List UInt8)).map rB8) 0) (v_appendL (l := v4bl1) (l' := ([(u8shl ((nth v0s (Int.toNat (v5il1))) - 48) 4) ||| v6lowj1] : List UInt8)) (row := rB8) Tryd.underlying25 hi5 hz5 hs5 rfl (by rw [hb5]; decide) rfl rfl rfl rfl hk3) rfl ?_
        refine .withSt (st' := ⟨[], [⟨5, 1, (v4bl1 ++ ([(u8shl ((nth v0s (Int.toNat (v5il1))) - 48) 4) ||| v6lowj1] : List UInt8)).length, none⟩]⟩) rfl ?_
        refine .q (x := .tsl 1 ((v4bl1 ++ ([(u8shl ((nth v0s (Int.toNat (v5il1))) - 48) 4) ||| v6lowj1] : List UInt8)).map rB8) 0) (q_assign rfl) rfl ?_
        refine .nil ?_
        refine .inBlock ?_
        refine .region ?_
        refine .q (x := .d (cI v5il1)) (q_move rfl) rfl ?_
        obtain ⟨hk4, H⟩ := ck_some H
        refine .q (x := .d (cI (v5il1 + 2))) (q_addI rfl rfl hk4.1 hk4.2) rfl ?_
        refine .q (x := .d (cI (v5il1 + 2))) (q_assign rfl) rfl ?_
        refine .nil ?_
        cases H
        exact .withSt (st' := ⟨[], [⟨5, 1, (v4bl1 ++ ([(u8shl ((nth v0s (Int.toNat (v5il1))) - 48) 4) ||| v6lowj1] : List UInt8)).length, none⟩]⟩) rfl <| .sub (.cons rfl (.rfl' _) (.cons rfl (.rfl' _) (.cons rfl (.rfl' _) (.nil)))) (ih1 (n1, (v4bl1 ++ ([(u8shl ((nth v0s (Int.toNat (v5il1))) - 48) 4) ||| v6lowj1] : List UInt8), v5il1 + 2)) HK1 hm1)
      · intro hj1
        refine .seq ?_
        refine .region ?_
        refine .q (x := .d (cI v5il1)) (q_move rfl) rfl ?_
        obtain ⟨hk5, H⟩ := ck_some H
        refine .q (x := .d (cI (v5il1 + 1))) (q_addI rfl rfl hk5.1 hk5.2) rfl ?_
        refine .q (x := .d (cS v0s)) (q_move rfl) rfl ?_
        refine .q (x := .d (cI (v0s.length : Int))) (q_lenS Tryd.underlying9 rfl) rfl ?_
        refine .q (x := .d (cB (decide ((v5il1 + 1) < (v0s.length : Int))))) (q_lss rfl rfl) rfl ?_
        refine .nil ?_
        refine .cond rfl (fun hc => ?_) (fun hc => ?_)
        · replace H := ifT hc H; clear hc
          refine .region ?_
          refine .q (x := .d (cS v0s)) (q_move rfl) rfl ?_
          refine .q (x := .d (cI v5il1)) (q_move rfl) rfl ?_
          obtain ⟨hk6, H⟩ := ck_some H
          refine .q (x := .d (cI (v5il1 + 1))) (q_addI rfl rfl hk6.1 hk6.2) rfl ?_
          obtain ⟨hk7, H⟩ := ck_some H
          refine .q (x := .d (cU8 (nth v0s (Int.toNat (v5il1 + 1))))) (q_indexL (i := v5il1 + 1) Tryd.underlying9 rfl rfl hk7) rfl ?_
          refine .q (x := .d (cU8 ((nth v0s (Int.toNat (v5il1 + 1))) - 48))) (q8_sub (a := nth v0s (Int.toNat (v5il1 + 1))) (b := 48) rfl rfl) rfl ?_
          refine .q (x := .d (cU8 ((nth v0s (Int.toNat (v5il1 + 1))) - 48))) (q_assign rfl) rfl ?_
          refine .nil ?_
          exact .sub (.cons rfl (.rfl' _) (.cons rfl (.rfl' _) (.cons rfl (.rfl' _) (.cons rfl (.rfl' _) (.nil))))) (hj1 ((nth v0s (Int.toNat (v5il1 + 1))) - 48) H)
        · replace H := ifF hc H; clear hc
          refine .skip ?_
          exact .sub (.cons rfl (.rfl' _) (.cons rfl (.rfl' _) (.cons rfl (.rfl' _) (.cons rfl (.rfl' _) (.nil))))) (hj1 15 H)
    · replace H := ifF hc H; clear hc
      refine .exit rfl ?_
      refine .seq ?_
      refine .region ?_
      refine .q (x := .tsl 1 (v4bl1.map rB8) 0) (q_move rfl) rfl ?_
      refine .q (x := .tsl 1 (v4bl1.map rB8) 0) (q_assign rfl) rfl ?_
      refine .q (x := .d (cI 0)) (q_assign rfl) rfl ?_
      refine .nil ?_
      refine .retN [.tmp 2, .tmp 3] [.tsl 1 (v4bl1.map rB8) 0, .d (cI 0)] Tryd.func27 Tryd.results27 ⟨rfl, rfl, trivial⟩ ?_
      cases H
      cases HK1
      exact ⟨_, EVle.tupL (ds := [slOf 1 rB8 v4bl1, cI 0]) ⟨.tsl _ _ _, .rfl' _, trivial⟩, rfl⟩

set_option maxRecDepth 100000 in
set_option maxHeartbeats 1000000 in
theorem c_f_tagged_bytes {v0n : Int} {r : (List UInt8)} (H : f_tagged_bytes v0n = some r) : ACall Tryd.prog 29 [cI v0n] (· = slOf 1 rB8 r) := by
  obtain ⟨i5, hi5, hz5, hs5, hb5⟩ := in_5
  refine ACall.enter' Tryd.func29 rfl Tryd.ntmps29 rfl fun S hS => ?_
  unfold f_tagged_bytes at H
  change ARun _ _ _ _ _ _ [(0, .d (cI v0n))] _
  refine .seq ?_
  refine .region ?_
  refine .q (x := .d (nilD)) (q_assign rfl) rfl ?_
  refine .nil ?_
  refine .seq ?_
  refine .region ?_
  refine .q (x := .d (nilD)) (q_assign rfl) rfl ?_
  refine .nil ?_
  refine .seq ?_
  refine .block ?_
  obtain ⟨n1, H⟩ := loop_some H
  refine .loop (ι := Nat × (Int × List UInt8)) (fun p => [(0, .d (cI p.2.1)), (3, .d (slOf 1 rB8 p.2.2))]) (fun p => ⟨[], []⟩) (fun p => iter (fun s => f_tagged_bytes_l1 s.1 s.2) p.1 p.2 = some r) (·.1) (n1, (v0n, [])) H (.cons rfl (.rfl' _) (.cons rfl (.nil 1) (.nil))) rfl ?_
  rintro ⟨m1, v0nl1, v3outl1⟩ HI ih1
  obtain ⟨n1, q1, hm1, H, HK1⟩ := iter_succ HI
  clear HI
  replace H : f_tagged_bytes_l1 v0nl1 v3outl1 = some q1 := H
  unfold f_tagged_bytes_l1 at H
  change ARun _ _ _ _ _ _ [(0, .d (cI v0nl1)), (3, .d (slOf 1 rB8 v3outl1))] ⟨[], []⟩
  refine .seq ?_
  refine .seq ?_
  refine .region ?_
  refine .q (x := .d (cI v0nl1)) (q_move rfl) rfl ?_
  refine .q (x := .d (cB (decide (v0nl1 > 0)))) (q_gtr rfl rfl) rfl ?_
  refine .nil ?_
  refine .cond rfl (fun hc => ?_) (fun hc => ?_)
  · replace H := ifT hc H; clear hc
    refine .skip ?_
    refine .seq ?_
    refine .block ?_
    refine .region ?_
    refine .q (x := .d (cI v0nl1)) (q_move rfl) rfl ?_
    refine .q (x := .d (cU8 (UInt8.ofInt v0nl1))) (q_conv8 Tryd.underlying3 Tryd.underlying5 rfl) rfl ?_
    refine .v (x := .tsl 1 (([UInt8.ofInt v0nl1] : List UInt8).map rB8) 0) (v_buildSliceT (n := 1) Tryd.underlying25 hi5 hs5 hz5 rfl rfl rfl rfl rfl) rfl ?_
    refine .withSt (st' := ⟨[], [⟨5, 1, ([UInt8.ofInt v0nl1] : List UInt8).length, none⟩]⟩) rfl ?_
    refine .q (x := .d (slOf 1 rB8 v3outl1)) (q_move rfl) rfl ?_
    obtain ⟨hk1, H⟩ := ck_some H
    refine .v (x := .tsl 1 ((([UInt8.ofInt v0nl1] : List UInt8) ++ v3outl1).map rB8) 0) (v_appendL (l := ([UInt8.ofInt v0nl1] : List UInt8)) (l' := v3outl1) (row := rB8) Tryd.underlying25 hi5 hz5 hs5 rfl (by rw [hb5]; decide) rfl rfl rfl rfl hk1) rfl ?_
    refine .withSt (st' := ⟨[], [⟨5, 1, (([UInt8.ofInt v0nl1] : List UInt8) ++ v3outl1).length, none⟩]⟩) rfl ?_
    refine .q (x := .tsl 1 ((([UInt8.ofInt v0nl1] : List UInt8) ++ v3outl1).map rB8) 0) (q_assign rfl) rfl ?_
    refine .nil ?_
    refine .inBlock ?_
    refine .region ?_
    refine .q (x := .d (cI v0nl1)) (q_move rfl) rfl ?_
    obtain ⟨hk2, H⟩ := ck_some H
    refine .q (x := .d (cI (v0nl1 / 2 ^ (Int.toNat (8))))) (q_shrI rfl rfl hk2) rfl ?_
    refine .q (x := .d (cI (v0nl1 / 2 ^ (Int.toNat (8))))) (q_assign rfl) rfl ?_
    refine .nil ?_
    cases H
    exact .to 0 0 (env' := [(0, .d (cI (v0nl1 / 2 ^ (Int.toNat (8))))), (3, .d (slOf 1 rB8 (([UInt8.ofInt v0nl1] : List UInt8) ++ v3outl1)))]) (st' := ⟨[], []⟩) (.cons rfl (.rfl' _) (.cons rfl (.tsl _ _ _) .nil)) rfl rfl rfl rfl rfl (by rw [hS]; exact Nat.le_of_ble_eq_true rfl) (by rw [hS]; exact Nat.le_of_ble_eq_true rfl) <| .sub (.cons rfl (.rfl' _) (.cons rfl (.rfl' _) (.nil))) (ih1 (n1, (v0nl1 / 2 ^ (Int.toNat (8)), ([UInt8.ofInt v0nl1] : List UInt8) ++ v3outl1)) HK1 hm1)
  · replace H := ifF hc H; clear hc
    refine .exit rfl ?_
    refine .seq ?_
    refine .region ?_
    refine .q (x := .d (slOf 1 rB8 v3outl1)) (q_move rfl) rfl ?_
    refine .q (x := .d (slOf 1 rB8 v3outl1)) (q_assign rfl) rfl ?_
    refine .nil ?_
    refine .retN [.tmp 2] [.d (slOf 1 rB8 v3outl1)] Tryd.func29 Tryd.results29 ⟨rfl, trivial⟩ ?_
    cases H
    cases HK1
    exact ⟨_, .rfl' _, rfl⟩

set_option maxRecDepth 100000 in
set_option maxHeartbeats 1000000 in
theorem c_f_tagged_flag {v0holds : Bool} {v1n : Int} {r : Int} (H : f_tagged_flag v0holds v1n = some r) : ACall Tryd.prog 30 [cB v0holds, cI v1n] (· = cI r) := by
  refine ACall.enter' Tryd.func30 rfl Tryd.ntmps30 rfl fun S hS => ?_
  unfold f_tagged_flag at H
  change ARun _ _ _ _ _ _ [(0, .d (cB v0holds)), (1, .d (cI v1n))] _
  refine .seq ?_
  refine .region ?_
  refine .q (x := .d (cI 0)) (q_assign rfl) rfl ?_
  refine .nil ?_
  refine .seq ?_
  refine .seq ?_
  refine .region ?_
  refine .q (x := .d (cB v0holds)) (q_move rfl) rfl ?_
  refine .nil ?_
  refine .cond rfl (fun hc => ?_) (fun hc => ?_)
  · replace H := ifT hc H; clear hc
    refine .seq ?_
    refine .region ?_
    refine .q (x := .d (cI v1n)) (q_move rfl) rfl ?_
    refine .q (x := .d (cI v1n)) (q_assign rfl) rfl ?_
    refine .nil ?_
    refine .retN [.tmp 4] [.d (cI v1n)] Tryd.func30 Tryd.results30 ⟨rfl, trivial⟩ ?_
    cases H
    exact ⟨_, .rfl' _, rfl⟩
  · replace H := ifF hc H; clear hc
    refine .skip ?_
    refine .seq ?_
    refine .region ?_
    refine .q (x := .d (cI 0)) (q_assign rfl) rfl ?_
    refine .nil ?_
    refine .retN [.tmp 4] [.d (cI 0)] Tryd.func30 Tryd.results30 ⟨rfl, trivial⟩ ?_
    cases H
    exact ⟨_, .rfl' _, rfl⟩

set_option maxRecDepth 100000 in
set_option maxHeartbeats 1000000 in
theorem c_g_tagged_put_v2 {v1tag : Int} {v2value : List UInt8} {y0t0p : List UInt8} {n0p : Nat} {r : (List UInt8)} (H : g_tagged_put_v2 v1tag v2value y0t0p = some r) : ACallS Tryd.prog 25 [.vc 0 n0p, .d (cI v1tag), .d (slOf 1 rB8 v2value)] ⟨[], [⟨5, 1, n0p, some (y0t0p.map rB8)⟩]⟩ (QE (.vc 0 ((r).length)) ⟨[], [⟨5, 1, r.length, some (r.map rB8)⟩]⟩) := by
  obtain ⟨i5, hi5, hz5, hs5, hb5⟩ := in_5
  refine ACallS.keep ?_
  refine ACallS.enter Tryd.func25 rfl Tryd.ntmps25 rfl fun S hS => ?_
  unfold g_tagged_put_v2 at H
  change ARun _ _ _ _ _ _ [(0, .vc 0 n0p), (1, .d (cI v1tag)), (2, .d (slOf 1 rB8 v2value))] _
  refine .seq ?_
  refine .region ?_
  refine .q (x := .d (nilD)) (q_assign rfl) rfl ?_
  refine .nil ?_
  refine .seq ?_
  refine .region ?_
  refine .q (x := .vc 0 n0p) (q_move rfl) rfl ?_
  refine .q (x := .d (cI v1tag)) (q_move rfl) rfl ?_
  refine .q (x := .d (cU8 (UInt8.ofInt v1tag))) (q_conv8 Tryd.underlying3 Tryd.underlying5 rfl) rfl ?_
  refine .q (x := .d (slOf 1 rB8 v2value)) (q_move rfl) rfl ?_
  refine .q (x := .d (cI (v2value.length : Int))) (q_lenL (l := v2value) (row := rB8) Tryd.underlying25 rfl rfl) rfl ?_
  refine .q (x := .d (cU8 (UInt8.ofInt (v2value.length : Int)))) (q_conv8 Tryd.underlying3 Tryd.underlying5 rfl) rfl ?_
  refine .g (x := .d (slOf 1 rB8 ([UInt8.ofInt v1tag, UInt8.ofInt (v2value.length : Int)] : List UInt8))) (g_buildSliceN (n := 2) (rows := ([UInt8.ofInt v1tag, UInt8.ofInt (v2value.length : Int)] : List UInt8).map rB8) Tryd.underlying25 hi5 hs5 hz5 rfl rfl rfl rfl rfl) rfl ?_
  obtain ⟨hk1, H⟩ := ck_some H
  refine .v (x := .vc 0 ((y0t0p ++ ([UInt8.ofInt v1tag, UInt8.ofInt (v2value.length : Int)] : List UInt8)).length)) (v_appendV (l := y0t0p) (l' := ([UInt8.ofInt v1tag, UInt8.ofInt (v2value.length : Int)] : List UInt8)) (row := rB8) Tryd.underlying25 hi5 hz5 hs5 rfl (by rw [hb5]; decide) rfl rfl rfl rfl hk1) rfl ?_
  refine .withSt (st' := ⟨[], [⟨5, 1, ((y0t0p ++ ([UInt8.ofInt v1tag, UInt8.ofInt (v2value.length : Int)] : List UInt8)).length), some ((y0t0p ++ ([UInt8.ofInt v1tag, UInt8.ofInt (v2value.length : Int)] : List UInt8)).map rB8)⟩]⟩) rfl ?_
  refine .q (x := .vc 0 ((y0t0p ++ ([UInt8.ofInt v1tag, UInt8.ofInt (v2value.length : Int)] : List UInt8)).length)) (q_assign rfl) rfl ?_
  refine .nil ?_
  refine .seq ?_
  refine .region ?_
  refine .q (x := .vc 0 ((y0t0p ++ ([UInt8.ofInt v1tag, UInt8.ofInt (v2value.length : Int)] : List UInt8)).length)) (q_move rfl) rfl ?_
  refine .q (x := .d (slOf 1 rB8 v2value)) (q_move rfl) rfl ?_
  obtain ⟨hk2, H⟩ := ck_some H
  refine .v (x := .vc 0 (((y0t0p ++ ([UInt8.ofInt v1tag, UInt8.ofInt (v2value.length : Int)] : List UInt8)) ++ v2value).length)) (v_appendV (l := y0t0p ++ ([UInt8.ofInt v1tag, UInt8.ofInt (v2value.length : Int)] : List UInt8)) (l' := v2value) (row := rB8) Tryd.underlying25 hi5 hz5 hs5 rfl (by rw [hb5]; decide) rfl rfl rfl rfl hk2) rfl ?_
  refine .withSt (st' := ⟨[], [⟨5, 1, (((y0t0p ++ ([UInt8.ofInt v1tag, UInt8.ofInt (v2value.length : Int)] : List UInt8)) ++ v2value).length), some (((y0t0p ++ ([UInt8.ofInt v1tag, UInt8.ofInt (v2value.length : Int)] : List UInt8)) ++ v2value).map rB8)⟩]⟩) rfl ?_
  refine .q (x := .vc 0 (((y0t0p ++ ([UInt8.ofInt v1tag, UInt8.ofInt (v2value.length : Int)] : List UInt8)) ++ v2value).length)) (q_assign rfl) rfl ?_
  refine .nil ?_
  refine .retN [.tmp 6] [.vc 0 (((y0t0p ++ ([UInt8.ofInt v1tag, UInt8.ofInt (v2value.length : Int)] : List UInt8)) ++ v2value).length)] Tryd.func25 Tryd.results25 ⟨rfl, trivial⟩ ?_
  cases H
  exact ⟨[], [0], rfl, rfl, rfl, rfl, rfl, rfl, rfl, rfl, .rfl' _⟩

set_option maxRecDepth 100000 in
set_option maxHeartbeats 1000000 in
theorem c_g_tagged_Encode_1 {v0tag : Int} {v1value : List UInt8} {y0t0p : List UInt8} {n0p : Nat} {r : (List UInt8)} (H : g_tagged_Encode_1 v0tag v1value y0t0p = some r) : ACallS Tryd.prog 28 [.d (cI v0tag), .d (slOf 1 rB8 v1value), .ref 0 0] ⟨[.row 25 [.vc 0 n0p]], [⟨5, 1, n0p, some (y0t0p.map rB8)⟩]⟩ (QE (.d (.tup [])) ⟨[.row 25 [.vc 0 r.length]], [⟨5, 1, r.length, some (r.map rB8)⟩]⟩) := by
  refine ACallS.keep ?_
  refine ACallS.enter Tryd.func28 rfl Tryd.ntmps28 rfl fun S hS => ?_
  unfold g_tagged_Encode_1 at H
  change ARun _ _ _ _ _ _ [(0, .d (cI v0tag)), (1, .d (slOf 1 rB8 v1value)), (2, .ref 0 0)] _
  refine .seq ?_
  refine .region ?_
  refine .q (x := .d (slOf 1 rB8 v1value)) (q_move rfl) rfl ?_
  refine .q (x := .d (cI (v1value.length : Int))) (q_lenL (l := v1value) (row := rB8) Tryd.underlying25 rfl rfl) rfl ?_
  refine .q (x := .d (cB (decide ((v1value.length : Int) > 0)))) (q_gtr rfl rfl) rfl ?_
  refine .nil ?_
  refine .cond rfl (fun hc => ?_) (fun hc => ?_)
  · replace H := ifT hc H; clear hc
    refine .region ?_
    refine .q (x := .vc 0 n0p) (q_loadO one_25 rfl rfl rfl) rfl ?_
    refine .q (x := .d (cI v0tag)) (q_move rfl) rfl ?_
    refine .q (x := .d (slOf 1 rB8 v1value)) (q_move rfl) rfl ?_
    obtain ⟨y1, hy1, H⟩ := bind_some' H
    refine .callF en_25 rfl [] [0] (x := .vc 0 ((y1).length)) (st' := ⟨[.row 25 [.vc 0 n0p]], [⟨5, 1, y1.length, some (y1.map rB8)⟩]⟩) rfl (c_g_tagged_put_v2 (hy1)) ⟨.rfl' _, .rfl' _, .rfl' _, trivial⟩ rfl rfl rfl rfl rfl rfl ?_
    refine .withSt (st' := ⟨[.row 25 [.vc 0 n0p]], [⟨5, 1, y1.length, some (y1.map rB8)⟩]⟩) rfl ?_
    refine .u (u_store rfl rfl rfl rfl (Nat.le_of_ble_eq_true rfl) sz_25) rfl ?_
    refine .withSt (st' := ⟨[.row 25 [.vc 0 ((y1).length)]], [⟨5, 1, y1.length, some (y1.map rB8)⟩]⟩) rfl ?_
    refine .nil ?_
    refine .fin0 Tryd.func28 Tryd.results28 ?_
    cases H
    exact ⟨[0], [0], rfl, rfl, rfl, rfl, rfl, rfl, rfl, rfl, EVle.tupL (ds := []) trivial⟩
  · replace H := ifF hc H; clear hc
    refine .skip ?_
    refine .normV (l := y0t0p) (row := rB8) (tk := 0) (fun z => []) (fun z => ⟨[.row 25 [.vc 0 z]], [⟨5, 1, z, some (y0t0p.map rB8)⟩]⟩) rfl (.nil) rfl ?_
    refine .fin0 Tryd.func28 Tryd.results28 ?_
    cases H
    exact ⟨[0], [0], rfl, rfl, rfl, rfl, rfl, rfl, rfl, rfl, EVle.tupL (ds := []) trivial⟩

set_option maxRecDepth 100000 in
set_option maxHeartbeats 1000000 in
theorem c_f_tagged_Encode {v0 : Record} {r : (List UInt8) × Int} (H : f_tagged_Encode v0 = some r) : ACall Tryd.prog 17 [.agg (Record.row v0)] (· = .tup [slOf 1 rB8 r.1, cI r.2]) := by
  obtain ⟨i5, hi5, hz5, hs5, hb5⟩ := in_5
  refine ACall.enter' Tryd.func17 rfl Tryd.ntmps17 rfl fun S hS => ?_
  unfold f_tagged_Encode at H
  change ARun _ _ _ _ _ _ [(0, .d (.agg (Record.row v0)))] _
  refine .seq ?_
  refine .region ?_
  refine .v (x := .ref 0 0) (v_box rfl rfl) rfl ?_
  refine .withSt (st' := ⟨[.row 34 [.d (cI v0.source), .d (cI v0.serial), .d (cI v0.kind), .d (cS v0.a), .d (cS v0.b), .d (cI v0.start), .d (cI v0.units), .d (cI v0.call), .d (cI v0.part), .d (cB v0.last), .d (cI v0.trunk), .d (cB v0.inbound)]], []⟩) rfl ?_
  refine .q (x := .d (nilD)) (q_assign rfl) rfl ?_
  refine .q (x := .d (cI 0)) (q_assign rfl) rfl ?_
  refine .nil ?_
  refine .seq ?_
  refine .seq ?_
  refine .region ?_
  refine .q (x := .d (.agg (Record.row v0))) (q_loadOA one_34 sz_34 rfl rfl (Nat.le_of_ble_eq_true rfl) rfl) rfl ?_
  obtain ⟨y1, hy1, H⟩ := bind_some' H
  refine .g (x := .d (.tup [cS y1.1, cI y1.2])) (g_call en_26 rfl rfl (c_f_textual_Encode (hy1))) rfl ?_
  refine .q (x := .d (.tup [cS y1.1, cI y1.2])) (q_move rfl) rfl ?_
  refine .q (x := .d (cS y1.1)) (q_extract rfl rfl) rfl ?_
  refine .q (x := .d (cI y1.2)) (q_extract rfl rfl) rfl ?_
  refine .q (x := .d (cS y1.1)) (q_assign rfl) rfl ?_
  refine .q (x := .d (cI y1.2)) (q_assign rfl) rfl ?_
  refine .nil ?_
  refine .seq ?_
  refine .region ?_
  refine .q (x := .d (cI y1.2)) (q_move rfl) rfl ?_
  refine .q (x := .d (cB (y1.2 != 0))) (q_neq rfl rfl) rfl ?_
  refine .nil ?_
  refine .cond rfl (fun hc => ?_) (fun hc => ?_)
  · replace H := ifT hc H; clear hc
    refine .seq ?_
    refine .region ?_
    refine .q (x := .d (cI y1.2)) (q_move rfl) rfl ?_
    refine .q (x := .d (nilD)) (q_assign rfl) rfl ?_
    refine .q (x := .d (cI y1.2)) (q_assign rfl) rfl ?_
    refine .nil ?_
    refine .retN [.tmp 2, .tmp 3] [.d (nilD), .d (cI y1.2)] Tryd.func17 Tryd.results17 ⟨rfl, rfl, trivial⟩ ?_
    cases H
    exact ⟨_, EVle.tupL (ds := [slOf 1 rB8 ([] : List UInt8), cI y1.2]) ⟨.nil 1, .rfl' _, trivial⟩, rfl⟩
  · replace H := ifF hc H; clear hc
    refine .skip ?_
    refine .seq ?_
    refine .region ?_
    refine .q (x := .ref 0 3) (q_fieldRef fo_34_3 rfl) rfl ?_
    refine .q (x := .d (cS v0.a)) (q_loadO one_9 rfl rfl rfl) rfl ?_
    obtain ⟨y2, hy2, H⟩ := bind_some' H
    refine .g (x := .d (.tup [slOf 1 rB8 y2.1, cI y2.2])) (g_call en_27 rfl rfl (c_f_digits_Pack (hy2))) rfl ?_
    refine .q (x := .d (.tup [slOf 1 rB8 y2.1, cI y2.2])) (q_move rfl) rfl ?_
    refine .q (x := .d (slOf 1 rB8 y2.1)) (q_extract rfl rfl) rfl ?_
    refine .q (x := .d (cI y2.2)) (q_extract rfl rfl) rfl ?_
    refine .q (x := .d (slOf 1 rB8 y2.1)) (q_assign rfl) rfl ?_
    refine .q (x := .d (cI y2.2)) (q_assign rfl) rfl ?_
    refine .nil ?_
    refine .seq ?_
    refine .region ?_
    refine .q (x := .ref 0 4) (q_fieldRef fo_34_4 rfl) rfl ?_
    refine .q (x := .d (cS v0.b)) (q_loadO one_9 rfl rfl rfl) rfl ?_
    obtain ⟨y3, hy3, H⟩ := bind_some' H
    refine .g (x := .d (.tup [slOf 1 rB8 y3.1, cI y3.2])) (g_call en_27 rfl rfl (c_f_digits_Pack (hy3))) rfl ?_
    refine .q (x := .d (.tup [slOf 1 rB8 y3.1, cI y3.2])) (q_move rfl) rfl ?_
    refine .q (x := .d (slOf 1 rB8 y3.1)) (q_extract rfl rfl) rfl ?_
    refine .q (x := .d (cI y3.2)) (q_extract rfl rfl) rfl ?_
    refine .q (x := .d (slOf 1 rB8 y3.1)) (q_assign rfl) rfl ?_
    refine .q (x := .d (cI y3.2)) (q_assign rfl) rfl ?_
    refine .nil ?_
    refine .seq ?_
    refine .region ?_
    obtain ⟨hk1, H⟩ := ck_some H
    refine .v (x := .vc 0 ((List.replicate (Int.toNat (2)) 0 : List UInt8).length)) (v_makeV (row := rB8) (a := 2) (b := 2) (a0 := 0) Tryd.underlying25 hi5 hz5 hs5 rfl (by rw [hb5]; decide) rfl rfl rfl hk1) rfl ?_
    refine .withSt (st' := ⟨[.row 34 [.d (cI v0.source), .d (cI v0.serial), .d (cI v0.kind), .d (cS v0.a), .d (cS v0.b), .d (cI v0.start), .d (cI v0.units), .d (cI v0.call), .d (cI v0.part), .d (cB v0.last), .d (cI v0.trunk), .d (cB v0.inbound)]], [⟨5, 1, ((List.replicate (Int.toNat (2)) 0 : List UInt8).length), some ((List.replicate (Int.toNat (2)) 0 : List UInt8).map rB8)⟩]⟩) rfl ?_
    refine .v (x := .ref 1 0) (v_alloc zr_25 rfl) rfl ?_
    refine .withSt (st' := ⟨[.row 34 [.d (cI v0.source), .d (cI v0.serial), .d (cI v0.kind), .d (cS v0.a), .d (cS v0.b), .d (cI v0.start), .d (cI v0.units), .d (cI v0.call), .d (cI v0.part), .d (cB v0.last), .d (cI v0.trunk), .d (cB v0.inbound)], .row 25 [.d (nilD)]], [⟨5, 1, ((List.replicate (Int.toNat (2)) 0 : List UInt8).length), some ((List.replicate (Int.toNat (2)) 0 : List UInt8).map rB8)⟩]⟩) rfl ?_
    refine .u (u_store rfl rfl rfl rfl (Nat.le_of_ble_eq_true rfl) sz_25) rfl ?_
    refine .withSt (st' := ⟨[.row 34 [.d (cI v0.source), .d (cI v0.serial), .d (cI v0.kind), .d (cS v0.a), .d (cS v0.b), .d (cI v0.start), .d (cI v0.units), .d (cI v0.call), .d (cI v0.part), .d (cB v0.last), .d (cI v0.trunk), .d (cB v0.inbound)], .row 25 [.vc 0 ((List.replicate (Int.toNat (2)) 0 : List UInt8).length)]], [⟨5, 1, ((List.replicate (Int.toNat (2)) 0 : List UInt8).length), some ((List.replicate (Int.toNat (2)) 0 : List UInt8).map rB8)⟩]⟩) rfl ?_
    refine .nil ?_
    refine .seq ?_
    refine .region ?_
    refine .q (x := .clo 28 [.ref 1 0]) (q_makeFunc rfl) rfl ?_
    refine .q (x := .clo 28 [.ref 1 0]) (q_assign rfl) rfl ?_
    refine .nil ?_
    refine .seq ?_
    refine .region ?_
    refine .q (x := .clo 28 [.ref 1 0]) (q_move rfl) rfl ?_
    refine .q (x := .ref 0 2) (q_fieldRef fo_34_2 rfl) rfl ?_
    refine .q (x := .d (cI v0.kind)) (q_loadO one_3 rfl rfl rfl) rfl ?_
    obtain ⟨y4, hy4, H⟩ := bind_some' H
    refine .g (x := .d (slOf 1 rB8 y4)) (g_call en_29 rfl rfl (c_f_tagged_bytes (hy4))) rfl ?_
    obtain ⟨y5, hy5, H⟩ := bind_some' H
    refine .callFC en_28 rfl rfl [1] [0] (x := .d (.tup [])) (st' := ⟨[.row 34 [.d (cI v0.source), .d (cI v0.serial), .d (cI v0.kind), .d (cS v0.a), .d (cS v0.b), .d (cI v0.start), .d (cI v0.units), .d (cI v0.call), .d (cI v0.part), .d (cB v0.last), .d (cI v0.trunk), .d (cB v0.inbound)], .row 25 [.vc 0 y5.length]], [⟨5, 1, y5.length, some (y5.map rB8)⟩]⟩) rfl (c_g_tagged_Encode_1 (hy5)) ⟨.rfl' _, .rfl' _, .rfl' _, trivial⟩ rfl rfl rfl rfl rfl rfl ?_
    refine .withSt (st' := ⟨[.row 34 [.d (cI v0.source), .d (cI v0.serial), .d (cI v0.kind), .d (cS v0.a), .d (cS v0.b), .d (cI v0.start), .d (cI v0.units), .d (cI v0.call), .d (cI v0.part), .d (cB v0.last), .d (cI v0.trunk), .d (cB v0.inbound)], .row 25 [.vc 0 y5.length]], [⟨5, 1, y5.length, some (y5.map rB8)⟩]⟩) rfl ?_
    refine .nil ?_
    refine .seq ?_
    refine .region ?_
    refine .q (x := .clo 28 [.ref 1 0]) (q_move rfl) rfl ?_
    refine .q (x := .ref 0 0) (q_fieldRef fo_34_0 rfl) rfl ?_
    refine .q (x := .d (cI v0.source)) (q_loadO one_3 rfl rfl rfl) rfl ?_
    obtain ⟨y6, hy6, H⟩ := bind_some' H
    refine .g (x := .d (slOf 1 rB8 y6)) (g_call en_29 rfl rfl (c_f_tagged_bytes (hy6))) rfl ?_
    obtain ⟨y7, hy7, H⟩ := bind_some' H
    refine .callFC en_28 rfl rfl [1] [0] (x := .d (.tup [])) (st' := ⟨[.row 34 [.d (cI v0.source), .d (cI v0.serial), .d (cI v0.kind), .d (cS v0.a), .d (cS v0.b), .d (cI v0.start), .d (cI v0.units), .d (cI v0.call), .d (cI v0.part), .d (cB v0.last), .d (cI v0.trunk), .d (cB v0.inbound)], .row 25 [.vc 0 y7.length]], [⟨5, 1, y7.length, some (y7.map rB8)⟩]⟩) rfl (c_g_tagged_Encode_1 (hy7)) ⟨.rfl' _, .rfl' _, .rfl' _, trivial⟩ rfl rfl rfl rfl rfl rfl ?_
    refine .withSt (st' := ⟨[.row 34 [.d (cI v0.source), .d (cI v0.serial), .d (cI v0.kind), .d (cS v0.a), .d (cS v0.b), .d (cI v0.start), .d (cI v0.units), .d (cI v0.call), .d (cI v0.part), .d (cB v0.last), .d (cI v0.trunk), .d (cB v0.inbound)], .row 25 [.vc 0 y7.length]], [⟨5, 1, y7.length, some (y7.map rB8)⟩]⟩) rfl ?_
    refine .nil ?_
    refine .seq ?_
    refine .region ?_
    refine .q (x := .clo 28 [.ref 1 0]) (q_move rfl) rfl ?_
    refine .q (x := .ref 0 1) (q_fieldRef fo_34_1 rfl) rfl ?_
    refine .q (x := .d (cI v0.serial)) (q_loadO one_3 rfl rfl rfl) rfl ?_
    obtain ⟨y8, hy8, H⟩ := bind_some' H
    refine .g (x := .d (slOf 1 rB8 y8)) (g_call en_29 rfl rfl (c_f_tagged_bytes (hy8))) rfl ?_
    obtain ⟨y9, hy9, H⟩ := bind_some' H
    refine .callFC en_28 rfl rfl [1] [0] (x := .d (.tup [])) (st' := ⟨[.row 34 [.d (cI v0.source), .d (cI v0.serial), .d (cI v0.kind), .d (cS v0.a), .d (cS v0.b), .d (cI v0.start), .d (cI v0.units), .d (cI v0.call), .d (cI v0.part), .d (cB v0.last), .d (cI v0.trunk), .d (cB v0.inbound)], .row 25 [.vc 0 y9.length]], [⟨5, 1, y9.length, some (y9.map rB8)⟩]⟩) rfl (c_g_tagged_Encode_1 (hy9)) ⟨.rfl' _, .rfl' _, .rfl' _, trivial⟩ rfl rfl rfl rfl rfl rfl ?_
    refine .withSt (st' := ⟨[.row 34 [.d (cI v0.source), .d (cI v0.serial), .d (cI v0.kind), .d (cS v0.a), .d (cS v0.b), .d (cI v0.start), .d (cI v0.units), .d (cI v0.call), .d (cI v0.part), .d (cB v0.last), .d (cI v0.trunk), .d (cB v0.inbound)], .row 25 [.vc 0 y9.length]], [⟨5, 1, y9.length, some (y9.map rB8)⟩]⟩) rfl ?_
    refine .nil ?_
    refine .seq ?_
    refine .region ?_
    refine .q (x := .clo 28 [.ref 1 0]) (q_move rfl) rfl ?_
    refine .q (x := .d (slOf 1 rB8 y2.1)) (q_move rfl) rfl ?_
    obtain ⟨y10, hy10, H⟩ := bind_some' H
    refine .callFC en_28 rfl rfl [1] [0] (x := .d (.tup [])) (st' := ⟨[.row 34 [.d (cI v0.source), .d (cI v0.serial), .d (cI v0.kind), .d (cS v0.a), .d (cS v0.b), .d (cI v0.start), .d (cI v0.units), .d (cI v0.call), .d (cI v0.part), .d (cB v0.last), .d (cI v0.trunk), .d (cB v0.inbound)], .row 25 [.vc 0 y10.length]], [⟨5, 1, y10.length, some (y10.map rB8)⟩]⟩) rfl (c_g_tagged_Encode_1 (hy10)) ⟨.rfl' _, .rfl' _, .rfl' _, trivial⟩ rfl rfl rfl rfl rfl rfl ?_
    refine .withSt (st' := ⟨[.row 34 [.d (cI v0.source), .d (cI v0.serial), .d (cI v0.kind), .d (cS v0.a), .d (cS v0.b), .d (cI v0.start), .d (cI v0.units), .d (cI v0.call), .d (cI v0.part), .d (cB v0.last), .d (cI v0.trunk), .d (cB v0.inbound)], .row 25 [.vc 0 y10.length]], [⟨5, 1, y10.length, some (y10.map rB8)⟩]⟩) rfl ?_
    refine .nil ?_
    refine .seq ?_
    refine .region ?_
    refine .q (x := .clo 28 [.ref 1 0]) (q_move rfl) rfl ?_
    refine .q (x := .d (slOf 1 rB8 y3.1)) (q_move rfl) rfl ?_
    obtain ⟨y11, hy11, H⟩ := bind_some' H
    refine .callFC en_28 rfl rfl [1] [0] (x := .d (.tup [])) (st' := ⟨[.row 34 [.d (cI v0.source), .d (cI v0.serial), .d (cI v0.kind), .d (cS v0.a), .d (cS v0.b), .d (cI v0.start), .d (cI v0.units), .d (cI v0.call), .d (cI v0.part), .d (cB v0.last), .d (cI v0.trunk), .d (cB v0.inbound)], .row 25 [.vc 0 y11.length]], [⟨5, 1, y11.length, some (y11.map rB8)⟩]⟩) rfl (c_g_tagged_Encode_1 (hy11)) ⟨.rfl' _, .rfl' _, .rfl' _, trivial⟩ rfl rfl rfl rfl rfl rfl ?_
    refine .withSt (st' := ⟨[.row 34 [.d (cI v0.source), .d (cI v0.serial), .d (cI v0.kind), .d (cS v0.a), .d (cS v0.b), .d (cI v0.start), .d (cI v0.units), .d (cI v0.call), .d (cI v0.part), .d (cB v0.last), .d (cI v0.trunk), .d (cB v0.inbound)], .row 25 [.vc 0 y11.length]], [⟨5, 1, y11.length, some (y11.map rB8)⟩]⟩) rfl ?_
    refine .nil ?_
    refine .seq ?_
    refine .region ?_
    refine .q (x := .clo 28 [.ref 1 0]) (q_move rfl) rfl ?_
    refine .q (x := .ref 0 5) (q_fieldRef fo_34_5 rfl) rfl ?_
    refine .q (x := .d (cI v0.start)) (q_loadO one_3 rfl rfl rfl) rfl ?_
    obtain ⟨y12, hy12, H⟩ := bind_some' H
    refine .g (x := .d (slOf 1 rB8 y12)) (g_call en_29 rfl rfl (c_f_tagged_bytes (hy12))) rfl ?_
    obtain ⟨y13, hy13, H⟩ := bind_some' H
    refine .callFC en_28 rfl rfl [1] [0] (x := .d (.tup [])) (st' := ⟨[.row 34 [.d (cI v0.source), .d (cI v0.serial), .d (cI v0.kind), .d (cS v0.a), .d (cS v0.b), .d (cI v0.start), .d (cI v0.units), .d (cI v0.call), .d (cI v0.part), .d (cB v0.last), .d (cI v0.trunk), .d (cB v0.inbound)], .row 25 [.vc 0 y13.length]], [⟨5, 1, y13.length, some (y13.map rB8)⟩]⟩) rfl (c_g_tagged_Encode_1 (hy13)) ⟨.rfl' _, .rfl' _, .rfl' _, trivial⟩ rfl rfl rfl rfl rfl rfl ?_
    refine .withSt (st' := ⟨[.row 34 [.d (cI v0.source), .d (cI v0.serial), .d (cI v0.kind), .d (cS v0.a), .d (cS v0.b), .d (cI v0.start), .d (cI v0.units), .d (cI v0.call), .d (cI v0.part), .d (cB v0.last), .d (cI v0.trunk), .d (cB v0.inbound)], .row 25 [.vc 0 y13.length]], [⟨5, 1, y13.length, some (y13.map rB8)⟩]⟩) rfl ?_
    refine .nil ?_
    refine .seq ?_
    refine .region ?_
    refine .q (x := .clo 28 [.ref 1 0]) (q_move rfl) rfl ?_
    refine .q (x := .ref 0 6) (q_fieldRef fo_34_6 rfl) rfl ?_
    refine .q (x := .d (cI v0.units)) (q_loadO one_3 rfl rfl rfl) rfl ?_
    obtain ⟨y14, hy14, H⟩ := bind_some' H
    refine .g (x := .d (slOf 1 rB8 y14)) (g_call en_29 rfl rfl (c_f_tagged_bytes (hy14))) rfl ?_
    obtain ⟨y15, hy15, H⟩ := bind_some' H
    refine .callFC en_28 rfl rfl [1] [0] (x := .d (.tup [])) (st' := ⟨[.row 34 [.d (cI v0.source), .d (cI v0.serial), .d (cI v0.kind), .d (cS v0.a), .d (cS v0.b), .d (cI v0.start), .d (cI v0.units), .d (cI v0.call), .d (cI v0.part), .d (cB v0.last), .d (cI v0.trunk), .d (cB v0.inbound)], .row 25 [.vc 0 y15.length]], [⟨5, 1, y15.length, some (y15.map rB8)⟩]⟩) rfl (c_g_tagged_Encode_1 (hy15)) ⟨.rfl' _, .rfl' _, .rfl' _, trivial⟩ rfl rfl rfl rfl rfl rfl ?_
    refine .withSt (st' := ⟨[.row 34 [.d (cI v0.source), .d (cI v0.serial), .d (cI v0.kind), .d (cS v0.a), .d (cS v0.b), .d (cI v0.start), .d (cI v0.units), .d (cI v0.call), .d (cI v0.part), .d (cB v0.last), .d (cI v0.trunk), .d (cB v0.inbound)], .row 25 [.vc 0 y15.length]], [⟨5, 1, y15.length, some (y15.map rB8)⟩]⟩) rfl ?_
    refine .nil ?_
    refine .seq ?_
    refine .region ?_
    refine .q (x := .clo 28 [.ref 1 0]) (q_move rfl) rfl ?_
    refine .q (x := .ref 0 7) (q_fieldRef fo_34_7 rfl) rfl ?_
    refine .q (x := .d (cI v0.call)) (q_loadO one_3 rfl rfl rfl) rfl ?_
    obtain ⟨y16, hy16, H⟩ := bind_some' H
    refine .g (x := .d (slOf 1 rB8 y16)) (g_call en_29 rfl rfl (c_f_tagged_bytes (hy16))) rfl ?_
    obtain ⟨y17, hy17, H⟩ := bind_some' H
    refine .callFC en_28 rfl rfl [1] [0] (x := .d (.tup [])) (st' := ⟨[.row 34 [.d (cI v0.source), .d (cI v0.serial), .d (cI v0.kind), .d (cS v0.a), .d (cS v0.b), .d (cI v0.start), .d (cI v0.units), .d (cI v0.call), .d (cI v0.part), .d (cB v0.last), .d (cI v0.trunk), .d (cB v0.inbound)], .row 25 [.vc 0 y17.length]], [⟨5, 1, y17.length, some (y17.map rB8)⟩]⟩) rfl (c_g_tagged_Encode_1 (hy17)) ⟨.rfl' _, .rfl' _, .rfl' _, trivial⟩ rfl rfl rfl rfl rfl rfl ?_
    refine .withSt (st' := ⟨[.row 34 [.d (cI v0.source), .d (cI v0.serial), .d (cI v0.kind), .d (cS v0.a), .d (cS v0.b), .d (cI v0.start), .d (cI v0.units), .d (cI v0.call), .d (cI v0.part), .d (cB v0.last), .d (cI v0.trunk), .d (cB v0.inbound)], .row 25 [.vc 0 y17.length]], [⟨5, 1, y17.length, some (y17.map rB8)⟩]⟩) rfl ?_
    refine .nil ?_
    refine .seq ?_
    refine .region ?_
    refine .q (x := .clo 28 [.ref 1 0]) (q_move rfl) rfl ?_
    refine .q (x := .ref 0 8) (q_fieldRef fo_34_8 rfl) rfl ?_
    refine .q (x := .d (cI v0.part)) (q_loadO one_3 rfl rfl rfl) rfl ?_
    obtain ⟨y18, hy18, H⟩ := bind_some' H
    refine .g (x := .d (slOf 1 rB8 y18)) (g_call en_29 rfl rfl (c_f_tagged_bytes (hy18))) rfl ?_
    obtain ⟨y19, hy19, H⟩ := bind_some' H
    refine .callFC en_28 rfl rfl [1] [0] (x := .d (.tup [])) (st' := ⟨[.row 34 [.d (cI v0.source), .d (cI v0.serial), .d (cI v0.kind), .d (cS v0.a), .d (cS v0.b), .d (cI v0.start), .d (cI v0.units), .d (cI v0.call), .d (cI v0.part), .d (cB v0.last), .d (cI v0.trunk), .d (cB v0.inbound)], .row 25 [.vc 0 y19.length]], [⟨5, 1, y19.length, some (y19.map rB8)⟩]⟩) rfl (c_g_tagged_Encode_1 (hy19)) ⟨.rfl' _, .rfl' _, .rfl' _, trivial⟩ rfl rfl rfl rfl rfl rfl ?_
    refine .withSt (st' := ⟨[.row 34 [.d (cI v0.source), .d (cI v0.serial), .d (cI v0.kind), .d (cS v0.a), .d (cS v0.b), .d (cI v0.start), .d (cI v0.units), .d (cI v0.call), .d (cI v0.part), .d (cB v0.last), .d (cI v0.trunk), .d (cB v0.inbound)], .row 25 [.vc 0 y19.length]], [⟨5, 1, y19.length, some (y19.map rB8)⟩]⟩) rfl ?_
    refine .nil ?_
    refine .seq ?_
    refine .region ?_
    refine .q (x := .clo 28 [.ref 1 0]) (q_move rfl) rfl ?_
    refine .q (x := .ref 0 10) (q_fieldRef fo_34_10 rfl) rfl ?_
    refine .q (x := .d (cI v0.trunk)) (q_loadO one_3 rfl rfl rfl) rfl ?_
    obtain ⟨y20, hy20, H⟩ := bind_some' H
    refine .g (x := .d (slOf 1 rB8 y20)) (g_call en_29 rfl rfl (c_f_tagged_bytes (hy20))) rfl ?_
    obtain ⟨y21, hy21, H⟩ := bind_some' H
    refine .callFC en_28 rfl rfl [1] [0] (x := .d (.tup [])) (st' := ⟨[.row 34 [.d (cI v0.source), .d (cI v0.serial), .d (cI v0.kind), .d (cS v0.a), .d (cS v0.b), .d (cI v0.start), .d (cI v0.units), .d (cI v0.call), .d (cI v0.part), .d (cB v0.last), .d (cI v0.trunk), .d (cB v0.inbound)], .row 25 [.vc 0 y21.length]], [⟨5, 1, y21.length, some (y21.map rB8)⟩]⟩) rfl (c_g_tagged_Encode_1 (hy21)) ⟨.rfl' _, .rfl' _, .rfl' _, trivial⟩ rfl rfl rfl rfl rfl rfl ?_
    refine .withSt (st' := ⟨[.row 34 [.d (cI v0.source), .d (cI v0.serial), .d (cI v0.kind), .d (cS v0.a), .d (cS v0.b), .d (cI v0.start), .d (cI v0.units), .d (cI v0.call), .d (cI v0.part), .d (cB v0.last), .d (cI v0.trunk), .d (cB v0.inbound)], .row 25 [.vc 0 y21.length]], [⟨5, 1, y21.length, some (y21.map rB8)⟩]⟩) rfl ?_
    refine .nil ?_
    refine .seq ?_
    refine .drawn 9 hMix (by kernel_rfl) ?_
    show DOps _ _ _ _ _ _ _ (_ :: _) _ _ _
    refine .q (x := .clo 28 [.ref 1 0]) (q_move rfl) rfl ?_
    refine .q (x := .ref 0 9) (q_fieldRef fo_34_9 rfl) rfl ?_
    refine .q (x := .d (cB v0.last)) (q_loadO one_4 rfl rfl rfl) rfl ?_
    obtain ⟨y22, hy22, H⟩ := bind_some' H
    refine .g (x := .d (cI y22)) (g_call en_30 rfl rfl (c_f_tagged_flag (hy22))) rfl ?_
    refine .q (x := .ref 0 11) (q_fieldRef fo_34_11 rfl) rfl ?_
    refine .q (x := .d (cB v0.inbound)) (q_loadO one_4 rfl rfl rfl) rfl ?_
    obtain ⟨y23, hy23, H⟩ := bind_some' H
    refine .g (x := .d (cI y23)) (g_call en_30 rfl rfl (c_f_tagged_flag (hy23))) rfl ?_
    obtain ⟨hk2, H⟩ := ck_some H
    refine .q (x := .d (cI (y22 + y23))) (q_addI rfl rfl hk2.1 hk2.2) rfl ?_
    obtain ⟨y24, hy24, H⟩ := bind_some' H
    refine .g (x := .d (slOf 1 rB8 y24)) (g_call en_29 rfl rfl (c_f_tagged_bytes (hy24))) rfl ?_
    refine .nil ?_
    show AOps _ _ _ _ _ _ (_ :: _) _ _ _
    obtain ⟨y25, hy25, H⟩ := bind_some' H
    refine .callFC en_28 rfl rfl [1] [0] (x := .d (.tup [])) (st' := ⟨[.row 34 [.d (cI v0.source), .d (cI v0.serial), .d (cI v0.kind), .d (cS v0.a), .d (cS v0.b), .d (cI v0.start), .d (cI v0.units), .d (cI v0.call), .d (cI v0.part), .d (cB v0.last), .d (cI v0.trunk), .d (cB v0.inbound)], .row 25 [.vc 0 y25.length]], [⟨5, 1, y25.length, some (y25.map rB8)⟩]⟩) rfl (c_g_tagged_Encode_1 (hy25)) ⟨.rfl' _, .rfl' _, .rfl' _, trivial⟩ rfl rfl rfl rfl rfl rfl ?_
    refine .withSt (st' := ⟨[.row 34 [.d (cI v0.source), .d (cI v0.serial), .d (cI v0.kind), .d (cS v0.a), .d (cS v0.b), .d (cI v0.start), .d (cI v0.units), .d (cI v0.call), .d (cI v0.part), .d (cB v0.last), .d (cI v0.trunk), .d (cB v0.inbound)], .row 25 [.vc 0 y25.length]], [⟨5, 1, y25.length, some (y25.map rB8)⟩]⟩) rfl ?_
    refine .nil ?_
    refine .seq ?_
    refine .region ?_
    refine .q (x := .vc 0 y25.length) (q_loadO one_25 rfl rfl rfl) rfl ?_
    refine .q (x := .d (cI (y25.length : Int))) (q_lenV (l := y25) (row := rB8) Tryd.underlying25 rfl rfl) rfl ?_
    obtain ⟨hk3, H⟩ := ck_some H
    refine .q (x := .d (cI ((y25.length : Int) - 2))) (q_subI rfl rfl hk3.1 hk3.2) rfl ?_
    refine .q (x := .d (cI ((y25.length : Int) - 2))) (q_assign rfl) rfl ?_
    refine .nil ?_
    refine .seq ?_
    obtain ⟨hk4, H⟩ := ck_some H
    obtain ⟨hk5, H⟩ := ck_some H
    obtain ⟨hk6, H⟩ := ck_some H
    refine .drawnU (xs := [.vc 0 y25.length, .vc 0 y25.length, .d (cI ((y25.length : Int) - 2)), .d (cI (((y25.length : Int) - 2) / 2 ^ (Int.toNat (8)))), .d (cU8 (UInt8.ofInt (((y25.length : Int) - 2) / 2 ^ (Int.toNat (8))))), .d (cI ((y25.length : Int) - 2)), .d (cU8 (UInt8.ofInt ((y25.length : Int) - 2))), .vp 0 y25.length (Int.toNat (0)) 0]) (st' := ⟨[.row 34 [.d (cI v0.source), .d (cI v0.serial), .d (cI v0.kind), .d (cS v0.a), .d (cS v0.b), .d (cI v0.start), .d (cI v0.units), .d (cI v0.call), .d (cI v0.part), .d (cB v0.last), .d (cI v0.trunk), .d (cB v0.inbound)], .row 25 [.vc 0 y25.length]], [⟨5, 1, y25.length, some ((y25.set (Int.toNat (0)) (UInt8.ofInt (((y25.length : Int) - 2) / 2 ^ (Int.toNat (8))))).map rB8)⟩]⟩) 8 hMix (by kernel_rfl) rfl ?_ ?_ ?_ ?_
    · show Chain _ _ _ _ (_ :: _) _ _
      refine .q' (x := .vc 0 y25.length) (q_loadO one_25 rfl rfl rfl) rfl ?_
      refine .q' (x := .vc 0 y25.length) (q_loadO one_25 rfl rfl rfl) rfl ?_
      refine .q' (x := .d (cI ((y25.length : Int) - 2))) (q_move rfl) rfl ?_
      refine .q' (x := .d (cI (((y25.length : Int) - 2) / 2 ^ (Int.toNat (8))))) (q_shrI rfl rfl hk4) rfl ?_
      refine .q' (x := .d (cU8 (UInt8.ofInt (((y25.length : Int) - 2) / 2 ^ (Int.toNat (8)))))) (q_conv8 Tryd.underlying3 Tryd.underlying5 rfl) rfl ?_
      refine .q' (x := .d (cI ((y25.length : Int) - 2))) (q_move rfl) rfl ?_
      refine .q' (x := .d (cU8 (UInt8.ofInt ((y25.length : Int) - 2)))) (q_conv8 Tryd.underlying3 Tryd.underlying5 rfl) rfl ?_
      refine .q' (x := .vp 0 y25.length (Int.toNat (0)) 0) (q_idxV (l := y25) (row := rB8) (i := 0) Tryd.underlying25 hi5 hs5 rfl rfl rfl hk5) rfl ?_
      exact .nil'
    · exact OpU.stc (u_storeV (l := y25) (row := rB8) (a := UInt8.ofInt (((y25.length : Int) - 2) / 2 ^ (Int.toNat (8)))) rfl rfl hk6 rfl rfl sz_5 rfl (Nat.le_of_ble_eq_true rfl) rfl) rfl
    · show Chain _ _ _ _ (_ :: _) _ _
      refine .q' (x := .vc 0 y25.length) (q_loadO one_25 rfl rfl rfl) rfl ?_
      refine .q' (x := .vc 0 y25.length) (q_loadO one_25 rfl rfl rfl) rfl ?_
      refine .q' (x := .d (cI ((y25.length : Int) - 2))) (q_move rfl) rfl ?_
      refine .q' (x := .d (cI (((y25.length : Int) - 2) / 2 ^ (Int.toNat (8))))) (q_shrI rfl rfl hk4) rfl ?_
      refine .q' (x := .d (cU8 (UInt8.ofInt (((y25.length : Int) - 2) / 2 ^ (Int.toNat (8)))))) (q_conv8 Tryd.underlying3 Tryd.underlying5 rfl) rfl ?_
      refine .q' (x := .d (cI ((y25.length : Int) - 2))) (q_move rfl) rfl ?_
      refine .q' (x := .d (cU8 (UInt8.ofInt ((y25.length : Int) - 2)))) (q_conv8 Tryd.underlying3 Tryd.underlying5 rfl) rfl ?_
      refine .q' (x := .vp 0 y25.length (Int.toNat (0)) 0) (q_idxV (l := y25.set (Int.toNat (0)) (UInt8.ofInt (((y25.length : Int) - 2) / 2 ^ (Int.toNat (8))))) (row := rB8) (i := 0) Tryd.underlying25 hi5 hs5 rfl rfl rfl (by simpa using hk5)) rfl ?_
      exact .nil'
    show AOps _ _ _ _ _ _ (_ :: _) _ _ _
    obtain ⟨hk7, H⟩ := ck_some H
    refine .q (x := .vp 0 y25.length (Int.toNat (1)) 0) (q_idxV (l := y25.set (Int.toNat (0)) (UInt8.ofInt (((y25.length : Int) - 2) / 2 ^ (Int.toNat (8))))) (row := rB8) (i := 1) Tryd.underlying25 hi5 hs5 rfl rfl rfl hk7) rfl ?_
    obtain ⟨hk8, H⟩ := ck_some H
    refine .u (u_storeV (l := y25.set (Int.toNat (0)) (UInt8.ofInt (((y25.length : Int) - 2) / 2 ^ (Int.toNat (8))))) (row := rB8) (a := UInt8.ofInt ((y25.length : Int) - 2)) rfl rfl hk8 rfl rfl sz_5 rfl (Nat.le_of_ble_eq_true rfl) rfl) rfl ?_
    refine .withSt (st' := ⟨[.row 34 [.d (cI v0.source), .d (cI v0.serial), .d (cI v0.kind), .d (cS v0.a), .d (cS v0.b), .d (cI v0.start), .d (cI v0.units), .d (cI v0.call), .d (cI v0.part), .d (cB v0.last), .d (cI v0.trunk), .d (cB v0.inbound)], .row 25 [.vc 0 y25.length]], [⟨5, 1, y25.length, some (((y25.set (Int.toNat (0)) (UInt8.ofInt (((y25.length : Int) - 2) / 2 ^ (Int.toNat (8))))).set (Int.toNat (1)) (UInt8.ofInt ((y25.length : Int) - 2))).map rB8)⟩]⟩) rfl ?_
    refine .nil ?_
    refine .seq ?_
    refine .region ?_
    refine .q (x := .vc 0 y25.length) (q_loadO one_25 rfl rfl rfl) rfl ?_
    refine .q (x := .vc 0 y25.length) (q_assign rfl) rfl ?_
    refine .q (x := .d (cI 0)) (q_assign rfl) rfl ?_
    refine .nil ?_
    refine .freezeL (l := (y25.set (Int.toNat (0)) (UInt8.ofInt (((y25.length : Int) - 2) / 2 ^ (Int.toNat (8))))).set (Int.toNat (1)) (UInt8.ofInt ((y25.length : Int) - 2))) (row := rB8) (i := 2) rfl rfl ?_
    refine .withSt (st' := ⟨[.row 34 [.d (cI v0.source), .d (cI v0.serial), .d (cI v0.kind), .d (cS v0.a), .d (cS v0.b), .d (cI v0.start), .d (cI v0.units), .d (cI v0.call), .d (cI v0.part), .d (cB v0.last), .d (cI v0.trunk), .d (cB v0.inbound)], .row 25 [.vc 0 y25.length]], [⟨5, 1, ((y25.set (Int.toNat (0)) (UInt8.ofInt (((y25.length : Int) - 2) / 2 ^ (Int.toNat (8))))).set (Int.toNat (1)) (UInt8.ofInt ((y25.length : Int) - 2))).length, none⟩]⟩) rfl ?_
    refine .retN [.tmp 2, .tmp 3] [.tsl 1 (((y25.set (Int.toNat (0)) (UInt8.ofInt (((y25.length : Int) - 2) / 2 ^ (Int.toNat (8))))).set (Int.toNat (1)) (UInt8.ofInt ((y25.length : Int) - 2))).map rB8) 0, .d (cI 0)] Tryd.func17 Tryd.results17 ⟨rfl, rfl, trivial⟩ ?_
    cases H
    exact ⟨_, EVle.tupL (ds := [slOf 1 rB8 ((y25.set (Int.toNat (0)) (UInt8.ofInt (((y25.length : Int) - 2) / 2 ^ (Int.toNat (8))))).set (Int.toNat (1)) (UInt8.ofInt ((y25.length : Int) - 2))), cI 0]) ⟨.tsl _ _ _, .rfl' _, trivial⟩, rfl⟩

set_option maxRecDepth 100000 in
set_option maxHeartbeats 1000000 in
theorem c_f_billinglaw10_awake {r : Bool} (H : f_billinglaw10_awake = some r) : ACall Tryd.prog 10 [] (· = cB r) := by
  obtain ⟨i5, hi5, hz5, hs5, hb5⟩ := in_5
  obtain ⟨i34, hi34, hz34, hs34, hb34⟩ := in_34
  obtain ⟨i47, hi47, hz47, hs47, hb47⟩ := in_47
  refine ACall.enter' Tryd.func10 rfl Tryd.ntmps10 rfl fun S hS => ?_
  unfold f_billinglaw10_awake at H
  change ARun _ _ _ _ _ _ [] _
  refine .seq ?_
  refine .region ?_
  refine .q (x := .d (cB false)) (q_assign rfl) rfl ?_
  refine .nil ?_
  refine .seq ?_
  refine .region ?_
  refine .g (x := .d (slOf 1 rB8 ([1, 2] : List UInt8))) (g_buildSliceN (n := 2) (rows := ([1, 2] : List UInt8).map rB8) Tryd.underlying25 hi5 hs5 hz5 rfl rfl rfl rfl rfl) rfl ?_
  refine .q (x := .d (.agg (Element.row (⟨5, ([1, 2] : List UInt8)⟩ : Element)))) (q_buildP pl_47 hi47 hz47 rfl rfl) rfl ?_
  refine .g (x := .d (slOf 2 Element.row ([(⟨5, ([1, 2] : List UInt8)⟩ : Element)] : List Element))) (g_buildSlice1 Tryd.underlying22 hi47 hs47 hz47 rfl rfl rfl rfl rfl) rfl ?_
  obtain ⟨y1, hy1, H⟩ := bind_some' H
  refine .g (x := .d (.tup [slOf 1 rB8 y1.1, cI y1.2])) (g_call en_11 rfl rfl (c_f_tagged_Build (hy1))) rfl ?_
  refine .q (x := .d (.tup [slOf 1 rB8 y1.1, cI y1.2])) (q_move rfl) rfl ?_
  refine .q (x := .d (slOf 1 rB8 y1.1)) (q_extract rfl rfl) rfl ?_
  refine .q (x := .d (cI y1.2)) (q_extract rfl rfl) rfl ?_
  refine .q (x := .d (slOf 1 rB8 y1.1)) (q_assign rfl) rfl ?_
  refine .q (x := .d (cI y1.2)) (q_assign rfl) rfl ?_
  refine .nil ?_
  refine .seq ?_
  refine .region ?_
  refine .q (x := .d (.agg (Element.row (⟨5, ([] : List UInt8)⟩ : Element)))) (OpQ.le (q_buildP pl_47 hi47 hz47 rfl rfl) (EVle.d (.agg ⟨.rfl' _, .nil 1, trivial⟩))) rfl ?_
  refine .q (x := .d (.agg (Element.row (⟨5, ([] : List UInt8)⟩ : Element)))) (OpQ.le (q_buildP pl_47 hi47 hz47 rfl rfl) (EVle.d (.agg ⟨.rfl' _, .nil 1, trivial⟩))) rfl ?_
  refine .g (x := .d (slOf 2 Element.row ([(⟨5, ([] : List UInt8)⟩ : Element), (⟨5, ([] : List UInt8)⟩ : Element)] : List Element))) (g_buildSliceN (n := 2) (rows := ([(⟨5, ([] : List UInt8)⟩ : Element), (⟨5, ([] : List UInt8)⟩ : Element)] : List Element).map Element.row) Tryd.underlying22 hi47 hs47 hz47 rfl rfl rfl rfl rfl) rfl ?_
  obtain ⟨y2, hy2, H⟩ := bind_some' H
  refine .g (x := .d (.tup [slOf 1 rB8 y2.1, cI y2.2])) (g_call en_11 rfl rfl (c_f_tagged_Build (hy2))) rfl ?_
  refine .q (x := .d (.tup [slOf 1 rB8 y2.1, cI y2.2])) (q_move rfl) rfl ?_
  refine .q (x := .d (slOf 1 rB8 y2.1)) (q_extract rfl rfl) rfl ?_
  refine .q (x := .d (cI y2.2)) (q_extract rfl rfl) rfl ?_
  refine .q (x := .d (slOf 1 rB8 y2.1)) (q_assign rfl) rfl ?_
  refine .q (x := .d (cI y2.2)) (q_assign rfl) rfl ?_
  refine .nil ?_
  refine .seq ?_
  refine .region ?_
  refine .g (x := .d (slOf 1 rB8 ([0, 0] : List UInt8))) (g_buildSliceN (n := 2) (rows := ([0, 0] : List UInt8).map rB8) Tryd.underlying25 hi5 hs5 hz5 rfl rfl rfl rfl rfl) rfl ?_
  obtain ⟨y3, hy3, H⟩ := bind_some' H
  refine .g (x := .d (.tup [slOf 2 Element.row y3.1, cI y3.2])) (g_call en_13 rfl rfl (c_f_tagged_Elements (hy3))) rfl ?_
  refine .q (x := .d (.tup [slOf 2 Element.row y3.1, cI y3.2])) (q_move rfl) rfl ?_
  refine .q (x := .d (slOf 2 Element.row y3.1)) (q_extract rfl rfl) rfl ?_
  refine .q (x := .d (cI y3.2)) (q_extract rfl rfl) rfl ?_
  refine .q (x := .d (slOf 2 Element.row y3.1)) (q_assign rfl) rfl ?_
  refine .q (x := .d (cI y3.2)) (q_assign rfl) rfl ?_
  refine .nil ?_
  refine .seq ?_
  refine .region ?_
  refine .g (x := .d (slOf 1 rB8 ([1, 2, 0] : List UInt8))) (g_buildSliceN (n := 3) (rows := ([1, 2, 0] : List UInt8).map rB8) Tryd.underlying25 hi5 hs5 hz5 rfl rfl rfl rfl rfl) rfl ?_
  obtain ⟨y4, hy4, H⟩ := bind_some' H
  refine .g (x := .d (.tup [slOf 2 Element.row y4.1, cI y4.2])) (g_call en_13 rfl rfl (c_f_tagged_Elements (hy4))) rfl ?_
  refine .q (x := .d (.tup [slOf 2 Element.row y4.1, cI y4.2])) (q_move rfl) rfl ?_
  refine .q (x := .d (slOf 2 Element.row y4.1)) (q_extract rfl rfl) rfl ?_
  refine .q (x := .d (cI y4.2)) (q_extract rfl rfl) rfl ?_
  refine .q (x := .d (slOf 2 Element.row y4.1)) (q_assign rfl) rfl ?_
  refine .q (x := .d (cI y4.2)) (q_assign rfl) rfl ?_
  refine .nil ?_
  refine .seq ?_
  refine .region ?_
  refine .q (x := .d (.agg (Record.row (⟨1, 300, 3, ([49, 50, 51] : List UInt8), ([] : List UInt8), 0, 2, 0, 0, false, 0, false⟩ : Record)))) (q_buildP pl_34 hi34 hz34 rfl rfl) rfl ?_
  obtain ⟨y5, hy5, H⟩ := bind_some' H
  refine .g (x := .d (.tup [slOf 1 rB8 y5.1, cI y5.2])) (g_call en_17 rfl rfl (c_f_tagged_Encode (hy5))) rfl ?_
  refine .q (x := .d (.tup [slOf 1 rB8 y5.1, cI y5.2])) (q_move rfl) rfl ?_
  refine .q (x := .d (slOf 1 rB8 y5.1)) (q_extract rfl rfl) rfl ?_
  refine .q (x := .d (cI y5.2)) (q_extract rfl rfl) rfl ?_
  refine .q (x := .d (slOf 1 rB8 y5.1)) (q_assign rfl) rfl ?_
  refine .q (x := .d (cI y5.2)) (q_assign rfl) rfl ?_
  refine .nil ?_
  refine .seq ?_
  refine .seq ?_
  refine .region ?_
  refine .q (x := .d (cI y1.2)) (q_move rfl) rfl ?_
  refine .q (x := .d (cB (y1.2 != 0))) (q_neq rfl rfl) rfl ?_
  refine .q (x := .d (cB (y1.2 != 0))) (q_move rfl) rfl ?_
  refine .guardG (b := (!(y1.2 != 0))) (x := .d (cI y2.2)) (env' := [(4, _)]) rfl rfl rfl ⟨.inl rfl, trivial⟩ rfl (fun hg => OpQ.g (q_move rfl)) ?_
  refine .guardG (b := (!(y1.2 != 0))) (x := .d (cB (y2.2 != 9))) (env' := [(43, _)]) rfl rfl rfl ⟨.inr (.inl rfl), trivial⟩ rfl (fun hg => OpQ.g (q_neq rfl rfl)) ?_
  refine .q (x := .d (cB ((y1.2 != 0) || (y2.2 != 9)))) (q_pickOrB rfl rfl rfl) rfl ?_
  refine .q (x := .d (cB ((y1.2 != 0) || (y2.2 != 9)))) (q_move rfl) rfl ?_
  refine .guardG (b := (!((y1.2 != 0) || (y2.2 != 9)))) (x := .d (cI y3.2)) (env' := [(6, _)]) rfl rfl rfl ⟨.inl rfl, trivial⟩ rfl (fun hg => OpQ.g (q_move rfl)) ?_
  refine .guardG (b := (!((y1.2 != 0) || (y2.2 != 9)))) (x := .d (cB (y3.2 != 6))) (env' := [(47, _)]) rfl rfl rfl ⟨.inr (.inl rfl), trivial⟩ rfl (fun hg => OpQ.g (q_neq rfl rfl)) ?_
  refine .q (x := .d (cB (((y1.2 != 0) || (y2.2 != 9)) || (y3.2 != 6)))) (q_pickOrB rfl rfl rfl) rfl ?_
  refine .q (x := .d (cB (((y1.2 != 0) || (y2.2 != 9)) || (y3.2 != 6)))) (q_move rfl) rfl ?_
  refine .guardG (b := (!(((y1.2 != 0) || (y2.2 != 9)) || (y3.2 != 6)))) (x := .d (cI y4.2)) (env' := [(8, _)]) rfl rfl rfl ⟨.inl rfl, trivial⟩ rfl (fun hg => OpQ.g (q_move rfl)) ?_
  refine .guardG (b := (!(((y1.2 != 0) || (y2.2 != 9)) || (y3.2 != 6)))) (x := .d (cB (y4.2 != 2))) (env' := [(51, _)]) rfl rfl rfl ⟨.inr (.inl rfl), trivial⟩ rfl (fun hg => OpQ.g (q_neq rfl rfl)) ?_
  refine .q (x := .d (cB ((((y1.2 != 0) || (y2.2 != 9)) || (y3.2 != 6)) || (y4.2 != 2)))) (q_pickOrB rfl rfl rfl) rfl ?_
  refine .q (x := .d (cB ((((y1.2 != 0) || (y2.2 != 9)) || (y3.2 != 6)) || (y4.2 != 2)))) (q_move rfl) rfl ?_
  refine .guardG (b := (!((((y1.2 != 0) || (y2.2 != 9)) || (y3.2 != 6)) || (y4.2 != 2)))) (x := .d (cI y5.2)) (env' := [(10, _)]) rfl rfl rfl ⟨.inl rfl, trivial⟩ rfl (fun hg => OpQ.g (q_move rfl)) ?_
  refine .guardG (b := (!((((y1.2 != 0) || (y2.2 != 9)) || (y3.2 != 6)) || (y4.2 != 2)))) (x := .d (cB (y5.2 != 0))) (env' := [(55, _)]) rfl rfl rfl ⟨.inr (.inl rfl), trivial⟩ rfl (fun hg => OpQ.g (q_neq rfl rfl)) ?_
  refine .q (x := .d (cB (((((y1.2 != 0) || (y2.2 != 9)) || (y3.2 != 6)) || (y4.2 != 2)) || (y5.2 != 0)))) (q_pickOrB rfl rfl rfl) rfl ?_
  refine .nil ?_
  refine .cond rfl (fun hc => ?_) (fun hc => ?_)
  · replace H := ifT hc H; clear hc
    refine .seq ?_
    refine .region ?_
    refine .q (x := .d (cB false)) (q_assign rfl) rfl ?_
    refine .nil ?_
    refine .retN [.tmp 0] [.d (cB false)] Tryd.func10 Tryd.results10 ⟨rfl, trivial⟩ ?_
    cases H
    exact ⟨_, .rfl' _, rfl⟩
  · replace H := ifF hc H; clear hc
    refine .skip ?_
    refine .seq ?_
    refine .region ?_
    refine .q (x := .d (slOf 1 rB8 y1.1)) (q_move rfl) rfl ?_
    refine .q (x := .d (cS y1.1)) (q_bytesStrL (a := y1.1) Tryd.underlying25 Tryd.underlying5 Tryd.underlying9 rfl rfl) rfl ?_
    refine .q (x := .d (cB (y1.1 == ([5, 2, 1, 2] : List UInt8)))) (q_seql rfl rfl) rfl ?_
    refine .q (x := .d (cB (y1.1 == ([5, 2, 1, 2] : List UInt8)))) (q_move rfl) rfl ?_
    refine .guardG (b := (y1.1 == ([5, 2, 1, 2] : List UInt8))) (x := .d (slOf 1 rB8 y5.1)) (env' := [(9, _)]) rfl rfl rfl ⟨.inl rfl, trivial⟩ rfl (fun hg => OpQ.g (q_move rfl)) ?_
    refine .guardG (b := (y1.1 == ([5, 2, 1, 2] : List UInt8))) (x := .d (cS y5.1)) (env' := [(62, _)]) rfl rfl rfl ⟨.inr (.inl rfl), trivial⟩ rfl (fun hg => OpQ.g (q_bytesStrL (a := y5.1) Tryd.underlying25 Tryd.underlying5 Tryd.underlying9 rfl rfl)) ?_
    refine .guardG (b := (y1.1 == ([5, 2, 1, 2] : List UInt8))) (x := .d (cB (y5.1 == ([0, 17, 1, 1, 3, 2, 1, 1, 3, 2, 1, 44, 4, 2, 18, 63, 7, 1, 2] : List UInt8)))) (env' := [(63, _)]) rfl rfl rfl ⟨.inr (.inl rfl), trivial⟩ rfl (fun hg => OpQ.g (q_seql rfl rfl)) ?_
    refine .q (x := .d (cB ((y1.1 == ([5, 2, 1, 2] : List UInt8)) && (y5.1 == ([0, 17, 1, 1, 3, 2, 1, 1, 3, 2, 1, 44, 4, 2, 18, 63, 7, 1, 2] : List UInt8))))) (q_pickAndB rfl rfl rfl) rfl ?_
    refine .q (x := .d (cB ((y1.1 == ([5, 2, 1, 2] : List UInt8)) && (y5.1 == ([0, 17, 1, 1, 3, 2, 1, 1, 3, 2, 1, 44, 4, 2, 18, 63, 7, 1, 2] : List UInt8))))) (q_assign rfl) rfl ?_
    refine .nil ?_
    refine .retN [.tmp 0] [.d (cB ((y1.1 == ([5, 2, 1, 2] : List UInt8)) && (y5.1 == ([0, 17, 1, 1, 3, 2, 1, 1, 3, 2, 1, 44, 4, 2, 18, 63, 7, 1, 2] : List UInt8))))] Tryd.func10 Tryd.results10 ⟨rfl, trivial⟩ ?_
    cases H
    exact ⟨_, .rfl' _, rfl⟩

set_option maxRecDepth 100000 in
set_option maxHeartbeats 1000000 in
theorem c_f_billingref10_Build {v0list : List Element} {r : (List UInt8) × Int} (H : f_billingref10_Build v0list = some r) : ACall Tryd.prog 12 [slOf 2 Element.row v0list] (· = .tup [slOf 1 rB8 r.1, cI r.2]) := by
  obtain ⟨i5, hi5, hz5, hs5, hb5⟩ := in_5
  obtain ⟨i47, hi47, hz47, hs47, hb47⟩ := in_47
  refine ACall.enter' Tryd.func12 rfl Tryd.ntmps12 rfl fun S hS => ?_
  unfold f_billingref10_Build at H
  change ARun _ _ _ _ _ _ [(0, .d (slOf 2 Element.row v0list))] _
  refine .seq ?_
  refine .region ?_
  refine .q (x := .d (nilD)) (q_assign rfl) rfl ?_
  refine .q (x := .d (cI 0)) (q_assign rfl) rfl ?_
  refine .nil ?_
  refine .seq ?_
  refine .region ?_
  refine .q (x := .d (nilD)) (q_assign rfl) rfl ?_
  refine .nil ?_
  refine .seq ?_
  refine .region ?_
  refine .q (x := .d (cI 0)) (q_assign rfl) rfl ?_
  refine .nil ?_
  refine .seq ?_
  refine .seq ?_
  refine .region ?_
  refine .q (x := .d (cI 0)) (q_assign rfl) rfl ?_
  refine .nil ?_
  refine .block ?_
  refine .tok (i := 4) (e := 5) (sz := 1) rfl ?_
  refine .withSt (st' := ⟨[], [⟨5, 1, ([] : List UInt8).length, none⟩]⟩) rfl ?_
  obtain ⟨n1, H⟩ := loop_some H
  refine .withSt (st' := ⟨[], [⟨5, 1, ([] : List UInt8).length, none⟩]⟩) rfl <| .loop (ι := Nat × (List UInt8 × Int × Int)) (fun p => [(0, .d (slOf 2 Element.row v0list)), (4, .tsl 1 (p.2.1.map rB8) 0), (5, .d (cI p.2.2.1)), (6, .d (cI p.2.2.2))]) (fun p => ⟨[], [⟨5, 1, p.2.1.length, none⟩]⟩) (fun p => iter (fun s => f_billingref10_Build_l1 v0list s.1 s.2.1 s.2.2) p.1 p.2 = some r) (·.1) (n1, (([] : List UInt8), 0, 0)) H (.cons rfl (.rfl' _) (.cons rfl (.rfl' _) (.cons rfl (.rfl' _) (.cons rfl (.rfl' _) (.nil))))) rfl ?_
  rintro ⟨m1, v4outl1, v5lastl1, v6il1⟩ HI ih1
  obtain ⟨n1, q1, hm1, H, HK1⟩ := iter_succ HI
  clear HI
  replace H : f_billingref10_Build_l1 v0list v4outl1 v5lastl1 v6il1 = some q1 := H
  unfold f_billingref10_Build_l1 at H
  change ARun _ _ _ _ _ _ [(0, .d (slOf 2 Element.row v0list)), (4, .tsl 1 (v4outl1.map rB8) 0), (5, .d (cI v5lastl1)), (6, .d (cI v6il1))] ⟨[], [⟨5, 1, v4outl1.length, none⟩]⟩
  refine .seq ?_
  refine .seq ?_
  refine .region ?_
  refine .q (x := .d (cI v6il1)) (q_move rfl) rfl ?_
  refine .q (x := .d (slOf 2 Element.row v0list)) (q_move rfl) rfl ?_
  refine .q (x := .d (cI (v0list.length : Int))) (q_lenL (l := v0list) (row := Element.row) Tryd.underlying22 rfl rfl) rfl ?_
  refine .q (x := .d (cB (decide (v6il1 < (v0list.length : Int))))) (q_lss rfl rfl) rfl ?_
  refine .nil ?_
  refine .cond rfl (fun hc => ?_) (fun hc => ?_)
  · replace H := ifT hc H; clear hc
    refine .skip ?_
    refine .seq ?_
    refine .block ?_
    refine .seq ?_
    refine .region ?_
    refine .q (x := .d (slOf 2 Element.row v0list)) (q_move rfl) rfl ?_
    refine .q (x := .d (cI v6il1)) (q_move rfl) rfl ?_
    obtain ⟨hk1, H⟩ := ck_some H
    refine .q (x := .d (.ro (Element.row (nth v0list (Int.toNat (v6il1)))))) (q_idxL (row := Element.row) (l := v0list) (i := v6il1) Tryd.underlying22 hi47 hs47 rfl rfl rfl hk1) rfl ?_
    refine .q (x := .d (.agg (Element.row (nth v0list (Int.toNat (v6il1)))))) (q_loadAll one_47 sz_47 rfl rfl) rfl ?_
    refine .v (x := .ref 0 0) (v_alloc zr_47 rfl) rfl ?_
    refine .withSt (st' := ⟨[.row 47 [.d (cI 0), .d (nilD)]], [⟨5, 1, v4outl1.length, none⟩]⟩) rfl ?_
    refine .u (u_store rfl rfl rfl rfl (Nat.le_of_ble_eq_true rfl) sz_47) rfl ?_
    refine .withSt (st' := ⟨[.row 47 [.d (cI ((nth v0list (Int.toNat (v6il1))).tag)), .d (slOf 1 rB8 ((nth v0list (Int.toNat (v6il1))).value))]], [⟨5, 1, v4outl1.length, none⟩]⟩) rfl ?_
    refine .nil ?_
    refine .seq ?_
    refine .seq ?_
    refine .region ?_
    refine .q (x := .ref 0 0) (q_fieldRef fo_47_0 rfl) rfl ?_
    refine .q (x := .d (cI ((nth v0list (Int.toNat (v6il1))).tag))) (q_loadO one_3 rfl rfl rfl) rfl ?_
    refine .q (x := .d (cB (decide (((nth v0list (Int.toNat (v6il1))).tag) < 1)))) (q_lss rfl rfl) rfl ?_
    refine .q (x := .d (cB (decide (((nth v0list (Int.toNat (v6il1))).tag) < 1)))) (q_move rfl) rfl ?_
    refine .guardG (b := (!(decide (((nth v0list (Int.toNat (v6il1))).tag) < 1)))) (x := .ref 0 0) (env' := [(7, _)]) rfl rfl rfl ⟨.inl rfl, trivial⟩ rfl (fun hg => OpQ.g (q_fieldRef fo_47_0 rfl)) ?_
    refine .guardG (b := (!(decide (((nth v0list (Int.toNat (v6il1))).tag) < 1)))) (x := .d (cI ((nth v0list (Int.toNat (v6il1))).tag))) (env' := [(22, _)]) rfl rfl rfl ⟨.inr (.inl rfl), trivial⟩ rfl (fun hg => OpQ.g (q_loadO one_3 rfl rfl rfl)) ?_
    refine .guardG (b := (!(decide (((nth v0list (Int.toNat (v6il1))).tag) < 1)))) (x := .d (cB (decide (((nth v0list (Int.toNat (v6il1))).tag) > 255)))) (env' := [(23, _)]) rfl rfl rfl ⟨.inr (.inl rfl), trivial⟩ rfl (fun hg => OpQ.g (q_gtr rfl rfl)) ?_
    refine .q (x := .d (cB ((decide (((nth v0list (Int.toNat (v6il1))).tag) < 1)) || (decide (((nth v0list (Int.toNat (v6il1))).tag) > 255))))) (q_pickOrB rfl rfl rfl) rfl ?_
    refine .nil ?_
    refine .cond rfl (fun hc => ?_) (fun hc => ?_)
    · replace H := ifT hc H; clear hc
      refine .seq ?_
      refine .region ?_
      refine .q (x := .d (nilD)) (q_assign rfl) rfl ?_
      refine .q (x := .d (cI 6)) (q_assign rfl) rfl ?_
      refine .nil ?_
      refine .retN [.tmp 2, .tmp 3] [.d (nilD), .d (cI 6)] Tryd.func12 Tryd.results12 ⟨rfl, rfl, trivial⟩ ?_
      cases H
      cases HK1
      exact ⟨_, EVle.tupL (ds := [slOf 1 rB8 ([] : List UInt8), cI 6]) ⟨.nil 1, .rfl' _, trivial⟩, rfl⟩
    · replace H := ifF hc H; clear hc
      refine .skip ?_
      refine .seq ?_
      refine .seq ?_
      refine .region ?_
      refine .q (x := .ref 0 0) (q_fieldRef fo_47_0 rfl) rfl ?_
      refine .q (x := .d (cI ((nth v0list (Int.toNat (v6il1))).tag))) (q_loadO one_3 rfl rfl rfl) rfl ?_
      refine .q (x := .d (cI v5lastl1)) (q_move rfl) rfl ?_
      refine .q (x := .d (cB (decide (((nth v0list (Int.toNat (v6il1))).tag) ≤ v5lastl1)))) (q_leq rfl rfl) rfl ?_
      refine .nil ?_
      refine .cond rfl (fun hc => ?_) (fun hc => ?_)
      · replace H := ifT hc H; clear hc
        refine .seq ?_
        refine .region ?_
        refine .q (x := .d (nilD)) (q_assign rfl) rfl ?_
        refine .q (x := .d (cI 9)) (q_assign rfl) rfl ?_
        refine .nil ?_
        refine .retN [.tmp 2, .tmp 3] [.d (nilD), .d (cI 9)] Tryd.func12 Tryd.results12 ⟨rfl, rfl, trivial⟩ ?_
        cases H
        cases HK1
        exact ⟨_, EVle.tupL (ds := [slOf 1 rB8 ([] : List UInt8), cI 9]) ⟨.nil 1, .rfl' _, trivial⟩, rfl⟩
      · replace H := ifF hc H; clear hc
        refine .skip ?_
        refine .seq ?_
        refine .seq ?_
        refine .region ?_
        refine .q (x := .ref 0 1) (q_fieldRef fo_47_1 rfl) rfl ?_
        refine .q (x := .d (slOf 1 rB8 ((nth v0list (Int.toNat (v6il1))).value))) (q_loadO one_25 rfl rfl rfl) rfl ?_
        refine .q (x := .d (cI (((nth v0list (Int.toNat (v6il1))).value).length : Int))) (q_lenL (l := (nth v0list (Int.toNat (v6il1))).value) (row := rB8) Tryd.underlying25 rfl rfl) rfl ?_
        refine .q (x := .d (cB (decide ((((nth v0list (Int.toNat (v6il1))).value).length : Int) > 255)))) (q_gtr rfl rfl) rfl ?_
        refine .nil ?_
        refine .cond rfl (fun hc => ?_) (fun hc => ?_)
        · replace H := ifT hc H; clear hc
          refine .seq ?_
          refine .region ?_
          refine .q (x := .d (nilD)) (q_assign rfl) rfl ?_
          refine .q (x := .d (cI 5)) (q_assign rfl) rfl ?_
          refine .nil ?_
          refine .retN [.tmp 2, .tmp 3] [.d (nilD), .d (cI 5)] Tryd.func12 Tryd.results12 ⟨rfl, rfl, trivial⟩ ?_
          cases H
          cases HK1
          exact ⟨_, EVle.tupL (ds := [slOf 1 rB8 ([] : List UInt8), cI 5]) ⟨.nil 1, .rfl' _, trivial⟩, rfl⟩
        · replace H := ifF hc H; clear hc
          refine .skip ?_
          refine .seq ?_
          refine .region ?_
          refine .q (x := .tsl 1 (v4outl1.map rB8) 0) (q_move rfl) rfl ?_
          refine .q (x := .ref 0 0) (q_fieldRef fo_47_0 rfl) rfl ?_
          refine .q (x := .d (cI ((nth v0list (Int.toNat (v6il1))).tag))) (q_loadO one_3 rfl rfl rfl) rfl ?_
          refine .q (x := .d (cU8 (UInt8.ofInt ((nth v0list (Int.toNat (v6il1))).tag)))) (q_conv8 Tryd.underlying3 Tryd.underlying5 rfl) rfl ?_
          refine .q (x := .ref 0 1) (q_fieldRef fo_47_1 rfl) rfl ?_
          refine .q (x := .d (slOf 1 rB8 ((nth v0list (Int.toNat (v6il1))).value))) (q_loadO one_25 rfl rfl rfl) rfl ?_
          refine .q (x := .d (cI (((nth v0list (Int.toNat (v6il1))).value).length : Int))) (q_lenL (l := (nth v0list (Int.toNat (v6il1))).value) (row := rB8) Tryd.underlying25 rfl rfl) rfl ?_
          refine .q (x := .d (cU8 (UInt8.ofInt (((nth v0list (Int.toNat (v6il1))).value).length : Int)))) (q_conv8 Tryd.underlying3 Tryd.underlying5 rfl) rfl ?_
          refine .g (x := .d (slOf 1 rB8 ([UInt8.ofInt ((nth v0list (Int.toNat (v6il1))).tag), UInt8.ofInt (((nth v0list (Int.toNat (v6il1))).value).length : Int)] : List UInt8))) (g_buildSliceN (n := 2) (rows := ([UInt8.ofInt ((nth v0list (Int.toNat (v6il1))).tag), UInt8.ofInt (((nth v0list (Int.toNat (v6il1))).value).length : Int)] : List UInt8).map rB8) Tryd.underlying25 hi5 hs5 hz5 rfl rfl rfl rfl rfl) rfl ?_
          obtain ⟨hk2, H⟩ := ck_some H
          refine .v (x := .tsl 1 ((v4outl1 ++ ([UInt8.ofInt ((nth v0list (Int.toNat (v6il1))).tag), UInt8.ofInt (((nth v0list (Int.toNat (v6il1))).value).length : Int)] : List UInt8)).map rB8) 0) (v_appendL (l := v4outl1) (l' := ([UInt8.ofInt ((nth v0list (Int.toNat (v6il1))).tag), UInt8.ofInt (((nth v0list (Int.toNat (v6il1))).value).length : Int)] : List UInt8)) (row := rB8) Tryd.underlying25 hi5 hz5 hs5 rfl (by rw [hb5]; decide) rfl rfl rfl rfl hk2) rfl ?_
          refine .withSt (st' := ⟨[.row 47 [.d (cI ((nth v0list (Int.toNat (v6il1))).tag)), .d (slOf 1 rB8 ((nth v0list (Int.toNat (v6il1))).value))]], [⟨5, 1, (v4outl1 ++ ([UInt8.ofInt ((nth v0list (Int.toNat (v6il1))).tag), UInt8.ofInt (((nth v0list (Int.toNat (v6il1))).value).length : Int)] : List UInt8)).length, none⟩]⟩) rfl ?_
          refine .q (x := .tsl 1 ((v4outl1 ++ ([UInt8.ofInt ((nth v0list (Int.toNat (v6il1))).tag), UInt8.ofInt (((nth v0list (Int.toNat (v6il1))).value).length : Int)] : List UInt8)).map rB8) 0) (q_assign rfl) rfl ?_
          refine .nil ?_
          refine .seq ?_
          refine .region ?_
          refine .q (x := .tsl 1 ((v4outl1 ++ ([UInt8.ofInt ((nth v0list (Int.toNat (v6il1))).tag), UInt8.ofInt (((nth v0list (Int.toNat (v6il1))).value).length : Int)] : List UInt8)).map rB8) 0) (q_move rfl) rfl ?_
          refine .q (x := .ref 0 1) (q_fieldRef fo_47_1 rfl) rfl ?_
          refine .q (x := .d (slOf 1 rB8 ((nth v0list (Int.toNat (v6il1))).value))) (q_loadO one_25 rfl rfl rfl) rfl ?_
          obtain ⟨hk3, H⟩ := ck_some H
          refine .v (x := .tsl 1 (((v4outl1 ++ ([UInt8.ofInt ((nth v0list (Int.toNat (v6il1))).tag), UInt8.ofInt (((nth v0list (Int.toNat (v6il1))).value).length : Int)] : List UInt8)) ++ ((nth v0list (Int.toNat (v6il1))).value)).map rB8) 0) (v_appendL (l := v4outl1 ++ ([UInt8.ofInt ((nth v0list (Int.toNat (v6il1))).tag), UInt8.ofInt (((nth v0list (Int.toNat (v6il1))).value).length : Int)] : List UInt8)) (l' := (nth v0list (Int.toNat (v6il1))).value) (row := rB8) Tryd.underlying25 hi5 hz5 hs5 rfl (by rw [hb5]; decide) rfl rfl rfl rfl hk3) rfl ?_
          refine .withSt (st' := ⟨[.row 47 [.d (cI ((nth v0list (Int.toNat (v6il1))).tag)), .d (slOf 1 rB8 ((nth v0list (Int.toNat (v6il1))).value))]], [⟨5, 1, ((v4outl1 ++ ([UInt8.ofInt ((nth v0list (Int.toNat (v6il1))).tag), UInt8.ofInt (((nth v0list (Int.toNat (v6il1))).value).length : Int)] : List UInt8)) ++ ((nth v0list (Int.toNat (v6il1))).value)).length, none⟩]⟩) rfl ?_
          refine .q (x := .tsl 1 (((v4outl1 ++ ([UInt8.ofInt ((nth v0list (Int.toNat (v6il1))).tag), UInt8.ofInt (((nth v0list (Int.toNat (v6il1))).value).length : Int)] : List UInt8)) ++ ((nth v0list (Int.toNat (v6il1))).value)).map rB8) 0) (q_assign rfl) rfl ?_
          refine .nil ?_
          refine .region ?_
          refine .q (x := .ref 0 0) (q_fieldRef fo_47_0 rfl) rfl ?_
          refine .q (x := .d (cI ((nth v0list (Int.toNat (v6il1))).tag))) (q_loadO one_3 rfl rfl rfl) rfl ?_
          refine .q (x := .d (cI ((nth v0list (Int.toNat (v6il1))).tag))) (q_assign rfl) rfl ?_
          refine .nil ?_
          refine .inBlock ?_
          refine .region ?_
          refine .q (x := .d (cI v6il1)) (q_move rfl) rfl ?_
          obtain ⟨hk4, H⟩ := ck_some H
          refine .q (x := .d (cI (v6il1 + 1))) (q_addI rfl rfl hk4.1 hk4.2) rfl ?_
          refine .q (x := .d (cI (v6il1 + 1))) (q_assign rfl) rfl ?_
          refine .nil ?_
          cases H
          exact .to 0 1 (env' := [(0, .d (slOf 2 Element.row v0list)), (4, .tsl 1 (((v4outl1 ++ ([UInt8.ofInt ((nth v0list (Int.toNat (v6il1))).tag), UInt8.ofInt (((nth v0list (Int.toNat (v6il1))).value).length : Int)] : List UInt8)) ++ ((nth v0list (Int.toNat (v6il1))).value)).map rB8) 0), (5, .d (cI ((nth v0list (Int.toNat (v6il1))).tag))), (6, .d (cI (v6il1 + 1)))]) (st' := ⟨[], [⟨5, 1, ((v4outl1 ++ ([UInt8.ofInt ((nth v0list (Int.toNat (v6il1))).tag), UInt8.ofInt (((nth v0list (Int.toNat (v6il1))).value).length : Int)] : List UInt8)) ++ ((nth v0list (Int.toNat (v6il1))).value)).length, none⟩]⟩) (.cons rfl (.rfl' _) (.cons rfl (.rfl' _) (.cons rfl (.rfl' _) (.cons rfl (.rfl' _) (.nil))))) rfl rfl rfl rfl rfl (by rw [hS]; exact Nat.le_of_ble_eq_true rfl) (by rw [hS]; exact Nat.le_of_ble_eq_true rfl) <| .sub (.cons rfl (.rfl' _) (.cons rfl (.rfl' _) (.cons rfl (.rfl' _) (.cons rfl (.rfl' _) (.nil))))) (ih1 (n1, ((v4outl1 ++ ([UInt8.ofInt ((nth v0list (Int.toNat (v6il1))).tag), UInt8.ofInt (((nth v0list (Int.toNat (v6il1))).value).length : Int)] : List UInt8)) ++ ((nth v0list (Int.toNat (v6il1))).value), (nth v0list (Int.toNat (v6il1))).tag, v6il1 + 1)) HK1 hm1)
  · replace H := ifF hc H; clear hc
    refine .exit rfl ?_
    refine .seq ?_
    refine .region ?_
    refine .q (x := .tsl 1 (v4outl1.map rB8) 0) (q_move rfl) rfl ?_
    refine .q (x := .tsl 1 (v4outl1.map rB8) 0) (q_assign rfl) rfl ?_
    refine .q (x := .d (cI 0)) (q_assign rfl) rfl ?_
    refine .nil ?_
    refine .retN [.tmp 2, .tmp 3] [.tsl 1 (v4outl1.map rB8) 0, .d (cI 0)] Tryd.func12 Tryd.results12 ⟨rfl, rfl, trivial⟩ ?_
    cases H
    cases HK1
    exact ⟨_, EVle.tupL (ds := [slOf 1 rB8 v4outl1, cI 0]) ⟨.tsl _ _ _, .rfl' _, trivial⟩, rfl⟩

set_option maxRecDepth 100000 in
set_option maxHeartbeats 1000000 in
theorem c_f_billingref10_Same {v0a : List Element} {v1b : List Element} {r : Bool} (H : f_billingref10_Same v0a v1b = some r) : ACall Tryd.prog 14 [slOf 2 Element.row v0a, slOf 2 Element.row v1b] (· = cB r) := by
  obtain ⟨i47, hi47, hz47, hs47, hb47⟩ := in_47
  refine ACall.enter' Tryd.func14 rfl Tryd.ntmps14 rfl fun S hS => ?_
  unfold f_billingref10_Same at H
  change ARun _ _ _ _ _ _ [(0, .d (slOf 2 Element.row v0a)), (1, .d (slOf 2 Element.row v1b))] _
  refine .seq ?_
  refine .region ?_
  refine .q (x := .d (cB false)) (q_assign rfl) rfl ?_
  refine .nil ?_
  refine .seq ?_
  refine .seq ?_
  refine .region ?_
  refine .q (x := .d (slOf 2 Element.row v0a)) (q_move rfl) rfl ?_
  refine .q (x := .d (cI (v0a.length : Int))) (q_lenL (l := v0a) (row := Element.row) Tryd.underlying22 rfl rfl) rfl ?_
  refine .q (x := .d (slOf 2 Element.row v1b)) (q_move rfl) rfl ?_
  refine .q (x := .d (cI (v1b.length : Int))) (q_lenL (l := v1b) (row := Element.row) Tryd.underlying22 rfl rfl) rfl ?_
  refine .q (x := .d (cB ((v0a.length : Int) != (v1b.length : Int)))) (q_neq rfl rfl) rfl ?_
  refine .nil ?_
  refine .cond rfl (fun hc => ?_) (fun hc => ?_)
  · replace H := ifT hc H; clear hc
    refine .seq ?_
    refine .region ?_
    refine .q (x := .d (cB false)) (q_assign rfl) rfl ?_
    refine .nil ?_
    refine .retN [.tmp 4] [.d (cB false)] Tryd.func14 Tryd.results14 ⟨rfl, trivial⟩ ?_
    cases H
    exact ⟨_, .rfl' _, rfl⟩
  · replace H := ifF hc H; clear hc
    refine .skip ?_
    refine .seq ?_
    refine .seq ?_
    refine .region ?_
    refine .q (x := .d (cI 0)) (q_assign rfl) rfl ?_
    refine .nil ?_
    refine .block ?_
    obtain ⟨n1, H⟩ := loop_some H
    refine .loop (ι := Nat × (Int)) (fun p => [(0, .d (slOf 2 Element.row v0a)), (1, .d (slOf 2 Element.row v1b)), (5, .d (cI p.2))]) (fun p => ⟨[], []⟩) (fun p => iter (fun s => f_billingref10_Same_l1 v0a v1b s) p.1 p.2 = some r) (·.1) (n1, 0) H (.cons rfl (.rfl' _) (.cons rfl (.rfl' _) (.cons rfl (.rfl' _) (.nil)))) rfl ?_
    rintro ⟨m1, v5il1⟩ HI ih1
    obtain ⟨n1, q1, hm1, H, HK1⟩ := iter_succ HI
    clear HI
    replace H : f_billingref10_Same_l1 v0a v1b v5il1 = some q1 := H
    unfold f_billingref10_Same_l1 at H
    change ARun _ _ _ _ _ _ [(0, .d (slOf 2 Element.row v0a)), (1, .d (slOf 2 Element.row v1b)), (5, .d (cI v5il1))] ⟨[], []⟩
    refine .seq ?_
    refine .seq ?_
    refine .region ?_
    refine .q (x := .d (cI v5il1)) (q_move rfl) rfl ?_
    refine .q (x := .d (slOf 2 Element.row v0a)) (q_move rfl) rfl ?_
    refine .q (x := .d (cI (v0a.length : Int))) (q_lenL (l := v0a) (row := Element.row) Tryd.underlying22 rfl rfl) rfl ?_
    refine .q (x := .d (cB (decide (v5il1 < (v0a.length : Int))))) (q_lss rfl rfl) rfl ?_
    refine .nil ?_
    refine .cond rfl (fun hc => ?_) (fun hc => ?_)
    · replace H := ifT hc H; clear hc
      refine .skip ?_
      refine .seq ?_
      refine .block ?_
      refine .seq ?_
      refine .drawn 26 hMix (by kernel_rfl) ?_
      show DOps _ _ _ _ _ _ _ (_ :: _) _ _ _
      refine .q (x := .d (slOf 2 Element.row v0a)) (q_move rfl) rfl ?_
      refine .q (x := .d (cI v5il1)) (q_move rfl) rfl ?_
      obtain ⟨hk1, H⟩ := ck_some H
      refine .q (x := .d (.ro (Element.row (nth v0a (Int.toNat (v5il1)))))) (q_idxL (row := Element.row) (l := v0a) (i := v5il1) Tryd.underlying22 hi47 hs47 rfl rfl rfl hk1) rfl ?_
      refine .q (x := .d (.ro (Element.row (nth v0a (Int.toNat (v5il1)))))) (q_fieldRo fo_47_0 rfl) rfl ?_
      refine .q (x := .d (cI ((nth v0a (Int.toNat (v5il1))).tag))) (q_load one_3 rfl) rfl ?_
      refine .q (x := .d (slOf 2 Element.row v1b)) (q_move rfl) rfl ?_
      refine .q (x := .d (cI v5il1)) (q_move rfl) rfl ?_
      obtain ⟨hk2, H⟩ := ck_some H
      refine .q (x := .d (.ro (Element.row (nth v1b (Int.toNat (v5il1)))))) (q_idxL (row := Element.row) (l := v1b) (i := v5il1) Tryd.underlying22 hi47 hs47 rfl rfl rfl hk2) rfl ?_
      refine .q (x := .d (.ro (Element.row (nth v1b (Int.toNat (v5il1)))))) (q_fieldRo fo_47_0 rfl) rfl ?_
      refine .q (x := .d (cI ((nth v1b (Int.toNat (v5il1))).tag))) (q_load one_3 rfl) rfl ?_
      refine .q (x := .d (cB (((nth v0a (Int.toNat (v5il1))).tag) != ((nth v1b (Int.toNat (v5il1))).tag)))) (q_neq rfl rfl) rfl ?_
      refine .q (x := .d (cB (((nth v0a (Int.toNat (v5il1))).tag) != ((nth v1b (Int.toNat (v5il1))).tag)))) (q_move rfl) rfl ?_
      refine .guardG (b := (!(((nth v0a (Int.toNat (v5il1))).tag) != ((nth v1b (Int.toNat (v5il1))).tag)))) (x := .d (slOf 2 Element.row v0a)) (env' := [(0, _)]) rfl rfl rfl ⟨.inl rfl, trivial⟩ rfl (fun hg => OpQ.g (q_move rfl)) ?_
      refine .guardG (b := (!(((nth v0a (Int.toNat (v5il1))).tag) != ((nth v1b (Int.toNat (v5il1))).tag)))) (x := .d (cI v5il1)) (env' := [(5, _)]) rfl rfl rfl ⟨.inl rfl, trivial⟩ rfl (fun hg => OpQ.g (q_move rfl)) ?_
      obtain ⟨hk3, H⟩ := ck_some H
      refine .guardG (b := (!(((nth v0a (Int.toNat (v5il1))).tag) != ((nth v1b (Int.toNat (v5il1))).tag)))) (x := .d (.ro (Element.row (nth v0a (Int.toNat (v5il1)))))) (env' := [(29, _), (30, _)]) rfl rfl rfl ⟨.inr (.inl rfl), ⟨.inr (.inl rfl), trivial⟩⟩ rfl (fun hg => OpQ.g (q_idxL (row := Element.row) (l := v0a) (i := v5il1) Tryd.underlying22 hi47 hs47 rfl rfl rfl (hk3 hg))) ?_
      refine .guardG (b := (!(((nth v0a (Int.toNat (v5il1))).tag) != ((nth v1b (Int.toNat (v5il1))).tag)))) (x := .d (.ro ((Element.row (nth v0a (Int.toNat (v5il1)))).drop 1))) (env' := [(31, _)]) rfl rfl rfl ⟨.inr (.inl rfl), trivial⟩ rfl (fun hg => OpQ.g (q_fieldRo fo_47_1 rfl)) ?_
      refine .guardG (b := (!(((nth v0a (Int.toNat (v5il1))).tag) != ((nth v1b (Int.toNat (v5il1))).tag)))) (x := .d (slOf 1 rB8 ((nth v0a (Int.toNat (v5il1))).value))) (env' := [(32, _)]) rfl rfl rfl ⟨.inr (.inl rfl), trivial⟩ rfl (fun hg => OpQ.g (q_load one_25 rfl)) ?_
      refine .guardG (b := (!(((nth v0a (Int.toNat (v5il1))).tag) != ((nth v1b (Int.toNat (v5il1))).tag)))) (x := .d (cS ((nth v0a (Int.toNat (v5il1))).value))) (env' := [(33, _)]) rfl rfl rfl ⟨.inr (.inl rfl), trivial⟩ rfl (fun hg => OpQ.g (q_bytesStrL (a := (nth v0a (Int.toNat (v5il1))).value) Tryd.underlying25 Tryd.underlying5 Tryd.underlying9 rfl rfl)) ?_
      refine .guardG (b := (!(((nth v0a (Int.toNat (v5il1))).tag) != ((nth v1b (Int.toNat (v5il1))).tag)))) (x := .d (slOf 2 Element.row v1b)) (env' := [(1, _)]) rfl rfl rfl ⟨.inl rfl, trivial⟩ rfl (fun hg => OpQ.g (q_move rfl)) ?_
      refine .guardG (b := (!(((nth v0a (Int.toNat (v5il1))).tag) != ((nth v1b (Int.toNat (v5il1))).tag)))) (x := .d (cI v5il1)) (env' := [(5, _)]) rfl rfl rfl ⟨.inl rfl, trivial⟩ rfl (fun hg => OpQ.g (q_move rfl)) ?_
      obtain ⟨hk4, H⟩ := ck_some H
      refine .guardG (b := (!(((nth v0a (Int.toNat (v5il1))).tag) != ((nth v1b (Int.toNat (v5il1))).tag)))) (x := .d (.ro (Element.row (nth v1b (Int.toNat (v5il1)))))) (env' := [(35, _), (36, _)]) rfl rfl rfl ⟨.inr (.inl rfl), ⟨.inr (.inl rfl), trivial⟩⟩ rfl (fun hg => OpQ.g (q_idxL (row := Element.row) (l := v1b) (i := v5il1) Tryd.underlying22 hi47 hs47 rfl rfl rfl (hk4 hg))) ?_
      refine .guardG (b := (!(((nth v0a (Int.toNat (v5il1))).tag) != ((nth v1b (Int.toNat (v5il1))).tag)))) (x := .d (.ro ((Element.row (nth v1b (Int.toNat (v5il1)))).drop 1))) (env' := [(37, _)]) rfl rfl rfl ⟨.inr (.inl rfl), trivial⟩ rfl (fun hg => OpQ.g (q_fieldRo fo_47_1 rfl)) ?_
      refine .guardG (b := (!(((nth v0a (Int.toNat (v5il1))).tag) != ((nth v1b (Int.toNat (v5il1))).tag)))) (x := .d (slOf 1 rB8 ((nth v1b (Int.toNat (v5il1))).value))) (env' := [(38, _)]) rfl rfl rfl ⟨.inr (.inl rfl), trivial⟩ rfl (fun hg => OpQ.g (q_load one_25 rfl)) ?_
      refine .guardG (b := (!(((nth v0a (Int.toNat (v5il1))).tag) != ((nth v1b (Int.toNat (v5il1))).tag)))) (x := .d (cS ((nth v1b (Int.toNat (v5il1))).value))) (env' := [(39, _)]) rfl rfl rfl ⟨.inr (.inl rfl), trivial⟩ rfl (fun hg => OpQ.g (q_bytesStrL (a := (nth v1b (Int.toNat (v5il1))).value) Tryd.underlying25 Tryd.underlying5 Tryd.underlying9 rfl rfl)) ?_
      refine .guardG (b := (!(((nth v0a (Int.toNat (v5il1))).tag) != ((nth v1b (Int.toNat (v5il1))).tag)))) (x := .d (cB (((nth v0a (Int.toNat (v5il1))).value) != ((nth v1b (Int.toNat (v5il1))).value)))) (env' := [(34, _), (40, _)]) rfl rfl rfl ⟨.inr (.inl rfl), ⟨.inr (.inl rfl), trivial⟩⟩ rfl (fun hg => OpQ.g (q_sneq rfl rfl)) ?_
      refine .q (x := .d (cB ((((nth v0a (Int.toNat (v5il1))).tag) != ((nth v1b (Int.toNat (v5il1))).tag)) || (((nth v0a (Int.toNat (v5il1))).value) != ((nth v1b (Int.toNat (v5il1))).value))))) (q_pickOrB rfl rfl rfl) rfl ?_
      refine .nil ?_
      show AOps _ _ _ _ _ _ [] _ _ _
      refine .nil ?_
      refine .cond rfl (fun hc => ?_) (fun hc => ?_)
      · replace H := ifT hc H; clear hc
        refine .seq ?_
        refine .region ?_
        refine .q (x := .d (cB false)) (q_assign rfl) rfl ?_
        refine .nil ?_
        refine .retN [.tmp 4] [.d (cB false)] Tryd.func14 Tryd.results14 ⟨rfl, trivial⟩ ?_
        cases H
        cases HK1
        exact ⟨_, .rfl' _, rfl⟩
      · replace H := ifF hc H; clear hc
        refine .skip ?_
        refine .inBlock ?_
        refine .region ?_
        refine .q (x := .d (cI v5il1)) (q_move rfl) rfl ?_
        obtain ⟨hk5, H⟩ := ck_some H
        refine .q (x := .d (cI (v5il1 + 1))) (q_addI rfl rfl hk5.1 hk5.2) rfl ?_
        refine .q (x := .d (cI (v5il1 + 1))) (q_assign rfl) rfl ?_
        refine .nil ?_
        cases H
        exact .sub (.cons rfl (.rfl' _) (.cons rfl (.rfl' _) (.cons rfl (.rfl' _) (.nil)))) (ih1 (n1, (v5il1 + 1)) HK1 hm1)
    · replace H := ifF hc H; clear hc
      refine .exit rfl ?_
      refine .seq ?_
      refine .region ?_
      refine .q (x := .d (cB true)) (q_assign rfl) rfl ?_
      refine .nil ?_
      refine .retN [.tmp 4] [.d (cB true)] Tryd.func14 Tryd.results14 ⟨rfl, trivial⟩ ?_
      cases H
      cases HK1
      exact ⟨_, .rfl' _, rfl⟩

set_option maxRecDepth 100000 in
set_option maxHeartbeats 1000000 in
theorem c_f_billinglaw10_TaggedBuilds {v0list : List Element} {r : Bool} (H : f_billinglaw10_TaggedBuilds v0list = some r) : ACall Tryd.prog 3 [slOf 2 Element.row v0list] (· = cB r) := by
  refine ACall.enter' Tryd.func3 rfl Tryd.ntmps3 rfl fun S hS => ?_
  unfold f_billinglaw10_TaggedBuilds at H
  change ARun _ _ _ _ _ _ [(0, .d (slOf 2 Element.row v0list))] _
  refine .seq ?_
  refine .region ?_
  refine .q (x := .d (cB false)) (q_assign rfl) rfl ?_
  refine .nil ?_
  refine .seq ?_
  refine .seq ?_
  refine .region ?_
  refine .q (x := .d (slOf 2 Element.row v0list)) (q_move rfl) rfl ?_
  obtain ⟨y1, hy1, H⟩ := bind_some' H
  refine .g (x := .d (cB y1)) (g_call en_9 rfl rfl (c_f_billinglaw10_light (hy1))) rfl ?_
  refine .q (x := .d (cB (!y1))) (q_not rfl) rfl ?_
  refine .nil ?_
  refine .cond rfl (fun hc => ?_) (fun hc => ?_)
  · replace H := ifT hc H; clear hc
    refine .seq ?_
    refine .region ?_
    obtain ⟨y2, hy2, H⟩ := bind_some' H
    refine .g (x := .d (cB y2)) (g_call en_10 rfl rfl (c_f_billinglaw10_awake (hy2))) rfl ?_
    refine .q (x := .d (cB y2)) (q_assign rfl) rfl ?_
    refine .nil ?_
    refine .retN [.tmp 2] [.d (cB y2)] Tryd.func3 Tryd.results3 ⟨rfl, trivial⟩ ?_
    cases H
    exact ⟨_, .rfl' _, rfl⟩
  · replace H := ifF hc H; clear hc
    refine .skip ?_
    refine .seq ?_
    refine .region ?_
    refine .q (x := .d (slOf 2 Element.row v0list)) (q_move rfl) rfl ?_
    obtain ⟨y3, hy3, H⟩ := bind_some' H
    refine .g (x := .d (.tup [slOf 1 rB8 y3.1, cI y3.2])) (g_call en_11 rfl rfl (c_f_tagged_Build (hy3))) rfl ?_
    refine .q (x := .d (.tup [slOf 1 rB8 y3.1, cI y3.2])) (q_move rfl) rfl ?_
    refine .q (x := .d (slOf 1 rB8 y3.1)) (q_extract rfl rfl) rfl ?_
    refine .q (x := .d (cI y3.2)) (q_extract rfl rfl) rfl ?_
    refine .q (x := .d (slOf 1 rB8 y3.1)) (q_assign rfl) rfl ?_
    refine .q (x := .d (cI y3.2)) (q_assign rfl) rfl ?_
    refine .nil ?_
    refine .seq ?_
    refine .region ?_
    refine .q (x := .d (slOf 2 Element.row v0list)) (q_move rfl) rfl ?_
    obtain ⟨y4, hy4, H⟩ := bind_some' H
    refine .g (x := .d (.tup [slOf 1 rB8 y4.1, cI y4.2])) (g_call en_12 rfl rfl (c_f_billingref10_Build (hy4))) rfl ?_
    refine .q (x := .d (.tup [slOf 1 rB8 y4.1, cI y4.2])) (q_move rfl) rfl ?_
    refine .q (x := .d (slOf 1 rB8 y4.1)) (q_extract rfl rfl) rfl ?_
    refine .q (x := .d (cI y4.2)) (q_extract rfl rfl) rfl ?_
    refine .q (x := .d (slOf 1 rB8 y4.1)) (q_assign rfl) rfl ?_
    refine .q (x := .d (cI y4.2)) (q_assign rfl) rfl ?_
    refine .nil ?_
    refine .seq ?_
    refine .seq ?_
    refine .region ?_
    refine .q (x := .d (slOf 1 rB8 y3.1)) (q_move rfl) rfl ?_
    refine .q (x := .d (cS y3.1)) (q_bytesStrL (a := y3.1) Tryd.underlying25 Tryd.underlying5 Tryd.underlying9 rfl rfl) rfl ?_
    refine .q (x := .d (slOf 1 rB8 y4.1)) (q_move rfl) rfl ?_
    refine .q (x := .d (cS y4.1)) (q_bytesStrL (a := y4.1) Tryd.underlying25 Tryd.underlying5 Tryd.underlying9 rfl rfl) rfl ?_
    refine .q (x := .d (cB (y3.1 != y4.1))) (q_sneq rfl rfl) rfl ?_
    refine .q (x := .d (cB (y3.1 != y4.1))) (q_move rfl) rfl ?_
    refine .guardG (b := (!(y3.1 != y4.1))) (x := .d (cI y3.2)) (env' := [(4, _)]) rfl rfl rfl ⟨.inl rfl, trivial⟩ rfl (fun hg => OpQ.g (q_move rfl)) ?_
    refine .guardG (b := (!(y3.1 != y4.1))) (x := .d (cI y4.2)) (env' := [(6, _)]) rfl rfl rfl ⟨.inl rfl, trivial⟩ rfl (fun hg => OpQ.g (q_move rfl)) ?_
    refine .guardG (b := (!(y3.1 != y4.1))) (x := .d (cB (y3.2 != y4.2))) (env' := [(29, _), (30, _)]) rfl rfl rfl ⟨.inr (.inl rfl), ⟨.inr (.inl rfl), trivial⟩⟩ rfl (fun hg => OpQ.g (q_neq rfl rfl)) ?_
    refine .q (x := .d (cB ((y3.1 != y4.1) || (y3.2 != y4.2)))) (q_pickOrB rfl rfl rfl) rfl ?_
    refine .nil ?_
    refine .cond rfl (fun hc => ?_) (fun hc => ?_)
    · replace H := ifT hc H; clear hc
      refine .seq ?_
      refine .region ?_
      refine .q (x := .d (cB false)) (q_assign rfl) rfl ?_
      refine .nil ?_
      refine .retN [.tmp 2] [.d (cB false)] Tryd.func3 Tryd.results3 ⟨rfl, trivial⟩ ?_
      cases H
      exact ⟨_, .rfl' _, rfl⟩
    · replace H := ifF hc H; clear hc
      refine .skip ?_
      refine .seq ?_
      refine .seq ?_
      refine .region ?_
      refine .q (x := .d (cI y3.2)) (q_move rfl) rfl ?_
      refine .q (x := .d (cB (y3.2 != 0))) (q_neq rfl rfl) rfl ?_
      refine .nil ?_
      refine .cond rfl (fun hc => ?_) (fun hc => ?_)
      · replace H := ifT hc H; clear hc
        refine .seq ?_
        refine .region ?_
        obtain ⟨y5, hy5, H⟩ := bind_some' H
        refine .g (x := .d (cB y5)) (g_call en_10 rfl rfl (c_f_billinglaw10_awake (hy5))) rfl ?_
        refine .q (x := .d (cB y5)) (q_assign rfl) rfl ?_
        refine .nil ?_
        refine .retN [.tmp 2] [.d (cB y5)] Tryd.func3 Tryd.results3 ⟨rfl, trivial⟩ ?_
        cases H
        exact ⟨_, .rfl' _, rfl⟩
      · replace H := ifF hc H; clear hc
        refine .skip ?_
        refine .seq ?_
        refine .region ?_
        refine .q (x := .d (slOf 1 rB8 y3.1)) (q_move rfl) rfl ?_
        obtain ⟨y6, hy6, H⟩ := bind_some' H
        refine .g (x := .d (.tup [slOf 2 Element.row y6.1, cI y6.2])) (g_call en_13 rfl rfl (c_f_tagged_Elements (hy6))) rfl ?_
        refine .q (x := .d (.tup [slOf 2 Element.row y6.1, cI y6.2])) (q_move rfl) rfl ?_
        refine .q (x := .d (slOf 2 Element.row y6.1)) (q_extract rfl rfl) rfl ?_
        refine .q (x := .d (cI y6.2)) (q_extract rfl rfl) rfl ?_
        refine .q (x := .d (slOf 2 Element.row y6.1)) (q_assign rfl) rfl ?_
        refine .q (x := .d (cI y6.2)) (q_assign rfl) rfl ?_
        refine .nil ?_
        refine .seq ?_
        refine .region ?_
        refine .q (x := .d (cI y6.2)) (q_move rfl) rfl ?_
        refine .q (x := .d (cB (y6.2 == 0))) (q_eql rfl rfl) rfl ?_
        refine .q (x := .d (cB (y6.2 == 0))) (q_move rfl) rfl ?_
        refine .guardG (b := (y6.2 == 0)) (x := .d (slOf 2 Element.row y6.1)) (env' := [(7, _)]) rfl rfl rfl ⟨.inl rfl, trivial⟩ rfl (fun hg => OpQ.g (q_move rfl)) ?_
        refine .guardG (b := (y6.2 == 0)) (x := .d (slOf 2 Element.row v0list)) (env' := [(0, _)]) rfl rfl rfl ⟨.inl rfl, trivial⟩ rfl (fun hg => OpQ.g (q_move rfl)) ?_
        obtain ⟨y7, hy7, H⟩ := bind_some' H
        refine .guardG (b := (y6.2 == 0)) (x := .d (cB y7)) (env' := [(44, _), (45, _)]) rfl rfl rfl ⟨.inr (.inl rfl), ⟨.inr (.inl rfl), trivial⟩⟩ rfl (fun hg => (g_call en_14 rfl rfl (c_f_billingref10_Same (gcall_some hy7 hg)))) ?_
        refine .q (x := .d (cB ((y6.2 == 0) && y7))) (q_pickAndB rfl rfl rfl) rfl ?_
        refine .q (x := .d (cB ((y6.2 == 0) && y7))) (q_move rfl) rfl ?_
        obtain ⟨y8, hy8, H⟩ := bind_some' H
        refine .guardG (b := ((y6.2 == 0) && y7)) (x := .d (cB y8)) (env' := []) rfl rfl rfl trivial rfl (fun hg => (g_call en_10 rfl rfl (c_f_billinglaw10_awake (gcall_some hy8 hg)))) ?_
        refine .q (x := .d (cB (((y6.2 == 0) && y7) && y8))) (q_pickAndB rfl rfl rfl) rfl ?_
        refine .q (x := .d (cB (((y6.2 == 0) && y7) && y8))) (q_assign rfl) rfl ?_
        refine .nil ?_
        refine .retN [.tmp 2] [.d (cB (((y6.2 == 0) && y7) && y8))] Tryd.func3 Tryd.results3 ⟨rfl, trivial⟩ ?_
        cases H
        exact ⟨_, .rfl' _, rfl⟩

end Go.Proofs.YtmdpmallgcekgaaDoor
