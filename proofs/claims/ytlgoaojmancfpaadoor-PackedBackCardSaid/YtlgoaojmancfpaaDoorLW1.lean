import Derived.Test.YtlgoaojmancfpaaDoorLW0
import Derived.Test.YtlgoaojmancfpaaDoorLF
import Derived.Test.YtlgoaojmancfpaaDoorLX
set_option linter.unusedSimpArgs false
set_option linter.unusedVariables false
namespace Go.Proofs.YtlgoaojmancfpaaDoor
open Go.RowKit Go.Abs
set_option maxRecDepth 100000 in
set_option maxHeartbeats 1000000 in
theorem c_g_packed_Encode_1 {v0n : Int} {v1size : Int} {r : (List UInt8)} (H : g_packed_Encode_1 v0n v1size = some r) : ACallS Tryd.prog 23 [.d (cI v0n), .d (cI v1size), .ref 0 0] ⟨[.row 22 [.d (nilD)]], []⟩ (QE (.d (.tup [])) ⟨[.row 22 [.tsl 1 (r.map rB8) 0]], [⟨5, 1, r.length, none⟩]⟩) := by
  refine ACallS.keep ?_
  refine ACallS.enter Tryd.func23 rfl Tryd.ntmps23 rfl fun S hS => ?_
  unfold g_packed_Encode_1 at H
  change ARun _ _ _ _ _ _ [(0, .d (cI v0n)), (1, .d (cI v1size)), (2, .ref 0 0)] _
  refine .region ?_
  refine .q (x := .d (nilD)) (q_loadO one_22 rfl rfl rfl) rfl ?_
  refine .q (x := .d (cI v0n)) (q_move rfl) rfl ?_
  refine .q (x := .d (cI v1size)) (q_move rfl) rfl ?_
  obtain ⟨y1, hy1, H⟩ := bind_some' H
  refine .callF en_9 rfl [] [] (x := .tup [.tsl 1 (y1.1.map rB8) 0, .d (cI y1.2)]) (st' := ⟨[.row 22 [.d (nilD)]], [⟨5, 1, y1.1.length, none⟩]⟩) rfl (c_g_packed_PutDecimal (hy1)) ⟨.nil 1, .rfl' _, .rfl' _, trivial⟩ rfl rfl rfl rfl rfl rfl ?_
  refine .withSt (st' := ⟨[.row 22 [.d (nilD)]], [⟨5, 1, y1.1.length, none⟩]⟩) rfl ?_
  refine .q (x := .tup [.tsl 1 (y1.1.map rB8) 0, .d (cI y1.2)]) (q_move rfl) rfl ?_
  refine .q (x := .tsl 1 (y1.1.map rB8) 0) (q_extractE rfl rfl) rfl ?_
  refine .q (x := .d (cI y1.2)) (q_extractE rfl rfl) rfl ?_
  refine .u (u_store rfl rfl rfl rfl (Nat.le_of_ble_eq_true rfl) sz_22) rfl ?_
  refine .withSt (st' := ⟨[.row 22 [.tsl 1 (y1.1.map rB8) 0]], [⟨5, 1, y1.1.length, none⟩]⟩) rfl ?_
  refine .nil ?_
  refine .fin0 Tryd.func23 Tryd.results23 ?_
  cases H
  exact ⟨[0], [0], rfl, rfl, rfl, rfl, rfl, rfl, rfl, rfl, EVle.tupL (ds := []) trivial⟩

set_option maxRecDepth 100000 in
set_option maxHeartbeats 1000000 in
theorem c_g_packed_Encode_1_v1 {v0n : Int} {v1size : Int} {y0t0p : List UInt8} {r : (List UInt8)} (H : g_packed_Encode_1_v1 v0n v1size y0t0p = some r) : ACallS Tryd.prog 23 [.d (cI v0n), .d (cI v1size), .ref 0 0] ⟨[.row 22 [.tsl 1 (y0t0p.map rB8) 0]], [⟨5, 1, y0t0p.length, none⟩]⟩ (QE (.d (.tup [])) ⟨[.row 22 [.tsl 1 (r.map rB8) 1]], [⟨5, 1, y0t0p.length, none⟩, ⟨5, 1, r.length, none⟩]⟩) := by
  refine ACallS.keep ?_
  refine ACallS.enter Tryd.func23 rfl Tryd.ntmps23 rfl fun S hS => ?_
  unfold g_packed_Encode_1_v1 at H
  change ARun _ _ _ _ _ _ [(0, .d (cI v0n)), (1, .d (cI v1size)), (2, .ref 0 0)] _
  refine .region ?_
  refine .q (x := .tsl 1 (y0t0p.map rB8) 0) (q_loadO one_22 rfl rfl rfl) rfl ?_
  refine .q (x := .d (cI v0n)) (q_move rfl) rfl ?_
  refine .q (x := .d (cI v1size)) (q_move rfl) rfl ?_
  obtain ⟨y1, hy1, H⟩ := bind_some' H
  refine .callF en_9 rfl [] [] (x := .tup [.tsl 1 (y1.1.map rB8) 1, .d (cI y1.2)]) (st' := ⟨[.row 22 [.tsl 1 (y0t0p.map rB8) 0]], [⟨5, 1, y0t0p.length, none⟩, ⟨5, 1, y1.1.length, none⟩]⟩) rfl (c_g_packed_PutDecimal (hy1)) ⟨.tsl _ _ _, .rfl' _, .rfl' _, trivial⟩ rfl rfl rfl rfl rfl rfl ?_
  refine .withSt (st' := ⟨[.row 22 [.tsl 1 (y0t0p.map rB8) 0]], [⟨5, 1, y0t0p.length, none⟩, ⟨5, 1, y1.1.length, none⟩]⟩) rfl ?_
  refine .q (x := .tup [.tsl 1 (y1.1.map rB8) 1, .d (cI y1.2)]) (q_move rfl) rfl ?_
  refine .q (x := .tsl 1 (y1.1.map rB8) 1) (q_extractE rfl rfl) rfl ?_
  refine .q (x := .d (cI y1.2)) (q_extractE rfl rfl) rfl ?_
  refine .u (u_store rfl rfl rfl rfl (Nat.le_of_ble_eq_true rfl) sz_22) rfl ?_
  refine .withSt (st' := ⟨[.row 22 [.tsl 1 (y1.1.map rB8) 1]], [⟨5, 1, y0t0p.length, none⟩, ⟨5, 1, y1.1.length, none⟩]⟩) rfl ?_
  refine .nil ?_
  refine .fin0 Tryd.func23 Tryd.results23 ?_
  cases H
  exact ⟨[0], [0, 1], rfl, rfl, rfl, rfl, rfl, rfl, rfl, rfl, EVle.tupL (ds := []) trivial⟩

set_option maxRecDepth 100000 in
set_option maxHeartbeats 1000000 in
theorem c_g_packed_putNumber {v1s : List UInt8} {y0t0p : List UInt8} {r : (List UInt8)} (H : g_packed_putNumber v1s y0t0p = some r) : ACallS Tryd.prog 25 [.tsl 1 (y0t0p.map rB8) 0, .d (cS v1s)] ⟨[], [⟨5, 1, y0t0p.length, none⟩]⟩ (QE (.tsl 1 (r.map rB8) 0) ⟨[], [⟨5, 1, r.length, none⟩]⟩) := by
  obtain ⟨i5, hi5, hz5, hs5, hb5⟩ := in_5
  refine ACallS.keep ?_
  refine ACallS.enter Tryd.func25 rfl Tryd.ntmps25 rfl fun S hS => ?_
  unfold g_packed_putNumber at H
  change ARun _ _ _ _ _ _ [(0, .tsl 1 (y0t0p.map rB8) 0), (1, .d (cS v1s))] _
  refine .seq ?_
  refine .region ?_
  refine .q (x := .d (nilD)) (q_assign rfl) rfl ?_
  refine .nil ?_
  refine .seq ?_
  refine .region ?_
  refine .v (x := .ref 0 0) (v_alloc zr_69 rfl) rfl ?_
  refine .withSt (st' := ⟨[.row 69 ((List.replicate 8 0 : List UInt8).map fun b => EV.d (cU8 b))], [⟨5, 1, y0t0p.length, none⟩]⟩) rfl ?_
  refine .nil ?_
  refine .seq ?_
  refine .region ?_
  refine .q (x := .d (cS v1s)) (q_move rfl) rfl ?_
  refine .q (x := .d (cI (v1s.length : Int))) (q_lenS Tryd.underlying9 rfl) rfl ?_
  obtain ⟨hk1, H⟩ := ck_some H
  refine .q (x := .d (cI ((v1s.length : Int) * 2 ^ (Int.toNat (4))))) (q_shlI rfl rfl hk1) rfl ?_
  refine .q (x := .d (cU8 (UInt8.ofInt ((v1s.length : Int) * 2 ^ (Int.toNat (4)))))) (q_conv8 Tryd.underlying3 Tryd.underlying5 rfl) rfl ?_
  obtain ⟨hk2, H⟩ := ck_some H
  refine .q (x := .ref 0 (Int.toNat (0))) (q_idxArrS (i := 0) Tryd.underlying69 ⟨_, hi5, hs5⟩ rfl rfl hk2) rfl ?_
  obtain ⟨hk3, H⟩ := ck_some H
  refine .u (u_storeArr (l := (List.replicate 8 0 : List UInt8)) (c1 := cU8) (a := UInt8.ofInt ((v1s.length : Int) * 2 ^ (Int.toNat (4)))) rfl rfl rfl rfl hk3 sz_5) rfl ?_
  refine .withSt (st' := ⟨[.row 69 (((List.replicate 8 0 : List UInt8).set (Int.toNat (0)) (UInt8.ofInt ((v1s.length : Int) * 2 ^ (Int.toNat (4))))).map fun b => EV.d (cU8 b))], [⟨5, 1, y0t0p.length, none⟩]⟩) rfl ?_
  refine .nil ?_
  refine .seq ?_
  refine .seq ?_
  refine .region ?_
  refine .q (x := .d (cS v1s)) (q_move rfl) rfl ?_
  refine .q (x := .d (cI (v1s.length : Int))) (q_lenS Tryd.underlying9 rfl) rfl ?_
  refine .q (x := .d (cI 0)) (q_move rfl) rfl ?_
  refine .nil ?_
  refine .blockJoin2 (ι := List UInt8) (fun s => [(0, .tsl 1 (y0t0p.map rB8) 0), (5, .ref 0 0)]) (fun s => ⟨[.row 69 (s.map fun b => EV.d (cU8 b))], [⟨5, 1, y0t0p.length, none⟩]⟩) (fun s => g_packed_putNumber_j1 y0t0p s = some r) ?_ ?_
  · rintro o0c0j1 H
    replace H : g_packed_putNumber_j1 y0t0p o0c0j1 = some r := H
    unfold g_packed_putNumber_j1 at H
    change ARun _ _ _ _ _ _ [(0, .tsl 1 (y0t0p.map rB8) 0), (5, .ref 0 0)] ⟨[.row 69 (o0c0j1.map fun b => EV.d (cU8 b))], [⟨5, 1, y0t0p.length, none⟩]⟩
    refine .seq ?_
    refine .region ?_
    refine .q (x := .tsl 1 (y0t0p.map rB8) 0) (q_move rfl) rfl ?_
    refine .q (x := .osl 0 0 8 8) (q_arrAll Tryd.underlying69 ⟨_, hi5, hs5⟩ rfl) rfl ?_
    obtain ⟨hk4, H⟩ := ck_some H
    refine .v (x := .tsl 1 ((y0t0p ++ o0c0j1).map rB8) 0) (v_appendOsl (l := y0t0p) (l' := o0c0j1) (c1 := cU8) Tryd.underlying22 hi5 hz5 hs5 rfl (by rw [hb5]; decide) rfl rfl rfl rfl hk4) rfl ?_
    refine .withSt (st' := ⟨[.row 69 (o0c0j1.map fun b => EV.d (cU8 b))], [⟨5, 1, (y0t0p ++ o0c0j1).length, none⟩]⟩) rfl ?_
    refine .q (x := .tsl 1 ((y0t0p ++ o0c0j1).map rB8) 0) (q_assign rfl) rfl ?_
    refine .nil ?_
    refine .retN [.tmp 4] [.tsl 1 ((y0t0p ++ o0c0j1).map rB8) 0] Tryd.func25 Tryd.results25 ⟨rfl, trivial⟩ ?_
    cases H
    exact ⟨[], [0], rfl, rfl, rfl, rfl, rfl, rfl, rfl, rfl, .rfl' _⟩
  · intro hj1 hj1x
    obtain ⟨n1, H⟩ := loop_some H
    refine .withSt (st' := ⟨[.row 69 (((List.replicate 8 0 : List UInt8).set (Int.toNat (0)) (UInt8.ofInt ((v1s.length : Int) * 2 ^ (Int.toNat (4))))).map fun b => EV.d (cU8 b))], [⟨5, 1, y0t0p.length, none⟩]⟩) rfl <| .loop (ι := Nat × (Int × List UInt8)) (fun p => [(0, .tsl 1 (y0t0p.map rB8) 0), (1, .d (cS v1s)), (5, .ref 0 0), (14, .d (cI (v1s.length : Int))), (15, .d (cI p.2.1))]) (fun p => ⟨[.row 69 (p.2.2.map fun b => EV.d (cU8 b))], [⟨5, 1, y0t0p.length, none⟩]⟩) (fun p => iter (fun s => g_packed_putNumber_l1 v1s y0t0p s.1 s.2) p.1 p.2 = some r) (·.1) (n1, (0, (List.replicate 8 0 : List UInt8).set (Int.toNat (0)) (UInt8.ofInt ((v1s.length : Int) * 2 ^ (Int.toNat (4)))))) H (.cons rfl (.rfl' _) (.cons rfl (.rfl' _) (.cons rfl (.rfl' _) (.cons rfl (.rfl' _) (.cons rfl (.rfl' _) (.nil)))))) rfl ?_
    rintro ⟨m1, v15l1, o0c0l1⟩ HI ih1
    obtain ⟨n1, q1, hm1, H, HK1⟩ := iter_succ HI
    clear HI
    replace H : g_packed_putNumber_l1 v1s y0t0p v15l1 o0c0l1 = some q1 := H
    unfold g_packed_putNumber_l1 at H
    change ARun _ _ _ _ _ _ [(0, .tsl 1 (y0t0p.map rB8) 0), (1, .d (cS v1s)), (5, .ref 0 0), (14, .d (cI (v1s.length : Int))), (15, .d (cI v15l1))] ⟨[.row 69 (o0c0l1.map fun b => EV.d (cU8 b))], [⟨5, 1, y0t0p.length, none⟩]⟩
    refine .seq ?_
    refine .region ?_
    refine .q (x := .d (cB (decide (v15l1 < (v1s.length : Int))))) (q_lss rfl rfl) rfl ?_
    refine .nil ?_
    refine .seq ?_
    refine .cond rfl (fun hc => ?_) (fun hc => ?_)
    · replace H := ifT hc H; clear hc
      refine .skip ?_
      refine .seq ?_
      refine .block ?_
      refine .seq ?_
      refine .region ?_
      refine .q (x := .d (cI v15l1)) (q_move rfl) rfl ?_
      refine .q (x := .d (cI v15l1)) (q_assign rfl) rfl ?_
      refine .nil ?_
      refine .seq ?_
      refine .region ?_
      refine .q (x := .d (cS v1s)) (q_move rfl) rfl ?_
      refine .q (x := .d (cI v15l1)) (q_move rfl) rfl ?_
      obtain ⟨hk5, H⟩ := ck_some H
      refine .q (x := .d (cU8 (nth v1s (Int.toNat (v15l1))))) (q_indexL (i := v15l1) Tryd.underlying9 rfl rfl hk5) rfl ?_
      refine .q (x := .d (cU8 ((nth v1s (Int.toNat (v15l1))) - 48))) (q8_sub (a := nth v1s (Int.toNat (v15l1))) (b := 48) rfl rfl) rfl ?_
      refine .q (x := .d (cU8 ((nth v1s (Int.toNat (v15l1))) - 48))) (q_assign rfl) rfl ?_
      refine .nil ?_
      refine .seq ?_
      refine .region ?_
      refine .q (x := .d (cI v15l1)) (q_move rfl) rfl ?_
      obtain ⟨hk6, H⟩ := ck_some H
      refine .q (x := .d (cI (Int.tmod v15l1 2))) (q_remT rfl rfl hk6) rfl ?_
      refine .q (x := .d (cB ((Int.tmod v15l1 2) == 0))) (q_eql rfl rfl) rfl ?_
      refine .nil ?_
      refine .cond rfl (fun hc => ?_) (fun hc => ?_)
      · replace H := ifT hc H; clear hc
        refine .region ?_
        refine .q (x := .d (cI v15l1)) (q_move rfl) rfl ?_
        obtain ⟨hk7, H⟩ := ck_some H
        refine .q (x := .d (cI (Int.tdiv v15l1 2))) (q_quoT rfl rfl hk7) rfl ?_
        obtain ⟨hk8, H⟩ := ck_some H
        refine .q (x := .ref 0 (Int.toNat (Int.tdiv v15l1 2))) (q_idxArrS (i := Int.tdiv v15l1 2) Tryd.underlying69 ⟨_, hi5, hs5⟩ rfl rfl hk8) rfl ?_
        obtain ⟨hk9, H⟩ := ck_some H
        refine .q (x := .d (cU8 (nth o0c0l1 (Int.toNat (Int.tdiv v15l1 2))))) (q_loadArr (l := o0c0l1) (c1 := cU8) one_5 rfl rfl hk9) rfl ?_
        refine .q (x := .d (cU8 ((nth v1s (Int.toNat (v15l1))) - 48))) (q_move rfl) rfl ?_
        refine .q (x := .d (cU8 ((nth o0c0l1 (Int.toNat (Int.tdiv v15l1 2))) ||| ((nth v1s (Int.toNat (v15l1))) - 48)))) (q8_or (a := nth o0c0l1 (Int.toNat (Int.tdiv v15l1 2))) (b := (nth v1s (Int.toNat (v15l1))) - 48) rfl rfl) rfl ?_
        obtain ⟨hk10, H⟩ := ck_some H
        refine .q (x := .ref 0 (Int.toNat (Int.tdiv v15l1 2))) (q_idxArrS (i := Int.tdiv v15l1 2) Tryd.underlying69 ⟨_, hi5, hs5⟩ rfl rfl hk10) rfl ?_
        obtain ⟨hk11, H⟩ := ck_some H
        refine .u (u_storeArr (l := o0c0l1) (c1 := cU8) (a := (nth o0c0l1 (Int.toNat (Int.tdiv v15l1 2))) ||| ((nth v1s (Int.toNat (v15l1))) - 48)) rfl rfl rfl rfl hk11 sz_5) rfl ?_
        refine .withSt (st' := ⟨[.row 69 ((o0c0l1.set (Int.toNat (Int.tdiv v15l1 2)) ((nth o0c0l1 (Int.toNat (Int.tdiv v15l1 2))) ||| ((nth v1s (Int.toNat (v15l1))) - 48))).map fun b => EV.d (cU8 b))], [⟨5, 1, y0t0p.length, none⟩]⟩) rfl ?_
        refine .nil ?_
        refine .inBlock ?_
        refine .region ?_
        obtain ⟨hk12, H⟩ := ck_some H
        refine .q (x := .d (cI (v15l1 + 1))) (q_addI rfl rfl hk12.1 hk12.2) rfl ?_
        refine .q (x := .d (cI (v15l1 + 1))) (q_move rfl) rfl ?_
        refine .nil ?_
        cases H
        exact .withSt (st' := ⟨[.row 69 ((o0c0l1.set (Int.toNat (Int.tdiv v15l1 2)) ((nth o0c0l1 (Int.toNat (Int.tdiv v15l1 2))) ||| ((nth v1s (Int.toNat (v15l1))) - 48))).map fun b => EV.d (cU8 b))], [⟨5, 1, y0t0p.length, none⟩]⟩) rfl <| .sub (.cons rfl (.rfl' _) (.cons rfl (.rfl' _) (.cons rfl (.rfl' _) (.cons rfl (.rfl' _) (.cons rfl (.rfl' _) (.nil)))))) (ih1 (n1, (v15l1 + 1, o0c0l1.set (Int.toNat (Int.tdiv v15l1 2)) ((nth o0c0l1 (Int.toNat (Int.tdiv v15l1 2))) ||| ((nth v1s (Int.toNat (v15l1))) - 48)))) HK1 hm1)
      · replace H := ifF hc H; clear hc
        refine .region ?_
        refine .q (x := .d (cI v15l1)) (q_move rfl) rfl ?_
        obtain ⟨hk13, H⟩ := ck_some H
        refine .q (x := .d (cI (v15l1 + 1))) (q_addI rfl rfl hk13.1 hk13.2) rfl ?_
        obtain ⟨hk14, H⟩ := ck_some H
        refine .q (x := .d (cI (Int.tdiv (v15l1 + 1) 2))) (q_quoT rfl rfl hk14) rfl ?_
        refine .q (x := .d (cU8 ((nth v1s (Int.toNat (v15l1))) - 48))) (q_move rfl) rfl ?_
        obtain ⟨hk15, H⟩ := ck_some H
        refine .q (x := .d (cU8 (u8shl ((nth v1s (Int.toNat (v15l1))) - 48) 4))) (q8_shl (a := (nth v1s (Int.toNat (v15l1))) - 48) (n := 4) rfl rfl hk15) rfl ?_
        obtain ⟨hk16, H⟩ := ck_some H
        refine .q (x := .ref 0 (Int.toNat (Int.tdiv (v15l1 + 1) 2))) (q_idxArrS (i := Int.tdiv (v15l1 + 1) 2) Tryd.underlying69 ⟨_, hi5, hs5⟩ rfl rfl hk16) rfl ?_
        obtain ⟨hk17, H⟩ := ck_some H
        refine .u (u_storeArr (l := o0c0l1) (c1 := cU8) (a := u8shl ((nth v1s (Int.toNat (v15l1))) - 48) 4) rfl rfl rfl rfl hk17 sz_5) rfl ?_
        refine .withSt (st' := ⟨[.row 69 ((o0c0l1.set (Int.toNat (Int.tdiv (v15l1 + 1) 2)) (u8shl ((nth v1s (Int.toNat (v15l1))) - 48) 4)).map fun b => EV.d (cU8 b))], [⟨5, 1, y0t0p.length, none⟩]⟩) rfl ?_
        refine .nil ?_
        refine .inBlock ?_
        refine .region ?_
        obtain ⟨hk18, H⟩ := ck_some H
        refine .q (x := .d (cI (v15l1 + 1))) (q_addI rfl rfl hk18.1 hk18.2) rfl ?_
        refine .q (x := .d (cI (v15l1 + 1))) (q_move rfl) rfl ?_
        refine .nil ?_
        cases H
        exact .withSt (st' := ⟨[.row 69 ((o0c0l1.set (Int.toNat (Int.tdiv (v15l1 + 1) 2)) (u8shl ((nth v1s (Int.toNat (v15l1))) - 48) 4)).map fun b => EV.d (cU8 b))], [⟨5, 1, y0t0p.length, none⟩]⟩) rfl <| .sub (.cons rfl (.rfl' _) (.cons rfl (.rfl' _) (.cons rfl (.rfl' _) (.cons rfl (.rfl' _) (.cons rfl (.rfl' _) (.nil)))))) (ih1 (n1, (v15l1 + 1, o0c0l1.set (Int.toNat (Int.tdiv (v15l1 + 1) 2)) (u8shl ((nth v1s (Int.toNat (v15l1))) - 48) 4))) HK1 hm1)
    · replace H := ifF hc H; clear hc
      refine .exit rfl ?_
      obtain ⟨q0, H9, hq0⟩ := map_some' H; clear H; cases hq0
      cases HK1
      have H := H9
      exact .withSt (st' := ⟨[.row 69 (o0c0l1.map fun b => EV.d (cU8 b))], [⟨5, 1, y0t0p.length, none⟩]⟩) rfl <| .sub (.cons rfl (.rfl' _) (.cons rfl (.rfl' _) (.nil))) (hj1x o0c0l1 H)

set_option maxRecDepth 100000 in
set_option maxHeartbeats 4000000 in
theorem c_f_packed_Encode {v0 : Record} {r : (List UInt8) × Int} (H : f_packed_Encode v0 = some r) : ACall Tryd.prog 14 [.agg (Record.row v0)] (· = .tup [slOf 1 rB8 r.1, cI r.2]) := by
  obtain ⟨i5, hi5, hz5, hs5, hb5⟩ := in_5
  refine ACall.enter' Tryd.func14 rfl Tryd.ntmps14 rfl fun S hS => ?_
  unfold f_packed_Encode at H
  change ARun _ _ _ _ _ _ [(0, .d (.agg (Record.row v0)))] _
  refine .seq ?_
  refine .region ?_
  refine .v (x := .ref 0 0) (v_box rfl rfl) rfl ?_
  refine .withSt (st' := ⟨[.row 31 [.d (cI v0.source), .d (cI v0.serial), .d (cI v0.kind), .d (cS v0.a), .d (cS v0.b), .d (cI v0.start), .d (cI v0.units), .d (cI v0.call), .d (cI v0.part), .d (cB v0.last), .d (cI v0.trunk), .d (cB v0.inbound)]], []⟩) rfl ?_
  refine .q (x := .d (nilD)) (q_assign rfl) rfl ?_
  refine .q (x := .d (cI 0)) (q_assign rfl) rfl ?_
  refine .nil ?_
  refine .seq ?_
  refine .seq ?_
  refine .region ?_
  refine .q (x := .d (.agg (Record.row v0))) (q_loadOA one_31 sz_31 rfl rfl (Nat.le_of_ble_eq_true rfl) rfl) rfl ?_
  obtain ⟨y1, hy1, H⟩ := bind_some' H
  refine .g (x := .d (.tup [cS y1.1, cI y1.2])) (g_call en_22 rfl rfl (c_f_textual_Encode (hy1))) rfl ?_
  refine .q (x := .d (.tup [cS y1.1, cI y1.2])) (q_move rfl) rfl ?_
  refine .q (x := .d (cS y1.1)) (q_extract rfl rfl) rfl ?_
  refine .q (x := .d (cI y1.2)) (q_extract rfl rfl) rfl ?_
  refine .q (x := .d (cS y1.1)) (q_assign rfl) rfl ?_
  refine .q (x := .d (cI y1.2)) (q_assign rfl) rfl ?_
  refine .nil ?_
  refine .seq ?_
  refine .region ?_
  refine .q (x := .d (cI y1.2)) (q_move rfl) rfl ?_
  refine .q (x := .d (cB (y1.2 != 0))) (q_neq rfl rfl) rfl ?_
  refine .nil ?_
  refine .cond rfl (fun hc => ?_) (fun hc => ?_)
  · replace H := ifT hc H; clear hc
    refine .seq ?_
    refine .region ?_
    refine .q (x := .d (cI y1.2)) (q_move rfl) rfl ?_
    refine .q (x := .d (nilD)) (q_assign rfl) rfl ?_
    refine .q (x := .d (cI y1.2)) (q_assign rfl) rfl ?_
    refine .nil ?_
    refine .retN [.tmp 2, .tmp 3] [.d (nilD), .d (cI y1.2)] Tryd.func14 Tryd.results14 ⟨rfl, rfl, trivial⟩ ?_
    cases H
    exact ⟨_, EVle.tupL (ds := [slOf 1 rB8 ([] : List UInt8), cI y1.2]) ⟨.nil 1, .rfl' _, trivial⟩, rfl⟩
  · replace H := ifF hc H; clear hc
    refine .skip ?_
    refine .seq ?_
    refine .region ?_
    refine .v (x := .ref 1 0) (v_alloc zr_22 rfl) rfl ?_
    refine .withSt (st' := ⟨[.row 31 [.d (cI v0.source), .d (cI v0.serial), .d (cI v0.kind), .d (cS v0.a), .d (cS v0.b), .d (cI v0.start), .d (cI v0.units), .d (cI v0.call), .d (cI v0.part), .d (cB v0.last), .d (cI v0.trunk), .d (cB v0.inbound)], .row 22 [.d (nilD)]], []⟩) rfl ?_
    refine .nil ?_
    refine .seq ?_
    refine .region ?_
    refine .q (x := .clo 23 [.ref 1 0]) (q_makeFunc rfl) rfl ?_
    refine .q (x := .clo 23 [.ref 1 0]) (q_assign rfl) rfl ?_
    refine .nil ?_
    refine .seq ?_
    refine .region ?_
    refine .q (x := .clo 23 [.ref 1 0]) (q_move rfl) rfl ?_
    refine .q (x := .ref 0 0) (q_fieldRef fo_31_0 rfl) rfl ?_
    refine .q (x := .d (cI v0.source)) (q_loadO one_3 rfl rfl rfl) rfl ?_
    obtain ⟨y2, hy2, H⟩ := bind_some' H
    refine .callFC en_23 rfl rfl [1] [] (x := .d (.tup [])) (st' := ⟨[.row 31 [.d (cI v0.source), .d (cI v0.serial), .d (cI v0.kind), .d (cS v0.a), .d (cS v0.b), .d (cI v0.start), .d (cI v0.units), .d (cI v0.call), .d (cI v0.part), .d (cB v0.last), .d (cI v0.trunk), .d (cB v0.inbound)], .row 22 [.tsl 1 (y2.map rB8) 0]], [⟨5, 1, y2.length, none⟩]⟩) rfl (c_g_packed_Encode_1 (hy2)) ⟨.rfl' _, .rfl' _, .rfl' _, trivial⟩ rfl rfl rfl rfl rfl rfl ?_
    refine .withSt (st' := ⟨[.row 31 [.d (cI v0.source), .d (cI v0.serial), .d (cI v0.kind), .d (cS v0.a), .d (cS v0.b), .d (cI v0.start), .d (cI v0.units), .d (cI v0.call), .d (cI v0.part), .d (cB v0.last), .d (cI v0.trunk), .d (cB v0.inbound)], .row 22 [.tsl 1 (y2.map rB8) 0]], [⟨5, 1, y2.length, none⟩]⟩) rfl ?_
    refine .nil ?_
    refine .seq ?_
    refine .region ?_
    refine .q (x := .clo 23 [.ref 1 0]) (q_move rfl) rfl ?_
    refine .q (x := .ref 0 1) (q_fieldRef fo_31_1 rfl) rfl ?_
    refine .q (x := .d (cI v0.serial)) (q_loadO one_3 rfl rfl rfl) rfl ?_
    obtain ⟨y3, hy3, H⟩ := bind_some' H
    refine .callFC en_23 rfl rfl [1] [0] (x := .d (.tup [])) (st' := ⟨[.row 31 [.d (cI v0.source), .d (cI v0.serial), .d (cI v0.kind), .d (cS v0.a), .d (cS v0.b), .d (cI v0.start), .d (cI v0.units), .d (cI v0.call), .d (cI v0.part), .d (cB v0.last), .d (cI v0.trunk), .d (cB v0.inbound)], .row 22 [.tsl 1 (y3.map rB8) 1]], [⟨5, 1, y2.length, none⟩, ⟨5, 1, y3.length, none⟩]⟩) rfl (c_g_packed_Encode_1_v1 (hy3)) ⟨.rfl' _, .rfl' _, .rfl' _, trivial⟩ rfl rfl rfl rfl rfl rfl ?_
    refine .withSt (st' := ⟨[.row 31 [.d (cI v0.source), .d (cI v0.serial), .d (cI v0.kind), .d (cS v0.a), .d (cS v0.b), .d (cI v0.start), .d (cI v0.units), .d (cI v0.call), .d (cI v0.part), .d (cB v0.last), .d (cI v0.trunk), .d (cB v0.inbound)], .row 22 [.tsl 1 (y3.map rB8) 1]], [⟨5, 1, y2.length, none⟩, ⟨5, 1, y3.length, none⟩]⟩) rfl ?_
    refine .nil ?_
    refine .seq ?_
    refine .drawn 14 hMix (by kernel_rfl) ?_
    show DOps _ _ _ _ _ _ _ (_ :: _) _ _ _
    refine .q (x := .tsl 1 (y3.map rB8) 1) (q_loadO one_22 rfl rfl rfl) rfl ?_
    refine .q (x := .ref 0 2) (q_fieldRef fo_31_2 rfl) rfl ?_
    refine .q (x := .d (cI v0.kind)) (q_loadO one_3 rfl rfl rfl) rfl ?_
    obtain ⟨hk1, H⟩ := ck_some H
    refine .q (x := .d (cI (v0.kind * 2 ^ (Int.toNat (4))))) (q_shlI rfl rfl hk1) rfl ?_
    refine .q (x := .d (cU8 (UInt8.ofInt (v0.kind * 2 ^ (Int.toNat (4)))))) (q_conv8 Tryd.underlying3 Tryd.underlying5 rfl) rfl ?_
    refine .q (x := .ref 0 9) (q_fieldRef fo_31_9 rfl) rfl ?_
    refine .q (x := .d (cB v0.last)) (q_loadO one_4 rfl rfl rfl) rfl ?_
    obtain ⟨y4, hy4, H⟩ := bind_some' H
    refine .g (x := .d (cU8 y4)) (g_call en_24 rfl rfl (c_f_packed_bit (hy4))) rfl ?_
    refine .q (x := .d (cU8 ((UInt8.ofInt (v0.kind * 2 ^ (Int.toNat (4)))) ||| y4))) (q8_or (a := UInt8.ofInt (v0.kind * 2 ^ (Int.toNat (4)))) (b := y4) rfl rfl) rfl ?_
    refine .q (x := .ref 0 11) (q_fieldRef fo_31_11 rfl) rfl ?_
    refine .q (x := .d (cB v0.inbound)) (q_loadO one_4 rfl rfl rfl) rfl ?_
    obtain ⟨y5, hy5, H⟩ := bind_some' H
    refine .g (x := .d (cU8 y5)) (g_call en_24 rfl rfl (c_f_packed_bit (hy5))) rfl ?_
    refine .q (x := .d (cU8 (((UInt8.ofInt (v0.kind * 2 ^ (Int.toNat (4)))) ||| y4) ||| y5))) (q8_or (a := (UInt8.ofInt (v0.kind * 2 ^ (Int.toNat (4)))) ||| y4) (b := y5) rfl rfl) rfl ?_
    refine .g (x := .d (slOf 1 rB8 ([((UInt8.ofInt (v0.kind * 2 ^ (Int.toNat (4)))) ||| y4) ||| y5] : List UInt8))) (g_buildSlice1 Tryd.underlying22 hi5 hs5 hz5 rfl rfl rfl rfl rfl) rfl ?_
    refine .nil ?_
    show AOps _ _ _ _ _ _ (_ :: _) _ _ _
    obtain ⟨hk2, H⟩ := ck_some H
    refine .v (x := .tsl 1 ((y3 ++ ([((UInt8.ofInt (v0.kind * 2 ^ (Int.toNat (4)))) ||| y4) ||| y5] : List UInt8)).map rB8) 1) (v_appendL (l := y3) (l' := ([((UInt8.ofInt (v0.kind * 2 ^ (Int.toNat (4)))) ||| y4) ||| y5] : List UInt8)) (row := rB8) Tryd.underlying22 hi5 hz5 hs5 rfl (by rw [hb5]; decide) rfl rfl rfl rfl hk2) rfl ?_
    refine .withSt (st' := ⟨[.row 31 [.d (cI v0.source), .d (cI v0.serial), .d (cI v0.kind), .d (cS v0.a), .d (cS v0.b), .d (cI v0.start), .d (cI v0.units), .d (cI v0.call), .d (cI v0.part), .d (cB v0.last), .d (cI v0.trunk), .d (cB v0.inbound)], .row 22 [.tsl 1 (y3.map rB8) 1]], [⟨5, 1, y2.length, none⟩, ⟨5, 1, (y3 ++ ([((UInt8.ofInt (v0.kind * 2 ^ (Int.toNat (4)))) ||| y4) ||| y5] : List UInt8)).length, none⟩]⟩) rfl ?_
    refine .u (u_store rfl rfl rfl rfl (Nat.le_of_ble_eq_true rfl) sz_22) rfl ?_
    refine .withSt (st' := ⟨[.row 31 [.d (cI v0.source), .d (cI v0.serial), .d (cI v0.kind), .d (cS v0.a), .d (cS v0.b), .d (cI v0.start), .d (cI v0.units), .d (cI v0.call), .d (cI v0.part), .d (cB v0.last), .d (cI v0.trunk), .d (cB v0.inbound)], .row 22 [.tsl 1 ((y3 ++ ([((UInt8.ofInt (v0.kind * 2 ^ (Int.toNat (4)))) ||| y4) ||| y5] : List UInt8)).map rB8) 1]], [⟨5, 1, y2.length, none⟩, ⟨5, 1, (y3 ++ ([((UInt8.ofInt (v0.kind * 2 ^ (Int.toNat (4)))) ||| y4) ||| y5] : List UInt8)).length, none⟩]⟩) rfl ?_
    refine .nil ?_
    refine .seq ?_
    refine .region ?_
    refine .q (x := .tsl 1 ((y3 ++ ([((UInt8.ofInt (v0.kind * 2 ^ (Int.toNat (4)))) ||| y4) ||| y5] : List UInt8)).map rB8) 1) (q_loadO one_22 rfl rfl rfl) rfl ?_
    refine .q (x := .ref 0 3) (q_fieldRef fo_31_3 rfl) rfl ?_
    refine .q (x := .d (cS v0.a)) (q_loadO one_9 rfl rfl rfl) rfl ?_
    obtain ⟨y6, hy6, H⟩ := bind_some' H
    refine .callF en_25 rfl [] [1] (x := .tsl 1 (y6.map rB8) 1) (st' := ⟨[.row 31 [.d (cI v0.source), .d (cI v0.serial), .d (cI v0.kind), .d (cS v0.a), .d (cS v0.b), .d (cI v0.start), .d (cI v0.units), .d (cI v0.call), .d (cI v0.part), .d (cB v0.last), .d (cI v0.trunk), .d (cB v0.inbound)], .row 22 [.tsl 1 ((y3 ++ ([((UInt8.ofInt (v0.kind * 2 ^ (Int.toNat (4)))) ||| y4) ||| y5] : List UInt8)).map rB8) 1]], [⟨5, 1, y2.length, none⟩, ⟨5, 1, y6.length, none⟩]⟩) rfl (c_g_packed_putNumber (hy6)) ⟨.rfl' _, .rfl' _, trivial⟩ rfl rfl rfl rfl rfl rfl ?_
    refine .withSt (st' := ⟨[.row 31 [.d (cI v0.source), .d (cI v0.serial), .d (cI v0.kind), .d (cS v0.a), .d (cS v0.b), .d (cI v0.start), .d (cI v0.units), .d (cI v0.call), .d (cI v0.part), .d (cB v0.last), .d (cI v0.trunk), .d (cB v0.inbound)], .row 22 [.tsl 1 ((y3 ++ ([((UInt8.ofInt (v0.kind * 2 ^ (Int.toNat (4)))) ||| y4) ||| y5] : List UInt8)).map rB8) 1]], [⟨5, 1, y2.length, none⟩, ⟨5, 1, y6.length, none⟩]⟩) rfl ?_
    refine .u (u_store rfl rfl rfl rfl (Nat.le_of_ble_eq_true rfl) sz_22) rfl ?_
    refine .withSt (st' := ⟨[.row 31 [.d (cI v0.source), .d (cI v0.serial), .d (cI v0.kind), .d (cS v0.a), .d (cS v0.b), .d (cI v0.start), .d (cI v0.units), .d (cI v0.call), .d (cI v0.part), .d (cB v0.last), .d (cI v0.trunk), .d (cB v0.inbound)], .row 22 [.tsl 1 (y6.map rB8) 1]], [⟨5, 1, y2.length, none⟩, ⟨5, 1, y6.length, none⟩]⟩) rfl ?_
    refine .nil ?_
    refine .seq ?_
    refine .region ?_
    refine .q (x := .tsl 1 (y6.map rB8) 1) (q_loadO one_22 rfl rfl rfl) rfl ?_
    refine .q (x := .ref 0 4) (q_fieldRef fo_31_4 rfl) rfl ?_
    refine .q (x := .d (cS v0.b)) (q_loadO one_9 rfl rfl rfl) rfl ?_
    obtain ⟨y7, hy7, H⟩ := bind_some' H
    refine .callF en_25 rfl [] [1] (x := .tsl 1 (y7.map rB8) 1) (st' := ⟨[.row 31 [.d (cI v0.source), .d (cI v0.serial), .d (cI v0.kind), .d (cS v0.a), .d (cS v0.b), .d (cI v0.start), .d (cI v0.units), .d (cI v0.call), .d (cI v0.part), .d (cB v0.last), .d (cI v0.trunk), .d (cB v0.inbound)], .row 22 [.tsl 1 (y6.map rB8) 1]], [⟨5, 1, y2.length, none⟩, ⟨5, 1, y7.length, none⟩]⟩) rfl (c_g_packed_putNumber (hy7)) ⟨.rfl' _, .rfl' _, trivial⟩ rfl rfl rfl rfl rfl rfl ?_
    refine .withSt (st' := ⟨[.row 31 [.d (cI v0.source), .d (cI v0.serial), .d (cI v0.kind), .d (cS v0.a), .d (cS v0.b), .d (cI v0.start), .d (cI v0.units), .d (cI v0.call), .d (cI v0.part), .d (cB v0.last), .d (cI v0.trunk), .d (cB v0.inbound)], .row 22 [.tsl 1 (y6.map rB8) 1]], [⟨5, 1, y2.length, none⟩, ⟨5, 1, y7.length, none⟩]⟩) rfl ?_
    refine .u (u_store rfl rfl rfl rfl (Nat.le_of_ble_eq_true rfl) sz_22) rfl ?_
    refine .withSt (st' := ⟨[.row 31 [.d (cI v0.source), .d (cI v0.serial), .d (cI v0.kind), .d (cS v0.a), .d (cS v0.b), .d (cI v0.start), .d (cI v0.units), .d (cI v0.call), .d (cI v0.part), .d (cB v0.last), .d (cI v0.trunk), .d (cB v0.inbound)], .row 22 [.tsl 1 (y7.map rB8) 1]], [⟨5, 1, y2.length, none⟩, ⟨5, 1, y7.length, none⟩]⟩) rfl ?_
    refine .nil ?_
    refine .seq ?_
    refine .region ?_
    refine .q (x := .clo 23 [.ref 1 0]) (q_move rfl) rfl ?_
    refine .q (x := .ref 0 5) (q_fieldRef fo_31_5 rfl) rfl ?_
    refine .q (x := .d (cI v0.start)) (q_loadO one_3 rfl rfl rfl) rfl ?_
    obtain ⟨y8, hy8, H⟩ := bind_some' H
    refine .callFC en_23 rfl rfl [1] [1] (x := .d (.tup [])) (st' := ⟨[.row 31 [.d (cI v0.source), .d (cI v0.serial), .d (cI v0.kind), .d (cS v0.a), .d (cS v0.b), .d (cI v0.start), .d (cI v0.units), .d (cI v0.call), .d (cI v0.part), .d (cB v0.last), .d (cI v0.trunk), .d (cB v0.inbound)], .row 22 [.tsl 1 (y8.map rB8) 2]], [⟨5, 1, y2.length, none⟩, ⟨5, 1, y7.length, none⟩, ⟨5, 1, y8.length, none⟩]⟩) rfl (c_g_packed_Encode_1_v1 (hy8)) ⟨.rfl' _, .rfl' _, .rfl' _, trivial⟩ rfl rfl rfl rfl rfl rfl ?_
    refine .withSt (st' := ⟨[.row 31 [.d (cI v0.source), .d (cI v0.serial), .d (cI v0.kind), .d (cS v0.a), .d (cS v0.b), .d (cI v0.start), .d (cI v0.units), .d (cI v0.call), .d (cI v0.part), .d (cB v0.last), .d (cI v0.trunk), .d (cB v0.inbound)], .row 22 [.tsl 1 (y8.map rB8) 2]], [⟨5, 1, y2.length, none⟩, ⟨5, 1, y7.length, none⟩, ⟨5, 1, y8.length, none⟩]⟩) rfl ?_
    refine .nil ?_
    refine .seq ?_
    refine .region ?_
    refine .q (x := .clo 23 [.ref 1 0]) (q_move rfl) rfl ?_
    refine .q (x := .ref 0 6) (q_fieldRef fo_31_6 rfl) rfl ?_
    refine .q (x := .d (cI v0.units)) (q_loadO one_3 rfl rfl rfl) rfl ?_
    obtain ⟨y9, hy9, H⟩ := bind_some' H
    refine .callFC en_23 rfl rfl [1] [2] (x := .d (.tup [])) (st' := ⟨[.row 31 [.d (cI v0.source), .d (cI v0.serial), .d (cI v0.kind), .d (cS v0.a), .d (cS v0.b), .d (cI v0.start), .d (cI v0.units), .d (cI v0.call), .d (cI v0.part), .d (cB v0.last), .d (cI v0.trunk), .d (cB v0.inbound)], .row 22 [.tsl 1 (y9.map rB8) 3]], [⟨5, 1, y2.length, none⟩, ⟨5, 1, y7.length, none⟩, ⟨5, 1, y8.length, none⟩, ⟨5, 1, y9.length, none⟩]⟩) rfl (c_g_packed_Encode_1_v1 (hy9)) ⟨.rfl' _, .rfl' _, .rfl' _, trivial⟩ rfl rfl rfl rfl rfl rfl ?_
    refine .withSt (st' := ⟨[.row 31 [.d (cI v0.source), .d (cI v0.serial), .d (cI v0.kind), .d (cS v0.a), .d (cS v0.b), .d (cI v0.start), .d (cI v0.units), .d (cI v0.call), .d (cI v0.part), .d (cB v0.last), .d (cI v0.trunk), .d (cB v0.inbound)], .row 22 [.tsl 1 (y9.map rB8) 3]], [⟨5, 1, y2.length, none⟩, ⟨5, 1, y7.length, none⟩, ⟨5, 1, y8.length, none⟩, ⟨5, 1, y9.length, none⟩]⟩) rfl ?_
    refine .nil ?_
    refine .seq ?_
    refine .region ?_
    refine .q (x := .clo 23 [.ref 1 0]) (q_move rfl) rfl ?_
    refine .q (x := .ref 0 7) (q_fieldRef fo_31_7 rfl) rfl ?_
    refine .q (x := .d (cI v0.call)) (q_loadO one_3 rfl rfl rfl) rfl ?_
    obtain ⟨y10, hy10, H⟩ := bind_some' H
    refine .callFC en_23 rfl rfl [1] [3] (x := .d (.tup [])) (st' := ⟨[.row 31 [.d (cI v0.source), .d (cI v0.serial), .d (cI v0.kind), .d (cS v0.a), .d (cS v0.b), .d (cI v0.start), .d (cI v0.units), .d (cI v0.call), .d (cI v0.part), .d (cB v0.last), .d (cI v0.trunk), .d (cB v0.inbound)], .row 22 [.tsl 1 (y10.map rB8) 4]], [⟨5, 1, y2.length, none⟩, ⟨5, 1, y7.length, none⟩, ⟨5, 1, y8.length, none⟩, ⟨5, 1, y9.length, none⟩, ⟨5, 1, y10.length, none⟩]⟩) rfl (c_g_packed_Encode_1_v1 (hy10)) ⟨.rfl' _, .rfl' _, .rfl' _, trivial⟩ rfl rfl rfl rfl rfl rfl ?_
    refine .withSt (st' := ⟨[.row 31 [.d (cI v0.source), .d (cI v0.serial), .d (cI v0.kind), .d (cS v0.a), .d (cS v0.b), .d (cI v0.start), .d (cI v0.units), .d (cI v0.call), .d (cI v0.part), .d (cB v0.last), .d (cI v0.trunk), .d (cB v0.inbound)], .row 22 [.tsl 1 (y10.map rB8) 4]], [⟨5, 1, y2.length, none⟩, ⟨5, 1, y7.length, none⟩, ⟨5, 1, y8.length, none⟩, ⟨5, 1, y9.length, none⟩, ⟨5, 1, y10.length, none⟩]⟩) rfl ?_
    refine .nil ?_
    refine .seq ?_
    refine .region ?_
    refine .q (x := .clo 23 [.ref 1 0]) (q_move rfl) rfl ?_
    refine .q (x := .ref 0 8) (q_fieldRef fo_31_8 rfl) rfl ?_
    refine .q (x := .d (cI v0.part)) (q_loadO one_3 rfl rfl rfl) rfl ?_
    obtain ⟨y11, hy11, H⟩ := bind_some' H
    refine .callFC en_23 rfl rfl [1] [4] (x := .d (.tup [])) (st' := ⟨[.row 31 [.d (cI v0.source), .d (cI v0.serial), .d (cI v0.kind), .d (cS v0.a), .d (cS v0.b), .d (cI v0.start), .d (cI v0.units), .d (cI v0.call), .d (cI v0.part), .d (cB v0.last), .d (cI v0.trunk), .d (cB v0.inbound)], .row 22 [.tsl 1 (y11.map rB8) 5]], [⟨5, 1, y2.length, none⟩, ⟨5, 1, y7.length, none⟩, ⟨5, 1, y8.length, none⟩, ⟨5, 1, y9.length, none⟩, ⟨5, 1, y10.length, none⟩, ⟨5, 1, y11.length, none⟩]⟩) rfl (c_g_packed_Encode_1_v1 (hy11)) ⟨.rfl' _, .rfl' _, .rfl' _, trivial⟩ rfl rfl rfl rfl rfl rfl ?_
    refine .withSt (st' := ⟨[.row 31 [.d (cI v0.source), .d (cI v0.serial), .d (cI v0.kind), .d (cS v0.a), .d (cS v0.b), .d (cI v0.start), .d (cI v0.units), .d (cI v0.call), .d (cI v0.part), .d (cB v0.last), .d (cI v0.trunk), .d (cB v0.inbound)], .row 22 [.tsl 1 (y11.map rB8) 5]], [⟨5, 1, y2.length, none⟩, ⟨5, 1, y7.length, none⟩, ⟨5, 1, y8.length, none⟩, ⟨5, 1, y9.length, none⟩, ⟨5, 1, y10.length, none⟩, ⟨5, 1, y11.length, none⟩]⟩) rfl ?_
    refine .nil ?_
    refine .seq ?_
    refine .region ?_
    refine .q (x := .clo 23 [.ref 1 0]) (q_move rfl) rfl ?_
    refine .q (x := .ref 0 10) (q_fieldRef fo_31_10 rfl) rfl ?_
    refine .q (x := .d (cI v0.trunk)) (q_loadO one_3 rfl rfl rfl) rfl ?_
    obtain ⟨y12, hy12, H⟩ := bind_some' H
    refine .callFC en_23 rfl rfl [1] [5] (x := .d (.tup [])) (st' := ⟨[.row 31 [.d (cI v0.source), .d (cI v0.serial), .d (cI v0.kind), .d (cS v0.a), .d (cS v0.b), .d (cI v0.start), .d (cI v0.units), .d (cI v0.call), .d (cI v0.part), .d (cB v0.last), .d (cI v0.trunk), .d (cB v0.inbound)], .row 22 [.tsl 1 (y12.map rB8) 6]], [⟨5, 1, y2.length, none⟩, ⟨5, 1, y7.length, none⟩, ⟨5, 1, y8.length, none⟩, ⟨5, 1, y9.length, none⟩, ⟨5, 1, y10.length, none⟩, ⟨5, 1, y11.length, none⟩, ⟨5, 1, y12.length, none⟩]⟩) rfl (c_g_packed_Encode_1_v1 (hy12)) ⟨.rfl' _, .rfl' _, .rfl' _, trivial⟩ rfl rfl rfl rfl rfl rfl ?_
    refine .withSt (st' := ⟨[.row 31 [.d (cI v0.source), .d (cI v0.serial), .d (cI v0.kind), .d (cS v0.a), .d (cS v0.b), .d (cI v0.start), .d (cI v0.units), .d (cI v0.call), .d (cI v0.part), .d (cB v0.last), .d (cI v0.trunk), .d (cB v0.inbound)], .row 22 [.tsl 1 (y12.map rB8) 6]], [⟨5, 1, y2.length, none⟩, ⟨5, 1, y7.length, none⟩, ⟨5, 1, y8.length, none⟩, ⟨5, 1, y9.length, none⟩, ⟨5, 1, y10.length, none⟩, ⟨5, 1, y11.length, none⟩, ⟨5, 1, y12.length, none⟩]⟩) rfl ?_
    refine .nil ?_
    refine .seq ?_
    refine .drawn 4 hMix (by kernel_rfl) ?_
    show DOps _ _ _ _ _ _ _ (_ :: _) _ _ _
    refine .q (x := .tsl 1 (y12.map rB8) 6) (q_loadO one_22 rfl rfl rfl) rfl ?_
    refine .q (x := .tsl 1 (y12.map rB8) 6) (q_loadO one_22 rfl rfl rfl) rfl ?_
    obtain ⟨y13, hy13, H⟩ := bind_some' H
    refine .g (x := .d (cU8 y13)) (g_call en_26 rfl rfl (c_f_packed_sum (hy13))) rfl ?_
    refine .g (x := .d (slOf 1 rB8 ([y13] : List UInt8))) (g_buildSlice1 Tryd.underlying22 hi5 hs5 hz5 rfl rfl rfl rfl rfl) rfl ?_
    refine .nil ?_
    show AOps _ _ _ _ _ _ (_ :: _) _ _ _
    obtain ⟨hk3, H⟩ := ck_some H
    refine .v (x := .tsl 1 ((y12 ++ ([y13] : List UInt8)).map rB8) 6) (v_appendL (l := y12) (l' := ([y13] : List UInt8)) (row := rB8) Tryd.underlying22 hi5 hz5 hs5 rfl (by rw [hb5]; decide) rfl rfl rfl rfl hk3) rfl ?_
    refine .withSt (st' := ⟨[.row 31 [.d (cI v0.source), .d (cI v0.serial), .d (cI v0.kind), .d (cS v0.a), .d (cS v0.b), .d (cI v0.start), .d (cI v0.units), .d (cI v0.call), .d (cI v0.part), .d (cB v0.last), .d (cI v0.trunk), .d (cB v0.inbound)], .row 22 [.tsl 1 (y12.map rB8) 6]], [⟨5, 1, y2.length, none⟩, ⟨5, 1, y7.length, none⟩, ⟨5, 1, y8.length, none⟩, ⟨5, 1, y9.length, none⟩, ⟨5, 1, y10.length, none⟩, ⟨5, 1, y11.length, none⟩, ⟨5, 1, (y12 ++ ([y13] : List UInt8)).length, none⟩]⟩) rfl ?_
    refine .q (x := .tsl 1 ((y12 ++ ([y13] : List UInt8)).map rB8) 6) (q_assign rfl) rfl ?_
    refine .q (x := .d (cI 0)) (q_assign rfl) rfl ?_
    refine .nil ?_
    refine .retN [.tmp 2, .tmp 3] [.tsl 1 ((y12 ++ ([y13] : List UInt8)).map rB8) 6, .d (cI 0)] Tryd.func14 Tryd.results14 ⟨rfl, rfl, trivial⟩ ?_
    cases H
    exact ⟨_, EVle.tupL (ds := [slOf 1 rB8 (y12 ++ ([y13] : List UInt8)), cI 0]) ⟨.tsl _ _ _, .rfl' _, trivial⟩, rfl⟩

set_option maxRecDepth 100000 in
set_option maxHeartbeats 1000000 in
theorem c_f_billinglaw11_awake {r : Bool} (H : f_billinglaw11_awake = some r) : ACall Tryd.prog 8 [] (· = cB r) := by
  obtain ⟨i5, hi5, hz5, hs5, hb5⟩ := in_5
  obtain ⟨i31, hi31, hz31, hs31, hb31⟩ := in_31
  refine ACall.enter' Tryd.func8 rfl Tryd.ntmps8 rfl fun S hS => ?_
  unfold f_billinglaw11_awake at H
  change ARun _ _ _ _ _ _ [] _
  refine .seq ?_
  refine .region ?_
  refine .q (x := .d (cB false)) (q_assign rfl) rfl ?_
  refine .nil ?_
  refine .seq ?_
  refine .region ?_
  obtain ⟨y1, hy1, H⟩ := bind_some' H
  refine .g (x := .d (.tup [slOf 1 rB8 y1.1, cI y1.2])) (g_call en_9 rfl rfl ((c_f_packed_PutDecimal (hy1)).le ⟨.nil 1, .rfl' _, .rfl' _, trivial⟩)) rfl ?_
  refine .q (x := .d (.tup [slOf 1 rB8 y1.1, cI y1.2])) (q_move rfl) rfl ?_
  refine .q (x := .d (slOf 1 rB8 y1.1)) (q_extract rfl rfl) rfl ?_
  refine .q (x := .d (cI y1.2)) (q_extract rfl rfl) rfl ?_
  refine .q (x := .d (slOf 1 rB8 y1.1)) (q_assign rfl) rfl ?_
  refine .q (x := .d (cI y1.2)) (q_assign rfl) rfl ?_
  refine .nil ?_
  refine .seq ?_
  refine .region ?_
  obtain ⟨y2, hy2, H⟩ := bind_some' H
  refine .g (x := .d (.tup [slOf 1 rB8 y2.1, cI y2.2])) (g_call en_9 rfl rfl ((c_f_packed_PutDecimal (hy2)).le ⟨.nil 1, .rfl' _, .rfl' _, trivial⟩)) rfl ?_
  refine .q (x := .d (.tup [slOf 1 rB8 y2.1, cI y2.2])) (q_move rfl) rfl ?_
  refine .q (x := .d (slOf 1 rB8 y2.1)) (q_extract rfl rfl) rfl ?_
  refine .q (x := .d (cI y2.2)) (q_extract rfl rfl) rfl ?_
  refine .q (x := .d (slOf 1 rB8 y2.1)) (q_assign rfl) rfl ?_
  refine .q (x := .d (cI y2.2)) (q_assign rfl) rfl ?_
  refine .nil ?_
  refine .seq ?_
  refine .region ?_
  refine .g (x := .d (slOf 1 rB8 ([10] : List UInt8))) (g_buildSlice1 Tryd.underlying22 hi5 hs5 hz5 rfl rfl rfl rfl rfl) rfl ?_
  obtain ⟨y3, hy3, H⟩ := bind_some' H
  refine .g (x := .d (.tup [cI y3.1, cI y3.2])) (g_call en_11 rfl rfl (c_f_packed_Decimal (hy3))) rfl ?_
  refine .q (x := .d (.tup [cI y3.1, cI y3.2])) (q_move rfl) rfl ?_
  refine .q (x := .d (cI y3.1)) (q_extract rfl rfl) rfl ?_
  refine .q (x := .d (cI y3.2)) (q_extract rfl rfl) rfl ?_
  refine .q (x := .d (cI y3.1)) (q_assign rfl) rfl ?_
  refine .q (x := .d (cI y3.2)) (q_assign rfl) rfl ?_
  refine .nil ?_
  refine .seq ?_
  refine .region ?_
  refine .q (x := .d (.agg (Record.row (⟨1, 300, 3, ([49, 50, 51] : List UInt8), ([] : List UInt8), 0, 2, 0, 0, false, 0, false⟩ : Record)))) (q_buildP pl_31 hi31 hz31 rfl rfl) rfl ?_
  obtain ⟨y4, hy4, H⟩ := bind_some' H
  refine .g (x := .d (.tup [slOf 1 rB8 y4.1, cI y4.2])) (g_call en_14 rfl rfl (c_f_packed_Encode (hy4))) rfl ?_
  refine .q (x := .d (.tup [slOf 1 rB8 y4.1, cI y4.2])) (q_move rfl) rfl ?_
  refine .q (x := .d (slOf 1 rB8 y4.1)) (q_extract rfl rfl) rfl ?_
  refine .q (x := .d (cI y4.2)) (q_extract rfl rfl) rfl ?_
  refine .q (x := .d (slOf 1 rB8 y4.1)) (q_assign rfl) rfl ?_
  refine .q (x := .d (cI y4.2)) (q_assign rfl) rfl ?_
  refine .nil ?_
  refine .seq ?_
  refine .seq ?_
  refine .region ?_
  refine .q (x := .d (cI y1.2)) (q_move rfl) rfl ?_
  refine .q (x := .d (cB (y1.2 != 0))) (q_neq rfl rfl) rfl ?_
  refine .q (x := .d (cB (y1.2 != 0))) (q_move rfl) rfl ?_
  refine .guardG (b := (!(y1.2 != 0))) (x := .d (cI y2.2)) (env' := [(4, _)]) rfl rfl rfl ⟨.inl rfl, trivial⟩ rfl (fun hg => OpQ.g (q_move rfl)) ?_
  refine .guardG (b := (!(y1.2 != 0))) (x := .d (cB (y2.2 != 6))) (env' := [(30, _)]) rfl rfl rfl ⟨.inr (.inl rfl), trivial⟩ rfl (fun hg => OpQ.g (q_neq rfl rfl)) ?_
  refine .q (x := .d (cB ((y1.2 != 0) || (y2.2 != 6)))) (q_pickOrB rfl rfl rfl) rfl ?_
  refine .q (x := .d (cB ((y1.2 != 0) || (y2.2 != 6)))) (q_move rfl) rfl ?_
  refine .guardG (b := (!((y1.2 != 0) || (y2.2 != 6)))) (x := .d (cI y3.2)) (env' := [(6, _)]) rfl rfl rfl ⟨.inl rfl, trivial⟩ rfl (fun hg => OpQ.g (q_move rfl)) ?_
  refine .guardG (b := (!((y1.2 != 0) || (y2.2 != 6)))) (x := .d (cB (y3.2 != 1))) (env' := [(34, _)]) rfl rfl rfl ⟨.inr (.inl rfl), trivial⟩ rfl (fun hg => OpQ.g (q_neq rfl rfl)) ?_
  refine .q (x := .d (cB (((y1.2 != 0) || (y2.2 != 6)) || (y3.2 != 1)))) (q_pickOrB rfl rfl rfl) rfl ?_
  refine .q (x := .d (cB (((y1.2 != 0) || (y2.2 != 6)) || (y3.2 != 1)))) (q_move rfl) rfl ?_
  refine .guardG (b := (!(((y1.2 != 0) || (y2.2 != 6)) || (y3.2 != 1)))) (x := .d (cI y4.2)) (env' := [(8, _)]) rfl rfl rfl ⟨.inl rfl, trivial⟩ rfl (fun hg => OpQ.g (q_move rfl)) ?_
  refine .guardG (b := (!(((y1.2 != 0) || (y2.2 != 6)) || (y3.2 != 1)))) (x := .d (cB (y4.2 != 0))) (env' := [(38, _)]) rfl rfl rfl ⟨.inr (.inl rfl), trivial⟩ rfl (fun hg => OpQ.g (q_neq rfl rfl)) ?_
  refine .q (x := .d (cB ((((y1.2 != 0) || (y2.2 != 6)) || (y3.2 != 1)) || (y4.2 != 0)))) (q_pickOrB rfl rfl rfl) rfl ?_
  refine .q (x := .d (cB ((((y1.2 != 0) || (y2.2 != 6)) || (y3.2 != 1)) || (y4.2 != 0)))) (q_move rfl) rfl ?_
  refine .guardG (b := (!((((y1.2 != 0) || (y2.2 != 6)) || (y3.2 != 1)) || (y4.2 != 0)))) (x := .d (slOf 1 rB8 y4.1)) (env' := [(7, _)]) rfl rfl rfl ⟨.inl rfl, trivial⟩ rfl (fun hg => OpQ.g (q_move rfl)) ?_
  refine .guardG (b := (!((((y1.2 != 0) || (y2.2 != 6)) || (y3.2 != 1)) || (y4.2 != 0)))) (x := .d (cI (y4.1.length : Int))) (env' := [(42, _)]) rfl rfl rfl ⟨.inr (.inl rfl), trivial⟩ rfl (fun hg => OpQ.g (q_lenL (l := y4.1) (row := rB8) Tryd.underlying22 rfl rfl)) ?_
  refine .guardG (b := (!((((y1.2 != 0) || (y2.2 != 6)) || (y3.2 != 1)) || (y4.2 != 0)))) (x := .d (cB ((y4.1.length : Int) != 45))) (env' := [(43, _)]) rfl rfl rfl ⟨.inr (.inl rfl), trivial⟩ rfl (fun hg => OpQ.g (q_neq rfl rfl)) ?_
  refine .q (x := .d (cB (((((y1.2 != 0) || (y2.2 != 6)) || (y3.2 != 1)) || (y4.2 != 0)) || ((y4.1.length : Int) != 45)))) (q_pickOrB rfl rfl rfl) rfl ?_
  refine .nil ?_
  refine .cond rfl (fun hc => ?_) (fun hc => ?_)
  · replace H := ifT hc H; clear hc
    refine .seq ?_
    refine .region ?_
    refine .q (x := .d (cB false)) (q_assign rfl) rfl ?_
    refine .nil ?_
    refine .retN [.tmp 0] [.d (cB false)] Tryd.func8 Tryd.results8 ⟨rfl, trivial⟩ ?_
    cases H
    exact ⟨_, .rfl' _, rfl⟩
  · replace H := ifF hc H; clear hc
    refine .skip ?_
    refine .seq ?_
    refine .region ?_
    refine .q (x := .d (slOf 1 rB8 y1.1)) (q_move rfl) rfl ?_
    refine .q (x := .d (cS y1.1)) (q_bytesStrL (a := y1.1) Tryd.underlying22 Tryd.underlying5 Tryd.underlying9 rfl rfl) rfl ?_
    refine .q (x := .d (cB (y1.1 == ([0, 18, 52] : List UInt8)))) (q_seql rfl rfl) rfl ?_
    refine .q (x := .d (cB (y1.1 == ([0, 18, 52] : List UInt8)))) (q_move rfl) rfl ?_
    refine .guardG (b := (y1.1 == ([0, 18, 52] : List UInt8))) (x := .d (slOf 1 rB8 y4.1)) (env' := [(7, _)]) rfl rfl rfl ⟨.inl rfl, trivial⟩ rfl (fun hg => OpQ.g (q_move rfl)) ?_
    obtain ⟨hk1, H⟩ := ck_some H
    refine .guardG (b := (y1.1 == ([0, 18, 52] : List UInt8))) (x := .d (slOf 1 rB8 (y4.1.take (Int.toNat ((15 : Int)))))) (env' := [(50, _)]) rfl rfl rfl ⟨.inr (.inl rfl), trivial⟩ rfl (fun hg => OpQ.g (q_slHL (l := y4.1) (row := rB8) Tryd.underlying22 hi5 hs5 rfl rfl rfl (hk1 hg))) ?_
    refine .guardG (b := (y1.1 == ([0, 18, 52] : List UInt8))) (x := .d (cS (y4.1.take (Int.toNat ((15 : Int)))))) (env' := [(51, _)]) rfl rfl rfl ⟨.inr (.inl rfl), trivial⟩ rfl (fun hg => OpQ.g (q_bytesStrL (a := y4.1.take (Int.toNat ((15 : Int)))) Tryd.underlying22 Tryd.underlying5 Tryd.underlying9 rfl rfl)) ?_
    refine .guardG (b := (y1.1 == ([0, 18, 52] : List UInt8))) (x := .d (cB ((y4.1.take (Int.toNat ((15 : Int)))) == ([1, 0, 0, 0, 3, 0, 48, 49, 35, 0, 0, 0, 0, 0, 0] : List UInt8)))) (env' := [(52, _)]) rfl rfl rfl ⟨.inr (.inl rfl), trivial⟩ rfl (fun hg => OpQ.g (q_seql rfl rfl)) ?_
    refine .q (x := .d (cB ((y1.1 == ([0, 18, 52] : List UInt8)) && ((y4.1.take (Int.toNat ((15 : Int)))) == ([1, 0, 0, 0, 3, 0, 48, 49, 35, 0, 0, 0, 0, 0, 0] : List UInt8))))) (q_pickAndB rfl rfl rfl) rfl ?_
    refine .q (x := .d (cB ((y1.1 == ([0, 18, 52] : List UInt8)) && ((y4.1.take (Int.toNat ((15 : Int)))) == ([1, 0, 0, 0, 3, 0, 48, 49, 35, 0, 0, 0, 0, 0, 0] : List UInt8))))) (q_move rfl) rfl ?_
    refine .guardG (b := ((y1.1 == ([0, 18, 52] : List UInt8)) && ((y4.1.take (Int.toNat ((15 : Int)))) == ([1, 0, 0, 0, 3, 0, 48, 49, 35, 0, 0, 0, 0, 0, 0] : List UInt8)))) (x := .d (slOf 1 rB8 y4.1)) (env' := [(7, _)]) rfl rfl rfl ⟨.inl rfl, trivial⟩ rfl (fun hg => OpQ.g (q_move rfl)) ?_
    obtain ⟨hk2, H⟩ := ck_some H
    refine .guardG (b := ((y1.1 == ([0, 18, 52] : List UInt8)) && ((y4.1.take (Int.toNat ((15 : Int)))) == ([1, 0, 0, 0, 3, 0, 48, 49, 35, 0, 0, 0, 0, 0, 0] : List UInt8)))) (x := .d (.ro (rB8 (nth y4.1 (Int.toNat (35)))))) (env' := [(56, _)]) rfl rfl rfl ⟨.inr (.inl rfl), trivial⟩ rfl (fun hg => OpQ.g (q_idxL (row := rB8) (l := y4.1) (i := 35) Tryd.underlying22 hi5 hs5 rfl rfl rfl (hk2 hg))) ?_
    refine .guardG (b := ((y1.1 == ([0, 18, 52] : List UInt8)) && ((y4.1.take (Int.toNat ((15 : Int)))) == ([1, 0, 0, 0, 3, 0, 48, 49, 35, 0, 0, 0, 0, 0, 0] : List UInt8)))) (x := .d (cU8 (nth y4.1 (Int.toNat (35))))) (env' := [(57, _)]) rfl rfl rfl ⟨.inr (.inl rfl), trivial⟩ rfl (fun hg => OpQ.g (q_load one_5 rfl)) ?_
    refine .guardG (b := ((y1.1 == ([0, 18, 52] : List UInt8)) && ((y4.1.take (Int.toNat ((15 : Int)))) == ([1, 0, 0, 0, 3, 0, 48, 49, 35, 0, 0, 0, 0, 0, 0] : List UInt8)))) (x := .d (cB ((nth y4.1 (Int.toNat (35))) == 2))) (env' := [(58, _)]) rfl rfl rfl ⟨.inr (.inl rfl), trivial⟩ rfl (fun hg => OpQ.g (q8_eql (a := nth y4.1 (Int.toNat (35))) (b := 2) rfl rfl)) ?_
    refine .q (x := .d (cB (((y1.1 == ([0, 18, 52] : List UInt8)) && ((y4.1.take (Int.toNat ((15 : Int)))) == ([1, 0, 0, 0, 3, 0, 48, 49, 35, 0, 0, 0, 0, 0, 0] : List UInt8))) && ((nth y4.1 (Int.toNat (35))) == 2)))) (q_pickAndB rfl rfl rfl) rfl ?_
    refine .q (x := .d (cB (((y1.1 == ([0, 18, 52] : List UInt8)) && ((y4.1.take (Int.toNat ((15 : Int)))) == ([1, 0, 0, 0, 3, 0, 48, 49, 35, 0, 0, 0, 0, 0, 0] : List UInt8))) && ((nth y4.1 (Int.toNat (35))) == 2)))) (q_move rfl) rfl ?_
    refine .guardG (b := (((y1.1 == ([0, 18, 52] : List UInt8)) && ((y4.1.take (Int.toNat ((15 : Int)))) == ([1, 0, 0, 0, 3, 0, 48, 49, 35, 0, 0, 0, 0, 0, 0] : List UInt8))) && ((nth y4.1 (Int.toNat (35))) == 2))) (x := .d (slOf 1 rB8 y4.1)) (env' := [(7, _)]) rfl rfl rfl ⟨.inl rfl, trivial⟩ rfl (fun hg => OpQ.g (q_move rfl)) ?_
    obtain ⟨hk3, H⟩ := ck_some H
    refine .guardG (b := (((y1.1 == ([0, 18, 52] : List UInt8)) && ((y4.1.take (Int.toNat ((15 : Int)))) == ([1, 0, 0, 0, 3, 0, 48, 49, 35, 0, 0, 0, 0, 0, 0] : List UInt8))) && ((nth y4.1 (Int.toNat (35))) == 2))) (x := .d (.ro (rB8 (nth y4.1 (Int.toNat (44)))))) (env' := [(62, _)]) rfl rfl rfl ⟨.inr (.inl rfl), trivial⟩ rfl (fun hg => OpQ.g (q_idxL (row := rB8) (l := y4.1) (i := 44) Tryd.underlying22 hi5 hs5 rfl rfl rfl (hk3 hg))) ?_
    refine .guardG (b := (((y1.1 == ([0, 18, 52] : List UInt8)) && ((y4.1.take (Int.toNat ((15 : Int)))) == ([1, 0, 0, 0, 3, 0, 48, 49, 35, 0, 0, 0, 0, 0, 0] : List UInt8))) && ((nth y4.1 (Int.toNat (35))) == 2))) (x := .d (cU8 (nth y4.1 (Int.toNat (44))))) (env' := [(63, _)]) rfl rfl rfl ⟨.inr (.inl rfl), trivial⟩ rfl (fun hg => OpQ.g (q_load one_5 rfl)) ?_
    refine .guardG (b := (((y1.1 == ([0, 18, 52] : List UInt8)) && ((y4.1.take (Int.toNat ((15 : Int)))) == ([1, 0, 0, 0, 3, 0, 48, 49, 35, 0, 0, 0, 0, 0, 0] : List UInt8))) && ((nth y4.1 (Int.toNat (35))) == 2))) (x := .d (cB ((nth y4.1 (Int.toNat (44))) == 138))) (env' := [(64, _)]) rfl rfl rfl ⟨.inr (.inl rfl), trivial⟩ rfl (fun hg => OpQ.g (q8_eql (a := nth y4.1 (Int.toNat (44))) (b := 138) rfl rfl)) ?_
    refine .q (x := .d (cB ((((y1.1 == ([0, 18, 52] : List UInt8)) && ((y4.1.take (Int.toNat ((15 : Int)))) == ([1, 0, 0, 0, 3, 0, 48, 49, 35, 0, 0, 0, 0, 0, 0] : List UInt8))) && ((nth y4.1 (Int.toNat (35))) == 2)) && ((nth y4.1 (Int.toNat (44))) == 138)))) (q_pickAndB rfl rfl rfl) rfl ?_
    refine .q (x := .d (cB ((((y1.1 == ([0, 18, 52] : List UInt8)) && ((y4.1.take (Int.toNat ((15 : Int)))) == ([1, 0, 0, 0, 3, 0, 48, 49, 35, 0, 0, 0, 0, 0, 0] : List UInt8))) && ((nth y4.1 (Int.toNat (35))) == 2)) && ((nth y4.1 (Int.toNat (44))) == 138)))) (q_assign rfl) rfl ?_
    refine .nil ?_
    refine .retN [.tmp 0] [.d (cB ((((y1.1 == ([0, 18, 52] : List UInt8)) && ((y4.1.take (Int.toNat ((15 : Int)))) == ([1, 0, 0, 0, 3, 0, 48, 49, 35, 0, 0, 0, 0, 0, 0] : List UInt8))) && ((nth y4.1 (Int.toNat (35))) == 2)) && ((nth y4.1 (Int.toNat (44))) == 138)))] Tryd.func8 Tryd.results8 ⟨rfl, trivial⟩ ?_
    cases H
    exact ⟨_, .rfl' _, rfl⟩

set_option maxRecDepth 100000 in
set_option maxHeartbeats 1000000 in
theorem c_f_billingref11_PutDecimal {v0b : List UInt8} {v1n : Int} {v2size : Int} {r : (List UInt8) × Int} (H : f_billingref11_PutDecimal v0b v1n v2size = some r) : ACall Tryd.prog 10 [slOf 1 rB8 v0b, cI v1n, cI v2size] (· = .tup [slOf 1 rB8 r.1, cI r.2]) := by
  obtain ⟨i5, hi5, hz5, hs5, hb5⟩ := in_5
  refine ACall.enter' Tryd.func10 rfl Tryd.ntmps10 rfl fun S hS => ?_
  unfold f_billingref11_PutDecimal at H
  change ARun _ _ _ _ _ _ [(0, .d (slOf 1 rB8 v0b)), (1, .d (cI v1n)), (2, .d (cI v2size))] _
  refine .seq ?_
  refine .region ?_
  refine .q (x := .d (nilD)) (q_assign rfl) rfl ?_
  refine .q (x := .d (cI 0)) (q_assign rfl) rfl ?_
  refine .nil ?_
  refine .seq ?_
  refine .seq ?_
  refine .region ?_
  refine .q (x := .d (cI v2size)) (q_move rfl) rfl ?_
  refine .q (x := .d (cB (decide (v2size < 1)))) (q_lss rfl rfl) rfl ?_
  refine .q (x := .d (cB (decide (v2size < 1)))) (q_move rfl) rfl ?_
  refine .guardG (b := (!(decide (v2size < 1)))) (x := .d (cI v2size)) (env' := [(2, _)]) rfl rfl rfl ⟨.inl rfl, trivial⟩ rfl (fun hg => OpQ.g (q_move rfl)) ?_
  refine .guardG (b := (!(decide (v2size < 1)))) (x := .d (cB (decide (v2size > 9)))) (env' := [(13, _)]) rfl rfl rfl ⟨.inr (.inl rfl), trivial⟩ rfl (fun hg => OpQ.g (q_gtr rfl rfl)) ?_
  refine .q (x := .d (cB ((decide (v2size < 1)) || (decide (v2size > 9))))) (q_pickOrB rfl rfl rfl) rfl ?_
  refine .q (x := .d (cB ((decide (v2size < 1)) || (decide (v2size > 9))))) (q_move rfl) rfl ?_
  refine .guardG (b := (!((decide (v2size < 1)) || (decide (v2size > 9))))) (x := .d (cI v1n)) (env' := [(1, _)]) rfl rfl rfl ⟨.inl rfl, trivial⟩ rfl (fun hg => OpQ.g (q_move rfl)) ?_
  refine .guardG (b := (!((decide (v2size < 1)) || (decide (v2size > 9))))) (x := .d (cB (decide (v1n < 0)))) (env' := [(17, _)]) rfl rfl rfl ⟨.inr (.inl rfl), trivial⟩ rfl (fun hg => OpQ.g (q_lss rfl rfl)) ?_
  refine .q (x := .d (cB (((decide (v2size < 1)) || (decide (v2size > 9))) || (decide (v1n < 0))))) (q_pickOrB rfl rfl rfl) rfl ?_
  refine .nil ?_
  refine .cond rfl (fun hc => ?_) (fun hc => ?_)
  · replace H := ifT hc H; clear hc
    refine .seq ?_
    refine .region ?_
    refine .q (x := .d (nilD)) (q_assign rfl) rfl ?_
    refine .q (x := .d (cI 6)) (q_assign rfl) rfl ?_
    refine .nil ?_
    refine .retN [.tmp 6, .tmp 7] [.d (nilD), .d (cI 6)] Tryd.func10 Tryd.results10 ⟨rfl, rfl, trivial⟩ ?_
    cases H
    exact ⟨_, EVle.tupL (ds := [slOf 1 rB8 ([] : List UInt8), cI 6]) ⟨.nil 1, .rfl' _, trivial⟩, rfl⟩
  · replace H := ifF hc H; clear hc
    refine .skip ?_
    refine .seq ?_
    refine .region ?_
    refine .q (x := .d (cI v2size)) (q_move rfl) rfl ?_
    obtain ⟨hk1, H⟩ := ck_some H
    refine .v (x := .vc 0 ((List.replicate (Int.toNat (v2size)) 0 : List UInt8).length)) (v_makeV (row := rB8) (a := v2size) (b := v2size) (a0 := 0) Tryd.underlying22 hi5 hz5 hs5 rfl (by rw [hb5]; decide) rfl rfl rfl hk1) rfl ?_
    refine .withSt (st' := ⟨[], [⟨5, 1, ((List.replicate (Int.toNat (v2size)) 0 : List UInt8).length), some ((List.replicate (Int.toNat (v2size)) 0 : List UInt8).map rB8)⟩]⟩) rfl ?_
    refine .q (x := .vc 0 ((List.replicate (Int.toNat (v2size)) 0 : List UInt8).length)) (q_assign rfl) rfl ?_
    refine .nil ?_
    refine .seq ?_
    refine .seq ?_
    refine .region ?_
    refine .q (x := .d (cI v2size)) (q_move rfl) rfl ?_
    obtain ⟨hk2, H⟩ := ck_some H
    refine .q (x := .d (cI (v2size - 1))) (q_subI rfl rfl hk2.1 hk2.2) rfl ?_
    refine .q (x := .d (cI (v2size - 1))) (q_assign rfl) rfl ?_
    refine .nil ?_
    refine .blockJoin2 (ι := List UInt8 × Int) (fun s => [(0, .d (slOf 1 rB8 v0b)), (1, .d (cI s.2)), (8, .vc 0 s.1.length)]) (fun s => ⟨[], [⟨5, 1, s.1.length, some (s.1.map rB8)⟩]⟩) (fun s => f_billingref11_PutDecimal_j1 v0b s.1 s.2 = some r) ?_ ?_
    · rintro ⟨y0tj1, v1nj1⟩ H
      replace H : f_billingref11_PutDecimal_j1 v0b y0tj1 v1nj1 = some r := H
      unfold f_billingref11_PutDecimal_j1 at H
      change ARun _ _ _ _ _ _ [(0, .d (slOf 1 rB8 v0b)), (1, .d (cI v1nj1)), (8, .vc 0 y0tj1.length)] ⟨[], [⟨5, 1, y0tj1.length, some (y0tj1.map rB8)⟩]⟩
      refine .seq ?_
      refine .seq ?_
      refine .region ?_
      refine .q (x := .d (cI v1nj1)) (q_move rfl) rfl ?_
      refine .q (x := .d (cB (decide (v1nj1 > 0)))) (q_gtr rfl rfl) rfl ?_
      refine .nil ?_
      refine .cond rfl (fun hc => ?_) (fun hc => ?_)
      · replace H := ifT hc H; clear hc
        refine .seq ?_
        refine .region ?_
        refine .q (x := .d (nilD)) (q_assign rfl) rfl ?_
        refine .q (x := .d (cI 6)) (q_assign rfl) rfl ?_
        refine .nil ?_
        refine .retN [.tmp 6, .tmp 7] [.d (nilD), .d (cI 6)] Tryd.func10 Tryd.results10 ⟨rfl, rfl, trivial⟩ ?_
        cases H
        exact ⟨_, EVle.tupL (ds := [slOf 1 rB8 ([] : List UInt8), cI 6]) ⟨.nil 1, .rfl' _, trivial⟩, rfl⟩
      · replace H := ifF hc H; clear hc
        refine .skip ?_
        refine .seq ?_
        refine .region ?_
        refine .v (x := .tsl 1 (([] : List UInt8).map rB8) 1) (v_build0T Tryd.underlying22 hi5 hs5) rfl ?_
        refine .withSt (st' := ⟨[], [⟨5, 1, y0tj1.length, some (y0tj1.map rB8)⟩, ⟨5, 1, ([] : List UInt8).length, none⟩]⟩) rfl ?_
        refine .q (x := .d (slOf 1 rB8 v0b)) (q_move rfl) rfl ?_
        obtain ⟨hk3, H⟩ := ck_some H
        refine .v (x := .tsl 1 ((([] : List UInt8) ++ v0b).map rB8) 1) (v_appendL (l := ([] : List UInt8)) (l' := v0b) (row := rB8) Tryd.underlying22 hi5 hz5 hs5 rfl (by rw [hb5]; decide) rfl rfl rfl rfl hk3) rfl ?_
        refine .withSt (st' := ⟨[], [⟨5, 1, y0tj1.length, some (y0tj1.map rB8)⟩, ⟨5, 1, (([] : List UInt8) ++ v0b).length, none⟩]⟩) rfl ?_
        refine .q (x := .vc 0 y0tj1.length) (q_move rfl) rfl ?_
        refine .freezeL (l := y0tj1) (row := rB8) (i := 46) rfl rfl ?_
        refine .withSt (st' := ⟨[], [⟨5, 1, y0tj1.length, none⟩, ⟨5, 1, (([] : List UInt8) ++ v0b).length, none⟩]⟩) rfl ?_
        obtain ⟨hk4, H⟩ := ck_some H
        refine .v (x := .tsl 1 (((([] : List UInt8) ++ v0b) ++ y0tj1).map rB8) 1) (v_appendL (l := ([] : List UInt8) ++ v0b) (l' := y0tj1) (row := rB8) Tryd.underlying22 hi5 hz5 hs5 rfl (by rw [hb5]; decide) rfl rfl rfl rfl hk4) rfl ?_
        refine .withSt (st' := ⟨[], [⟨5, 1, y0tj1.length, none⟩, ⟨5, 1, ((([] : List UInt8) ++ v0b) ++ y0tj1).length, none⟩]⟩) rfl ?_
        refine .q (x := .tsl 1 (((([] : List UInt8) ++ v0b) ++ y0tj1).map rB8) 1) (q_assign rfl) rfl ?_
        refine .q (x := .d (cI 0)) (q_assign rfl) rfl ?_
        refine .nil ?_
        refine .retN [.tmp 6, .tmp 7] [.tsl 1 (((([] : List UInt8) ++ v0b) ++ y0tj1).map rB8) 1, .d (cI 0)] Tryd.func10 Tryd.results10 ⟨rfl, rfl, trivial⟩ ?_
        cases H
        exact ⟨_, EVle.tupL (ds := [slOf 1 rB8 ((([] : List UInt8) ++ v0b) ++ y0tj1), cI 0]) ⟨.tsl _ _ _, .rfl' _, trivial⟩, rfl⟩
    · intro hj1 hj1x
      obtain ⟨n1, H⟩ := loop_some H
      refine .withSt (st' := ⟨[], [⟨5, 1, (List.replicate (Int.toNat (v2size)) 0 : List UInt8).length, some ((List.replicate (Int.toNat (v2size)) 0 : List UInt8).map rB8)⟩]⟩) rfl <| .loop (ι := Nat × (List UInt8 × Int × Int)) (fun p => [(0, .d (slOf 1 rB8 v0b)), (1, .d (cI p.2.2.1)), (8, .vc 0 p.2.1.length), (9, .d (cI p.2.2.2))]) (fun p => ⟨[], [⟨5, 1, p.2.1.length, some (p.2.1.map rB8)⟩]⟩) (fun p => iter (fun s => f_billingref11_PutDecimal_l1 v0b s.1 s.2.1 s.2.2) p.1 p.2 = some r) (·.1) (n1, ((List.replicate (Int.toNat (v2size)) 0 : List UInt8), v1n, v2size - 1)) H (.cons rfl (.rfl' _) (.cons rfl (.rfl' _) (.cons rfl (.rfl' _) (.cons rfl (.rfl' _) (.nil))))) rfl ?_
      rintro ⟨m1, y0tl1, v1nl1, v9il1⟩ HI ih1
      obtain ⟨n1, q1, hm1, H, HK1⟩ := iter_succ HI
      clear HI
      replace H : f_billingref11_PutDecimal_l1 v0b y0tl1 v1nl1 v9il1 = some q1 := H
      unfold f_billingref11_PutDecimal_l1 at H
      change ARun _ _ _ _ _ _ [(0, .d (slOf 1 rB8 v0b)), (1, .d (cI v1nl1)), (8, .vc 0 y0tl1.length), (9, .d (cI v9il1))] ⟨[], [⟨5, 1, y0tl1.length, some (y0tl1.map rB8)⟩]⟩
      refine .seq ?_
      refine .seq ?_
      refine .region ?_
      refine .q (x := .d (cI v9il1)) (q_move rfl) rfl ?_
      refine .q (x := .d (cB (decide (v9il1 ≥ 0)))) (q_geq rfl rfl) rfl ?_
      refine .nil ?_
      refine .cond rfl (fun hc => ?_) (fun hc => ?_)
      · replace H := ifT hc H; clear hc
        refine .skip ?_
        refine .seq ?_
        refine .block ?_
        refine .seq ?_
        refine .region ?_
        refine .q (x := .vc 0 y0tl1.length) (q_move rfl) rfl ?_
        refine .q (x := .d (cI v9il1)) (q_move rfl) rfl ?_
        refine .q (x := .d (cI v1nl1)) (q_move rfl) rfl ?_
        obtain ⟨hk5, H⟩ := ck_some H
        refine .q (x := .d (cI (Int.tdiv v1nl1 10))) (q_quoT rfl rfl hk5) rfl ?_
        obtain ⟨hk6, H⟩ := ck_some H
        refine .q (x := .d (cI (Int.tmod (Int.tdiv v1nl1 10) 10))) (q_remT rfl rfl hk6) rfl ?_
        obtain ⟨hk7, H⟩ := ck_some H
        refine .q (x := .d (cI ((Int.tmod (Int.tdiv v1nl1 10) 10) * 16))) (q_mulI rfl rfl hk7.1 hk7.2) rfl ?_
        refine .q (x := .d (cI v1nl1)) (q_move rfl) rfl ?_
        obtain ⟨hk8, H⟩ := ck_some H
        refine .q (x := .d (cI (Int.tmod v1nl1 10))) (q_remT rfl rfl hk8) rfl ?_
        obtain ⟨hk9, H⟩ := ck_some H
        refine .q (x := .d (cI (((Int.tmod (Int.tdiv v1nl1 10) 10) * 16) + (Int.tmod v1nl1 10)))) (q_addI rfl rfl hk9.1 hk9.2) rfl ?_
        refine .q (x := .d (cU8 (UInt8.ofInt (((Int.tmod (Int.tdiv v1nl1 10) 10) * 16) + (Int.tmod v1nl1 10))))) (q_conv8 Tryd.underlying3 Tryd.underlying5 rfl) rfl ?_
        obtain ⟨hk10, H⟩ := ck_some H
        refine .q (x := .vp 0 y0tl1.length (Int.toNat (v9il1)) 0) (q_idxV (l := y0tl1) (row := rB8) (i := v9il1) Tryd.underlying22 hi5 hs5 rfl rfl rfl hk10) rfl ?_
        obtain ⟨hk11, H⟩ := ck_some H
        refine .u (u_storeV (l := y0tl1) (row := rB8) (a := UInt8.ofInt (((Int.tmod (Int.tdiv v1nl1 10) 10) * 16) + (Int.tmod v1nl1 10))) rfl rfl hk11 rfl rfl sz_5 rfl (Nat.le_of_ble_eq_true rfl) rfl) rfl ?_
        refine .withSt (st' := ⟨[], [⟨5, 1, y0tl1.length, some ((y0tl1.set (Int.toNat (v9il1)) (UInt8.ofInt (((Int.tmod (Int.tdiv v1nl1 10) 10) * 16) + (Int.tmod v1nl1 10)))).map rB8)⟩]⟩) rfl ?_
        refine .nil ?_
        refine .region ?_
        refine .q (x := .d (cI v1nl1)) (q_move rfl) rfl ?_
        obtain ⟨hk12, H⟩ := ck_some H
        refine .q (x := .d (cI (Int.tdiv v1nl1 100))) (q_quoT rfl rfl hk12) rfl ?_
        refine .q (x := .d (cI (Int.tdiv v1nl1 100))) (q_assign rfl) rfl ?_
        refine .nil ?_
        refine .inBlock ?_
        refine .region ?_
        refine .q (x := .d (cI v9il1)) (q_move rfl) rfl ?_
        obtain ⟨hk13, H⟩ := ck_some H
        refine .q (x := .d (cI (v9il1 - 1))) (q_subI rfl rfl hk13.1 hk13.2) rfl ?_
        refine .q (x := .d (cI (v9il1 - 1))) (q_assign rfl) rfl ?_
        refine .nil ?_
        cases H
        refine .normV (l := y0tl1.set (Int.toNat (v9il1)) (UInt8.ofInt (((Int.tmod (Int.tdiv v1nl1 10) 10) * 16) + (Int.tmod v1nl1 10)))) (row := rB8) (tk := 0) (fun z => [(0, .d (slOf 1 rB8 v0b)), (1, .d (cI (Int.tdiv v1nl1 100))), (8, .vc 0 z), (9, .d (cI (v9il1 - 1)))]) (fun z => ⟨[], [⟨5, 1, z, some ((y0tl1.set (Int.toNat (v9il1)) (UInt8.ofInt (((Int.tmod (Int.tdiv v1nl1 10) 10) * 16) + (Int.tmod v1nl1 10)))).map rB8)⟩]⟩) rfl (.cons rfl (.rfl' _) (.cons rfl (.rfl' _) (.cons rfl (.rfl' _) (.cons rfl (.rfl' _) (.nil))))) rfl ?_
        exact .withSt (st' := ⟨[], [⟨5, 1, (y0tl1.set (Int.toNat (v9il1)) (UInt8.ofInt (((Int.tmod (Int.tdiv v1nl1 10) 10) * 16) + (Int.tmod v1nl1 10)))).length, some ((y0tl1.set (Int.toNat (v9il1)) (UInt8.ofInt (((Int.tmod (Int.tdiv v1nl1 10) 10) * 16) + (Int.tmod v1nl1 10)))).map rB8)⟩]⟩) rfl <| .sub (.cons rfl (.rfl' _) (.cons rfl (.rfl' _) (.cons rfl (.rfl' _) (.cons rfl (.rfl' _) (.nil))))) (ih1 (n1, (y0tl1.set (Int.toNat (v9il1)) (UInt8.ofInt (((Int.tmod (Int.tdiv v1nl1 10) 10) * 16) + (Int.tmod v1nl1 10))), Int.tdiv v1nl1 100, v9il1 - 1)) HK1 hm1)
      · replace H := ifF hc H; clear hc
        refine .exit rfl ?_
        obtain ⟨q0, H9, hq0⟩ := map_some' H; clear H; cases hq0
        cases HK1
        have H := H9
        exact .withSt (st' := ⟨[], [⟨5, 1, y0tl1.length, some (y0tl1.map rB8)⟩]⟩) rfl <| .sub (.cons rfl (.rfl' _) (.cons rfl (.rfl' _) (.cons rfl (.rfl' _) (.nil)))) (hj1x (y0tl1, v1nl1) H)

set_option maxRecDepth 100000 in
set_option maxHeartbeats 1000000 in
theorem c_f_billingref11_Decimal {v0b : List UInt8} {r : Int × Int} (H : f_billingref11_Decimal v0b = some r) : ACall Tryd.prog 12 [slOf 1 rB8 v0b] (· = .tup [cI r.1, cI r.2]) := by
  obtain ⟨i5, hi5, hz5, hs5, hb5⟩ := in_5
  refine ACall.enter' Tryd.func12 rfl Tryd.ntmps12 rfl fun S hS => ?_
  unfold f_billingref11_Decimal at H
  change ARun _ _ _ _ _ _ [(0, .d (slOf 1 rB8 v0b))] _
  refine .seq ?_
  refine .region ?_
  refine .q (x := .d (cI 0)) (q_assign rfl) rfl ?_
  refine .q (x := .d (cI 0)) (q_assign rfl) rfl ?_
  refine .nil ?_
  refine .seq ?_
  refine .seq ?_
  refine .region ?_
  refine .q (x := .d (slOf 1 rB8 v0b)) (q_move rfl) rfl ?_
  refine .q (x := .d (cI (v0b.length : Int))) (q_lenL (l := v0b) (row := rB8) Tryd.underlying22 rfl rfl) rfl ?_
  refine .q (x := .d (cB (decide ((v0b.length : Int) < 1)))) (q_lss rfl rfl) rfl ?_
  refine .q (x := .d (cB (decide ((v0b.length : Int) < 1)))) (q_move rfl) rfl ?_
  refine .guardG (b := (!(decide ((v0b.length : Int) < 1)))) (x := .d (slOf 1 rB8 v0b)) (env' := [(0, _)]) rfl rfl rfl ⟨.inl rfl, trivial⟩ rfl (fun hg => OpQ.g (q_move rfl)) ?_
  refine .guardG (b := (!(decide ((v0b.length : Int) < 1)))) (x := .d (cI (v0b.length : Int))) (env' := [(10, _)]) rfl rfl rfl ⟨.inr (.inl rfl), trivial⟩ rfl (fun hg => OpQ.g (q_lenL (l := v0b) (row := rB8) Tryd.underlying22 rfl rfl)) ?_
  refine .guardG (b := (!(decide ((v0b.length : Int) < 1)))) (x := .d (cB (decide ((v0b.length : Int) > 9)))) (env' := [(11, _)]) rfl rfl rfl ⟨.inr (.inl rfl), trivial⟩ rfl (fun hg => OpQ.g (q_gtr rfl rfl)) ?_
  refine .q (x := .d (cB ((decide ((v0b.length : Int) < 1)) || (decide ((v0b.length : Int) > 9))))) (q_pickOrB rfl rfl rfl) rfl ?_
  refine .nil ?_
  refine .cond rfl (fun hc => ?_) (fun hc => ?_)
  · replace H := ifT hc H; clear hc
    refine .seq ?_
    refine .region ?_
    refine .q (x := .d (cI 0)) (q_assign rfl) rfl ?_
    refine .q (x := .d (cI 6)) (q_assign rfl) rfl ?_
    refine .nil ?_
    refine .retN [.tmp 2, .tmp 3] [.d (cI 0), .d (cI 6)] Tryd.func12 Tryd.results12 ⟨rfl, rfl, trivial⟩ ?_
    cases H
    exact ⟨_, EVle.tupL (ds := [cI 0, cI 6]) ⟨.rfl' _, .rfl' _, trivial⟩, rfl⟩
  · replace H := ifF hc H; clear hc
    refine .skip ?_
    refine .seq ?_
    refine .region ?_
    refine .q (x := .d (cI 0)) (q_assign rfl) rfl ?_
    refine .nil ?_
    refine .seq ?_
    refine .seq ?_
    refine .region ?_
    refine .q (x := .d (cI 0)) (q_assign rfl) rfl ?_
    refine .nil ?_
    refine .block ?_
    obtain ⟨n1, H⟩ := loop_some H
    refine .loop (ι := Nat × (Int × Int)) (fun p => [(0, .d (slOf 1 rB8 v0b)), (4, .d (cI p.2.1)), (5, .d (cI p.2.2))]) (fun p => ⟨[], []⟩) (fun p => iter (fun s => f_billingref11_Decimal_l1 v0b s.1 s.2) p.1 p.2 = some r) (·.1) (n1, (0, 0)) H (.cons rfl (.rfl' _) (.cons rfl (.rfl' _) (.cons rfl (.rfl' _) (.nil)))) rfl ?_
    rintro ⟨m1, v4nl1, v5il1⟩ HI ih1
    obtain ⟨n1, q1, hm1, H, HK1⟩ := iter_succ HI
    clear HI
    replace H : f_billingref11_Decimal_l1 v0b v4nl1 v5il1 = some q1 := H
    unfold f_billingref11_Decimal_l1 at H
    change ARun _ _ _ _ _ _ [(0, .d (slOf 1 rB8 v0b)), (4, .d (cI v4nl1)), (5, .d (cI v5il1))] ⟨[], []⟩
    refine .seq ?_
    refine .seq ?_
    refine .region ?_
    refine .q (x := .d (cI v5il1)) (q_move rfl) rfl ?_
    refine .q (x := .d (slOf 1 rB8 v0b)) (q_move rfl) rfl ?_
    refine .q (x := .d (cI (v0b.length : Int))) (q_lenL (l := v0b) (row := rB8) Tryd.underlying22 rfl rfl) rfl ?_
    refine .q (x := .d (cB (decide (v5il1 < (v0b.length : Int))))) (q_lss rfl rfl) rfl ?_
    refine .nil ?_
    refine .cond rfl (fun hc => ?_) (fun hc => ?_)
    · replace H := ifT hc H; clear hc
      refine .skip ?_
      refine .seq ?_
      refine .block ?_
      refine .seq ?_
      refine .seq ?_
      refine .region ?_
      refine .q (x := .d (slOf 1 rB8 v0b)) (q_move rfl) rfl ?_
      refine .q (x := .d (cI v5il1)) (q_move rfl) rfl ?_
      obtain ⟨hk1, H⟩ := ck_some H
      refine .q (x := .d (.ro (rB8 (nth v0b (Int.toNat (v5il1)))))) (q_idxL (row := rB8) (l := v0b) (i := v5il1) Tryd.underlying22 hi5 hs5 rfl rfl rfl hk1) rfl ?_
      refine .q (x := .d (cU8 (nth v0b (Int.toNat (v5il1))))) (q_load one_5 rfl) rfl ?_
      obtain ⟨hk2, H⟩ := ck_some H
      refine .q (x := .d (cU8 ((nth v0b (Int.toNat (v5il1))) / 16))) (q8_quo (a := nth v0b (Int.toNat (v5il1))) (b := 16) rfl rfl hk2) rfl ?_
      refine .q (x := .d (cB (decide (((nth v0b (Int.toNat (v5il1))) / 16) > 9)))) (q8_gtr (a := (nth v0b (Int.toNat (v5il1))) / 16) (b := 9) rfl rfl) rfl ?_
      refine .q (x := .d (cB (decide (((nth v0b (Int.toNat (v5il1))) / 16) > 9)))) (q_move rfl) rfl ?_
      refine .guardG (b := (!(decide (((nth v0b (Int.toNat (v5il1))) / 16) > 9)))) (x := .d (slOf 1 rB8 v0b)) (env' := [(0, _)]) rfl rfl rfl ⟨.inl rfl, trivial⟩ rfl (fun hg => OpQ.g (q_move rfl)) ?_
      refine .guardG (b := (!(decide (((nth v0b (Int.toNat (v5il1))) / 16) > 9)))) (x := .d (cI v5il1)) (env' := [(5, _)]) rfl rfl rfl ⟨.inl rfl, trivial⟩ rfl (fun hg => OpQ.g (q_move rfl)) ?_
      obtain ⟨hk3, H⟩ := ck_some H
      refine .guardG (b := (!(decide (((nth v0b (Int.toNat (v5il1))) / 16) > 9)))) (x := .d (.ro (rB8 (nth v0b (Int.toNat (v5il1)))))) (env' := [(27, _), (28, _)]) rfl rfl rfl ⟨.inr (.inl rfl), ⟨.inr (.inl rfl), trivial⟩⟩ rfl (fun hg => OpQ.g (q_idxL (row := rB8) (l := v0b) (i := v5il1) Tryd.underlying22 hi5 hs5 rfl rfl rfl (hk3 hg))) ?_
      refine .guardG (b := (!(decide (((nth v0b (Int.toNat (v5il1))) / 16) > 9)))) (x := .d (cU8 (nth v0b (Int.toNat (v5il1))))) (env' := [(29, _)]) rfl rfl rfl ⟨.inr (.inl rfl), trivial⟩ rfl (fun hg => OpQ.g (q_load one_5 rfl)) ?_
      obtain ⟨hk4, H⟩ := ck_some H
      refine .guardG (b := (!(decide (((nth v0b (Int.toNat (v5il1))) / 16) > 9)))) (x := .d (cU8 ((nth v0b (Int.toNat (v5il1))) % 16))) (env' := [(30, _)]) rfl rfl rfl ⟨.inr (.inl rfl), trivial⟩ rfl (fun hg => OpQ.g (q8_rem (a := nth v0b (Int.toNat (v5il1))) (b := 16) rfl rfl (hk4 hg))) ?_
      refine .guardG (b := (!(decide (((nth v0b (Int.toNat (v5il1))) / 16) > 9)))) (x := .d (cB (decide (((nth v0b (Int.toNat (v5il1))) % 16) > 9)))) (env' := [(31, _)]) rfl rfl rfl ⟨.inr (.inl rfl), trivial⟩ rfl (fun hg => OpQ.g (q8_gtr (a := (nth v0b (Int.toNat (v5il1))) % 16) (b := 9) rfl rfl)) ?_
      refine .q (x := .d (cB ((decide (((nth v0b (Int.toNat (v5il1))) / 16) > 9)) || (decide (((nth v0b (Int.toNat (v5il1))) % 16) > 9))))) (q_pickOrB rfl rfl rfl) rfl ?_
      refine .nil ?_
      refine .cond rfl (fun hc => ?_) (fun hc => ?_)
      · replace H := ifT hc H; clear hc
        refine .seq ?_
        refine .region ?_
        refine .q (x := .d (cI 0)) (q_assign rfl) rfl ?_
        refine .q (x := .d (cI 1)) (q_assign rfl) rfl ?_
        refine .nil ?_
        refine .retN [.tmp 2, .tmp 3] [.d (cI 0), .d (cI 1)] Tryd.func12 Tryd.results12 ⟨rfl, rfl, trivial⟩ ?_
        cases H
        cases HK1
        exact ⟨_, EVle.tupL (ds := [cI 0, cI 1]) ⟨.rfl' _, .rfl' _, trivial⟩, rfl⟩
      · replace H := ifF hc H; clear hc
        refine .skip ?_
        refine .drawn 18 hMix (by kernel_rfl) ?_
        show DOps _ _ _ _ _ _ _ (_ :: _) _ _ _
        refine .q (x := .d (cI v4nl1)) (q_move rfl) rfl ?_
        obtain ⟨hk5, H⟩ := ck_some H
        refine .q (x := .d (cI (v4nl1 * 100))) (q_mulI rfl rfl hk5.1 hk5.2) rfl ?_
        refine .q (x := .d (slOf 1 rB8 v0b)) (q_move rfl) rfl ?_
        refine .q (x := .d (cI v5il1)) (q_move rfl) rfl ?_
        obtain ⟨hk6, H⟩ := ck_some H
        refine .q (x := .d (.ro (rB8 (nth v0b (Int.toNat (v5il1)))))) (q_idxL (row := rB8) (l := v0b) (i := v5il1) Tryd.underlying22 hi5 hs5 rfl rfl rfl hk6) rfl ?_
        refine .q (x := .d (cU8 (nth v0b (Int.toNat (v5il1))))) (q_load one_5 rfl) rfl ?_
        obtain ⟨hk7, H⟩ := ck_some H
        refine .q (x := .d (cU8 ((nth v0b (Int.toNat (v5il1))) / 16))) (q8_quo (a := nth v0b (Int.toNat (v5il1))) (b := 16) rfl rfl hk7) rfl ?_
        refine .q (x := .d (cI (((nth v0b (Int.toNat (v5il1))) / 16).toNat : Int))) (q_conv8i (a := (nth v0b (Int.toNat (v5il1))) / 16) Tryd.underlying5 Tryd.underlying3 rfl) rfl ?_
        obtain ⟨hk8, H⟩ := ck_some H
        refine .q (x := .d (cI ((((nth v0b (Int.toNat (v5il1))) / 16).toNat : Int) * 10))) (q_mulI rfl rfl hk8.1 hk8.2) rfl ?_
        obtain ⟨hk9, H⟩ := ck_some H
        refine .q (x := .d (cI ((v4nl1 * 100) + ((((nth v0b (Int.toNat (v5il1))) / 16).toNat : Int) * 10)))) (q_addI rfl rfl hk9.1 hk9.2) rfl ?_
        refine .q (x := .d (slOf 1 rB8 v0b)) (q_move rfl) rfl ?_
        refine .q (x := .d (cI v5il1)) (q_move rfl) rfl ?_
        obtain ⟨hk10, H⟩ := ck_some H
        refine .q (x := .d (.ro (rB8 (nth v0b (Int.toNat (v5il1)))))) (q_idxL (row := rB8) (l := v0b) (i := v5il1) Tryd.underlying22 hi5 hs5 rfl rfl rfl hk10) rfl ?_
        refine .q (x := .d (cU8 (nth v0b (Int.toNat (v5il1))))) (q_load one_5 rfl) rfl ?_
        obtain ⟨hk11, H⟩ := ck_some H
        refine .q (x := .d (cU8 ((nth v0b (Int.toNat (v5il1))) % 16))) (q8_rem (a := nth v0b (Int.toNat (v5il1))) (b := 16) rfl rfl hk11) rfl ?_
        refine .q (x := .d (cI (((nth v0b (Int.toNat (v5il1))) % 16).toNat : Int))) (q_conv8i (a := (nth v0b (Int.toNat (v5il1))) % 16) Tryd.underlying5 Tryd.underlying3 rfl) rfl ?_
        obtain ⟨hk12, H⟩ := ck_some H
        refine .q (x := .d (cI (((v4nl1 * 100) + ((((nth v0b (Int.toNat (v5il1))) / 16).toNat : Int) * 10)) + (((nth v0b (Int.toNat (v5il1))) % 16).toNat : Int)))) (q_addI rfl rfl hk12.1 hk12.2) rfl ?_
        refine .q (x := .d (cI (((v4nl1 * 100) + ((((nth v0b (Int.toNat (v5il1))) / 16).toNat : Int) * 10)) + (((nth v0b (Int.toNat (v5il1))) % 16).toNat : Int)))) (q_assign rfl) rfl ?_
        refine .nil ?_
        show AOps _ _ _ _ _ _ [] _ _ _
        refine .nil ?_
        refine .inBlock ?_
        refine .region ?_
        refine .q (x := .d (cI v5il1)) (q_move rfl) rfl ?_
        obtain ⟨hk13, H⟩ := ck_some H
        refine .q (x := .d (cI (v5il1 + 1))) (q_addI rfl rfl hk13.1 hk13.2) rfl ?_
        refine .q (x := .d (cI (v5il1 + 1))) (q_assign rfl) rfl ?_
        refine .nil ?_
        cases H
        exact .sub (.cons rfl (.rfl' _) (.cons rfl (.rfl' _) (.cons rfl (.rfl' _) (.nil)))) (ih1 (n1, (((v4nl1 * 100) + ((((nth v0b (Int.toNat (v5il1))) / 16).toNat : Int) * 10)) + (((nth v0b (Int.toNat (v5il1))) % 16).toNat : Int), v5il1 + 1)) HK1 hm1)
    · replace H := ifF hc H; clear hc
      refine .exit rfl ?_
      refine .seq ?_
      refine .region ?_
      refine .q (x := .d (cI v4nl1)) (q_move rfl) rfl ?_
      refine .q (x := .d (cI v4nl1)) (q_assign rfl) rfl ?_
      refine .q (x := .d (cI 0)) (q_assign rfl) rfl ?_
      refine .nil ?_
      refine .retN [.tmp 2, .tmp 3] [.d (cI v4nl1), .d (cI 0)] Tryd.func12 Tryd.results12 ⟨rfl, rfl, trivial⟩ ?_
      cases H
      cases HK1
      exact ⟨_, EVle.tupL (ds := [cI v4nl1, cI 0]) ⟨.rfl' _, .rfl' _, trivial⟩, rfl⟩

set_option maxRecDepth 100000 in
set_option maxHeartbeats 1000000 in
theorem c_f_billinglaw11_PackedDecimals {v0 : List UInt8} {v1 : Int} {v2 : Int} {r : Bool} (H : f_billinglaw11_PackedDecimals v0 v1 v2 = some r) : ACall Tryd.prog 3 [slOf 1 rB8 v0, cI v1, cI v2] (· = cB r) := by
  obtain ⟨i5, hi5, hz5, hs5, hb5⟩ := in_5
  refine ACall.enter' Tryd.func3 rfl Tryd.ntmps3 rfl fun S hS => ?_
  unfold f_billinglaw11_PackedDecimals at H
  change ARun _ _ _ _ _ _ [(0, .d (slOf 1 rB8 v0)), (1, .d (cI v1)), (2, .d (cI v2))] _
  refine .seq ?_
  refine .region ?_
  refine .q (x := .d (cB false)) (q_assign rfl) rfl ?_
  refine .nil ?_
  refine .seq ?_
  refine .seq ?_
  refine .region ?_
  refine .q (x := .d (slOf 1 rB8 v0)) (q_move rfl) rfl ?_
  refine .q (x := .d (cI (v0.length : Int))) (q_lenL (l := v0) (row := rB8) Tryd.underlying22 rfl rfl) rfl ?_
  refine .q (x := .d (cB (decide ((v0.length : Int) > 100)))) (q_gtr rfl rfl) rfl ?_
  refine .nil ?_
  refine .cond rfl (fun hc => ?_) (fun hc => ?_)
  · replace H := ifT hc H; clear hc
    refine .seq ?_
    refine .region ?_
    obtain ⟨y1, hy1, H⟩ := bind_some' H
    refine .g (x := .d (cB y1)) (g_call en_8 rfl rfl (c_f_billinglaw11_awake (hy1))) rfl ?_
    refine .q (x := .d (cB y1)) (q_assign rfl) rfl ?_
    refine .nil ?_
    refine .retN [.tmp 6] [.d (cB y1)] Tryd.func3 Tryd.results3 ⟨rfl, trivial⟩ ?_
    cases H
    exact ⟨_, .rfl' _, rfl⟩
  · replace H := ifF hc H; clear hc
    refine .skip ?_
    refine .seq ?_
    refine .region ?_
    refine .q (x := .d (slOf 1 rB8 v0)) (q_move rfl) rfl ?_
    refine .q (x := .d (cI v1)) (q_move rfl) rfl ?_
    refine .q (x := .d (cI v2)) (q_move rfl) rfl ?_
    obtain ⟨y2, hy2, H⟩ := bind_some' H
    refine .g (x := .d (.tup [slOf 1 rB8 y2.1, cI y2.2])) (g_call en_9 rfl rfl (c_f_packed_PutDecimal (hy2))) rfl ?_
    refine .q (x := .d (.tup [slOf 1 rB8 y2.1, cI y2.2])) (q_move rfl) rfl ?_
    refine .q (x := .d (slOf 1 rB8 y2.1)) (q_extract rfl rfl) rfl ?_
    refine .q (x := .d (cI y2.2)) (q_extract rfl rfl) rfl ?_
    refine .q (x := .d (slOf 1 rB8 y2.1)) (q_assign rfl) rfl ?_
    refine .q (x := .d (cI y2.2)) (q_assign rfl) rfl ?_
    refine .nil ?_
    refine .seq ?_
    refine .region ?_
    refine .q (x := .d (slOf 1 rB8 v0)) (q_move rfl) rfl ?_
    refine .q (x := .d (cI v1)) (q_move rfl) rfl ?_
    refine .q (x := .d (cI v2)) (q_move rfl) rfl ?_
    obtain ⟨y3, hy3, H⟩ := bind_some' H
    refine .g (x := .d (.tup [slOf 1 rB8 y3.1, cI y3.2])) (g_call en_10 rfl rfl (c_f_billingref11_PutDecimal (hy3))) rfl ?_
    refine .q (x := .d (.tup [slOf 1 rB8 y3.1, cI y3.2])) (q_move rfl) rfl ?_
    refine .q (x := .d (slOf 1 rB8 y3.1)) (q_extract rfl rfl) rfl ?_
    refine .q (x := .d (cI y3.2)) (q_extract rfl rfl) rfl ?_
    refine .q (x := .d (slOf 1 rB8 y3.1)) (q_assign rfl) rfl ?_
    refine .q (x := .d (cI y3.2)) (q_assign rfl) rfl ?_
    refine .nil ?_
    refine .seq ?_
    refine .region ?_
    refine .q (x := .d (slOf 1 rB8 v0)) (q_move rfl) rfl ?_
    obtain ⟨y4, hy4, H⟩ := bind_some' H
    refine .g (x := .d (.tup [cI y4.1, cI y4.2])) (g_call en_11 rfl rfl (c_f_packed_Decimal (hy4))) rfl ?_
    refine .q (x := .d (.tup [cI y4.1, cI y4.2])) (q_move rfl) rfl ?_
    refine .q (x := .d (cI y4.1)) (q_extract rfl rfl) rfl ?_
    refine .q (x := .d (cI y4.2)) (q_extract rfl rfl) rfl ?_
    refine .q (x := .d (cI y4.1)) (q_assign rfl) rfl ?_
    refine .q (x := .d (cI y4.2)) (q_assign rfl) rfl ?_
    refine .nil ?_
    refine .seq ?_
    refine .region ?_
    refine .q (x := .d (slOf 1 rB8 v0)) (q_move rfl) rfl ?_
    obtain ⟨y5, hy5, H⟩ := bind_some' H
    refine .g (x := .d (.tup [cI y5.1, cI y5.2])) (g_call en_12 rfl rfl (c_f_billingref11_Decimal (hy5))) rfl ?_
    refine .q (x := .d (.tup [cI y5.1, cI y5.2])) (q_move rfl) rfl ?_
    refine .q (x := .d (cI y5.1)) (q_extract rfl rfl) rfl ?_
    refine .q (x := .d (cI y5.2)) (q_extract rfl rfl) rfl ?_
    refine .q (x := .d (cI y5.1)) (q_assign rfl) rfl ?_
    refine .q (x := .d (cI y5.2)) (q_assign rfl) rfl ?_
    refine .nil ?_
    refine .seq ?_
    refine .seq ?_
    refine .region ?_
    refine .q (x := .d (slOf 1 rB8 y2.1)) (q_move rfl) rfl ?_
    refine .q (x := .d (cS y2.1)) (q_bytesStrL (a := y2.1) Tryd.underlying22 Tryd.underlying5 Tryd.underlying9 rfl rfl) rfl ?_
    refine .q (x := .d (slOf 1 rB8 y3.1)) (q_move rfl) rfl ?_
    refine .q (x := .d (cS y3.1)) (q_bytesStrL (a := y3.1) Tryd.underlying22 Tryd.underlying5 Tryd.underlying9 rfl rfl) rfl ?_
    refine .q (x := .d (cB (y2.1 != y3.1))) (q_sneq rfl rfl) rfl ?_
    refine .q (x := .d (cB (y2.1 != y3.1))) (q_move rfl) rfl ?_
    refine .guardG (b := (!(y2.1 != y3.1))) (x := .d (cI y2.2)) (env' := [(8, _)]) rfl rfl rfl ⟨.inl rfl, trivial⟩ rfl (fun hg => OpQ.g (q_move rfl)) ?_
    refine .guardG (b := (!(y2.1 != y3.1))) (x := .d (cI y3.2)) (env' := [(10, _)]) rfl rfl rfl ⟨.inl rfl, trivial⟩ rfl (fun hg => OpQ.g (q_move rfl)) ?_
    refine .guardG (b := (!(y2.1 != y3.1))) (x := .d (cB (y2.2 != y3.2))) (env' := [(51, _), (52, _)]) rfl rfl rfl ⟨.inr (.inl rfl), ⟨.inr (.inl rfl), trivial⟩⟩ rfl (fun hg => OpQ.g (q_neq rfl rfl)) ?_
    refine .q (x := .d (cB ((y2.1 != y3.1) || (y2.2 != y3.2)))) (q_pickOrB rfl rfl rfl) rfl ?_
    refine .q (x := .d (cB ((y2.1 != y3.1) || (y2.2 != y3.2)))) (q_move rfl) rfl ?_
    refine .guardG (b := (!((y2.1 != y3.1) || (y2.2 != y3.2)))) (x := .d (cI y4.1)) (env' := [(11, _)]) rfl rfl rfl ⟨.inl rfl, trivial⟩ rfl (fun hg => OpQ.g (q_move rfl)) ?_
    refine .guardG (b := (!((y2.1 != y3.1) || (y2.2 != y3.2)))) (x := .d (cI y5.1)) (env' := [(13, _)]) rfl rfl rfl ⟨.inl rfl, trivial⟩ rfl (fun hg => OpQ.g (q_move rfl)) ?_
    refine .guardG (b := (!((y2.1 != y3.1) || (y2.2 != y3.2)))) (x := .d (cB (y4.1 != y5.1))) (env' := [(56, _), (57, _)]) rfl rfl rfl ⟨.inr (.inl rfl), ⟨.inr (.inl rfl), trivial⟩⟩ rfl (fun hg => OpQ.g (q_neq rfl rfl)) ?_
    refine .q (x := .d (cB (((y2.1 != y3.1) || (y2.2 != y3.2)) || (y4.1 != y5.1)))) (q_pickOrB rfl rfl rfl) rfl ?_
    refine .q (x := .d (cB (((y2.1 != y3.1) || (y2.2 != y3.2)) || (y4.1 != y5.1)))) (q_move rfl) rfl ?_
    refine .guardG (b := (!(((y2.1 != y3.1) || (y2.2 != y3.2)) || (y4.1 != y5.1)))) (x := .d (cI y4.2)) (env' := [(12, _)]) rfl rfl rfl ⟨.inl rfl, trivial⟩ rfl (fun hg => OpQ.g (q_move rfl)) ?_
    refine .guardG (b := (!(((y2.1 != y3.1) || (y2.2 != y3.2)) || (y4.1 != y5.1)))) (x := .d (cI y5.2)) (env' := [(14, _)]) rfl rfl rfl ⟨.inl rfl, trivial⟩ rfl (fun hg => OpQ.g (q_move rfl)) ?_
    refine .guardG (b := (!(((y2.1 != y3.1) || (y2.2 != y3.2)) || (y4.1 != y5.1)))) (x := .d (cB (y4.2 != y5.2))) (env' := [(61, _), (62, _)]) rfl rfl rfl ⟨.inr (.inl rfl), ⟨.inr (.inl rfl), trivial⟩⟩ rfl (fun hg => OpQ.g (q_neq rfl rfl)) ?_
    refine .q (x := .d (cB ((((y2.1 != y3.1) || (y2.2 != y3.2)) || (y4.1 != y5.1)) || (y4.2 != y5.2)))) (q_pickOrB rfl rfl rfl) rfl ?_
    refine .nil ?_
    refine .cond rfl (fun hc => ?_) (fun hc => ?_)
    · replace H := ifT hc H; clear hc
      refine .seq ?_
      refine .region ?_
      refine .q (x := .d (cB false)) (q_assign rfl) rfl ?_
      refine .nil ?_
      refine .retN [.tmp 6] [.d (cB false)] Tryd.func3 Tryd.results3 ⟨rfl, trivial⟩ ?_
      cases H
      exact ⟨_, .rfl' _, rfl⟩
    · replace H := ifF hc H; clear hc
      refine .skip ?_
      refine .seq ?_
      refine .seq ?_
      refine .region ?_
      refine .q (x := .d (cI y2.2)) (q_move rfl) rfl ?_
      refine .q (x := .d (cB (y2.2 != 0))) (q_neq rfl rfl) rfl ?_
      refine .nil ?_
      refine .cond rfl (fun hc => ?_) (fun hc => ?_)
      · replace H := ifT hc H; clear hc
        refine .seq ?_
        refine .region ?_
        obtain ⟨y6, hy6, H⟩ := bind_some' H
        refine .g (x := .d (cB y6)) (g_call en_8 rfl rfl (c_f_billinglaw11_awake (hy6))) rfl ?_
        refine .q (x := .d (cB y6)) (q_assign rfl) rfl ?_
        refine .nil ?_
        refine .retN [.tmp 6] [.d (cB y6)] Tryd.func3 Tryd.results3 ⟨rfl, trivial⟩ ?_
        cases H
        exact ⟨_, .rfl' _, rfl⟩
      · replace H := ifF hc H; clear hc
        refine .skip ?_
        refine .seq ?_
        refine .region ?_
        refine .q (x := .d (slOf 1 rB8 y2.1)) (q_move rfl) rfl ?_
        refine .q (x := .d (slOf 1 rB8 v0)) (q_move rfl) rfl ?_
        refine .q (x := .d (cI (v0.length : Int))) (q_lenL (l := v0) (row := rB8) Tryd.underlying22 rfl rfl) rfl ?_
        obtain ⟨hk1, H⟩ := ck_some H
        refine .q (x := .d (slOf 1 rB8 (y2.1.drop (Int.toNat ((v0.length : Int)))))) (q_slLL (l := y2.1) (row := rB8) Tryd.underlying22 hi5 hs5 rfl rfl rfl hk1) rfl ?_
        obtain ⟨y7, hy7, H⟩ := bind_some' H
        refine .g (x := .d (.tup [cI y7.1, cI y7.2])) (g_call en_11 rfl rfl (c_f_packed_Decimal (hy7))) rfl ?_
        refine .q (x := .d (.tup [cI y7.1, cI y7.2])) (q_move rfl) rfl ?_
        refine .q (x := .d (cI y7.1)) (q_extract rfl rfl) rfl ?_
        refine .q (x := .d (cI y7.2)) (q_extract rfl rfl) rfl ?_
        refine .q (x := .d (cI y7.1)) (q_assign rfl) rfl ?_
        refine .q (x := .d (cI y7.2)) (q_assign rfl) rfl ?_
        refine .nil ?_
        refine .seq ?_
        refine .region ?_
        refine .q (x := .d (cI y7.2)) (q_move rfl) rfl ?_
        refine .q (x := .d (cB (y7.2 == 0))) (q_eql rfl rfl) rfl ?_
        refine .q (x := .d (cB (y7.2 == 0))) (q_move rfl) rfl ?_
        refine .guardG (b := (y7.2 == 0)) (x := .d (cI y7.1)) (env' := [(15, _)]) rfl rfl rfl ⟨.inl rfl, trivial⟩ rfl (fun hg => OpQ.g (q_move rfl)) ?_
        refine .guardG (b := (y7.2 == 0)) (x := .d (cI v1)) (env' := [(1, _)]) rfl rfl rfl ⟨.inl rfl, trivial⟩ rfl (fun hg => OpQ.g (q_move rfl)) ?_
        refine .guardG (b := (y7.2 == 0)) (x := .d (cB (y7.1 == v1))) (env' := [(79, _), (80, _)]) rfl rfl rfl ⟨.inr (.inl rfl), ⟨.inr (.inl rfl), trivial⟩⟩ rfl (fun hg => OpQ.g (q_eql rfl rfl)) ?_
        refine .q (x := .d (cB ((y7.2 == 0) && (y7.1 == v1)))) (q_pickAndB rfl rfl rfl) rfl ?_
        refine .q (x := .d (cB ((y7.2 == 0) && (y7.1 == v1)))) (q_move rfl) rfl ?_
        obtain ⟨y8, hy8, H⟩ := bind_some' H
        refine .guardG (b := ((y7.2 == 0) && (y7.1 == v1))) (x := .d (cB y8)) (env' := []) rfl rfl rfl trivial rfl (fun hg => (g_call en_8 rfl rfl (c_f_billinglaw11_awake (gcall_some hy8 hg)))) ?_
        refine .q (x := .d (cB (((y7.2 == 0) && (y7.1 == v1)) && y8))) (q_pickAndB rfl rfl rfl) rfl ?_
        refine .q (x := .d (cB (((y7.2 == 0) && (y7.1 == v1)) && y8))) (q_assign rfl) rfl ?_
        refine .nil ?_
        refine .retN [.tmp 6] [.d (cB (((y7.2 == 0) && (y7.1 == v1)) && y8))] Tryd.func3 Tryd.results3 ⟨rfl, trivial⟩ ?_
        cases H
        exact ⟨_, .rfl' _, rfl⟩

set_option maxRecDepth 100000 in
set_option maxHeartbeats 1000000 in
theorem c_f_billinglaw11_short {v0r : Record} {r : Bool} (H : f_billinglaw11_short v0r = some r) : ACall Tryd.prog 13 [.agg (Record.row v0r)] (· = cB r) := by
  refine ACall.enter' Tryd.func13 rfl Tryd.ntmps13 rfl fun S hS => ?_
  unfold f_billinglaw11_short at H
  change ARun _ _ _ _ _ _ [(0, .d (.agg (Record.row v0r)))] _
  refine .seq ?_
  refine .region ?_
  refine .v (x := .ref 0 0) (v_box rfl rfl) rfl ?_
  refine .withSt (st' := ⟨[.row 31 [.d (cI v0r.source), .d (cI v0r.serial), .d (cI v0r.kind), .d (cS v0r.a), .d (cS v0r.b), .d (cI v0r.start), .d (cI v0r.units), .d (cI v0r.call), .d (cI v0r.part), .d (cB v0r.last), .d (cI v0r.trunk), .d (cB v0r.inbound)]], []⟩) rfl ?_
  refine .q (x := .d (cB false)) (q_assign rfl) rfl ?_
  refine .nil ?_
  refine .seq ?_
  refine .region ?_
  refine .q (x := .ref 0 3) (q_fieldRef fo_31_3 rfl) rfl ?_
  refine .q (x := .d (cS v0r.a)) (q_loadO one_9 rfl rfl rfl) rfl ?_
  refine .q (x := .d (cI (v0r.a.length : Int))) (q_lenS Tryd.underlying9 rfl) rfl ?_
  refine .q (x := .d (cB (decide ((v0r.a.length : Int) ≤ 200)))) (q_leq rfl rfl) rfl ?_
  refine .q (x := .d (cB (decide ((v0r.a.length : Int) ≤ 200)))) (q_move rfl) rfl ?_
  refine .guardG (b := decide ((v0r.a.length : Int) ≤ 200)) (x := .ref 0 4) (env' := [(1, _)]) rfl rfl rfl ⟨.inl rfl, trivial⟩ rfl (fun hg => OpQ.g (q_fieldRef fo_31_4 rfl)) ?_
  refine .guardG (b := decide ((v0r.a.length : Int) ≤ 200)) (x := .d (cS v0r.b)) (env' := [(8, _)]) rfl rfl rfl ⟨.inr (.inl rfl), trivial⟩ rfl (fun hg => OpQ.g (q_loadO one_9 rfl rfl rfl)) ?_
  refine .guardG (b := decide ((v0r.a.length : Int) ≤ 200)) (x := .d (cI (v0r.b.length : Int))) (env' := [(9, _)]) rfl rfl rfl ⟨.inr (.inl rfl), trivial⟩ rfl (fun hg => OpQ.g (q_lenS Tryd.underlying9 rfl)) ?_
  refine .guardG (b := decide ((v0r.a.length : Int) ≤ 200)) (x := .d (cB (decide ((v0r.b.length : Int) ≤ 200)))) (env' := [(10, _)]) rfl rfl rfl ⟨.inr (.inl rfl), trivial⟩ rfl (fun hg => OpQ.g (q_leq rfl rfl)) ?_
  refine .q (x := .d (cB ((decide ((v0r.a.length : Int) ≤ 200)) && (decide ((v0r.b.length : Int) ≤ 200))))) (q_pickAndB rfl rfl rfl) rfl ?_
  refine .q (x := .d (cB ((decide ((v0r.a.length : Int) ≤ 200)) && (decide ((v0r.b.length : Int) ≤ 200))))) (q_assign rfl) rfl ?_
  refine .nil ?_
  refine .retN [.tmp 2] [.d (cB ((decide ((v0r.a.length : Int) ≤ 200)) && (decide ((v0r.b.length : Int) ≤ 200))))] Tryd.func13 Tryd.results13 ⟨rfl, trivial⟩ ?_
  cases H
  exact ⟨_, .rfl' _, rfl⟩

set_option maxRecDepth 100000 in
set_option maxHeartbeats 1000000 in
theorem c_f_billingref09_in {v0n : Int} {v1low : Int} {v2high : Int} {r : Bool} (H : f_billingref09_in v0n v1low v2high = some r) : ACall Tryd.prog 37 [cI v0n, cI v1low, cI v2high] (· = cB r) := by
  refine ACall.enter' Tryd.func37 rfl Tryd.ntmps37 rfl fun S hS => ?_
  unfold f_billingref09_in at H
  change ARun _ _ _ _ _ _ [(0, .d (cI v0n)), (1, .d (cI v1low)), (2, .d (cI v2high))] _
  refine .seq ?_
  refine .region ?_
  refine .q (x := .d (cB false)) (q_assign rfl) rfl ?_
  refine .nil ?_
  refine .seq ?_
  refine .region ?_
  refine .q (x := .d (cI v0n)) (q_move rfl) rfl ?_
  refine .q (x := .d (cI v1low)) (q_move rfl) rfl ?_
  refine .q (x := .d (cB (decide (v0n ≥ v1low)))) (q_geq rfl rfl) rfl ?_
  refine .q (x := .d (cB (decide (v0n ≥ v1low)))) (q_move rfl) rfl ?_
  refine .guardG (b := decide (v0n ≥ v1low)) (x := .d (cI v0n)) (env' := [(0, _)]) rfl rfl rfl ⟨.inl rfl, trivial⟩ rfl (fun hg => OpQ.g (q_move rfl)) ?_
  refine .guardG (b := decide (v0n ≥ v1low)) (x := .d (cI v2high)) (env' := [(2, _)]) rfl rfl rfl ⟨.inl rfl, trivial⟩ rfl (fun hg => OpQ.g (q_move rfl)) ?_
  refine .guardG (b := decide (v0n ≥ v1low)) (x := .d (cB (decide (v0n ≤ v2high)))) (env' := [(11, _), (12, _)]) rfl rfl rfl ⟨.inr (.inl rfl), ⟨.inr (.inl rfl), trivial⟩⟩ rfl (fun hg => OpQ.g (q_leq rfl rfl)) ?_
  refine .q (x := .d (cB ((decide (v0n ≥ v1low)) && (decide (v0n ≤ v2high))))) (q_pickAndB rfl rfl rfl) rfl ?_
  refine .q (x := .d (cB ((decide (v0n ≥ v1low)) && (decide (v0n ≤ v2high))))) (q_assign rfl) rfl ?_
  refine .nil ?_
  refine .retN [.tmp 6] [.d (cB ((decide (v0n ≥ v1low)) && (decide (v0n ≤ v2high))))] Tryd.func37 Tryd.results37 ⟨rfl, trivial⟩ ?_
  cases H
  exact ⟨_, .rfl' _, rfl⟩

end Go.Proofs.YtlgoaojmancfpaaDoor
