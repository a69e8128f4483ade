/- Our own texts LW3 LW4 T1 of this seat in one. -/
import Derived.Test.YtmdpmallgcekgaaDoorZ3
import Derived.Lib.ItoaLen
set_option linter.unusedSimpArgs false
set_option linter.unusedVariables false
namespace Go.Proofs.YtmdpmallgcekgaaDoor
open Go.RowKit Go.Abs
set_option maxRecDepth 100000 in
set_option maxHeartbeats 1000000 in
theorem c_f_billinglaw10_TaggedEncodes {v0r : Record} {r : Bool} (H : f_billinglaw10_TaggedEncodes v0r = some r) : ACall Tryd.prog 5 [.agg (Record.row v0r)] (· = cB r) := by
  refine ACall.enter' Tryd.func5 rfl Tryd.ntmps5 rfl fun S hS => ?_
  unfold f_billinglaw10_TaggedEncodes at H
  change ARun _ _ _ _ _ _ [(0, .d (.agg (Record.row v0r)))] _
  refine .seq ?_
  refine .region ?_
  refine .v (x := .ref 0 0) (v_box rfl rfl) rfl ?_
  refine .withSt (st' := ⟨[.row 34 [.d (cI v0r.source), .d (cI v0r.serial), .d (cI v0r.kind), .d (cS v0r.a), .d (cS v0r.b), .d (cI v0r.start), .d (cI v0r.units), .d (cI v0r.call), .d (cI v0r.part), .d (cB v0r.last), .d (cI v0r.trunk), .d (cB v0r.inbound)]], []⟩) rfl ?_
  refine .q (q_assign rfl) rfl ?_
  refine .nil ?_
  refine .seq ?_
  refine .seq ?_
  refine .region ?_
  refine .q (x := .d (.agg (Record.row v0r))) (q_loadOA one_34 sz_34 rfl rfl (Nat.le_of_ble_eq_true rfl) rfl) rfl ?_
  obtain ⟨y1, hy1, H⟩ := bind_some' H
  refine .g (x := .d (cB y1)) (g_call en_16 rfl rfl (c_f_billinglaw10_short (hy1))) rfl ?_
  refine .q (q_not rfl) rfl ?_
  refine .nil ?_
  refine .cond rfl (fun hc => ?_) (fun hc => ?_)
  · replace H := ifT hc H; clear hc
    refine .seq ?_
    refine .region ?_
    obtain ⟨y2, hy2, H⟩ := bind_some' H
    refine .g (x := .d (cB y2)) (g_call en_10 rfl rfl (c_f_billinglaw10_awake (hy2))) rfl ?_
    refine .q (q_assign rfl) rfl ?_
    refine .nil ?_
    refine .retN [.tmp 2] [.d (cB y2)] Tryd.func5 Tryd.results5 ⟨rfl, trivial⟩ ?_
    cases H
    exact ⟨_, .rfl' _, rfl⟩
  · replace H := ifF hc H; clear hc
    refine .skip ?_
    refine .seq ?_
    refine .region ?_
    refine .q (x := .d (.agg (Record.row v0r))) (q_loadOA one_34 sz_34 rfl rfl (Nat.le_of_ble_eq_true rfl) rfl) rfl ?_
    obtain ⟨y3, hy3, H⟩ := bind_some' H
    refine .g (x := .d (.tup [slOf 1 rB8 y3.1, cI y3.2])) (g_call en_17 rfl rfl (c_f_tagged_Encode (hy3))) rfl ?_
    refine .q (q_move rfl) rfl ?_
    refine .q (q_extract rfl rfl) rfl ?_
    refine .q (q_extract rfl rfl) rfl ?_
    refine .q (q_assign rfl) rfl ?_
    refine .q (q_assign rfl) rfl ?_
    refine .nil ?_
    refine .seq ?_
    refine .region ?_
    refine .q (x := .d (.agg (Record.row v0r))) (q_loadOA one_34 sz_34 rfl rfl (Nat.le_of_ble_eq_true rfl) rfl) rfl ?_
    obtain ⟨y4, hy4, H⟩ := bind_some' H
    refine .g (x := .d (.tup [slOf 1 rB8 y4.1, cI y4.2])) (g_call en_18 rfl rfl (c_f_billingref10_Encode (hy4))) rfl ?_
    refine .q (q_move rfl) rfl ?_
    refine .q (q_extract rfl rfl) rfl ?_
    refine .q (q_extract rfl rfl) rfl ?_
    refine .q (q_assign rfl) rfl ?_
    refine .q (q_assign rfl) rfl ?_
    refine .nil ?_
    refine .seq ?_
    refine .region ?_
    refine .q (q_move rfl) rfl ?_
    refine .q (x := .d (cS y3.1)) (q_bytesStrL (a := y3.1) Tryd.underlying25 Tryd.underlying5 Tryd.underlying9 rfl rfl) rfl ?_
    refine .q (q_move rfl) rfl ?_
    refine .q (x := .d (cS y4.1)) (q_bytesStrL (a := y4.1) Tryd.underlying25 Tryd.underlying5 Tryd.underlying9 rfl rfl) rfl ?_
    refine .q (q_seql rfl rfl) rfl ?_
    refine .q (q_move rfl) rfl ?_
    refine .guardG (env' := [(4, _)]) rfl rfl rfl ⟨.inl rfl, trivial⟩ rfl (fun hg => OpQ.g (q_move rfl)) ?_
    refine .guardG (env' := [(6, _)]) rfl rfl rfl ⟨.inl rfl, trivial⟩ rfl (fun hg => OpQ.g (q_move rfl)) ?_
    refine .guardG (env' := [(27, _), (28, _)]) rfl rfl rfl ⟨.inr (.inl rfl), ⟨.inr (.inl rfl), trivial⟩⟩ rfl (fun hg => OpQ.g (q_eql rfl rfl)) ?_
    refine .q (q_pickAndB rfl rfl rfl) rfl ?_
    refine .q (q_move rfl) rfl ?_
    obtain ⟨y5, hy5, H⟩ := bind_some' H
    refine .guardG (b := ((y3.1 == y4.1) && (y3.2 == y4.2))) (x := .d (cB y5)) (env' := []) rfl rfl rfl trivial rfl (fun hg => (g_call en_10 rfl rfl (c_f_billinglaw10_awake (gcall_some hy5 hg)))) ?_
    refine .q (q_pickAndB rfl rfl rfl) rfl ?_
    refine .q (q_assign rfl) rfl ?_
    refine .nil ?_
    refine .retN [.tmp 2] [.d (cB (((y3.1 == y4.1) && (y3.2 == y4.2)) && y5))] Tryd.func5 Tryd.results5 ⟨rfl, trivial⟩ ?_
    cases H
    exact ⟨_, .rfl' _, rfl⟩

set_option maxRecDepth 100000 in
set_option maxHeartbeats 1000000 in
theorem c_f_tagged_size {v0b : List UInt8} {r : Int × Int} (H : f_tagged_size v0b = some r) : ACall Tryd.prog 35 [slOf 1 rB8 v0b] (· = .tup [cI r.1, cI r.2]) := by
  obtain ⟨i5, hi5, hz5, hs5, hb5⟩ := in_5
  refine ACall.enter' Tryd.func35 rfl Tryd.ntmps35 rfl fun S hS => ?_
  unfold f_tagged_size at H
  change ARun _ _ _ _ _ _ [(0, .d (slOf 1 rB8 v0b))] _
  refine .seq ?_
  refine .region ?_
  refine .q (q_assign rfl) rfl ?_
  refine .q (q_assign rfl) rfl ?_
  refine .nil ?_
  refine .seq ?_
  refine .seq ?_
  refine .region ?_
  refine .q (q_move rfl) rfl ?_
  refine .q (q_lenL (l := v0b) (row := rB8) Tryd.underlying25 rfl rfl) rfl ?_
  refine .q (q_lss rfl rfl) rfl ?_
  refine .nil ?_
  refine .cond rfl (fun hc => ?_) (fun hc => ?_)
  · replace H := ifT hc H; clear hc
    refine .seq ?_
    refine .region ?_
    refine .q (q_assign rfl) rfl ?_
    refine .q (q_assign rfl) rfl ?_
    refine .nil ?_
    refine .retN [.tmp 2, .tmp 3] [.d (cI 0), .d (cI 2)] Tryd.func35 Tryd.results35 ⟨rfl, rfl, trivial⟩ ?_
    cases H
    exact ⟨_, EVle.tupL (ds := [cI 0, cI 2]) ⟨.rfl' _, .rfl' _, trivial⟩, rfl⟩
  · replace H := ifF hc H; clear hc
    refine .skip ?_
    refine .seq ?_
    refine .drawn 12 hMix (by kernel_rfl) ?_
    show DOps _ _ _ _ _ _ _ (_ :: _) _ _ _
    refine .q (q_move rfl) rfl ?_
    obtain ⟨hk1, H⟩ := ck_some H
    refine .q (x := .d (.ro (rB8 (nth v0b (Int.toNat (0)))))) (q_idxL (row := rB8) (l := v0b) (i := 0) Tryd.underlying25 hi5 hs5 rfl rfl rfl hk1) rfl ?_
    refine .q (x := .d (cU8 (nth v0b (Int.toNat (0))))) (q_load one_5 rfl) rfl ?_
    refine .q (x := .d (cI ((nth v0b (Int.toNat (0))).toNat : Int))) (q_conv8i (a := nth v0b (Int.toNat (0))) Tryd.underlying5 Tryd.underlying3 rfl) rfl ?_
    obtain ⟨hk2, H⟩ := ck_some H
    refine .q (x := .d (cI (((nth v0b (Int.toNat (0))).toNat : Int) * 2 ^ (Int.toNat (8))))) (q_shlI rfl rfl hk2) rfl ?_
    obtain ⟨hk3, H⟩ := ck_some H
    refine .q (q_addI rfl rfl hk3.1 hk3.2) rfl ?_
    refine .q (q_move rfl) rfl ?_
    obtain ⟨hk4, H⟩ := ck_some H
    refine .q (x := .d (.ro (rB8 (nth v0b (Int.toNat (1)))))) (q_idxL (row := rB8) (l := v0b) (i := 1) Tryd.underlying25 hi5 hs5 rfl rfl rfl hk4) rfl ?_
    refine .q (x := .d (cU8 (nth v0b (Int.toNat (1))))) (q_load one_5 rfl) rfl ?_
    refine .q (x := .d (cI ((nth v0b (Int.toNat (1))).toNat : Int))) (q_conv8i (a := nth v0b (Int.toNat (1))) Tryd.underlying5 Tryd.underlying3 rfl) rfl ?_
    obtain ⟨hk5, H⟩ := ck_some H
    refine .q (q_addI rfl rfl hk5.1 hk5.2) rfl ?_
    refine .q (q_assign rfl) rfl ?_
    refine .nil ?_
    show AOps _ _ _ _ _ _ [] _ _ _
    refine .nil ?_
    refine .seq ?_
    refine .seq ?_
    refine .region ?_
    refine .q (q_move rfl) rfl ?_
    refine .q (q_lenL (l := v0b) (row := rB8) Tryd.underlying25 rfl rfl) rfl ?_
    refine .q (q_move rfl) rfl ?_
    refine .q (q_lss rfl rfl) rfl ?_
    refine .nil ?_
    refine .cond rfl (fun hc => ?_) (fun hc => ?_)
    · replace H := ifT hc H; clear hc
      refine .seq ?_
      refine .region ?_
      refine .q (q_assign rfl) rfl ?_
      refine .q (q_assign rfl) rfl ?_
      refine .nil ?_
      refine .retN [.tmp 2, .tmp 3] [.d (cI 0), .d (cI 2)] Tryd.func35 Tryd.results35 ⟨rfl, rfl, trivial⟩ ?_
      cases H
      exact ⟨_, EVle.tupL (ds := [cI 0, cI 2]) ⟨.rfl' _, .rfl' _, trivial⟩, rfl⟩
    · replace H := ifF hc H; clear hc
      refine .skip ?_
      refine .seq ?_
      refine .region ?_
      refine .q (q_move rfl) rfl ?_
      refine .q (q_assign rfl) rfl ?_
      refine .q (q_assign rfl) rfl ?_
      refine .nil ?_
      refine .retN [.tmp 2, .tmp 3] [.d (cI ((2 + (((nth v0b (Int.toNat (0))).toNat : Int) * 2 ^ (Int.toNat (8)))) + ((nth v0b (Int.toNat (1))).toNat : Int))), .d (cI 0)] Tryd.func35 Tryd.results35 ⟨rfl, rfl, trivial⟩ ?_
      cases H
      exact ⟨_, EVle.tupL (ds := [cI ((2 + (((nth v0b (Int.toNat (0))).toNat : Int) * 2 ^ (Int.toNat (8)))) + ((nth v0b (Int.toNat (1))).toNat : Int)), cI 0]) ⟨.rfl' _, .rfl' _, trivial⟩, rfl⟩

set_option maxRecDepth 100000 in
set_option maxHeartbeats 1000000 in
theorem c_f_tagged_number {v0value : List UInt8} {r : Int × Bool} (H : f_tagged_number v0value = some r) : ACall Tryd.prog 44 [slOf 1 rB8 v0value] (· = .tup [cI r.1, cB r.2]) := by
  obtain ⟨i5, hi5, hz5, hs5, hb5⟩ := in_5
  refine ACall.enter' Tryd.func44 rfl Tryd.ntmps44 rfl fun S hS => ?_
  unfold f_tagged_number at H
  change ARun _ _ _ _ _ _ [(0, .d (slOf 1 rB8 v0value))] _
  refine .seq ?_
  refine .region ?_
  refine .q (q_assign rfl) rfl ?_
  refine .q (q_assign rfl) rfl ?_
  refine .nil ?_
  refine .seq ?_
  refine .seq ?_
  refine .region ?_
  refine .q (q_move rfl) rfl ?_
  refine .q (q_lenL (l := v0value) (row := rB8) Tryd.underlying25 rfl rfl) rfl ?_
  refine .q (q_lss rfl rfl) rfl ?_
  refine .q (q_move rfl) rfl ?_
  refine .guardG (env' := [(0, _)]) rfl rfl rfl ⟨.inl rfl, trivial⟩ rfl (fun hg => OpQ.g (q_move rfl)) ?_
  refine .guardG (env' := [(11, _)]) rfl rfl rfl ⟨.inr (.inl rfl), trivial⟩ rfl (fun hg => OpQ.g (q_lenL (l := v0value) (row := rB8) Tryd.underlying25 rfl rfl)) ?_
  refine .guardG (env' := [(12, _)]) rfl rfl rfl ⟨.inr (.inl rfl), trivial⟩ rfl (fun hg => OpQ.g (q_gtr rfl rfl)) ?_
  refine .q (q_pickOrB rfl rfl rfl) rfl ?_
  refine .q (q_move rfl) rfl ?_
  refine .guardG (env' := [(0, _)]) rfl rfl rfl ⟨.inl rfl, trivial⟩ rfl (fun hg => OpQ.g (q_move rfl)) ?_
  obtain ⟨hk1, H⟩ := ck_some H
  refine .guardG (b := (!((decide ((v0value.length : Int) < 1)) || (decide ((v0value.length : Int) > 6))))) (x := .d (.ro (rB8 (nth v0value (Int.toNat (0)))))) (env' := [(16, _)]) rfl rfl rfl ⟨.inr (.inl rfl), trivial⟩ rfl (fun hg => OpQ.g (q_idxL (row := rB8) (l := v0value) (i := 0) Tryd.underlying25 hi5 hs5 rfl rfl rfl (hk1 hg))) ?_
  refine .guardG (b := (!((decide ((v0value.length : Int) < 1)) || (decide ((v0value.length : Int) > 6))))) (x := .d (cU8 (nth v0value (Int.toNat (0))))) (env' := [(17, _)]) rfl rfl rfl ⟨.inr (.inl rfl), trivial⟩ rfl (fun hg => OpQ.g (q_load one_5 rfl)) ?_
  refine .guardG (b := (!((decide ((v0value.length : Int) < 1)) || (decide ((v0value.length : Int) > 6))))) (x := .d (cB ((nth v0value (Int.toNat (0))) == 0))) (env' := [(18, _)]) rfl rfl rfl ⟨.inr (.inl rfl), trivial⟩ rfl (fun hg => OpQ.g (q8_eql (a := nth v0value (Int.toNat (0))) (b := 0) rfl rfl)) ?_
  refine .q (q_pickOrB rfl rfl rfl) rfl ?_
  refine .nil ?_
  refine .cond rfl (fun hc => ?_) (fun hc => ?_)
  · replace H := ifT hc H; clear hc
    refine .seq ?_
    refine .region ?_
    refine .q (q_assign rfl) rfl ?_
    refine .q (q_assign rfl) rfl ?_
    refine .nil ?_
    refine .retN [.tmp 2, .tmp 3] [.d (cI 0), .d (cB false)] Tryd.func44 Tryd.results44 ⟨rfl, rfl, trivial⟩ ?_
    cases H
    exact ⟨_, EVle.tupL (ds := [cI 0, cB false]) ⟨.rfl' _, .rfl' _, trivial⟩, rfl⟩
  · replace H := ifF hc H; clear hc
    refine .skip ?_
    refine .seq ?_
    refine .region ?_
    refine .q (q_assign rfl) rfl ?_
    refine .nil ?_
    refine .seq ?_
    refine .seq ?_
    refine .region ?_
    refine .q (q_move rfl) rfl ?_
    refine .q (q_lenL (l := v0value) (row := rB8) Tryd.underlying25 rfl rfl) rfl ?_
    refine .q (q_move rfl) rfl ?_
    refine .nil ?_
    refine .block ?_
    obtain ⟨n1, H⟩ := loop_some H
    refine .loop (ι := Nat × (Int × Int)) (fun p => [(4, .d (cI p.2.1)), (21, .d (slOf 1 rB8 v0value)), (22, .d (cI (v0value.length : Int))), (23, .d (cI p.2.2))]) (fun p => ⟨[], []⟩) (fun p => iter (fun s => f_tagged_number_l1 v0value s.1 s.2) p.1 p.2 = some r) (·.1) (n1, (0, 0)) H (.cons rfl (.rfl' _) (.cons rfl (.rfl' _) (.cons rfl (.rfl' _) (.cons rfl (.rfl' _) (.nil))))) rfl ?_
    rintro ⟨m1, v4nl1, v23l1⟩ HI ih1
    obtain ⟨n1, q1, hm1, H, HK1⟩ := iter_succ HI
    clear HI
    replace H : f_tagged_number_l1 v0value v4nl1 v23l1 = some q1 := H
    unfold f_tagged_number_l1 at H
    change ARun _ _ _ _ _ _ [(4, .d (cI v4nl1)), (21, .d (slOf 1 rB8 v0value)), (22, .d (cI (v0value.length : Int))), (23, .d (cI v23l1))] ⟨[], []⟩
    refine .seq ?_
    refine .region ?_
    refine .q (q_lss rfl rfl) rfl ?_
    refine .nil ?_
    refine .seq ?_
    refine .cond rfl (fun hc => ?_) (fun hc => ?_)
    · replace H := ifT hc H; clear hc
      refine .skip ?_
      refine .seq ?_
      refine .block ?_
      refine .seq ?_
      refine .region ?_
      obtain ⟨hk2, H⟩ := ck_some H
      refine .q (x := .d (.ro (rB8 (nth v0value (Int.toNat (v23l1)))))) (q_idxL (row := rB8) (l := v0value) (i := v23l1) Tryd.underlying25 hi5 hs5 rfl rfl rfl hk2) rfl ?_
      refine .q (x := .d (cU8 (nth v0value (Int.toNat (v23l1))))) (q_load one_5 rfl) rfl ?_
      refine .q (q_assign rfl) rfl ?_
      refine .nil ?_
      refine .region ?_
      refine .q (q_move rfl) rfl ?_
      obtain ⟨hk3, H⟩ := ck_some H
      refine .q (x := .d (cI (v4nl1 * 2 ^ (Int.toNat (8))))) (q_shlI rfl rfl hk3) rfl ?_
      refine .q (q_move rfl) rfl ?_
      refine .q (x := .d (cI ((nth v0value (Int.toNat (v23l1))).toNat : Int))) (q_conv8i (a := nth v0value (Int.toNat (v23l1))) Tryd.underlying5 Tryd.underlying3 rfl) rfl ?_
      obtain ⟨hk4, H⟩ := ck_some H
      refine .q (q_addI rfl rfl hk4.1 hk4.2) rfl ?_
      refine .q (q_assign rfl) rfl ?_
      refine .nil ?_
      refine .inBlock ?_
      refine .region ?_
      obtain ⟨hk5, H⟩ := ck_some H
      refine .q (q_addI rfl rfl hk5.1 hk5.2) rfl ?_
      refine .q (q_move rfl) rfl ?_
      refine .nil ?_
      cases H
      exact .sub (.cons rfl (.rfl' _) (.cons rfl (.rfl' _) (.cons rfl (.rfl' _) (.cons rfl (.rfl' _) (.nil))))) (ih1 (n1, ((v4nl1 * 2 ^ (Int.toNat (8))) + ((nth v0value (Int.toNat (v23l1))).toNat : Int), v23l1 + 1)) HK1 hm1)
    · replace H := ifF hc H; clear hc
      refine .exit rfl ?_
      refine .seq ?_
      refine .region ?_
      refine .q (q_move rfl) rfl ?_
      refine .q (q_assign rfl) rfl ?_
      refine .q (q_assign rfl) rfl ?_
      refine .nil ?_
      refine .retN [.tmp 2, .tmp 3] [.d (cI v4nl1), .d (cB true)] Tryd.func44 Tryd.results44 ⟨rfl, rfl, trivial⟩ ?_
      cases H
      cases HK1
      exact ⟨_, EVle.tupL (ds := [cI v4nl1, cB true]) ⟨.rfl' _, .rfl' _, trivial⟩, rfl⟩

set_option maxRecDepth 100000 in
set_option maxHeartbeats 1000000 in
theorem c_f_digits_Unpack {v0b : List UInt8} {r : (List UInt8) × Int} (H : f_digits_Unpack v0b = some r) : ACall Tryd.prog 45 [slOf 1 rB8 v0b] (· = .tup [cS r.1, cI r.2]) := by
  obtain ⟨i5, hi5, hz5, hs5, hb5⟩ := in_5
  refine ACall.enter' Tryd.func45 rfl Tryd.ntmps45 rfl fun S hS => ?_
  unfold f_digits_Unpack at H
  change ARun _ _ _ _ _ _ [(0, .d (slOf 1 rB8 v0b))] _
  refine .seq ?_
  refine .region ?_
  refine .q (q_assign rfl) rfl ?_
  refine .q (q_assign rfl) rfl ?_
  refine .nil ?_
  refine .seq ?_
  refine .region ?_
  refine .q (q_assign rfl) rfl ?_
  refine .nil ?_
  refine .seq ?_
  refine .seq ?_
  refine .region ?_
  refine .q (q_move rfl) rfl ?_
  refine .q (q_lenL (l := v0b) (row := rB8) Tryd.underlying25 rfl rfl) rfl ?_
  refine .q (q_move rfl) rfl ?_
  refine .nil ?_
  refine .tok (i := 4) (e := 5) (sz := 1) rfl ?_
  refine .withSt (st' := ⟨[], [⟨5, 1, ([] : List UInt8).length, none⟩]⟩) rfl ?_
  refine .blockJoin2 (ι := List UInt8) (fun s => [(4, .tsl 1 (s.map rB8) 0)]) (fun s => ⟨[], [⟨5, 1, s.length, none⟩]⟩) (fun s => f_digits_Unpack_j1 s = some r) ?_ ?_
  · rintro v4sj1 H
    replace H : f_digits_Unpack_j1 v4sj1 = some r := H
    unfold f_digits_Unpack_j1 at H
    change ARun _ _ _ _ _ _ [(4, .tsl 1 (v4sj1.map rB8) 0)] ⟨[], [⟨5, 1, v4sj1.length, none⟩]⟩
    refine .seq ?_
    refine .seq ?_
    refine .region ?_
    refine .q (q_move rfl) rfl ?_
    refine .q (x := .d (cS v4sj1)) (q_bytesStrL (a := v4sj1) Tryd.underlying25 Tryd.underlying5 Tryd.underlying9 rfl rfl) rfl ?_
    obtain ⟨y1, hy1, H⟩ := bind_some' H
    refine .g (x := .d (cB y1)) (g_call en_41 rfl rfl (c_f_digits_Valid (hy1))) rfl ?_
    refine .q (q_not rfl) rfl ?_
    refine .nil ?_
    refine .cond rfl (fun hc => ?_) (fun hc => ?_)
    · replace H := ifT hc H; clear hc
      refine .seq ?_
      refine .region ?_
      refine .q (q_assign rfl) rfl ?_
      refine .q (q_assign rfl) rfl ?_
      refine .nil ?_
      refine .retN [.tmp 2, .tmp 3] [.d (cS ([] : List UInt8)), .d (cI 12)] Tryd.func45 Tryd.results45 ⟨rfl, rfl, trivial⟩ ?_
      cases H
      exact ⟨_, EVle.tupL (ds := [cS ([] : List UInt8), cI 12]) ⟨.rfl' _, .rfl' _, trivial⟩, rfl⟩
    · replace H := ifF hc H; clear hc
      refine .skip ?_
      refine .seq ?_
      refine .region ?_
      refine .q (q_move rfl) rfl ?_
      refine .q (x := .d (cS v4sj1)) (q_bytesStrL (a := v4sj1) Tryd.underlying25 Tryd.underlying5 Tryd.underlying9 rfl rfl) rfl ?_
      refine .q (q_assign rfl) rfl ?_
      refine .q (q_assign rfl) rfl ?_
      refine .nil ?_
      refine .retN [.tmp 2, .tmp 3] [.d (cS v4sj1), .d (cI 0)] Tryd.func45 Tryd.results45 ⟨rfl, rfl, trivial⟩ ?_
      cases H
      exact ⟨_, EVle.tupL (ds := [cS v4sj1, cI 0]) ⟨.rfl' _, .rfl' _, trivial⟩, rfl⟩
  · intro hj1 hj1x
    obtain ⟨n1, H⟩ := loop_some H
    refine .withSt (st' := ⟨[], [⟨5, 1, ([] : List UInt8).length, none⟩]⟩) rfl <| .loop (ι := Nat × (List UInt8 × Int)) (fun p => [(0, .d (slOf 1 rB8 v0b)), (4, .tsl 1 (p.2.1.map rB8) 0), (7, .d (slOf 1 rB8 v0b)), (8, .d (cI (v0b.length : Int))), (9, .d (cI p.2.2))]) (fun p => ⟨[], [⟨5, 1, p.2.1.length, none⟩]⟩) (fun p => iter (fun s => f_digits_Unpack_l1 v0b s.1 s.2) p.1 p.2 = some r) (·.1) (n1, (([] : List UInt8), 0)) H (.cons rfl (.rfl' _) (.cons rfl (.rfl' _) (.cons rfl (.rfl' _) (.cons rfl (.rfl' _) (.cons rfl (.rfl' _) (.nil)))))) rfl ?_
    rintro ⟨m1, v4sl1, v9l1⟩ HI ih1
    obtain ⟨n1, q1, hm1, H, HK1⟩ := iter_succ HI
    clear HI
    replace H : f_digits_Unpack_l1 v0b v4sl1 v9l1 = some q1 := H
    unfold f_digits_Unpack_l1 at H
    change ARun _ _ _ _ _ _ [(0, .d (slOf 1 rB8 v0b)), (4, .tsl 1 (v4sl1.map rB8) 0), (7, .d (slOf 1 rB8 v0b)), (8, .d (cI (v0b.length : Int))), (9, .d (cI v9l1))] ⟨[], [⟨5, 1, v4sl1.length, none⟩]⟩
    refine .seq ?_
    refine .region ?_
    refine .q (q_lss rfl rfl) rfl ?_
    refine .nil ?_
    refine .seq ?_
    refine .cond rfl (fun hc => ?_) (fun hc => ?_)
    · replace H := ifT hc H; clear hc
      refine .skip ?_
      refine .seq ?_
      refine .block ?_
      refine .seq ?_
      refine .region ?_
      refine .q (q_move rfl) rfl ?_
      obtain ⟨hk1, H⟩ := ck_some H
      refine .q (x := .d (.ro (rB8 (nth v0b (Int.toNat (v9l1)))))) (q_idxL (row := rB8) (l := v0b) (i := v9l1) Tryd.underlying25 hi5 hs5 rfl rfl rfl hk1) rfl ?_
      refine .q (x := .d (cU8 (nth v0b (Int.toNat (v9l1))))) (q_load one_5 rfl) rfl ?_
      refine .q (q_assign rfl) rfl ?_
      refine .q (q_assign rfl) rfl ?_
      refine .nil ?_
      refine .seq ?_
      refine .region ?_
      refine .q (q_move rfl) rfl ?_
      refine .q (q_move rfl) rfl ?_
      obtain ⟨hk2, H⟩ := ck_some H
      refine .q (x := .d (cU8 (u8shr (nth v0b (Int.toNat (v9l1))) 4))) (q8_shr (a := nth v0b (Int.toNat (v9l1))) (n := 4) rfl rfl hk2) rfl ?_
      refine .q (x := .d (cU8 (48 + (u8shr (nth v0b (Int.toNat (v9l1))) 4)))) (q8_add (a := 48) (b := u8shr (nth v0b (Int.toNat (v9l1))) 4) rfl rfl) rfl ?_
      refine .g (x := .d (slOf 1 rB8 ([48 + (u8shr (nth v0b (Int.toNat (v9l1))) 4)] : List UInt8))) (g_buildSlice1 Tryd.underlying25 hi5 hs5 hz5 rfl rfl rfl rfl rfl) rfl ?_
      obtain ⟨hk3, H⟩ := ck_some H
      refine .v (x := .tsl 1 ((v4sl1 ++ ([48 + (u8shr (nth v0b (Int.toNat (v9l1))) 4)] : List UInt8)).map rB8) 0) (v_appendL (l := v4sl1) (l' := ([48 + (u8shr (nth v0b (Int.toNat (v9l1))) 4)] : List UInt8)) (row := rB8) Tryd.underlying25 hi5 hz5 hs5 rfl (by rw [hb5]; decide) rfl rfl rfl rfl hk3) rfl ?_
      refine .withSt (st' := ⟨[], [⟨5, 1, (v4sl1 ++ ([48 + (u8shr (nth v0b (Int.toNat (v9l1))) 4)] : List UInt8)).length, none⟩]⟩) rfl ?_
      refine .q (q_assign rfl) rfl ?_
      refine .nil ?_
      refine .seq ?_
      refine .region ?_
      refine .q (q_move rfl) rfl ?_
      refine .q (x := .d (cU8 ((nth v0b (Int.toNat (v9l1))) &&& 15))) (q8_and (a := nth v0b (Int.toNat (v9l1))) (b := 15) rfl rfl) rfl ?_
      refine .q (x := .d (cB (((nth v0b (Int.toNat (v9l1))) &&& 15) != 15))) (q8_neq (a := (nth v0b (Int.toNat (v9l1))) &&& 15) (b := 15) rfl rfl) rfl ?_
      refine .q (q_move rfl) rfl ?_
      refine .guardG (env' := [(5, _)]) rfl rfl rfl ⟨.inl rfl, trivial⟩ rfl (fun hg => OpQ.g (q_move rfl)) ?_
      refine .guardG (env' := [(0, _)]) rfl rfl rfl ⟨.inl rfl, trivial⟩ rfl (fun hg => OpQ.g (q_move rfl)) ?_
      refine .guardG (env' := [(25, _)]) rfl rfl rfl ⟨.inr (.inl rfl), trivial⟩ rfl (fun hg => OpQ.g (q_lenL (l := v0b) (row := rB8) Tryd.underlying25 rfl rfl)) ?_
      obtain ⟨hk4, H⟩ := ck_some H
      refine .guardG (env' := [(26, _)]) rfl rfl rfl ⟨.inr (.inl rfl), trivial⟩ rfl (fun hg => OpQ.g (q_subI rfl rfl (hk4 hg).1 (hk4 hg).2)) ?_
      refine .guardG (env' := [(24, _), (27, _)]) rfl rfl rfl ⟨.inr (.inl rfl), ⟨.inr (.inl rfl), trivial⟩⟩ rfl (fun hg => OpQ.g (q_lss rfl rfl)) ?_
      refine .q (q_pickOrB rfl rfl rfl) rfl ?_
      refine .nil ?_
      refine .cond rfl (fun hc => ?_) (fun hc => ?_)
      · replace H := ifT hc H; clear hc
        refine .region ?_
        refine .q (q_move rfl) rfl ?_
        refine .q (q_move rfl) rfl ?_
        refine .q (x := .d (cU8 ((nth v0b (Int.toNat (v9l1))) &&& 15))) (q8_and (a := nth v0b (Int.toNat (v9l1))) (b := 15) rfl rfl) rfl ?_
        refine .q (x := .d (cU8 (48 + ((nth v0b (Int.toNat (v9l1))) &&& 15)))) (q8_add (a := 48) (b := (nth v0b (Int.toNat (v9l1))) &&& 15) rfl rfl) rfl ?_
        refine .g (x := .d (slOf 1 rB8 ([48 + ((nth v0b (Int.toNat (v9l1))) &&& 15)] : List UInt8))) (g_buildSlice1 Tryd.underlying25 hi5 hs5 hz5 rfl rfl rfl rfl rfl) rfl ?_
        obtain ⟨hk5, H⟩ := ck_some H
        refine .v (x := .tsl 1 (((v4sl1 ++ ([48 + (u8shr (nth v0b (Int.toNat (v9l1))) 4)] : List UInt8)) ++ ([48 + ((nth v0b (Int.toNat (v9l1))) &&& 15)] : List UInt8)).map rB8) 0) (v_appendL (l := v4sl1 ++ ([48 + (u8shr (nth v0b (Int.toNat (v9l1))) 4)] : List UInt8)) (l' := ([48 + ((nth v0b (Int.toNat (v9l1))) &&& 15)] : List UInt8)) (row := rB8) Tryd.underlying25 hi5 hz5 hs5 rfl (by rw [hb5]; decide) rfl rfl rfl rfl hk5) rfl ?_
        refine .withSt (st' := ⟨[], [⟨5, 1, ((v4sl1 ++ ([48 + (u8shr (nth v0b (Int.toNat (v9l1))) 4)] : List UInt8)) ++ ([48 + ((nth v0b (Int.toNat (v9l1))) &&& 15)] : List UInt8)).length, none⟩]⟩) rfl ?_
        refine .q (q_assign rfl) rfl ?_
        refine .nil ?_
        refine .inBlock ?_
        refine .region ?_
        obtain ⟨hk6, H⟩ := ck_some H
        refine .q (q_addI rfl rfl hk6.1 hk6.2) rfl ?_
        refine .q (q_move rfl) rfl ?_
        refine .nil ?_
        cases H
        exact .withSt (st' := ⟨[], [⟨5, 1, ((v4sl1 ++ ([48 + (u8shr (nth v0b (Int.toNat (v9l1))) 4)] : List UInt8)) ++ ([48 + ((nth v0b (Int.toNat (v9l1))) &&& 15)] : List UInt8)).length, none⟩]⟩) rfl <| .sub (.cons rfl (.rfl' _) (.cons rfl (.rfl' _) (.cons rfl (.rfl' _) (.cons rfl (.rfl' _) (.cons rfl (.rfl' _) (.nil)))))) (ih1 (n1, ((v4sl1 ++ ([48 + (u8shr (nth v0b (Int.toNat (v9l1))) 4)] : List UInt8)) ++ ([48 + ((nth v0b (Int.toNat (v9l1))) &&& 15)] : List UInt8), v9l1 + 1)) HK1 hm1)
      · replace H := ifF hc H; clear hc
        refine .skip ?_
        refine .inBlock ?_
        refine .region ?_
        obtain ⟨hk7, H⟩ := ck_some H
        refine .q (q_addI rfl rfl hk7.1 hk7.2) rfl ?_
        refine .q (q_move rfl) rfl ?_
        refine .nil ?_
        cases H
        exact .withSt (st' := ⟨[], [⟨5, 1, (v4sl1 ++ ([48 + (u8shr (nth v0b (Int.toNat (v9l1))) 4)] : List UInt8)).length, none⟩]⟩) rfl <| .sub (.cons rfl (.rfl' _) (.cons rfl (.rfl' _) (.cons rfl (.rfl' _) (.cons rfl (.rfl' _) (.cons rfl (.rfl' _) (.nil)))))) (ih1 (n1, (v4sl1 ++ ([48 + (u8shr (nth v0b (Int.toNat (v9l1))) 4)] : List UInt8), v9l1 + 1)) HK1 hm1)
    · replace H := ifF hc H; clear hc
      refine .exit rfl ?_
      obtain ⟨q0, H9, hq0⟩ := map_some' H; clear H; cases hq0
      cases HK1
      have H := H9
      exact .withSt (st' := ⟨[], [⟨5, 1, v4sl1.length, none⟩]⟩) rfl <| .sub (.cons rfl (.rfl' _) (.nil)) (hj1x v4sl1 H)

set_option maxRecDepth 100000 in
set_option maxHeartbeats 1000000 in
theorem c_g_tagged_field {v1 : Element} {o0c0p : Record} {r : Bool × Record} (H : g_tagged_field v1 o0c0p = some r) : ACallS Tryd.prog 36 [.ref 0 0, .d (.agg (Element.row v1))] ⟨[.row 34 [.d (cI o0c0p.source), .d (cI o0c0p.serial), .d (cI o0c0p.kind), .d (cS o0c0p.a), .d (cS o0c0p.b), .d (cI o0c0p.start), .d (cI o0c0p.units), .d (cI o0c0p.call), .d (cI o0c0p.part), .d (cB o0c0p.last), .d (cI o0c0p.trunk), .d (cB o0c0p.inbound)]], []⟩ (QE (.d (cB r.1)) ⟨[.row 34 [.d (cI r.2.source), .d (cI r.2.serial), .d (cI r.2.kind), .d (cS r.2.a), .d (cS r.2.b), .d (cI r.2.start), .d (cI r.2.units), .d (cI r.2.call), .d (cI r.2.part), .d (cB r.2.last), .d (cI r.2.trunk), .d (cB r.2.inbound)]], []⟩) := by
  obtain ⟨i5, hi5, hz5, hs5, hb5⟩ := in_5
  obtain ⟨i72, hi72, hz72, hs72, hb72⟩ := in_72
  refine ACallS.keep ?_
  refine ACallS.enter Tryd.func36 rfl Tryd.ntmps36 rfl fun S hS => ?_
  unfold g_tagged_field at H
  change ARun _ _ _ _ _ _ [(0, .ref 0 0), (1, .d (.agg (Element.row v1)))] _
  refine .seq ?_
  refine .region ?_
  refine .v (x := .ref 1 0) (v_box rfl rfl) rfl ?_
  refine .withSt (st' := ⟨[.row 34 [.d (cI o0c0p.source), .d (cI o0c0p.serial), .d (cI o0c0p.kind), .d (cS o0c0p.a), .d (cS o0c0p.b), .d (cI o0c0p.start), .d (cI o0c0p.units), .d (cI o0c0p.call), .d (cI o0c0p.part), .d (cB o0c0p.last), .d (cI o0c0p.trunk), .d (cB o0c0p.inbound)], .row 47 [.d (cI v1.tag), .d (slOf 1 rB8 v1.value)]], []⟩) rfl ?_
  refine .q (q_assign rfl) rfl ?_
  refine .nil ?_
  refine .seq ?_
  refine .drawnM 35 0 (intKF Tryd.underlying3) ([(4, 1, .ref 0 2), (8, 2, .ref 0 0), (12, 3, .ref 0 1), (16, 6, .ref 0 5), (20, 7, .ref 0 6), (24, 8, .ref 0 7), (28, 9, .ref 0 8), (32, 10, .ref 0 10)] : List (Nat × Int × EV)) hMix (by kernel_rfl) Tryd.underlying73 (by decide) rfl (by decide) (by decide) ?_
  show MOps _ _ _ _ _ _ _ _ _ _ _ _ (_ :: _) _ _ _
  refine .make rfl rfl ?_
  refine .q (x := .ref 0 0) (fun s hs => q_move rfl) rfl rfl ?_
  refine .q (x := .ref 0 0) (fun s hs => q_nilRef rfl) rfl rfl ?_
  refine .q (x := .ref 0 2) (fun s hs => q_fieldRef fo_34_2 rfl) rfl rfl ?_
  refine .insE 0 rfl rfl rfl (fun _ _ _ h => exKey h) rfl (by kernel_rfl) ?_
  refine .q (x := .ref 0 0) (fun s hs => q_move rfl) rfl rfl ?_
  refine .q (x := .ref 0 0) (fun s hs => q_nilRef rfl) rfl rfl ?_
  refine .q (x := .ref 0 0) (fun s hs => q_fieldRef fo_34_0 rfl) rfl rfl ?_
  refine .insE 1 rfl rfl rfl (fun _ _ _ h => exKey h) rfl (by kernel_rfl) ?_
  refine .q (x := .ref 0 0) (fun s hs => q_move rfl) rfl rfl ?_
  refine .q (x := .ref 0 0) (fun s hs => q_nilRef rfl) rfl rfl ?_
  refine .q (x := .ref 0 1) (fun s hs => q_fieldRef fo_34_1 rfl) rfl rfl ?_
  refine .insE 2 rfl rfl rfl (fun _ _ _ h => exKey h) rfl (by kernel_rfl) ?_
  refine .q (x := .ref 0 0) (fun s hs => q_move rfl) rfl rfl ?_
  refine .q (x := .ref 0 0) (fun s hs => q_nilRef rfl) rfl rfl ?_
  refine .q (x := .ref 0 5) (fun s hs => q_fieldRef fo_34_5 rfl) rfl rfl ?_
  refine .insE 3 rfl rfl rfl (fun _ _ _ h => exKey h) rfl (by kernel_rfl) ?_
  refine .q (x := .ref 0 0) (fun s hs => q_move rfl) rfl rfl ?_
  refine .q (x := .ref 0 0) (fun s hs => q_nilRef rfl) rfl rfl ?_
  refine .q (x := .ref 0 6) (fun s hs => q_fieldRef fo_34_6 rfl) rfl rfl ?_
  refine .insE 4 rfl rfl rfl (fun _ _ _ h => exKey h) rfl (by kernel_rfl) ?_
  refine .q (x := .ref 0 0) (fun s hs => q_move rfl) rfl rfl ?_
  refine .q (x := .ref 0 0) (fun s hs => q_nilRef rfl) rfl rfl ?_
  refine .q (x := .ref 0 7) (fun s hs => q_fieldRef fo_34_7 rfl) rfl rfl ?_
  refine .insE 5 rfl rfl rfl (fun _ _ _ h => exKey h) rfl (by kernel_rfl) ?_
  refine .q (x := .ref 0 0) (fun s hs => q_move rfl) rfl rfl ?_
  refine .q (x := .ref 0 0) (fun s hs => q_nilRef rfl) rfl rfl ?_
  refine .q (x := .ref 0 8) (fun s hs => q_fieldRef fo_34_8 rfl) rfl rfl ?_
  refine .insE 6 rfl rfl rfl (fun _ _ _ h => exKey h) rfl (by kernel_rfl) ?_
  refine .q (x := .ref 0 0) (fun s hs => q_move rfl) rfl rfl ?_
  refine .q (x := .ref 0 0) (fun s hs => q_nilRef rfl) rfl rfl ?_
  refine .q (x := .ref 0 10) (fun s hs => q_fieldRef fo_34_10 rfl) rfl rfl ?_
  refine .insE 7 rfl rfl rfl (fun _ _ _ h => exKey h) rfl (by kernel_rfl) ?_
  refine .q (x := .mp 2) (fun s hs => q_move rfl) rfl rfl ?_
  refine .q (x := .mp 2) (fun s hs => q_assign rfl) rfl rfl ?_
  refine .nil fun es1 hes1 => ?_
  show AOps _ _ _ _ _ _ [] _ _ _
  refine .nil ?_
  refine .withSt (st' := ⟨[.row 34 [.d (cI o0c0p.source), .d (cI o0c0p.serial), .d (cI o0c0p.kind), .d (cS o0c0p.a), .d (cS o0c0p.b), .d (cI o0c0p.start), .d (cI o0c0p.units), .d (cI o0c0p.call), .d (cI o0c0p.part), .d (cB o0c0p.last), .d (cI o0c0p.trunk), .d (cB o0c0p.inbound)], .row 47 [.d (cI v1.tag), .d (slOf 1 rB8 v1.value)], .map (encE (fun n => Value.int .i64 n) es1)], []⟩) rfl ?_
  refine .seq ?_
  refine .seq ?_
  refine .split (decide (v1.tag = 1)) (fun hsp1 => ?_) (fun hsp1 => ?_)
  · replace H := ifT hsp1 H
    refine .region ?_
    refine .q (q_move rfl) rfl ?_
    refine .q (q_fieldRef fo_47_0 rfl) rfl ?_
    refine .q (x := .d (cI v1.tag)) (q_loadO one_3 rfl rfl rfl) rfl ?_
    refine .q (x := .tup [.ref 0 2, .d (cB true)]) (q_lookupSome (intKF Tryd.underlying3) (l := es1) (k := 1) (ev := .ref 0 2) Tryd.underlying73 hi72 hz72 rfl rfl hes1 (by decide) (List.mem_of_getElem? (i := 0) rfl) rfl (fun _ _ _ h => (exKey h).trans (congrArg (Value.int .i64) (of_decide_eq_true hsp1)))) rfl ?_
    refine .q (q_move rfl) rfl ?_
    refine .q (x := .ref 0 2) (q_extractE rfl rfl) rfl ?_
    refine .q (x := .d (cB true)) (q_extractE rfl rfl) rfl ?_
    refine .q (q_assign rfl) rfl ?_
    refine .q (q_assign rfl) rfl ?_
    refine .nil ?_
    refine .seq ?_
    refine .region ?_
    refine .q (q_move rfl) rfl ?_
    refine .nil ?_
    refine .cond rfl (fun hc => ?_) (fun hc => nomatch hc)
    clear hc
    refine .seq ?_
    refine .region ?_
    refine .q (q_move rfl) rfl ?_
    refine .q (q_fieldRef fo_47_1 rfl) rfl ?_
    refine .q (x := .d (slOf 1 rB8 v1.value)) (q_loadO one_25 rfl rfl rfl) rfl ?_
    obtain ⟨y1, hy1, H⟩ := bind_some' H
    refine .g (x := .d (.tup [cI y1.1, cB y1.2])) (g_call en_44 rfl rfl (c_f_tagged_number (hy1))) rfl ?_
    refine .q (q_move rfl) rfl ?_
    refine .q (q_extract rfl rfl) rfl ?_
    refine .q (q_extract rfl rfl) rfl ?_
    refine .q (q_nilRef rfl) rfl ?_
    refine .u (u_store rfl rfl rfl rfl (Nat.le_of_ble_eq_true rfl) sz_3) rfl ?_
    refine .withSt (st' := ⟨[.row 34 [.d (cI o0c0p.source), .d (cI o0c0p.serial), .d (cI y1.1), .d (cS o0c0p.a), .d (cS o0c0p.b), .d (cI o0c0p.start), .d (cI o0c0p.units), .d (cI o0c0p.call), .d (cI o0c0p.part), .d (cB o0c0p.last), .d (cI o0c0p.trunk), .d (cB o0c0p.inbound)], .row 47 [.d (cI v1.tag), .d (slOf 1 rB8 v1.value)], .map (encE (fun n => Value.int .i64 n) es1)], []⟩) rfl ?_
    refine .q (q_assign rfl) rfl ?_
    refine .nil ?_
    refine .seq ?_
    refine .region ?_
    refine .q (q_move rfl) rfl ?_
    refine .q (q_assign rfl) rfl ?_
    refine .nil ?_
    refine .retN [.tmp 4] [.d (cB y1.2)] Tryd.func36 Tryd.results36 ⟨rfl, trivial⟩ ?_
    cases H
    exact ⟨[0], [], rfl, rfl, rfl, rfl, rfl, rfl, rfl, rfl, .rfl' _⟩
  · replace H := ifF hsp1 H
    refine .split (decide (v1.tag = 2)) (fun hsp2 => ?_) (fun hsp2 => ?_)
    · replace H := ifT hsp2 H
      refine .region ?_
      refine .q (q_move rfl) rfl ?_
      refine .q (q_fieldRef fo_47_0 rfl) rfl ?_
      refine .q (x := .d (cI v1.tag)) (q_loadO one_3 rfl rfl rfl) rfl ?_
      refine .q (x := .tup [.ref 0 0, .d (cB true)]) (q_lookupSome (intKF Tryd.underlying3) (l := es1) (k := 2) (ev := .ref 0 0) Tryd.underlying73 hi72 hz72 rfl rfl hes1 (by decide) (List.mem_of_getElem? (i := 1) rfl) rfl (fun _ _ _ h => (exKey h).trans (congrArg (Value.int .i64) (of_decide_eq_true hsp2)))) rfl ?_
      refine .q (q_move rfl) rfl ?_
      refine .q (x := .ref 0 0) (q_extractE rfl rfl) rfl ?_
      refine .q (x := .d (cB true)) (q_extractE rfl rfl) rfl ?_
      refine .q (q_assign rfl) rfl ?_
      refine .q (q_assign rfl) rfl ?_
      refine .nil ?_
      refine .seq ?_
      refine .region ?_
      refine .q (q_move rfl) rfl ?_
      refine .nil ?_
      refine .cond rfl (fun hc => ?_) (fun hc => nomatch hc)
      clear hc
      refine .seq ?_
      refine .region ?_
      refine .q (q_move rfl) rfl ?_
      refine .q (q_fieldRef fo_47_1 rfl) rfl ?_
      refine .q (x := .d (slOf 1 rB8 v1.value)) (q_loadO one_25 rfl rfl rfl) rfl ?_
      obtain ⟨y2, hy2, H⟩ := bind_some' H
      refine .g (x := .d (.tup [cI y2.1, cB y2.2])) (g_call en_44 rfl rfl (c_f_tagged_number (hy2))) rfl ?_
      refine .q (q_move rfl) rfl ?_
      refine .q (q_extract rfl rfl) rfl ?_
      refine .q (q_extract rfl rfl) rfl ?_
      refine .q (q_nilRef rfl) rfl ?_
      refine .u (u_store rfl rfl rfl rfl (Nat.le_of_ble_eq_true rfl) sz_3) rfl ?_
      refine .withSt (st' := ⟨[.row 34 [.d (cI y2.1), .d (cI o0c0p.serial), .d (cI o0c0p.kind), .d (cS o0c0p.a), .d (cS o0c0p.b), .d (cI o0c0p.start), .d (cI o0c0p.units), .d (cI o0c0p.call), .d (cI o0c0p.part), .d (cB o0c0p.last), .d (cI o0c0p.trunk), .d (cB o0c0p.inbound)], .row 47 [.d (cI v1.tag), .d (slOf 1 rB8 v1.value)], .map (encE (fun n => Value.int .i64 n) es1)], []⟩) rfl ?_
      refine .q (q_assign rfl) rfl ?_
      refine .nil ?_
      refine .seq ?_
      refine .region ?_
      refine .q (q_move rfl) rfl ?_
      refine .q (q_assign rfl) rfl ?_
      refine .nil ?_
      refine .retN [.tmp 4] [.d (cB y2.2)] Tryd.func36 Tryd.results36 ⟨rfl, trivial⟩ ?_
      cases H
      exact ⟨[0], [], rfl, rfl, rfl, rfl, rfl, rfl, rfl, rfl, .rfl' _⟩
    · replace H := ifF hsp2 H
      refine .split (decide (v1.tag = 3)) (fun hsp3 => ?_) (fun hsp3 => ?_)
      · replace H := ifT hsp3 H
        refine .region ?_
        refine .q (q_move rfl) rfl ?_
        refine .q (q_fieldRef fo_47_0 rfl) rfl ?_
        refine .q (x := .d (cI v1.tag)) (q_loadO one_3 rfl rfl rfl) rfl ?_
        refine .q (x := .tup [.ref 0 1, .d (cB true)]) (q_lookupSome (intKF Tryd.underlying3) (l := es1) (k := 3) (ev := .ref 0 1) Tryd.underlying73 hi72 hz72 rfl rfl hes1 (by decide) (List.mem_of_getElem? (i := 2) rfl) rfl (fun _ _ _ h => (exKey h).trans (congrArg (Value.int .i64) (of_decide_eq_true hsp3)))) rfl ?_
        refine .q (q_move rfl) rfl ?_
        refine .q (x := .ref 0 1) (q_extractE rfl rfl) rfl ?_
        refine .q (x := .d (cB true)) (q_extractE rfl rfl) rfl ?_
        refine .q (q_assign rfl) rfl ?_
        refine .q (q_assign rfl) rfl ?_
        refine .nil ?_
        refine .seq ?_
        refine .region ?_
        refine .q (q_move rfl) rfl ?_
        refine .nil ?_
        refine .cond rfl (fun hc => ?_) (fun hc => nomatch hc)
        clear hc
        refine .seq ?_
        refine .region ?_
        refine .q (q_move rfl) rfl ?_
        refine .q (q_fieldRef fo_47_1 rfl) rfl ?_
        refine .q (x := .d (slOf 1 rB8 v1.value)) (q_loadO one_25 rfl rfl rfl) rfl ?_
        obtain ⟨y3, hy3, H⟩ := bind_some' H
        refine .g (x := .d (.tup [cI y3.1, cB y3.2])) (g_call en_44 rfl rfl (c_f_tagged_number (hy3))) rfl ?_
        refine .q (q_move rfl) rfl ?_
        refine .q (q_extract rfl rfl) rfl ?_
        refine .q (q_extract rfl rfl) rfl ?_
        refine .q (q_nilRef rfl) rfl ?_
        refine .u (u_store rfl rfl rfl rfl (Nat.le_of_ble_eq_true rfl) sz_3) rfl ?_
        refine .withSt (st' := ⟨[.row 34 [.d (cI o0c0p.source), .d (cI y3.1), .d (cI o0c0p.kind), .d (cS o0c0p.a), .d (cS o0c0p.b), .d (cI o0c0p.start), .d (cI o0c0p.units), .d (cI o0c0p.call), .d (cI o0c0p.part), .d (cB o0c0p.last), .d (cI o0c0p.trunk), .d (cB o0c0p.inbound)], .row 47 [.d (cI v1.tag), .d (slOf 1 rB8 v1.value)], .map (encE (fun n => Value.int .i64 n) es1)], []⟩) rfl ?_
        refine .q (q_assign rfl) rfl ?_
        refine .nil ?_
        refine .seq ?_
        refine .region ?_
        refine .q (q_move rfl) rfl ?_
        refine .q (q_assign rfl) rfl ?_
        refine .nil ?_
        refine .retN [.tmp 4] [.d (cB y3.2)] Tryd.func36 Tryd.results36 ⟨rfl, trivial⟩ ?_
        cases H
        exact ⟨[0], [], rfl, rfl, rfl, rfl, rfl, rfl, rfl, rfl, .rfl' _⟩
      · replace H := ifF hsp3 H
        refine .split (decide (v1.tag = 6)) (fun hsp4 => ?_) (fun hsp4 => ?_)
        · replace H := ifT hsp4 H
          refine .region ?_
          refine .q (q_move rfl) rfl ?_
          refine .q (q_fieldRef fo_47_0 rfl) rfl ?_
          refine .q (x := .d (cI v1.tag)) (q_loadO one_3 rfl rfl rfl) rfl ?_
          refine .q (x := .tup [.ref 0 5, .d (cB true)]) (q_lookupSome (intKF Tryd.underlying3) (l := es1) (k := 6) (ev := .ref 0 5) Tryd.underlying73 hi72 hz72 rfl rfl hes1 (by decide) (List.mem_of_getElem? (i := 3) rfl) rfl (fun _ _ _ h => (exKey h).trans (congrArg (Value.int .i64) (of_decide_eq_true hsp4)))) rfl ?_
          refine .q (q_move rfl) rfl ?_
          refine .q (x := .ref 0 5) (q_extractE rfl rfl) rfl ?_
          refine .q (x := .d (cB true)) (q_extractE rfl rfl) rfl ?_
          refine .q (q_assign rfl) rfl ?_
          refine .q (q_assign rfl) rfl ?_
          refine .nil ?_
          refine .seq ?_
          refine .region ?_
          refine .q (q_move rfl) rfl ?_
          refine .nil ?_
          refine .cond rfl (fun hc => ?_) (fun hc => nomatch hc)
          clear hc
          refine .seq ?_
          refine .region ?_
          refine .q (q_move rfl) rfl ?_
          refine .q (q_fieldRef fo_47_1 rfl) rfl ?_
          refine .q (x := .d (slOf 1 rB8 v1.value)) (q_loadO one_25 rfl rfl rfl) rfl ?_
          obtain ⟨y4, hy4, H⟩ := bind_some' H
          refine .g (x := .d (.tup [cI y4.1, cB y4.2])) (g_call en_44 rfl rfl (c_f_tagged_number (hy4))) rfl ?_
          refine .q (q_move rfl) rfl ?_
          refine .q (q_extract rfl rfl) rfl ?_
          refine .q (q_extract rfl rfl) rfl ?_
          refine .q (q_nilRef rfl) rfl ?_
          refine .u (u_store rfl rfl rfl rfl (Nat.le_of_ble_eq_true rfl) sz_3) rfl ?_
          refine .withSt (st' := ⟨[.row 34 [.d (cI o0c0p.source), .d (cI o0c0p.serial), .d (cI o0c0p.kind), .d (cS o0c0p.a), .d (cS o0c0p.b), .d (cI y4.1), .d (cI o0c0p.units), .d (cI o0c0p.call), .d (cI o0c0p.part), .d (cB o0c0p.last), .d (cI o0c0p.trunk), .d (cB o0c0p.inbound)], .row 47 [.d (cI v1.tag), .d (slOf 1 rB8 v1.value)], .map (encE (fun n => Value.int .i64 n) es1)], []⟩) rfl ?_
          refine .q (q_assign rfl) rfl ?_
          refine .nil ?_
          refine .seq ?_
          refine .region ?_
          refine .q (q_move rfl) rfl ?_
          refine .q (q_assign rfl) rfl ?_
          refine .nil ?_
          refine .retN [.tmp 4] [.d (cB y4.2)] Tryd.func36 Tryd.results36 ⟨rfl, trivial⟩ ?_
          cases H
          exact ⟨[0], [], rfl, rfl, rfl, rfl, rfl, rfl, rfl, rfl, .rfl' _⟩
        · replace H := ifF hsp4 H
          refine .split (decide (v1.tag = 7)) (fun hsp5 => ?_) (fun hsp5 => ?_)
          · replace H := ifT hsp5 H
            refine .region ?_
            refine .q (q_move rfl) rfl ?_
            refine .q (q_fieldRef fo_47_0 rfl) rfl ?_
            refine .q (x := .d (cI v1.tag)) (q_loadO one_3 rfl rfl rfl) rfl ?_
            refine .q (x := .tup [.ref 0 6, .d (cB true)]) (q_lookupSome (intKF Tryd.underlying3) (l := es1) (k := 7) (ev := .ref 0 6) Tryd.underlying73 hi72 hz72 rfl rfl hes1 (by decide) (List.mem_of_getElem? (i := 4) rfl) rfl (fun _ _ _ h => (exKey h).trans (congrArg (Value.int .i64) (of_decide_eq_true hsp5)))) rfl ?_
            refine .q (q_move rfl) rfl ?_
            refine .q (x := .ref 0 6) (q_extractE rfl rfl) rfl ?_
            refine .q (x := .d (cB true)) (q_extractE rfl rfl) rfl ?_
            refine .q (q_assign rfl) rfl ?_
            refine .q (q_assign rfl) rfl ?_
            refine .nil ?_
            refine .seq ?_
            refine .region ?_
            refine .q (q_move rfl) rfl ?_
            refine .nil ?_
            refine .cond rfl (fun hc => ?_) (fun hc => nomatch hc)
            clear hc
            refine .seq ?_
            refine .region ?_
            refine .q (q_move rfl) rfl ?_
            refine .q (q_fieldRef fo_47_1 rfl) rfl ?_
            refine .q (x := .d (slOf 1 rB8 v1.value)) (q_loadO one_25 rfl rfl rfl) rfl ?_
            obtain ⟨y5, hy5, H⟩ := bind_some' H
            refine .g (x := .d (.tup [cI y5.1, cB y5.2])) (g_call en_44 rfl rfl (c_f_tagged_number (hy5))) rfl ?_
            refine .q (q_move rfl) rfl ?_
            refine .q (q_extract rfl rfl) rfl ?_
            refine .q (q_extract rfl rfl) rfl ?_
            refine .q (q_nilRef rfl) rfl ?_
            refine .u (u_store rfl rfl rfl rfl (Nat.le_of_ble_eq_true rfl) sz_3) rfl ?_
            refine .withSt (st' := ⟨[.row 34 [.d (cI o0c0p.source), .d (cI o0c0p.serial), .d (cI o0c0p.kind), .d (cS o0c0p.a), .d (cS o0c0p.b), .d (cI o0c0p.start), .d (cI y5.1), .d (cI o0c0p.call), .d (cI o0c0p.part), .d (cB o0c0p.last), .d (cI o0c0p.trunk), .d (cB o0c0p.inbound)], .row 47 [.d (cI v1.tag), .d (slOf 1 rB8 v1.value)], .map (encE (fun n => Value.int .i64 n) es1)], []⟩) rfl ?_
            refine .q (q_assign rfl) rfl ?_
            refine .nil ?_
            refine .seq ?_
            refine .region ?_
            refine .q (q_move rfl) rfl ?_
            refine .q (q_assign rfl) rfl ?_
            refine .nil ?_
            refine .retN [.tmp 4] [.d (cB y5.2)] Tryd.func36 Tryd.results36 ⟨rfl, trivial⟩ ?_
            cases H
            exact ⟨[0], [], rfl, rfl, rfl, rfl, rfl, rfl, rfl, rfl, .rfl' _⟩
          · replace H := ifF hsp5 H
            refine .split (decide (v1.tag = 8)) (fun hsp6 => ?_) (fun hsp6 => ?_)
            · replace H := ifT hsp6 H
              refine .region ?_
              refine .q (q_move rfl) rfl ?_
              refine .q (q_fieldRef fo_47_0 rfl) rfl ?_
              refine .q (x := .d (cI v1.tag)) (q_loadO one_3 rfl rfl rfl) rfl ?_
              refine .q (x := .tup [.ref 0 7, .d (cB true)]) (q_lookupSome (intKF Tryd.underlying3) (l := es1) (k := 8) (ev := .ref 0 7) Tryd.underlying73 hi72 hz72 rfl rfl hes1 (by decide) (List.mem_of_getElem? (i := 5) rfl) rfl (fun _ _ _ h => (exKey h).trans (congrArg (Value.int .i64) (of_decide_eq_true hsp6)))) rfl ?_
              refine .q (q_move rfl) rfl ?_
              refine .q (x := .ref 0 7) (q_extractE rfl rfl) rfl ?_
              refine .q (x := .d (cB true)) (q_extractE rfl rfl) rfl ?_
              refine .q (q_assign rfl) rfl ?_
              refine .q (q_assign rfl) rfl ?_
              refine .nil ?_
              refine .seq ?_
              refine .region ?_
              refine .q (q_move rfl) rfl ?_
              refine .nil ?_
              refine .cond rfl (fun hc => ?_) (fun hc => nomatch hc)
              clear hc
              refine .seq ?_
              refine .region ?_
              refine .q (q_move rfl) rfl ?_
              refine .q (q_fieldRef fo_47_1 rfl) rfl ?_
              refine .q (x := .d (slOf 1 rB8 v1.value)) (q_loadO one_25 rfl rfl rfl) rfl ?_
              obtain ⟨y6, hy6, H⟩ := bind_some' H
              refine .g (x := .d (.tup [cI y6.1, cB y6.2])) (g_call en_44 rfl rfl (c_f_tagged_number (hy6))) rfl ?_
              refine .q (q_move rfl) rfl ?_
              refine .q (q_extract rfl rfl) rfl ?_
              refine .q (q_extract rfl rfl) rfl ?_
              refine .q (q_nilRef rfl) rfl ?_
              refine .u (u_store rfl rfl rfl rfl (Nat.le_of_ble_eq_true rfl) sz_3) rfl ?_
              refine .withSt (st' := ⟨[.row 34 [.d (cI o0c0p.source), .d (cI o0c0p.serial), .d (cI o0c0p.kind), .d (cS o0c0p.a), .d (cS o0c0p.b), .d (cI o0c0p.start), .d (cI o0c0p.units), .d (cI y6.1), .d (cI o0c0p.part), .d (cB o0c0p.last), .d (cI o0c0p.trunk), .d (cB o0c0p.inbound)], .row 47 [.d (cI v1.tag), .d (slOf 1 rB8 v1.value)], .map (encE (fun n => Value.int .i64 n) es1)], []⟩) rfl ?_
              refine .q (q_assign rfl) rfl ?_
              refine .nil ?_
              refine .seq ?_
              refine .region ?_
              refine .q (q_move rfl) rfl ?_
              refine .q (q_assign rfl) rfl ?_
              refine .nil ?_
              refine .retN [.tmp 4] [.d (cB y6.2)] Tryd.func36 Tryd.results36 ⟨rfl, trivial⟩ ?_
              cases H
              exact ⟨[0], [], rfl, rfl, rfl, rfl, rfl, rfl, rfl, rfl, .rfl' _⟩
            · replace H := ifF hsp6 H
              refine .split (decide (v1.tag = 9)) (fun hsp7 => ?_) (fun hsp7 => ?_)
              · replace H := ifT hsp7 H
                refine .region ?_
                refine .q (q_move rfl) rfl ?_
                refine .q (q_fieldRef fo_47_0 rfl) rfl ?_
                refine .q (x := .d (cI v1.tag)) (q_loadO one_3 rfl rfl rfl) rfl ?_
                refine .q (x := .tup [.ref 0 8, .d (cB true)]) (q_lookupSome (intKF Tryd.underlying3) (l := es1) (k := 9) (ev := .ref 0 8) Tryd.underlying73 hi72 hz72 rfl rfl hes1 (by decide) (List.mem_of_getElem? (i := 6) rfl) rfl (fun _ _ _ h => (exKey h).trans (congrArg (Value.int .i64) (of_decide_eq_true hsp7)))) rfl ?_
                refine .q (q_move rfl) rfl ?_
                refine .q (x := .ref 0 8) (q_extractE rfl rfl) rfl ?_
                refine .q (x := .d (cB true)) (q_extractE rfl rfl) rfl ?_
                refine .q (q_assign rfl) rfl ?_
                refine .q (q_assign rfl) rfl ?_
                refine .nil ?_
                refine .seq ?_
                refine .region ?_
                refine .q (q_move rfl) rfl ?_
                refine .nil ?_
                refine .cond rfl (fun hc => ?_) (fun hc => nomatch hc)
                clear hc
                refine .seq ?_
                refine .region ?_
                refine .q (q_move rfl) rfl ?_
                refine .q (q_fieldRef fo_47_1 rfl) rfl ?_
                refine .q (x := .d (slOf 1 rB8 v1.value)) (q_loadO one_25 rfl rfl rfl) rfl ?_
                obtain ⟨y7, hy7, H⟩ := bind_some' H
                refine .g (x := .d (.tup [cI y7.1, cB y7.2])) (g_call en_44 rfl rfl (c_f_tagged_number (hy7))) rfl ?_
                refine .q (q_move rfl) rfl ?_
                refine .q (q_extract rfl rfl) rfl ?_
                refine .q (q_extract rfl rfl) rfl ?_
                refine .q (q_nilRef rfl) rfl ?_
                refine .u (u_store rfl rfl rfl rfl (Nat.le_of_ble_eq_true rfl) sz_3) rfl ?_
                refine .withSt (st' := ⟨[.row 34 [.d (cI o0c0p.source), .d (cI o0c0p.serial), .d (cI o0c0p.kind), .d (cS o0c0p.a), .d (cS o0c0p.b), .d (cI o0c0p.start), .d (cI o0c0p.units), .d (cI o0c0p.call), .d (cI y7.1), .d (cB o0c0p.last), .d (cI o0c0p.trunk), .d (cB o0c0p.inbound)], .row 47 [.d (cI v1.tag), .d (slOf 1 rB8 v1.value)], .map (encE (fun n => Value.int .i64 n) es1)], []⟩) rfl ?_
                refine .q (q_assign rfl) rfl ?_
                refine .nil ?_
                refine .seq ?_
                refine .region ?_
                refine .q (q_move rfl) rfl ?_
                refine .q (q_assign rfl) rfl ?_
                refine .nil ?_
                refine .retN [.tmp 4] [.d (cB y7.2)] Tryd.func36 Tryd.results36 ⟨rfl, trivial⟩ ?_
                cases H
                exact ⟨[0], [], rfl, rfl, rfl, rfl, rfl, rfl, rfl, rfl, .rfl' _⟩
              · replace H := ifF hsp7 H
                refine .split (decide (v1.tag = 10)) (fun hsp8 => ?_) (fun hsp8 => ?_)
                · replace H := ifT hsp8 H
                  refine .region ?_
                  refine .q (q_move rfl) rfl ?_
                  refine .q (q_fieldRef fo_47_0 rfl) rfl ?_
                  refine .q (x := .d (cI v1.tag)) (q_loadO one_3 rfl rfl rfl) rfl ?_
                  refine .q (x := .tup [.ref 0 10, .d (cB true)]) (q_lookupSome (intKF Tryd.underlying3) (l := es1) (k := 10) (ev := .ref 0 10) Tryd.underlying73 hi72 hz72 rfl rfl hes1 (by decide) (List.mem_of_getElem? (i := 7) rfl) rfl (fun _ _ _ h => (exKey h).trans (congrArg (Value.int .i64) (of_decide_eq_true hsp8)))) rfl ?_
                  refine .q (q_move rfl) rfl ?_
                  refine .q (x := .ref 0 10) (q_extractE rfl rfl) rfl ?_
                  refine .q (x := .d (cB true)) (q_extractE rfl rfl) rfl ?_
                  refine .q (q_assign rfl) rfl ?_
                  refine .q (q_assign rfl) rfl ?_
                  refine .nil ?_
                  refine .seq ?_
                  refine .region ?_
                  refine .q (q_move rfl) rfl ?_
                  refine .nil ?_
                  refine .cond rfl (fun hc => ?_) (fun hc => nomatch hc)
                  clear hc
                  refine .seq ?_
                  refine .region ?_
                  refine .q (q_move rfl) rfl ?_
                  refine .q (q_fieldRef fo_47_1 rfl) rfl ?_
                  refine .q (x := .d (slOf 1 rB8 v1.value)) (q_loadO one_25 rfl rfl rfl) rfl ?_
                  obtain ⟨y8, hy8, H⟩ := bind_some' H
                  refine .g (x := .d (.tup [cI y8.1, cB y8.2])) (g_call en_44 rfl rfl (c_f_tagged_number (hy8))) rfl ?_
                  refine .q (q_move rfl) rfl ?_
                  refine .q (q_extract rfl rfl) rfl ?_
                  refine .q (q_extract rfl rfl) rfl ?_
                  refine .q (q_nilRef rfl) rfl ?_
                  refine .u (u_store rfl rfl rfl rfl (Nat.le_of_ble_eq_true rfl) sz_3) rfl ?_
                  refine .withSt (st' := ⟨[.row 34 [.d (cI o0c0p.source), .d (cI o0c0p.serial), .d (cI o0c0p.kind), .d (cS o0c0p.a), .d (cS o0c0p.b), .d (cI o0c0p.start), .d (cI o0c0p.units), .d (cI o0c0p.call), .d (cI o0c0p.part), .d (cB o0c0p.last), .d (cI y8.1), .d (cB o0c0p.inbound)], .row 47 [.d (cI v1.tag), .d (slOf 1 rB8 v1.value)], .map (encE (fun n => Value.int .i64 n) es1)], []⟩) rfl ?_
                  refine .q (q_assign rfl) rfl ?_
                  refine .nil ?_
                  refine .seq ?_
                  refine .region ?_
                  refine .q (q_move rfl) rfl ?_
                  refine .q (q_assign rfl) rfl ?_
                  refine .nil ?_
                  refine .retN [.tmp 4] [.d (cB y8.2)] Tryd.func36 Tryd.results36 ⟨rfl, trivial⟩ ?_
                  cases H
                  exact ⟨[0], [], rfl, rfl, rfl, rfl, rfl, rfl, rfl, rfl, .rfl' _⟩
                · replace H := ifF hsp8 H
                  refine .region ?_
                  refine .q (q_move rfl) rfl ?_
                  refine .q (q_fieldRef fo_47_0 rfl) rfl ?_
                  refine .q (x := .d (cI v1.tag)) (q_loadO one_3 rfl rfl rfl) rfl ?_
                  refine .q (x := .tup [.d (.any), .d (cB false)]) (q_lookupNone (intKF Tryd.underlying3) (l := es1) (k := v1.tag) Tryd.underlying73 hi72 hz72 rfl rfl hes1 (by simp only [List.map_cons, List.map_nil, List.mem_cons, List.not_mem_nil, or_false, not_or]; exact ⟨of_decide_eq_false hsp1, of_decide_eq_false hsp2, of_decide_eq_false hsp3, of_decide_eq_false hsp4, of_decide_eq_false hsp5, of_decide_eq_false hsp6, of_decide_eq_false hsp7, of_decide_eq_false hsp8⟩) rfl (fun _ _ _ h => exKey h)) rfl ?_
                  refine .q (q_move rfl) rfl ?_
                  refine .q (x := .d (.any)) (q_extractE rfl rfl) rfl ?_
                  refine .q (x := .d (cB false)) (q_extractE rfl rfl) rfl ?_
                  refine .q (q_assign rfl) rfl ?_
                  refine .q (q_assign rfl) rfl ?_
                  refine .nil ?_
                  refine .seq ?_
                  refine .region ?_
                  refine .q (q_move rfl) rfl ?_
                  refine .nil ?_
                  refine .cond rfl (fun hc => nomatch hc) (fun hc => ?_)
                  clear hc
                  refine .skip ?_
                  refine .seq ?_
                  refine .seq ?_
                  refine .region ?_
                  refine .q (q_fieldRef fo_47_0 rfl) rfl ?_
                  refine .q (x := .d (cI v1.tag)) (q_loadO one_3 rfl rfl rfl) rfl ?_
                  refine .nil ?_
                  refine .block ?_
                  refine .seqJoin (ι := Bool) (fun s => [(0, .ref 0 0), (3, .ref 1 0), (54, .d (cI v1.tag)), (55, .d (cB s))]) (fun s => ⟨[.row 34 [.d (cI o0c0p.source), .d (cI o0c0p.serial), .d (cI o0c0p.kind), .d (cS o0c0p.a), .d (cS o0c0p.b), .d (cI o0c0p.start), .d (cI o0c0p.units), .d (cI o0c0p.call), .d (cI o0c0p.part), .d (cB o0c0p.last), .d (cI o0c0p.trunk), .d (cB o0c0p.inbound)], .row 47 [.d (cI v1.tag), .d (slOf 1 rB8 v1.value)], .map (encE (fun n => Value.int .i64 n) es1)], []⟩) (fun s => g_tagged_field_j1 v1 o0c0p s = some r) ?_ ?_
                  · rintro v55j1 H
                    replace H : g_tagged_field_j1 v1 o0c0p v55j1 = some r := H
                    unfold g_tagged_field_j1 at H
                    change ARun _ _ _ _ _ _ [(0, .ref 0 0), (3, .ref 1 0), (54, .d (cI v1.tag)), (55, .d (cB v55j1))] ⟨[.row 34 [.d (cI o0c0p.source), .d (cI o0c0p.serial), .d (cI o0c0p.kind), .d (cS o0c0p.a), .d (cS o0c0p.b), .d (cI o0c0p.start), .d (cI o0c0p.units), .d (cI o0c0p.call), .d (cI o0c0p.part), .d (cB o0c0p.last), .d (cI o0c0p.trunk), .d (cB o0c0p.inbound)], .row 47 [.d (cI v1.tag), .d (slOf 1 rB8 v1.value)], .map (encE (fun n => Value.int .i64 n) es1)], []⟩
                    refine .cond rfl (fun hc => ?_) (fun hc => ?_)
                    · replace H := ifT hc H; clear hc
                      refine .seq ?_
                      refine .region ?_
                      refine .q (q_fieldRef fo_47_1 rfl) rfl ?_
                      refine .q (x := .d (slOf 1 rB8 v1.value)) (q_loadO one_25 rfl rfl rfl) rfl ?_
                      obtain ⟨y9, hy9, H⟩ := bind_some' H
                      refine .g (x := .d (.tup [cS y9.1, cI y9.2])) (g_call en_45 rfl rfl (c_f_digits_Unpack (hy9))) rfl ?_
                      refine .q (q_move rfl) rfl ?_
                      refine .q (q_extract rfl rfl) rfl ?_
                      refine .q (q_extract rfl rfl) rfl ?_
                      refine .q (q_assign rfl) rfl ?_
                      refine .q (q_assign rfl) rfl ?_
                      refine .nil ?_
                      refine .seq ?_
                      refine .seq ?_
                      refine .region ?_
                      refine .q (q_fieldRef fo_47_0 rfl) rfl ?_
                      refine .q (x := .d (cI v1.tag)) (q_loadO one_3 rfl rfl rfl) rfl ?_
                      refine .q (q_eql rfl rfl) rfl ?_
                      refine .nil ?_
                      refine .cond rfl (fun hc => ?_) (fun hc => ?_)
                      · replace H := ifT hc H; clear hc
                        refine .region ?_
                        refine .q (q_move rfl) rfl ?_
                        refine .q (q_move rfl) rfl ?_
                        refine .q (q_nilRef rfl) rfl ?_
                        refine .q (q_fieldRef fo_34_3 rfl) rfl ?_
                        refine .u (u_store rfl rfl rfl rfl (Nat.le_of_ble_eq_true rfl) sz_9) rfl ?_
                        refine .withSt (st' := ⟨[.row 34 [.d (cI o0c0p.source), .d (cI o0c0p.serial), .d (cI o0c0p.kind), .d (cS y9.1), .d (cS o0c0p.b), .d (cI o0c0p.start), .d (cI o0c0p.units), .d (cI o0c0p.call), .d (cI o0c0p.part), .d (cB o0c0p.last), .d (cI o0c0p.trunk), .d (cB o0c0p.inbound)], .row 47 [.d (cI v1.tag), .d (slOf 1 rB8 v1.value)], .map (encE (fun n => Value.int .i64 n) es1)], []⟩) rfl ?_
                        refine .nil ?_
                        refine .seq ?_
                        refine .region ?_
                        refine .q (q_move rfl) rfl ?_
                        refine .q (q_eql rfl rfl) rfl ?_
                        refine .q (q_assign rfl) rfl ?_
                        refine .nil ?_
                        refine .retN [.tmp 4] [.d (cB (y9.2 == 0))] Tryd.func36 Tryd.results36 ⟨rfl, trivial⟩ ?_
                        cases H
                        exact ⟨[0], [], rfl, rfl, rfl, rfl, rfl, rfl, rfl, rfl, .rfl' _⟩
                      · replace H := ifF hc H; clear hc
                        refine .region ?_
                        refine .q (q_move rfl) rfl ?_
                        refine .q (q_move rfl) rfl ?_
                        refine .q (q_nilRef rfl) rfl ?_
                        refine .q (q_fieldRef fo_34_4 rfl) rfl ?_
                        refine .u (u_store rfl rfl rfl rfl (Nat.le_of_ble_eq_true rfl) sz_9) rfl ?_
                        refine .withSt (st' := ⟨[.row 34 [.d (cI o0c0p.source), .d (cI o0c0p.serial), .d (cI o0c0p.kind), .d (cS o0c0p.a), .d (cS y9.1), .d (cI o0c0p.start), .d (cI o0c0p.units), .d (cI o0c0p.call), .d (cI o0c0p.part), .d (cB o0c0p.last), .d (cI o0c0p.trunk), .d (cB o0c0p.inbound)], .row 47 [.d (cI v1.tag), .d (slOf 1 rB8 v1.value)], .map (encE (fun n => Value.int .i64 n) es1)], []⟩) rfl ?_
                        refine .nil ?_
                        refine .seq ?_
                        refine .region ?_
                        refine .q (q_move rfl) rfl ?_
                        refine .q (q_eql rfl rfl) rfl ?_
                        refine .q (q_assign rfl) rfl ?_
                        refine .nil ?_
                        refine .retN [.tmp 4] [.d (cB (y9.2 == 0))] Tryd.func36 Tryd.results36 ⟨rfl, trivial⟩ ?_
                        cases H
                        exact ⟨[0], [], rfl, rfl, rfl, rfl, rfl, rfl, rfl, rfl, .rfl' _⟩
                    · replace H := ifF hc H; clear hc
                      refine .seq ?_
                      refine .region ?_
                      refine .q (q_eql rfl rfl) rfl ?_
                      refine .q (q_assign rfl) rfl ?_
                      refine .nil ?_
                      refine .cond rfl (fun hc => ?_) (fun hc => ?_)
                      · replace H := ifT hc H; clear hc
                        refine .seq ?_
                        refine .seq ?_
                        refine .region ?_
                        refine .q (q_fieldRef fo_47_1 rfl) rfl ?_
                        refine .q (x := .d (slOf 1 rB8 v1.value)) (q_loadO one_25 rfl rfl rfl) rfl ?_
                        refine .q (q_lenL (l := v1.value) (row := rB8) Tryd.underlying25 rfl rfl) rfl ?_
                        refine .q (q_neq rfl rfl) rfl ?_
                        refine .q (q_move rfl) rfl ?_
                        refine .guardG (env' := [(3, _)]) rfl rfl rfl ⟨.inl rfl, trivial⟩ rfl (fun hg => OpQ.g (q_fieldRef fo_47_1 rfl)) ?_
                        refine .guardG (b := (!((v1.value.length : Int) != 1))) (x := .d (slOf 1 rB8 v1.value)) (env' := [(84, _)]) rfl rfl rfl ⟨.inr (.inl rfl), trivial⟩ rfl (fun hg => OpQ.g (q_loadO one_25 rfl rfl rfl)) ?_
                        obtain ⟨hk1, H⟩ := ck_some H
                        refine .guardG (b := (!((v1.value.length : Int) != 1))) (x := .d (.ro (rB8 (nth v1.value (Int.toNat (0)))))) (env' := [(85, _)]) rfl rfl rfl ⟨.inr (.inl rfl), trivial⟩ rfl (fun hg => OpQ.g (q_idxL (row := rB8) (l := v1.value) (i := 0) Tryd.underlying25 hi5 hs5 rfl rfl rfl (hk1 hg))) ?_
                        refine .guardG (b := (!((v1.value.length : Int) != 1))) (x := .d (cU8 (nth v1.value (Int.toNat (0))))) (env' := [(86, _)]) rfl rfl rfl ⟨.inr (.inl rfl), trivial⟩ rfl (fun hg => OpQ.g (q_load one_5 rfl)) ?_
                        refine .guardG (b := (!((v1.value.length : Int) != 1))) (x := .d (cB (decide ((nth v1.value (Int.toNat (0))) < 1)))) (env' := [(87, _)]) rfl rfl rfl ⟨.inr (.inl rfl), trivial⟩ rfl (fun hg => OpQ.g (q8_lss (a := nth v1.value (Int.toNat (0))) (b := 1) rfl rfl)) ?_
                        refine .q (q_pickOrB rfl rfl rfl) rfl ?_
                        refine .q (q_move rfl) rfl ?_
                        refine .guardG (env' := [(3, _)]) rfl rfl rfl ⟨.inl rfl, trivial⟩ rfl (fun hg => OpQ.g (q_fieldRef fo_47_1 rfl)) ?_
                        refine .guardG (b := (!(((v1.value.length : Int) != 1) || (decide ((nth v1.value (Int.toNat (0))) < 1))))) (x := .d (slOf 1 rB8 v1.value)) (env' := [(91, _)]) rfl rfl rfl ⟨.inr (.inl rfl), trivial⟩ rfl (fun hg => OpQ.g (q_loadO one_25 rfl rfl rfl)) ?_
                        obtain ⟨hk2, H⟩ := ck_some H
                        refine .guardG (b := (!(((v1.value.length : Int) != 1) || (decide ((nth v1.value (Int.toNat (0))) < 1))))) (x := .d (.ro (rB8 (nth v1.value (Int.toNat (0)))))) (env' := [(92, _)]) rfl rfl rfl ⟨.inr (.inl rfl), trivial⟩ rfl (fun hg => OpQ.g (q_idxL (row := rB8) (l := v1.value) (i := 0) Tryd.underlying25 hi5 hs5 rfl rfl rfl (hk2 hg))) ?_
                        refine .guardG (b := (!(((v1.value.length : Int) != 1) || (decide ((nth v1.value (Int.toNat (0))) < 1))))) (x := .d (cU8 (nth v1.value (Int.toNat (0))))) (env' := [(93, _)]) rfl rfl rfl ⟨.inr (.inl rfl), trivial⟩ rfl (fun hg => OpQ.g (q_load one_5 rfl)) ?_
                        refine .guardG (b := (!(((v1.value.length : Int) != 1) || (decide ((nth v1.value (Int.toNat (0))) < 1))))) (x := .d (cB (decide ((nth v1.value (Int.toNat (0))) > 3)))) (env' := [(94, _)]) rfl rfl rfl ⟨.inr (.inl rfl), trivial⟩ rfl (fun hg => OpQ.g (q8_gtr (a := nth v1.value (Int.toNat (0))) (b := 3) rfl rfl)) ?_
                        refine .q (q_pickOrB rfl rfl rfl) rfl ?_
                        refine .nil ?_
                        refine .cond rfl (fun hc => ?_) (fun hc => ?_)
                        · replace H := ifT hc H; clear hc
                          refine .seq ?_
                          refine .region ?_
                          refine .q (q_assign rfl) rfl ?_
                          refine .nil ?_
                          refine .retN [.tmp 4] [.d (cB false)] Tryd.func36 Tryd.results36 ⟨rfl, trivial⟩ ?_
                          cases H
                          exact ⟨[0], [], rfl, rfl, rfl, rfl, rfl, rfl, rfl, rfl, .rfl' _⟩
                        · replace H := ifF hc H; clear hc
                          refine .skip ?_
                          refine .seq ?_
                          obtain ⟨hk3, H⟩ := ck_some H
                          obtain ⟨hk4, H⟩ := ck_some H
                          refine .orders1 17 16 [⟨[.row 34 [.d (cI o0c0p.source), .d (cI o0c0p.serial), .d (cI o0c0p.kind), .d (cS o0c0p.a), .d (cS o0c0p.b), .d (cI o0c0p.start), .d (cI o0c0p.units), .d (cI o0c0p.call), .d (cI o0c0p.part), .d (cB o0c0p.last), .d (cI o0c0p.trunk), .d (cB o0c0p.inbound)], .row 47 [.d (cI v1.tag), .d (slOf 1 rB8 v1.value)], .map (encE (fun n => Value.int .i64 n) es1)], []⟩, ⟨[.row 34 [.d (cI o0c0p.source), .d (cI o0c0p.serial), .d (cI o0c0p.kind), .d (cS o0c0p.a), .d (cS o0c0p.b), .d (cI o0c0p.start), .d (cI o0c0p.units), .d (cI o0c0p.call), .d (cI o0c0p.part), .d (cB (((nth v1.value (Int.toNat (0))) &&& 1) != 0)), .d (cI o0c0p.trunk), .d (cB o0c0p.inbound)], .row 47 [.d (cI v1.tag), .d (slOf 1 rB8 v1.value)], .map (encE (fun n => Value.int .i64 n) es1)], []⟩] hMix (by kernel_rfl) (by decide) rfl ?_
                          show XOps _ _ _ _ _ _ _ _ _ _ (_ :: _) _ _
                          refine .g (x := .ref 0 0) 0 0 ⟨OpQ.g (q_move rfl), trivial⟩ rfl (by kernel_rfl) rfl ?_
                          refine .g (x := .ref 0 0) 0 1 ⟨OpQ.g (q_move rfl), OpQ.g (q_move rfl), trivial⟩ rfl (by kernel_rfl) rfl ?_
                          refine .g (x := .ref 1 1) 0 0 ⟨OpQ.g (q_fieldRef fo_47_1 rfl), trivial⟩ rfl (by kernel_rfl) rfl ?_
                          refine .g (x := .d (slOf 1 rB8 v1.value)) 0 0 ⟨OpQ.g (q_loadO one_25 rfl rfl rfl), trivial⟩ rfl (by kernel_rfl) rfl ?_
                          refine .g (x := .d (.ro (rB8 (nth v1.value (Int.toNat (0)))))) 0 0 ⟨OpQ.g (q_idxL (row := rB8) (l := v1.value) (i := 0) Tryd.underlying25 hi5 hs5 rfl rfl rfl hk3), trivial⟩ rfl (by kernel_rfl) rfl ?_
                          refine .g (x := .d (cU8 (nth v1.value (Int.toNat (0))))) 0 0 ⟨OpQ.g (q_load one_5 rfl), trivial⟩ rfl (by kernel_rfl) rfl ?_
                          refine .g (x := .d (cU8 ((nth v1.value (Int.toNat (0))) &&& 1))) 0 0 ⟨OpQ.g (q8_and (a := nth v1.value (Int.toNat (0))) (b := 1) rfl rfl), trivial⟩ rfl (by kernel_rfl) rfl ?_
                          refine .g (x := .d (cB (((nth v1.value (Int.toNat (0))) &&& 1) != 0))) 0 0 ⟨OpQ.g (q8_neq (a := (nth v1.value (Int.toNat (0))) &&& 1) (b := 0) rfl rfl), trivial⟩ rfl (by kernel_rfl) rfl ?_
                          refine .g (x := .ref 1 1) 0 0 ⟨OpQ.g (q_fieldRef fo_47_1 rfl), trivial⟩ rfl (by kernel_rfl) rfl ?_
                          refine .g (x := .d (slOf 1 rB8 v1.value)) 0 0 ⟨OpQ.g (q_loadO one_25 rfl rfl rfl), trivial⟩ rfl (by kernel_rfl) rfl ?_
                          refine .g (x := .d (.ro (rB8 (nth v1.value (Int.toNat (0)))))) 0 0 ⟨OpQ.g (q_idxL (row := rB8) (l := v1.value) (i := 0) Tryd.underlying25 hi5 hs5 rfl rfl rfl hk4), trivial⟩ rfl (by kernel_rfl) rfl ?_
                          refine .g (x := .d (cU8 (nth v1.value (Int.toNat (0))))) 0 0 ⟨OpQ.g (q_load one_5 rfl), trivial⟩ rfl (by kernel_rfl) rfl ?_
                          refine .g (x := .d (cU8 ((nth v1.value (Int.toNat (0))) &&& 2))) 0 1 ⟨OpQ.g (q8_and (a := nth v1.value (Int.toNat (0))) (b := 2) rfl rfl), OpQ.g (q8_and (a := nth v1.value (Int.toNat (0))) (b := 2) rfl rfl), trivial⟩ rfl (by kernel_rfl) rfl ?_
                          refine .g (x := .d (cB (((nth v1.value (Int.toNat (0))) &&& 2) != 0))) 0 1 ⟨OpQ.g (q8_neq (a := (nth v1.value (Int.toNat (0))) &&& 2) (b := 0) rfl rfl), OpQ.g (q8_neq (a := (nth v1.value (Int.toNat (0))) &&& 2) (b := 0) rfl rfl), trivial⟩ rfl (by kernel_rfl) rfl ?_
                          refine .g (x := .ref 0 0) 0 0 ⟨OpQ.g (q_nilRef rfl), trivial⟩ rfl (by kernel_rfl) rfl ?_
                          refine .g (x := .ref 0 9) 0 0 ⟨OpQ.g (q_fieldRef fo_34_9 rfl), trivial⟩ rfl (by kernel_rfl) rfl ?_
                          refine .u 0 (u_store rfl rfl rfl rfl (Nat.le_of_ble_eq_true rfl) sz_4) rfl rfl rfl rfl ?_
                          refine .nil rfl ?_
                          show AOps _ _ _ _ _ _ (_ :: _) _ _ _
                          refine .q (q_nilRef rfl) rfl ?_
                          refine .q (q_fieldRef fo_34_11 rfl) rfl ?_
                          refine .u (u_store rfl rfl rfl rfl (Nat.le_of_ble_eq_true rfl) sz_4) rfl ?_
                          refine .withSt (st' := ⟨[.row 34 [.d (cI o0c0p.source), .d (cI o0c0p.serial), .d (cI o0c0p.kind), .d (cS o0c0p.a), .d (cS o0c0p.b), .d (cI o0c0p.start), .d (cI o0c0p.units), .d (cI o0c0p.call), .d (cI o0c0p.part), .d (cB (((nth v1.value (Int.toNat (0))) &&& 1) != 0)), .d (cI o0c0p.trunk), .d (cB (((nth v1.value (Int.toNat (0))) &&& 2) != 0))], .row 47 [.d (cI v1.tag), .d (slOf 1 rB8 v1.value)], .map (encE (fun n => Value.int .i64 n) es1)], []⟩) rfl ?_
                          refine .nil ?_
                          refine .seq ?_
                          refine .region ?_
                          refine .q (q_assign rfl) rfl ?_
                          refine .nil ?_
                          refine .retN [.tmp 4] [.d (cB true)] Tryd.func36 Tryd.results36 ⟨rfl, trivial⟩ ?_
                          cases H
                          exact ⟨[0], [], rfl, rfl, rfl, rfl, rfl, rfl, rfl, rfl, .rfl' _⟩
                      · replace H := ifF hc H; clear hc
                        refine .skip ?_
                        refine .inBlock ?_
                        refine .seq ?_
                        refine .region ?_
                        refine .q (q_assign rfl) rfl ?_
                        refine .nil ?_
                        refine .retN [.tmp 4] [.d (cB false)] Tryd.func36 Tryd.results36 ⟨rfl, trivial⟩ ?_
                        cases H
                        exact ⟨[0], [], rfl, rfl, rfl, rfl, rfl, rfl, rfl, rfl, .rfl' _⟩
                  · intro hj1
                    refine .seq ?_
                    refine .region ?_
                    refine .q (q_eql rfl rfl) rfl ?_
                    refine .q (q_assign rfl) rfl ?_
                    refine .nil ?_
                    refine .cond rfl (fun hc => ?_) (fun hc => ?_)
                    · replace H := ifT hc H; clear hc
                      refine .skip ?_
                      exact .sub (.cons rfl (.rfl' _) (.cons rfl (.rfl' _) (.cons rfl (.rfl' _) (.cons rfl (.rfl' _) (.nil))))) (hj1 (v1.tag == 4) H)
                    · replace H := ifF hc H; clear hc
                      refine .region ?_
                      refine .q (q_eql rfl rfl) rfl ?_
                      refine .q (q_assign rfl) rfl ?_
                      refine .nil ?_
                      exact .sub (.cons rfl (.rfl' _) (.cons rfl (.rfl' _) (.cons rfl (.rfl' _) (.cons rfl (.rfl' _) (.nil))))) (hj1 (v1.tag == 5) H)

set_option maxRecDepth 100000 in
set_option maxHeartbeats 1000000 in
theorem c_f_tagged_Decode {v0b : List UInt8} {r : Record × Int} (H : f_tagged_Decode v0b = some r) : ACall Tryd.prog 19 [slOf 1 rB8 v0b] (· = .tup [.agg (Record.row r.1), cI r.2]) := by
  obtain ⟨i5, hi5, hz5, hs5, hb5⟩ := in_5
  obtain ⟨i34, hi34, hz34, hs34, hb34⟩ := in_34
  obtain ⟨i47, hi47, hz47, hs47, hb47⟩ := in_47
  refine ACall.enter' Tryd.func19 rfl Tryd.ntmps19 rfl fun S hS => ?_
  unfold f_tagged_Decode at H
  change ARun _ _ _ _ _ _ [(0, .d (slOf 1 rB8 v0b))] _
  refine .seq ?_
  refine .region ?_
  refine .v (x := .ref 0 0) (v_alloc zr_34 rfl) rfl ?_
  refine .withSt (st' := ⟨[.row 34 [.d (cI 0), .d (cI 0), .d (cI 0), .d (cS ([] : List UInt8)), .d (cS ([] : List UInt8)), .d (cI 0), .d (cI 0), .d (cI 0), .d (cI 0), .d (cB false), .d (cI 0), .d (cB false)]], []⟩) rfl ?_
  refine .q (q_assign rfl) rfl ?_
  refine .nil ?_
  refine .seq ?_
  refine .region ?_
  refine .q (q_move rfl) rfl ?_
  obtain ⟨y1, hy1, H⟩ := bind_some' H
  refine .g (x := .d (.tup [cI y1.1, cI y1.2])) (g_call en_35 rfl rfl (c_f_tagged_size (hy1))) rfl ?_
  refine .q (q_move rfl) rfl ?_
  refine .q (q_extract rfl rfl) rfl ?_
  refine .q (q_extract rfl rfl) rfl ?_
  refine .q (q_assign rfl) rfl ?_
  refine .q (q_assign rfl) rfl ?_
  refine .nil ?_
  refine .seqJoin (ι := Int) (fun s => [(0, .d (slOf 1 rB8 v0b)), (2, .ref 0 0), (5, .d (cI s))]) (fun s => ⟨[.row 34 [.d (cI 0), .d (cI 0), .d (cI 0), .d (cS ([] : List UInt8)), .d (cS ([] : List UInt8)), .d (cI 0), .d (cI 0), .d (cI 0), .d (cI 0), .d (cB false), .d (cI 0), .d (cB false)]], []⟩) (fun s => f_tagged_Decode_j1 v0b s = some r) ?_ ?_
  · rintro v5ej1 H
    replace H : f_tagged_Decode_j1 v0b v5ej1 = some r := H
    unfold f_tagged_Decode_j1 at H
    change ARun _ _ _ _ _ _ [(0, .d (slOf 1 rB8 v0b)), (2, .ref 0 0), (5, .d (cI v5ej1))] ⟨[.row 34 [.d (cI 0), .d (cI 0), .d (cI 0), .d (cS ([] : List UInt8)), .d (cS ([] : List UInt8)), .d (cI 0), .d (cI 0), .d (cI 0), .d (cI 0), .d (cB false), .d (cI 0), .d (cB false)]], []⟩
    refine .seq ?_
    refine .seq ?_
    refine .region ?_
    refine .q (q_move rfl) rfl ?_
    refine .q (q_neq rfl rfl) rfl ?_
    refine .nil ?_
    refine .cond rfl (fun hc => ?_) (fun hc => ?_)
    · replace H := ifT hc H; clear hc
      refine .seq ?_
      refine .region ?_
      refine .q (x := .d (.agg (Record.row (⟨0, 0, 0, ([] : List UInt8), ([] : List UInt8), 0, 0, 0, 0, false, 0, false⟩ : Record)))) (q_buildP pl_34 hi34 hz34 rfl rfl) rfl ?_
      refine .q (q_move rfl) rfl ?_
      refine .u (u_store rfl rfl rfl rfl (Nat.le_of_ble_eq_true rfl) sz_34) rfl ?_
      refine .withSt (st' := ⟨[.row 34 [.d (cI 0), .d (cI 0), .d (cI 0), .d (cS ([] : List UInt8)), .d (cS ([] : List UInt8)), .d (cI 0), .d (cI 0), .d (cI 0), .d (cI 0), .d (cB false), .d (cI 0), .d (cB false)]], []⟩) rfl ?_
      refine .q (q_assign rfl) rfl ?_
      refine .nil ?_
      refine .retN [.cell 2 34, .tmp 3] [.d (.agg (Record.row (⟨0, 0, 0, ([] : List UInt8), ([] : List UInt8), 0, 0, 0, 0, false, 0, false⟩ : Record))), .d (cI v5ej1)] Tryd.func19 Tryd.results19 ⟨⟨⟨_, _, rfl⟩, q_loadOA one_34 sz_34 rfl rfl (Nat.le_of_ble_eq_true rfl) rfl⟩, rfl, trivial⟩ ?_
      cases H
      exact ⟨_, EVle.tupL (ds := [.agg (Record.row (⟨0, 0, 0, ([] : List UInt8), ([] : List UInt8), 0, 0, 0, 0, false, 0, false⟩ : Record)), cI v5ej1]) ⟨.rfl' _, .rfl' _, trivial⟩, rfl⟩
    · replace H := ifF hc H; clear hc
      refine .skip ?_
      refine .seq ?_
      refine .region ?_
      refine .q (q_move rfl) rfl ?_
      obtain ⟨hk1, H⟩ := ck_some H
      refine .q (x := .d (slOf 1 rB8 (v0b.drop (Int.toNat ((2 : Int)))))) (q_slLL (l := v0b) (row := rB8) Tryd.underlying25 hi5 hs5 rfl rfl rfl hk1) rfl ?_
      obtain ⟨y2, hy2, H⟩ := bind_some' H
      refine .g (x := .d (.tup [slOf 2 Element.row y2.1, cI y2.2])) (g_call en_13 rfl rfl (c_f_tagged_Elements (hy2))) rfl ?_
      refine .q (q_move rfl) rfl ?_
      refine .q (q_extract rfl rfl) rfl ?_
      refine .q (q_extract rfl rfl) rfl ?_
      refine .q (q_assign rfl) rfl ?_
      refine .q (q_assign rfl) rfl ?_
      refine .nil ?_
      refine .seq ?_
      refine .seq ?_
      refine .region ?_
      refine .q (q_move rfl) rfl ?_
      refine .q (q_neq rfl rfl) rfl ?_
      refine .nil ?_
      refine .cond rfl (fun hc => ?_) (fun hc => ?_)
      · replace H := ifT hc H; clear hc
        refine .seq ?_
        refine .region ?_
        refine .q (x := .d (.agg (Record.row (⟨0, 0, 0, ([] : List UInt8), ([] : List UInt8), 0, 0, 0, 0, false, 0, false⟩ : Record)))) (q_buildP pl_34 hi34 hz34 rfl rfl) rfl ?_
        refine .q (q_move rfl) rfl ?_
        refine .u (u_store rfl rfl rfl rfl (Nat.le_of_ble_eq_true rfl) sz_34) rfl ?_
        refine .withSt (st' := ⟨[.row 34 [.d (cI 0), .d (cI 0), .d (cI 0), .d (cS ([] : List UInt8)), .d (cS ([] : List UInt8)), .d (cI 0), .d (cI 0), .d (cI 0), .d (cI 0), .d (cB false), .d (cI 0), .d (cB false)]], []⟩) rfl ?_
        refine .q (q_assign rfl) rfl ?_
        refine .nil ?_
        refine .retN [.cell 2 34, .tmp 3] [.d (.agg (Record.row (⟨0, 0, 0, ([] : List UInt8), ([] : List UInt8), 0, 0, 0, 0, false, 0, false⟩ : Record))), .d (cI y2.2)] Tryd.func19 Tryd.results19 ⟨⟨⟨_, _, rfl⟩, q_loadOA one_34 sz_34 rfl rfl (Nat.le_of_ble_eq_true rfl) rfl⟩, rfl, trivial⟩ ?_
        cases H
        exact ⟨_, EVle.tupL (ds := [.agg (Record.row (⟨0, 0, 0, ([] : List UInt8), ([] : List UInt8), 0, 0, 0, 0, false, 0, false⟩ : Record)), cI y2.2]) ⟨.rfl' _, .rfl' _, trivial⟩, rfl⟩
      · replace H := ifF hc H; clear hc
        refine .skip ?_
        refine .seq ?_
        refine .region ?_
        refine .v (x := .ref 1 0) (v_alloc zr_34 rfl) rfl ?_
        refine .withSt (st' := ⟨[.row 34 [.d (cI 0), .d (cI 0), .d (cI 0), .d (cS ([] : List UInt8)), .d (cS ([] : List UInt8)), .d (cI 0), .d (cI 0), .d (cI 0), .d (cI 0), .d (cB false), .d (cI 0), .d (cB false)], .row 34 [.d (cI 0), .d (cI 0), .d (cI 0), .d (cS ([] : List UInt8)), .d (cS ([] : List UInt8)), .d (cI 0), .d (cI 0), .d (cI 0), .d (cI 0), .d (cB false), .d (cI 0), .d (cB false)]], []⟩) rfl ?_
        refine .nil ?_
        refine .seq ?_
        refine .seq ?_
        refine .region ?_
        refine .q (q_move rfl) rfl ?_
        refine .q (q_lenL (l := y2.1) (row := Element.row) Tryd.underlying22 rfl rfl) rfl ?_
        refine .q (q_move rfl) rfl ?_
        refine .nil ?_
        refine .blockJoin2 (ι := Int × Int × Int × List UInt8 × List UInt8 × Int × Int × Int × Int × Bool × Int × Bool) (fun s => [(2, .ref 0 0), (7, .ref 1 0)]) (fun s => ⟨[.row 34 [.d (cI 0), .d (cI 0), .d (cI 0), .d (cS ([] : List UInt8)), .d (cS ([] : List UInt8)), .d (cI 0), .d (cI 0), .d (cI 0), .d (cI 0), .d (cB false), .d (cI 0), .d (cB false)], .row 34 [.d (cI s.1), .d (cI s.2.1), .d (cI s.2.2.1), .d (cS s.2.2.2.1), .d (cS s.2.2.2.2.1), .d (cI s.2.2.2.2.2.1), .d (cI s.2.2.2.2.2.2.1), .d (cI s.2.2.2.2.2.2.2.1), .d (cI s.2.2.2.2.2.2.2.2.1), .d (cB s.2.2.2.2.2.2.2.2.2.1), .d (cI s.2.2.2.2.2.2.2.2.2.2.1), .d (cB s.2.2.2.2.2.2.2.2.2.2.2)]], []⟩) (fun s => f_tagged_Decode_j2 s.1 s.2.1 s.2.2.1 s.2.2.2.1 s.2.2.2.2.1 s.2.2.2.2.2.1 s.2.2.2.2.2.2.1 s.2.2.2.2.2.2.2.1 s.2.2.2.2.2.2.2.2.1 s.2.2.2.2.2.2.2.2.2.1 s.2.2.2.2.2.2.2.2.2.2.1 s.2.2.2.2.2.2.2.2.2.2.2 = some r) ?_ ?_
        · rintro ⟨o1c0j2, o1c1j2, o1c2j2, o1c3j2, o1c4j2, o1c5j2, o1c6j2, o1c7j2, o1c8j2, o1c9j2, o1c10j2, o1c11j2⟩ H
          replace H : f_tagged_Decode_j2 o1c0j2 o1c1j2 o1c2j2 o1c3j2 o1c4j2 o1c5j2 o1c6j2 o1c7j2 o1c8j2 o1c9j2 o1c10j2 o1c11j2 = some r := H
          unfold f_tagged_Decode_j2 at H
          change ARun _ _ _ _ _ _ [(2, .ref 0 0), (7, .ref 1 0)] ⟨[.row 34 [.d (cI 0), .d (cI 0), .d (cI 0), .d (cS ([] : List UInt8)), .d (cS ([] : List UInt8)), .d (cI 0), .d (cI 0), .d (cI 0), .d (cI 0), .d (cB false), .d (cI 0), .d (cB false)], .row 34 [.d (cI o1c0j2), .d (cI o1c1j2), .d (cI o1c2j2), .d (cS o1c3j2), .d (cS o1c4j2), .d (cI o1c5j2), .d (cI o1c6j2), .d (cI o1c7j2), .d (cI o1c8j2), .d (cB o1c9j2), .d (cI o1c10j2), .d (cB o1c11j2)]], []⟩
          refine .seq ?_
          refine .seq ?_
          refine .region ?_
          refine .q (x := .d (.agg (Record.row (⟨o1c0j2, o1c1j2, o1c2j2, o1c3j2, o1c4j2, o1c5j2, o1c6j2, o1c7j2, o1c8j2, o1c9j2, o1c10j2, o1c11j2⟩ : Record)))) (q_loadOA one_34 sz_34 rfl rfl (Nat.le_of_ble_eq_true rfl) rfl) rfl ?_
          obtain ⟨y3, hy3, H⟩ := bind_some' H
          refine .g (x := .d (.tup [cS y3.1, cI y3.2])) (g_call en_26 rfl rfl (c_f_textual_Encode (hy3))) rfl ?_
          refine .q (q_move rfl) rfl ?_
          refine .q (q_extract rfl rfl) rfl ?_
          refine .q (q_extract rfl rfl) rfl ?_
          refine .q (q_assign rfl) rfl ?_
          refine .q (q_assign rfl) rfl ?_
          refine .nil ?_
          refine .seq ?_
          refine .region ?_
          refine .q (q_move rfl) rfl ?_
          refine .q (q_neq rfl rfl) rfl ?_
          refine .nil ?_
          refine .cond rfl (fun hc => ?_) (fun hc => ?_)
          · replace H := ifT hc H; clear hc
            refine .seq ?_
            refine .region ?_
            refine .q (x := .d (.agg (Record.row (⟨0, 0, 0, ([] : List UInt8), ([] : List UInt8), 0, 0, 0, 0, false, 0, false⟩ : Record)))) (q_buildP pl_34 hi34 hz34 rfl rfl) rfl ?_
            refine .q (q_move rfl) rfl ?_
            refine .u (u_store rfl rfl rfl rfl (Nat.le_of_ble_eq_true rfl) sz_34) rfl ?_
            refine .withSt (st' := ⟨[.row 34 [.d (cI 0), .d (cI 0), .d (cI 0), .d (cS ([] : List UInt8)), .d (cS ([] : List UInt8)), .d (cI 0), .d (cI 0), .d (cI 0), .d (cI 0), .d (cB false), .d (cI 0), .d (cB false)], .row 34 [.d (cI o1c0j2), .d (cI o1c1j2), .d (cI o1c2j2), .d (cS o1c3j2), .d (cS o1c4j2), .d (cI o1c5j2), .d (cI o1c6j2), .d (cI o1c7j2), .d (cI o1c8j2), .d (cB o1c9j2), .d (cI o1c10j2), .d (cB o1c11j2)]], []⟩) rfl ?_
            refine .q (q_assign rfl) rfl ?_
            refine .nil ?_
            refine .retN [.cell 2 34, .tmp 3] [.d (.agg (Record.row (⟨0, 0, 0, ([] : List UInt8), ([] : List UInt8), 0, 0, 0, 0, false, 0, false⟩ : Record))), .d (cI y3.2)] Tryd.func19 Tryd.results19 ⟨⟨⟨_, _, rfl⟩, q_loadOA one_34 sz_34 rfl rfl (Nat.le_of_ble_eq_true rfl) rfl⟩, rfl, trivial⟩ ?_
            cases H
            exact ⟨_, EVle.tupL (ds := [.agg (Record.row (⟨0, 0, 0, ([] : List UInt8), ([] : List UInt8), 0, 0, 0, 0, false, 0, false⟩ : Record)), cI y3.2]) ⟨.rfl' _, .rfl' _, trivial⟩, rfl⟩
          · replace H := ifF hc H; clear hc
            refine .skip ?_
            refine .seq ?_
            refine .region ?_
            refine .q (x := .d (.agg (Record.row (⟨o1c0j2, o1c1j2, o1c2j2, o1c3j2, o1c4j2, o1c5j2, o1c6j2, o1c7j2, o1c8j2, o1c9j2, o1c10j2, o1c11j2⟩ : Record)))) (q_loadOA one_34 sz_34 rfl rfl (Nat.le_of_ble_eq_true rfl) rfl) rfl ?_
            refine .u (u_store rfl rfl rfl rfl (Nat.le_of_ble_eq_true rfl) sz_34) rfl ?_
            refine .withSt (st' := ⟨[.row 34 [.d (cI o1c0j2), .d (cI o1c1j2), .d (cI o1c2j2), .d (cS o1c3j2), .d (cS o1c4j2), .d (cI o1c5j2), .d (cI o1c6j2), .d (cI o1c7j2), .d (cI o1c8j2), .d (cB o1c9j2), .d (cI o1c10j2), .d (cB o1c11j2)], .row 34 [.d (cI o1c0j2), .d (cI o1c1j2), .d (cI o1c2j2), .d (cS o1c3j2), .d (cS o1c4j2), .d (cI o1c5j2), .d (cI o1c6j2), .d (cI o1c7j2), .d (cI o1c8j2), .d (cB o1c9j2), .d (cI o1c10j2), .d (cB o1c11j2)]], []⟩) rfl ?_
            refine .q (q_assign rfl) rfl ?_
            refine .nil ?_
            refine .retN [.cell 2 34, .tmp 3] [.d (.agg (Record.row (⟨o1c0j2, o1c1j2, o1c2j2, o1c3j2, o1c4j2, o1c5j2, o1c6j2, o1c7j2, o1c8j2, o1c9j2, o1c10j2, o1c11j2⟩ : Record))), .d (cI 0)] Tryd.func19 Tryd.results19 ⟨⟨⟨_, _, rfl⟩, q_loadOA one_34 sz_34 rfl rfl (Nat.le_of_ble_eq_true rfl) rfl⟩, rfl, trivial⟩ ?_
            cases H
            exact ⟨_, EVle.tupL (ds := [.agg (Record.row (⟨o1c0j2, o1c1j2, o1c2j2, o1c3j2, o1c4j2, o1c5j2, o1c6j2, o1c7j2, o1c8j2, o1c9j2, o1c10j2, o1c11j2⟩ : Record)), cI 0]) ⟨.rfl' _, .rfl' _, trivial⟩, rfl⟩
        · intro hj2 hj2x
          obtain ⟨n1, H⟩ := loop_some H
          refine .withSt (st' := ⟨[.row 34 [.d (cI 0), .d (cI 0), .d (cI 0), .d (cS ([] : List UInt8)), .d (cS ([] : List UInt8)), .d (cI 0), .d (cI 0), .d (cI 0), .d (cI 0), .d (cB false), .d (cI 0), .d (cB false)], .row 34 [.d (cI 0), .d (cI 0), .d (cI 0), .d (cS ([] : List UInt8)), .d (cS ([] : List UInt8)), .d (cI 0), .d (cI 0), .d (cI 0), .d (cI 0), .d (cB false), .d (cI 0), .d (cB false)]], []⟩) rfl <| .loop (ι := Nat × (Int × Int × Int × Int × List UInt8 × List UInt8 × Int × Int × Int × Int × Bool × Int × Bool)) (fun p => [(2, .ref 0 0), (7, .ref 1 0), (39, .d (slOf 2 Element.row y2.1)), (40, .d (cI (y2.1.length : Int))), (41, .d (cI p.2.1))]) (fun p => ⟨[.row 34 [.d (cI 0), .d (cI 0), .d (cI 0), .d (cS ([] : List UInt8)), .d (cS ([] : List UInt8)), .d (cI 0), .d (cI 0), .d (cI 0), .d (cI 0), .d (cB false), .d (cI 0), .d (cB false)], .row 34 [.d (cI p.2.2.1), .d (cI p.2.2.2.1), .d (cI p.2.2.2.2.1), .d (cS p.2.2.2.2.2.1), .d (cS p.2.2.2.2.2.2.1), .d (cI p.2.2.2.2.2.2.2.1), .d (cI p.2.2.2.2.2.2.2.2.1), .d (cI p.2.2.2.2.2.2.2.2.2.1), .d (cI p.2.2.2.2.2.2.2.2.2.2.1), .d (cB p.2.2.2.2.2.2.2.2.2.2.2.1), .d (cI p.2.2.2.2.2.2.2.2.2.2.2.2.1), .d (cB p.2.2.2.2.2.2.2.2.2.2.2.2.2)]], []⟩) (fun p => iter (fun s => f_tagged_Decode_l1 y2 s.1 s.2.1 s.2.2.1 s.2.2.2.1 s.2.2.2.2.1 s.2.2.2.2.2.1 s.2.2.2.2.2.2.1 s.2.2.2.2.2.2.2.1 s.2.2.2.2.2.2.2.2.1 s.2.2.2.2.2.2.2.2.2.1 s.2.2.2.2.2.2.2.2.2.2.1 s.2.2.2.2.2.2.2.2.2.2.2.1 s.2.2.2.2.2.2.2.2.2.2.2.2) p.1 p.2 = some r) (·.1) (n1, (0, 0, 0, 0, ([] : List UInt8), ([] : List UInt8), 0, 0, 0, 0, false, 0, false)) H (.cons rfl (.rfl' _) (.cons rfl (.rfl' _) (.cons rfl (.rfl' _) (.cons rfl (.rfl' _) (.cons rfl (.rfl' _) (.nil)))))) rfl ?_
          rintro ⟨m1, v41l1, o1c0l1, o1c1l1, o1c2l1, o1c3l1, o1c4l1, o1c5l1, o1c6l1, o1c7l1, o1c8l1, o1c9l1, o1c10l1, o1c11l1⟩ HI ih1
          obtain ⟨n1, q1, hm1, H, HK1⟩ := iter_succ HI
          clear HI
          replace H : f_tagged_Decode_l1 y2 v41l1 o1c0l1 o1c1l1 o1c2l1 o1c3l1 o1c4l1 o1c5l1 o1c6l1 o1c7l1 o1c8l1 o1c9l1 o1c10l1 o1c11l1 = some q1 := H
          unfold f_tagged_Decode_l1 at H
          change ARun _ _ _ _ _ _ [(2, .ref 0 0), (7, .ref 1 0), (39, .d (slOf 2 Element.row y2.1)), (40, .d (cI (y2.1.length : Int))), (41, .d (cI v41l1))] ⟨[.row 34 [.d (cI 0), .d (cI 0), .d (cI 0), .d (cS ([] : List UInt8)), .d (cS ([] : List UInt8)), .d (cI 0), .d (cI 0), .d (cI 0), .d (cI 0), .d (cB false), .d (cI 0), .d (cB false)], .row 34 [.d (cI o1c0l1), .d (cI o1c1l1), .d (cI o1c2l1), .d (cS o1c3l1), .d (cS o1c4l1), .d (cI o1c5l1), .d (cI o1c6l1), .d (cI o1c7l1), .d (cI o1c8l1), .d (cB o1c9l1), .d (cI o1c10l1), .d (cB o1c11l1)]], []⟩
          refine .seq ?_
          refine .region ?_
          refine .q (q_lss rfl rfl) rfl ?_
          refine .nil ?_
          refine .seq ?_
          refine .cond rfl (fun hc => ?_) (fun hc => ?_)
          · replace H := ifT hc H; clear hc
            refine .skip ?_
            refine .seq ?_
            refine .block ?_
            refine .seq ?_
            refine .region ?_
            obtain ⟨hk2, H⟩ := ck_some H
            refine .q (x := .d (.ro (Element.row (nth y2.1 (Int.toNat (v41l1)))))) (q_idxL (row := Element.row) (l := y2.1) (i := v41l1) Tryd.underlying22 hi47 hs47 rfl rfl rfl hk2) rfl ?_
            refine .q (x := .d (.agg (Element.row (nth y2.1 (Int.toNat (v41l1)))))) (q_loadAll one_47 sz_47 rfl rfl) rfl ?_
            refine .v (x := .ref 2 0) (v_alloc zr_47 rfl) rfl ?_
            refine .withSt (st' := ⟨[.row 34 [.d (cI 0), .d (cI 0), .d (cI 0), .d (cS ([] : List UInt8)), .d (cS ([] : List UInt8)), .d (cI 0), .d (cI 0), .d (cI 0), .d (cI 0), .d (cB false), .d (cI 0), .d (cB false)], .row 34 [.d (cI o1c0l1), .d (cI o1c1l1), .d (cI o1c2l1), .d (cS o1c3l1), .d (cS o1c4l1), .d (cI o1c5l1), .d (cI o1c6l1), .d (cI o1c7l1), .d (cI o1c8l1), .d (cB o1c9l1), .d (cI o1c10l1), .d (cB o1c11l1)], .row 47 [.d (cI 0), .d (nilD)]], []⟩) rfl ?_
            refine .u (u_store rfl rfl rfl rfl (Nat.le_of_ble_eq_true rfl) sz_47) rfl ?_
            refine .withSt (st' := ⟨[.row 34 [.d (cI 0), .d (cI 0), .d (cI 0), .d (cS ([] : List UInt8)), .d (cS ([] : List UInt8)), .d (cI 0), .d (cI 0), .d (cI 0), .d (cI 0), .d (cB false), .d (cI 0), .d (cB false)], .row 34 [.d (cI o1c0l1), .d (cI o1c1l1), .d (cI o1c2l1), .d (cS o1c3l1), .d (cS o1c4l1), .d (cI o1c5l1), .d (cI o1c6l1), .d (cI o1c7l1), .d (cI o1c8l1), .d (cB o1c9l1), .d (cI o1c10l1), .d (cB o1c11l1)], .row 47 [.d (cI ((nth y2.1 (Int.toNat (v41l1))).tag)), .d (slOf 1 rB8 ((nth y2.1 (Int.toNat (v41l1))).value))]], []⟩) rfl ?_
            refine .nil ?_
            refine .seq ?_
            refine .region ?_
            refine .q (x := .d (.agg (Element.row (nth y2.1 (Int.toNat (v41l1)))))) (q_loadOA one_47 sz_47 rfl rfl (Nat.le_of_ble_eq_true rfl) rfl) rfl ?_
            obtain ⟨y4, hy4, H⟩ := bind_some' H
            refine .callF en_36 rfl [1] [] (x := .d (cB y4.1)) (st' := ⟨[.row 34 [.d (cI 0), .d (cI 0), .d (cI 0), .d (cS ([] : List UInt8)), .d (cS ([] : List UInt8)), .d (cI 0), .d (cI 0), .d (cI 0), .d (cI 0), .d (cB false), .d (cI 0), .d (cB false)], .row 34 [.d (cI y4.2.source), .d (cI y4.2.serial), .d (cI y4.2.kind), .d (cS y4.2.a), .d (cS y4.2.b), .d (cI y4.2.start), .d (cI y4.2.units), .d (cI y4.2.call), .d (cI y4.2.part), .d (cB y4.2.last), .d (cI y4.2.trunk), .d (cB y4.2.inbound)], .row 47 [.d (cI ((nth y2.1 (Int.toNat (v41l1))).tag)), .d (slOf 1 rB8 ((nth y2.1 (Int.toNat (v41l1))).value))]], []⟩) rfl (c_g_tagged_field (hy4)) ⟨.rfl' _, .rfl' _, trivial⟩ rfl rfl rfl rfl rfl rfl ?_
            refine .withSt (st' := ⟨[.row 34 [.d (cI 0), .d (cI 0), .d (cI 0), .d (cS ([] : List UInt8)), .d (cS ([] : List UInt8)), .d (cI 0), .d (cI 0), .d (cI 0), .d (cI 0), .d (cB false), .d (cI 0), .d (cB false)], .row 34 [.d (cI y4.2.source), .d (cI y4.2.serial), .d (cI y4.2.kind), .d (cS y4.2.a), .d (cS y4.2.b), .d (cI y4.2.start), .d (cI y4.2.units), .d (cI y4.2.call), .d (cI y4.2.part), .d (cB y4.2.last), .d (cI y4.2.trunk), .d (cB y4.2.inbound)], .row 47 [.d (cI ((nth y2.1 (Int.toNat (v41l1))).tag)), .d (slOf 1 rB8 ((nth y2.1 (Int.toNat (v41l1))).value))]], []⟩) rfl ?_
            refine .q (q_not rfl) rfl ?_
            refine .nil ?_
            refine .cond rfl (fun hc => ?_) (fun hc => ?_)
            · replace H := ifT hc H; clear hc
              refine .seq ?_
              refine .region ?_
              refine .q (x := .d (.agg (Record.row (⟨0, 0, 0, ([] : List UInt8), ([] : List UInt8), 0, 0, 0, 0, false, 0, false⟩ : Record)))) (q_buildP pl_34 hi34 hz34 rfl rfl) rfl ?_
              refine .u (u_store rfl rfl rfl rfl (Nat.le_of_ble_eq_true rfl) sz_34) rfl ?_
              refine .withSt (st' := ⟨[.row 34 [.d (cI 0), .d (cI 0), .d (cI 0), .d (cS ([] : List UInt8)), .d (cS ([] : List UInt8)), .d (cI 0), .d (cI 0), .d (cI 0), .d (cI 0), .d (cB false), .d (cI 0), .d (cB false)], .row 34 [.d (cI y4.2.source), .d (cI y4.2.serial), .d (cI y4.2.kind), .d (cS y4.2.a), .d (cS y4.2.b), .d (cI y4.2.start), .d (cI y4.2.units), .d (cI y4.2.call), .d (cI y4.2.part), .d (cB y4.2.last), .d (cI y4.2.trunk), .d (cB y4.2.inbound)], .row 47 [.d (cI ((nth y2.1 (Int.toNat (v41l1))).tag)), .d (slOf 1 rB8 ((nth y2.1 (Int.toNat (v41l1))).value))]], []⟩) rfl ?_
              refine .q (q_assign rfl) rfl ?_
              refine .nil ?_
              refine .retN [.cell 2 34, .tmp 3] [.d (.agg (Record.row (⟨0, 0, 0, ([] : List UInt8), ([] : List UInt8), 0, 0, 0, 0, false, 0, false⟩ : Record))), .d (cI 1)] Tryd.func19 Tryd.results19 ⟨⟨⟨_, _, rfl⟩, q_loadOA one_34 sz_34 rfl rfl (Nat.le_of_ble_eq_true rfl) rfl⟩, rfl, trivial⟩ ?_
              cases H
              cases HK1
              exact ⟨_, EVle.tupL (ds := [.agg (Record.row (⟨0, 0, 0, ([] : List UInt8), ([] : List UInt8), 0, 0, 0, 0, false, 0, false⟩ : Record)), cI 1]) ⟨.rfl' _, .rfl' _, trivial⟩, rfl⟩
            · replace H := ifF hc H; clear hc
              refine .skip ?_
              refine .inBlock ?_
              refine .region ?_
              obtain ⟨hk3, H⟩ := ck_some H
              refine .q (q_addI rfl rfl hk3.1 hk3.2) rfl ?_
              refine .q (q_move rfl) rfl ?_
              refine .nil ?_
              cases H
              exact .to 2 0 (env' := [(2, .ref 0 0), (7, .ref 1 0), (39, .d (slOf 2 Element.row y2.1)), (40, .d (cI (y2.1.length : Int))), (41, .d (cI (v41l1 + 1)))]) (st' := ⟨[.row 34 [.d (cI 0), .d (cI 0), .d (cI 0), .d (cS ([] : List UInt8)), .d (cS ([] : List UInt8)), .d (cI 0), .d (cI 0), .d (cI 0), .d (cI 0), .d (cB false), .d (cI 0), .d (cB false)], .row 34 [.d (cI y4.2.source), .d (cI y4.2.serial), .d (cI y4.2.kind), .d (cS y4.2.a), .d (cS y4.2.b), .d (cI y4.2.start), .d (cI y4.2.units), .d (cI y4.2.call), .d (cI y4.2.part), .d (cB y4.2.last), .d (cI y4.2.trunk), .d (cB y4.2.inbound)]], []⟩) (.cons rfl (.rfl' _) (.cons rfl (.rfl' _) (.cons rfl (.rfl' _) (.cons rfl (.rfl' _) (.cons rfl (.rfl' _) (.nil)))))) rfl rfl rfl rfl rfl (by rw [hS]; exact Nat.le_of_ble_eq_true rfl) (by rw [hS]; exact Nat.le_of_ble_eq_true rfl) <| .sub (.cons rfl (.rfl' _) (.cons rfl (.rfl' _) (.cons rfl (.rfl' _) (.cons rfl (.rfl' _) (.cons rfl (.rfl' _) (.nil)))))) (ih1 (n1, (v41l1 + 1, y4.2.source, y4.2.serial, y4.2.kind, y4.2.a, y4.2.b, y4.2.start, y4.2.units, y4.2.call, y4.2.part, y4.2.last, y4.2.trunk, y4.2.inbound)) HK1 hm1)
          · replace H := ifF hc H; clear hc
            refine .exit rfl ?_
            obtain ⟨q0, H9, hq0⟩ := map_some' H; clear H; cases hq0
            cases HK1
            have H := H9
            exact .withSt (st' := ⟨[.row 34 [.d (cI 0), .d (cI 0), .d (cI 0), .d (cS ([] : List UInt8)), .d (cS ([] : List UInt8)), .d (cI 0), .d (cI 0), .d (cI 0), .d (cI 0), .d (cB false), .d (cI 0), .d (cB false)], .row 34 [.d (cI o1c0l1), .d (cI o1c1l1), .d (cI o1c2l1), .d (cS o1c3l1), .d (cS o1c4l1), .d (cI o1c5l1), .d (cI o1c6l1), .d (cI o1c7l1), .d (cI o1c8l1), .d (cB o1c9l1), .d (cI o1c10l1), .d (cB o1c11l1)]], []⟩) rfl <| .sub (.cons rfl (.rfl' _) (.cons rfl (.rfl' _) (.nil))) (hj2x (o1c0l1, o1c1l1, o1c2l1, o1c3l1, o1c4l1, o1c5l1, o1c6l1, o1c7l1, o1c8l1, o1c9l1, o1c10l1, o1c11l1) H)
  · intro hj1
    refine .seq ?_
    refine .region ?_
    refine .q (q_move rfl) rfl ?_
    refine .q (q_eql rfl rfl) rfl ?_
    refine .q (q_move rfl) rfl ?_
    refine .guardG (env' := [(4, _)]) rfl rfl rfl ⟨.inl rfl, trivial⟩ rfl (fun hg => OpQ.g (q_move rfl)) ?_
    refine .guardG (env' := [(0, _)]) rfl rfl rfl ⟨.inl rfl, trivial⟩ rfl (fun hg => OpQ.g (q_move rfl)) ?_
    refine .guardG (env' := [(21, _)]) rfl rfl rfl ⟨.inr (.inl rfl), trivial⟩ rfl (fun hg => OpQ.g (q_lenL (l := v0b) (row := rB8) Tryd.underlying25 rfl rfl)) ?_
    refine .guardG (env' := [(20, _), (22, _)]) rfl rfl rfl ⟨.inr (.inl rfl), ⟨.inr (.inl rfl), trivial⟩⟩ rfl (fun hg => OpQ.g (q_lss rfl rfl)) ?_
    refine .q (q_pickAndB rfl rfl rfl) rfl ?_
    refine .nil ?_
    refine .cond rfl (fun hc => ?_) (fun hc => ?_)
    · replace H := ifT hc H; clear hc
      refine .region ?_
      refine .q (q_assign rfl) rfl ?_
      refine .nil ?_
      exact .sub (.cons rfl (.rfl' _) (.cons rfl (.rfl' _) (.cons rfl (.rfl' _) (.nil)))) (hj1 3 H)
    · replace H := ifF hc H; clear hc
      refine .skip ?_
      exact .sub (.cons rfl (.rfl' _) (.cons rfl (.rfl' _) (.cons rfl (.rfl' _) (.nil)))) (hj1 y1.2 H)

set_option maxRecDepth 100000 in
set_option maxHeartbeats 1000000 in
theorem c_f_billingref02_Unpack {v0b : List UInt8} {r : (List UInt8) × Int} (H : f_billingref02_Unpack v0b = some r) : ACall Tryd.prog 46 [slOf 1 rB8 v0b] (· = .tup [cS r.1, cI r.2]) := by
  obtain ⟨i5, hi5, hz5, hs5, hb5⟩ := in_5
  refine ACall.enter' Tryd.func46 rfl Tryd.ntmps46 rfl fun S hS => ?_
  unfold f_billingref02_Unpack at H
  change ARun _ _ _ _ _ _ [(0, .d (slOf 1 rB8 v0b))] _
  refine .seq ?_
  refine .region ?_
  refine .q (q_assign rfl) rfl ?_
  refine .q (q_assign rfl) rfl ?_
  refine .nil ?_
  refine .seq ?_
  refine .region ?_
  refine .q (q_assign rfl) rfl ?_
  refine .nil ?_
  refine .seq ?_
  refine .seq ?_
  refine .region ?_
  refine .q (q_assign rfl) rfl ?_
  refine .nil ?_
  refine .blockJoin2 (ι := List UInt8) (fun s => [(0, .d (slOf 1 rB8 v0b)), (4, .d (cS s))]) (fun s => ⟨[], []⟩) (fun s => f_billingref02_Unpack_j1 v0b s = some r) ?_ ?_
  · rintro v4sj1 H
    replace H : f_billingref02_Unpack_j1 v0b v4sj1 = some r := H
    unfold f_billingref02_Unpack_j1 at H
    change ARun _ _ _ _ _ _ [(0, .d (slOf 1 rB8 v0b)), (4, .d (cS v4sj1))] ⟨[], []⟩
    refine .seq ?_
    refine .seq ?_
    refine .region ?_
    refine .q (q_move rfl) rfl ?_
    obtain ⟨y1, hy1, H⟩ := bind_some' H
    refine .g (x := .d (cB y1)) (g_call en_43 rfl rfl (c_f_billingref02_Valid (hy1))) rfl ?_
    refine .q (q_not rfl) rfl ?_
    refine .q (q_move rfl) rfl ?_
    refine .guardG (env' := [(0, _)]) rfl rfl rfl ⟨.inl rfl, trivial⟩ rfl (fun hg => OpQ.g (q_move rfl)) ?_
    refine .guardG (env' := [(53, _)]) rfl rfl rfl ⟨.inr (.inl rfl), trivial⟩ rfl (fun hg => OpQ.g (q_lenL (l := v0b) (row := rB8) Tryd.underlying25 rfl rfl)) ?_
    obtain ⟨hk1, H⟩ := ck_some H
    refine .guardG (env' := [(54, _)]) rfl rfl rfl ⟨.inr (.inl rfl), trivial⟩ rfl (fun hg => OpQ.g (q_mulI rfl rfl (hk1 hg).1 (hk1 hg).2)) ?_
    refine .guardG (env' := [(4, _)]) rfl rfl rfl ⟨.inl rfl, trivial⟩ rfl (fun hg => OpQ.g (q_move rfl)) ?_
    refine .guardG (env' := [(56, _)]) rfl rfl rfl ⟨.inr (.inl rfl), trivial⟩ rfl (fun hg => OpQ.g (q_lenS Tryd.underlying9 rfl)) ?_
    obtain ⟨hk2, H⟩ := ck_some H
    refine .guardG (env' := [(55, _), (57, _)]) rfl rfl rfl ⟨.inr (.inl rfl), ⟨.inr (.inl rfl), trivial⟩⟩ rfl (fun hg => OpQ.g (q_subI rfl rfl (hk2 hg).1 (hk2 hg).2)) ?_
    refine .guardG (env' := [(58, _)]) rfl rfl rfl ⟨.inr (.inl rfl), trivial⟩ rfl (fun hg => OpQ.g (q_gtr rfl rfl)) ?_
    refine .q (q_pickOrB rfl rfl rfl) rfl ?_
    refine .nil ?_
    refine .cond rfl (fun hc => ?_) (fun hc => ?_)
    · replace H := ifT hc H; clear hc
      refine .seq ?_
      refine .region ?_
      refine .q (q_assign rfl) rfl ?_
      refine .q (q_assign rfl) rfl ?_
      refine .nil ?_
      refine .retN [.tmp 2, .tmp 3] [.d (cS ([] : List UInt8)), .d (cI 12)] Tryd.func46 Tryd.results46 ⟨rfl, rfl, trivial⟩ ?_
      cases H
      exact ⟨_, EVle.tupL (ds := [cS ([] : List UInt8), cI 12]) ⟨.rfl' _, .rfl' _, trivial⟩, rfl⟩
    · replace H := ifF hc H; clear hc
      refine .skip ?_
      refine .seq ?_
      refine .region ?_
      refine .q (q_move rfl) rfl ?_
      refine .q (q_assign rfl) rfl ?_
      refine .q (q_assign rfl) rfl ?_
      refine .nil ?_
      refine .retN [.tmp 2, .tmp 3] [.d (cS v4sj1), .d (cI 0)] Tryd.func46 Tryd.results46 ⟨rfl, rfl, trivial⟩ ?_
      cases H
      exact ⟨_, EVle.tupL (ds := [cS v4sj1, cI 0]) ⟨.rfl' _, .rfl' _, trivial⟩, rfl⟩
  · intro hj1 hj1x
    obtain ⟨n1, H⟩ := loop_some H
    refine .loop (ι := Nat × (List UInt8 × Int)) (fun p => [(0, .d (slOf 1 rB8 v0b)), (4, .d (cS p.2.1)), (5, .d (cI p.2.2))]) (fun p => ⟨[], []⟩) (fun p => iter (fun s => f_billingref02_Unpack_l1 v0b s.1 s.2) p.1 p.2 = some r) (·.1) (n1, (([] : List UInt8), 0)) H (.cons rfl (.rfl' _) (.cons rfl (.rfl' _) (.cons rfl (.rfl' _) (.nil)))) rfl ?_
    rintro ⟨m1, v4sl1, v5il1⟩ HI ih1
    obtain ⟨n1, q1, hm1, H, HK1⟩ := iter_succ HI
    clear HI
    replace H : f_billingref02_Unpack_l1 v0b v4sl1 v5il1 = some q1 := H
    unfold f_billingref02_Unpack_l1 at H
    change ARun _ _ _ _ _ _ [(0, .d (slOf 1 rB8 v0b)), (4, .d (cS v4sl1)), (5, .d (cI v5il1))] ⟨[], []⟩
    refine .seq ?_
    refine .seq ?_
    refine .region ?_
    refine .q (q_move rfl) rfl ?_
    refine .q (q_move rfl) rfl ?_
    refine .q (q_lenL (l := v0b) (row := rB8) Tryd.underlying25 rfl rfl) rfl ?_
    refine .q (q_lss rfl rfl) rfl ?_
    refine .q (q_move rfl) rfl ?_
    refine .guardG (env' := [(5, _)]) rfl rfl rfl ⟨.inl rfl, trivial⟩ rfl (fun hg => OpQ.g (q_move rfl)) ?_
    refine .guardG (env' := [(13, _)]) rfl rfl rfl ⟨.inr (.inl rfl), trivial⟩ rfl (fun hg => OpQ.g (q_leq rfl rfl)) ?_
    refine .q (q_pickAndB rfl rfl rfl) rfl ?_
    refine .nil ?_
    refine .cond rfl (fun hc => ?_) (fun hc => ?_)
    · replace H := ifT hc H; clear hc
      refine .skip ?_
      refine .seq ?_
      refine .block ?_
      refine .seq ?_
      refine .drawn 12 hMix (by kernel_rfl) ?_
      show DOps _ _ _ _ _ _ _ (_ :: _) _ _ _
      refine .q (q_move rfl) rfl ?_
      refine .q (q_move rfl) rfl ?_
      obtain ⟨hk3, H⟩ := ck_some H
      refine .q (x := .d (.ro (rB8 (nth v0b (Int.toNat (v5il1)))))) (q_idxL (row := rB8) (l := v0b) (i := v5il1) Tryd.underlying25 hi5 hs5 rfl rfl rfl hk3) rfl ?_
      refine .q (x := .d (cU8 (nth v0b (Int.toNat (v5il1))))) (q_load one_5 rfl) rfl ?_
      obtain ⟨hk4, H⟩ := ck_some H
      refine .q (x := .d (cU8 (u8shr (nth v0b (Int.toNat (v5il1))) 4))) (q8_shr (a := nth v0b (Int.toNat (v5il1))) (n := 4) rfl rfl hk4) rfl ?_
      refine .q (q_move rfl) rfl ?_
      refine .q (q_move rfl) rfl ?_
      obtain ⟨hk5, H⟩ := ck_some H
      refine .q (x := .d (.ro (rB8 (nth v0b (Int.toNat (v5il1)))))) (q_idxL (row := rB8) (l := v0b) (i := v5il1) Tryd.underlying25 hi5 hs5 rfl rfl rfl hk5) rfl ?_
      refine .q (x := .d (cU8 (nth v0b (Int.toNat (v5il1))))) (q_load one_5 rfl) rfl ?_
      refine .q (x := .d (cU8 ((nth v0b (Int.toNat (v5il1))) &&& 15))) (q8_and (a := nth v0b (Int.toNat (v5il1))) (b := 15) rfl rfl) rfl ?_
      refine .q (q_assign rfl) rfl ?_
      refine .q (q_assign rfl) rfl ?_
      refine .nil ?_
      show AOps _ _ _ _ _ _ [] _ _ _
      refine .nil ?_
      refine .seq ?_
      refine .region ?_
      refine .q (q_move rfl) rfl ?_
      refine .q (q_move rfl) rfl ?_
      refine .q (x := .d (cU8 (48 + (u8shr (nth v0b (Int.toNat (v5il1))) 4)))) (q8_add (a := 48) (b := u8shr (nth v0b (Int.toNat (v5il1))) 4) rfl rfl) rfl ?_
      refine .g (x := .d (slOf 1 rB8 ([48 + (u8shr (nth v0b (Int.toNat (v5il1))) 4)] : List UInt8))) (g_buildSlice1 Tryd.underlying25 hi5 hs5 hz5 rfl rfl rfl rfl rfl) rfl ?_
      refine .q (x := .d (cS ([48 + (u8shr (nth v0b (Int.toNat (v5il1))) 4)] : List UInt8))) (q_bytesStrL (a := ([48 + (u8shr (nth v0b (Int.toNat (v5il1))) 4)] : List UInt8)) Tryd.underlying25 Tryd.underlying5 Tryd.underlying9 rfl rfl) rfl ?_
      obtain ⟨hk6, H⟩ := ck_some H
      refine .q (x := .d (cS (v4sl1 ++ ([48 + (u8shr (nth v0b (Int.toNat (v5il1))) 4)] : List UInt8)))) (q_sadd rfl rfl hk6) rfl ?_
      refine .q (q_assign rfl) rfl ?_
      refine .nil ?_
      refine .seq ?_
      refine .region ?_
      refine .q (q_move rfl) rfl ?_
      refine .q (x := .d (cB (((nth v0b (Int.toNat (v5il1))) &&& 15) != 15))) (q8_neq (a := (nth v0b (Int.toNat (v5il1))) &&& 15) (b := 15) rfl rfl) rfl ?_
      refine .q (q_move rfl) rfl ?_
      refine .guardG (env' := [(5, _)]) rfl rfl rfl ⟨.inl rfl, trivial⟩ rfl (fun hg => OpQ.g (q_move rfl)) ?_
      refine .guardG (env' := [(0, _)]) rfl rfl rfl ⟨.inl rfl, trivial⟩ rfl (fun hg => OpQ.g (q_move rfl)) ?_
      refine .guardG (env' := [(38, _)]) rfl rfl rfl ⟨.inr (.inl rfl), trivial⟩ rfl (fun hg => OpQ.g (q_lenL (l := v0b) (row := rB8) Tryd.underlying25 rfl rfl)) ?_
      obtain ⟨hk7, H⟩ := ck_some H
      refine .guardG (env' := [(39, _)]) rfl rfl rfl ⟨.inr (.inl rfl), trivial⟩ rfl (fun hg => OpQ.g (q_subI rfl rfl (hk7 hg).1 (hk7 hg).2)) ?_
      refine .guardG (env' := [(37, _), (40, _)]) rfl rfl rfl ⟨.inr (.inl rfl), ⟨.inr (.inl rfl), trivial⟩⟩ rfl (fun hg => OpQ.g (q_lss rfl rfl)) ?_
      refine .q (q_pickOrB rfl rfl rfl) rfl ?_
      refine .nil ?_
      refine .cond rfl (fun hc => ?_) (fun hc => ?_)
      · replace H := ifT hc H; clear hc
        refine .region ?_
        refine .q (q_move rfl) rfl ?_
        refine .q (q_move rfl) rfl ?_
        refine .q (x := .d (cU8 (48 + ((nth v0b (Int.toNat (v5il1))) &&& 15)))) (q8_add (a := 48) (b := (nth v0b (Int.toNat (v5il1))) &&& 15) rfl rfl) rfl ?_
        refine .g (x := .d (slOf 1 rB8 ([48 + ((nth v0b (Int.toNat (v5il1))) &&& 15)] : List UInt8))) (g_buildSlice1 Tryd.underlying25 hi5 hs5 hz5 rfl rfl rfl rfl rfl) rfl ?_
        refine .q (x := .d (cS ([48 + ((nth v0b (Int.toNat (v5il1))) &&& 15)] : List UInt8))) (q_bytesStrL (a := ([48 + ((nth v0b (Int.toNat (v5il1))) &&& 15)] : List UInt8)) Tryd.underlying25 Tryd.underlying5 Tryd.underlying9 rfl rfl) rfl ?_
        obtain ⟨hk8, H⟩ := ck_some H
        refine .q (x := .d (cS ((v4sl1 ++ ([48 + (u8shr (nth v0b (Int.toNat (v5il1))) 4)] : List UInt8)) ++ ([48 + ((nth v0b (Int.toNat (v5il1))) &&& 15)] : List UInt8)))) (q_sadd rfl rfl hk8) rfl ?_
        refine .q (q_assign rfl) rfl ?_
        refine .nil ?_
        refine .inBlock ?_
        refine .region ?_
        refine .q (q_move rfl) rfl ?_
        obtain ⟨hk9, H⟩ := ck_some H
        refine .q (q_addI rfl rfl hk9.1 hk9.2) rfl ?_
        refine .q (q_assign rfl) rfl ?_
        refine .nil ?_
        cases H
        exact .sub (.cons rfl (.rfl' _) (.cons rfl (.rfl' _) (.cons rfl (.rfl' _) (.nil)))) (ih1 (n1, ((v4sl1 ++ ([48 + (u8shr (nth v0b (Int.toNat (v5il1))) 4)] : List UInt8)) ++ ([48 + ((nth v0b (Int.toNat (v5il1))) &&& 15)] : List UInt8), v5il1 + 1)) HK1 hm1)
      · replace H := ifF hc H; clear hc
        refine .skip ?_
        refine .inBlock ?_
        refine .region ?_
        refine .q (q_move rfl) rfl ?_
        obtain ⟨hk10, H⟩ := ck_some H
        refine .q (q_addI rfl rfl hk10.1 hk10.2) rfl ?_
        refine .q (q_assign rfl) rfl ?_
        refine .nil ?_
        cases H
        exact .sub (.cons rfl (.rfl' _) (.cons rfl (.rfl' _) (.cons rfl (.rfl' _) (.nil)))) (ih1 (n1, (v4sl1 ++ ([48 + (u8shr (nth v0b (Int.toNat (v5il1))) 4)] : List UInt8), v5il1 + 1)) HK1 hm1)
    · replace H := ifF hc H; clear hc
      refine .exit rfl ?_
      obtain ⟨q0, H9, hq0⟩ := map_some' H; clear H; cases hq0
      cases HK1
      have H := H9
      exact .sub (.cons rfl (.rfl' _) (.cons rfl (.rfl' _) (.nil))) (hj1x v4sl1 H)

set_option maxRecDepth 100000 in
set_option maxHeartbeats 1000000 in
theorem c_f_billingref10_number {v0b : List UInt8} {r : Int} (H : f_billingref10_number v0b = some r) : ACall Tryd.prog 47 [slOf 1 rB8 v0b] (· = cI r) := by
  obtain ⟨i5, hi5, hz5, hs5, hb5⟩ := in_5
  refine ACall.enter' Tryd.func47 rfl Tryd.ntmps47 rfl fun S hS => ?_
  unfold f_billingref10_number at H
  change ARun _ _ _ _ _ _ [(0, .d (slOf 1 rB8 v0b))] _
  refine .seq ?_
  refine .region ?_
  refine .q (q_assign rfl) rfl ?_
  refine .nil ?_
  refine .seq ?_
  refine .seq ?_
  refine .region ?_
  refine .q (q_move rfl) rfl ?_
  refine .q (q_lenL (l := v0b) (row := rB8) Tryd.underlying25 rfl rfl) rfl ?_
  refine .q (q_lss rfl rfl) rfl ?_
  refine .q (q_move rfl) rfl ?_
  refine .guardG (env' := [(0, _)]) rfl rfl rfl ⟨.inl rfl, trivial⟩ rfl (fun hg => OpQ.g (q_move rfl)) ?_
  refine .guardG (env' := [(9, _)]) rfl rfl rfl ⟨.inr (.inl rfl), trivial⟩ rfl (fun hg => OpQ.g (q_lenL (l := v0b) (row := rB8) Tryd.underlying25 rfl rfl)) ?_
  refine .guardG (env' := [(10, _)]) rfl rfl rfl ⟨.inr (.inl rfl), trivial⟩ rfl (fun hg => OpQ.g (q_gtr rfl rfl)) ?_
  refine .q (q_pickOrB rfl rfl rfl) rfl ?_
  refine .q (q_move rfl) rfl ?_
  refine .guardG (env' := [(0, _)]) rfl rfl rfl ⟨.inl rfl, trivial⟩ rfl (fun hg => OpQ.g (q_move rfl)) ?_
  obtain ⟨hk1, H⟩ := ck_some H
  refine .guardG (b := (!((decide ((v0b.length : Int) < 1)) || (decide ((v0b.length : Int) > 6))))) (x := .d (.ro (rB8 (nth v0b (Int.toNat (0)))))) (env' := [(14, _)]) rfl rfl rfl ⟨.inr (.inl rfl), trivial⟩ rfl (fun hg => OpQ.g (q_idxL (row := rB8) (l := v0b) (i := 0) Tryd.underlying25 hi5 hs5 rfl rfl rfl (hk1 hg))) ?_
  refine .guardG (b := (!((decide ((v0b.length : Int) < 1)) || (decide ((v0b.length : Int) > 6))))) (x := .d (cU8 (nth v0b (Int.toNat (0))))) (env' := [(15, _)]) rfl rfl rfl ⟨.inr (.inl rfl), trivial⟩ rfl (fun hg => OpQ.g (q_load one_5 rfl)) ?_
  refine .guardG (b := (!((decide ((v0b.length : Int) < 1)) || (decide ((v0b.length : Int) > 6))))) (x := .d (cB ((nth v0b (Int.toNat (0))) == 0))) (env' := [(16, _)]) rfl rfl rfl ⟨.inr (.inl rfl), trivial⟩ rfl (fun hg => OpQ.g (q8_eql (a := nth v0b (Int.toNat (0))) (b := 0) rfl rfl)) ?_
  refine .q (q_pickOrB rfl rfl rfl) rfl ?_
  refine .nil ?_
  refine .cond rfl (fun hc => ?_) (fun hc => ?_)
  · replace H := ifT hc H; clear hc
    refine .seq ?_
    refine .region ?_
    refine .q (q_assign rfl) rfl ?_
    refine .nil ?_
    refine .retN [.tmp 2] [.d (cI (-1))] Tryd.func47 Tryd.results47 ⟨rfl, trivial⟩ ?_
    cases H
    exact ⟨_, .rfl' _, rfl⟩
  · replace H := ifF hc H; clear hc
    refine .skip ?_
    refine .seq ?_
    refine .region ?_
    refine .q (q_assign rfl) rfl ?_
    refine .nil ?_
    refine .seq ?_
    refine .seq ?_
    refine .region ?_
    refine .q (q_assign rfl) rfl ?_
    refine .nil ?_
    refine .block ?_
    obtain ⟨n1, H⟩ := loop_some H
    refine .loop (ι := Nat × (Int × Int)) (fun p => [(0, .d (slOf 1 rB8 v0b)), (3, .d (cI p.2.1)), (4, .d (cI p.2.2))]) (fun p => ⟨[], []⟩) (fun p => iter (fun s => f_billingref10_number_l1 v0b s.1 s.2) p.1 p.2 = some r) (·.1) (n1, (0, 0)) H (.cons rfl (.rfl' _) (.cons rfl (.rfl' _) (.cons rfl (.rfl' _) (.nil)))) rfl ?_
    rintro ⟨m1, v3nl1, v4il1⟩ HI ih1
    obtain ⟨n1, q1, hm1, H, HK1⟩ := iter_succ HI
    clear HI
    replace H : f_billingref10_number_l1 v0b v3nl1 v4il1 = some q1 := H
    unfold f_billingref10_number_l1 at H
    change ARun _ _ _ _ _ _ [(0, .d (slOf 1 rB8 v0b)), (3, .d (cI v3nl1)), (4, .d (cI v4il1))] ⟨[], []⟩
    refine .seq ?_
    refine .seq ?_
    refine .region ?_
    refine .q (q_move rfl) rfl ?_
    refine .q (q_move rfl) rfl ?_
    refine .q (q_lenL (l := v0b) (row := rB8) Tryd.underlying25 rfl rfl) rfl ?_
    refine .q (q_lss rfl rfl) rfl ?_
    refine .nil ?_
    refine .cond rfl (fun hc => ?_) (fun hc => ?_)
    · replace H := ifT hc H; clear hc
      refine .skip ?_
      refine .seq ?_
      refine .block ?_
      refine .region ?_
      refine .q (q_move rfl) rfl ?_
      obtain ⟨hk2, H⟩ := ck_some H
      refine .q (q_mulI rfl rfl hk2.1 hk2.2) rfl ?_
      refine .q (q_move rfl) rfl ?_
      refine .q (q_move rfl) rfl ?_
      obtain ⟨hk3, H⟩ := ck_some H
      refine .q (x := .d (.ro (rB8 (nth v0b (Int.toNat (v4il1)))))) (q_idxL (row := rB8) (l := v0b) (i := v4il1) Tryd.underlying25 hi5 hs5 rfl rfl rfl hk3) rfl ?_
      refine .q (x := .d (cU8 (nth v0b (Int.toNat (v4il1))))) (q_load one_5 rfl) rfl ?_
      refine .q (x := .d (cI ((nth v0b (Int.toNat (v4il1))).toNat : Int))) (q_conv8i (a := nth v0b (Int.toNat (v4il1))) Tryd.underlying5 Tryd.underlying3 rfl) rfl ?_
      obtain ⟨hk4, H⟩ := ck_some H
      refine .q (q_addI rfl rfl hk4.1 hk4.2) rfl ?_
      refine .q (q_assign rfl) rfl ?_
      refine .nil ?_
      refine .inBlock ?_
      refine .region ?_
      refine .q (q_move rfl) rfl ?_
      obtain ⟨hk5, H⟩ := ck_some H
      refine .q (q_addI rfl rfl hk5.1 hk5.2) rfl ?_
      refine .q (q_assign rfl) rfl ?_
      refine .nil ?_
      cases H
      exact .sub (.cons rfl (.rfl' _) (.cons rfl (.rfl' _) (.cons rfl (.rfl' _) (.nil)))) (ih1 (n1, ((v3nl1 * 256) + ((nth v0b (Int.toNat (v4il1))).toNat : Int), v4il1 + 1)) HK1 hm1)
    · replace H := ifF hc H; clear hc
      refine .exit rfl ?_
      refine .seq ?_
      refine .region ?_
      refine .q (q_move rfl) rfl ?_
      refine .q (q_assign rfl) rfl ?_
      refine .nil ?_
      refine .retN [.tmp 2] [.d (cI v3nl1)] Tryd.func47 Tryd.results47 ⟨rfl, trivial⟩ ?_
      cases H
      cases HK1
      exact ⟨_, .rfl' _, rfl⟩

set_option maxRecDepth 100000 in
set_option maxHeartbeats 1000000 in
theorem c_f_billingref10_field {v0 : Record} {v1 : Element} {r : Record × Bool} (H : f_billingref10_field v0 v1 = some r) : ACall Tryd.prog 37 [.agg (Record.row v0), .agg (Element.row v1)] (· = .tup [.agg (Record.row r.1), cB r.2]) := by
  refine ACall.enter' Tryd.func37 rfl Tryd.ntmps37 rfl fun S hS => ?_
  unfold f_billingref10_field at H
  change ARun _ _ _ _ _ _ [(0, .d (.agg (Record.row v0))), (1, .d (.agg (Element.row v1)))] _
  refine .seq ?_
  refine .region ?_
  refine .v (x := .ref 0 0) (v_box rfl rfl) rfl ?_
  refine .withSt (st' := ⟨[.row 34 [.d (cI v0.source), .d (cI v0.serial), .d (cI v0.kind), .d (cS v0.a), .d (cS v0.b), .d (cI v0.start), .d (cI v0.units), .d (cI v0.call), .d (cI v0.part), .d (cB v0.last), .d (cI v0.trunk), .d (cB v0.inbound)]], []⟩) rfl ?_
  refine .v (x := .ref 1 0) (v_box rfl rfl) rfl ?_
  refine .withSt (st' := ⟨[.row 34 [.d (cI v0.source), .d (cI v0.serial), .d (cI v0.kind), .d (cS v0.a), .d (cS v0.b), .d (cI v0.start), .d (cI v0.units), .d (cI v0.call), .d (cI v0.part), .d (cB v0.last), .d (cI v0.trunk), .d (cB v0.inbound)], .row 47 [.d (cI v1.tag), .d (slOf 1 rB8 v1.value)]], []⟩) rfl ?_
  refine .v (x := .ref 2 0) (v_alloc zr_34 rfl) rfl ?_
  refine .withSt (st' := ⟨[.row 34 [.d (cI v0.source), .d (cI v0.serial), .d (cI v0.kind), .d (cS v0.a), .d (cS v0.b), .d (cI v0.start), .d (cI v0.units), .d (cI v0.call), .d (cI v0.part), .d (cB v0.last), .d (cI v0.trunk), .d (cB v0.inbound)], .row 47 [.d (cI v1.tag), .d (slOf 1 rB8 v1.value)], .row 34 [.d (cI 0), .d (cI 0), .d (cI 0), .d (cS ([] : List UInt8)), .d (cS ([] : List UInt8)), .d (cI 0), .d (cI 0), .d (cI 0), .d (cI 0), .d (cB false), .d (cI 0), .d (cB false)]], []⟩) rfl ?_
  refine .q (q_assign rfl) rfl ?_
  refine .nil ?_
  refine .seq ?_
  refine .seq ?_
  refine .region ?_
  refine .q (q_fieldRef fo_47_0 rfl) rfl ?_
  refine .q (x := .d (cI v1.tag)) (q_loadO one_3 rfl rfl rfl) rfl ?_
  refine .q (q_eql rfl rfl) rfl ?_
  refine .q (q_move rfl) rfl ?_
  refine .guardG (env' := [(3, _)]) rfl rfl rfl ⟨.inl rfl, trivial⟩ rfl (fun hg => OpQ.g (q_fieldRef fo_47_0 rfl)) ?_
  refine .guardG (b := (!(v1.tag == 4))) (x := .d (cI v1.tag)) (env' := [(13, _)]) rfl rfl rfl ⟨.inr (.inl rfl), trivial⟩ rfl (fun hg => OpQ.g (q_loadO one_3 rfl rfl rfl)) ?_
  refine .guardG (env' := [(14, _)]) rfl rfl rfl ⟨.inr (.inl rfl), trivial⟩ rfl (fun hg => OpQ.g (q_eql rfl rfl)) ?_
  refine .q (q_pickOrB rfl rfl rfl) rfl ?_
  refine .nil ?_
  refine .cond rfl (fun hc => ?_) (fun hc => ?_)
  · replace H := ifT hc H; clear hc
    refine .seq ?_
    refine .region ?_
    refine .q (q_fieldRef fo_47_1 rfl) rfl ?_
    refine .q (x := .d (slOf 1 rB8 v1.value)) (q_loadO one_25 rfl rfl rfl) rfl ?_
    obtain ⟨y1, hy1, H⟩ := bind_some' H
    refine .g (x := .d (.tup [cS y1.1, cI y1.2])) (g_call en_46 rfl rfl (c_f_billingref02_Unpack (hy1))) rfl ?_
    refine .q (q_move rfl) rfl ?_
    refine .q (q_extract rfl rfl) rfl ?_
    refine .q (q_extract rfl rfl) rfl ?_
    refine .q (q_assign rfl) rfl ?_
    refine .q (q_assign rfl) rfl ?_
    refine .nil ?_
    refine .seqJoin (ι := List UInt8 × List UInt8) (fun s => [(2, .ref 0 0), (4, .ref 2 0), (7, .d (cI y1.2))]) (fun s => ⟨[.row 34 [.d (cI v0.source), .d (cI v0.serial), .d (cI v0.kind), .d (cS s.1), .d (cS s.2), .d (cI v0.start), .d (cI v0.units), .d (cI v0.call), .d (cI v0.part), .d (cB v0.last), .d (cI v0.trunk), .d (cB v0.inbound)], .row 47 [.d (cI v1.tag), .d (slOf 1 rB8 v1.value)], .row 34 [.d (cI 0), .d (cI 0), .d (cI 0), .d (cS ([] : List UInt8)), .d (cS ([] : List UInt8)), .d (cI 0), .d (cI 0), .d (cI 0), .d (cI 0), .d (cB false), .d (cI 0), .d (cB false)]], []⟩) (fun s => f_billingref10_field_j1 v0 y1 s.1 s.2 = some r) ?_ ?_
    · rintro ⟨o0c3j1, o0c4j1⟩ H
      replace H : f_billingref10_field_j1 v0 y1 o0c3j1 o0c4j1 = some r := H
      unfold f_billingref10_field_j1 at H
      change ARun _ _ _ _ _ _ [(2, .ref 0 0), (4, .ref 2 0), (7, .d (cI y1.2))] ⟨[.row 34 [.d (cI v0.source), .d (cI v0.serial), .d (cI v0.kind), .d (cS o0c3j1), .d (cS o0c4j1), .d (cI v0.start), .d (cI v0.units), .d (cI v0.call), .d (cI v0.part), .d (cB v0.last), .d (cI v0.trunk), .d (cB v0.inbound)], .row 47 [.d (cI v1.tag), .d (slOf 1 rB8 v1.value)], .row 34 [.d (cI 0), .d (cI 0), .d (cI 0), .d (cS ([] : List UInt8)), .d (cS ([] : List UInt8)), .d (cI 0), .d (cI 0), .d (cI 0), .d (cI 0), .d (cB false), .d (cI 0), .d (cB false)]], []⟩
      refine .seq ?_
      refine .region ?_
      refine .q (x := .d (.agg (Record.row (⟨v0.source, v0.serial, v0.kind, o0c3j1, o0c4j1, v0.start, v0.units, v0.call, v0.part, v0.last, v0.trunk, v0.inbound⟩ : Record)))) (q_loadOA one_34 sz_34 rfl rfl (Nat.le_of_ble_eq_true rfl) rfl) rfl ?_
      refine .q (q_move rfl) rfl ?_
      refine .q (q_eql rfl rfl) rfl ?_
      refine .u (u_store rfl rfl rfl rfl (Nat.le_of_ble_eq_true rfl) sz_34) rfl ?_
      refine .withSt (st' := ⟨[.row 34 [.d (cI v0.source), .d (cI v0.serial), .d (cI v0.kind), .d (cS o0c3j1), .d (cS o0c4j1), .d (cI v0.start), .d (cI v0.units), .d (cI v0.call), .d (cI v0.part), .d (cB v0.last), .d (cI v0.trunk), .d (cB v0.inbound)], .row 47 [.d (cI v1.tag), .d (slOf 1 rB8 v1.value)], .row 34 [.d (cI v0.source), .d (cI v0.serial), .d (cI v0.kind), .d (cS o0c3j1), .d (cS o0c4j1), .d (cI v0.start), .d (cI v0.units), .d (cI v0.call), .d (cI v0.part), .d (cB v0.last), .d (cI v0.trunk), .d (cB v0.inbound)]], []⟩) rfl ?_
      refine .q (q_assign rfl) rfl ?_
      refine .nil ?_
      refine .retN [.cell 4 34, .tmp 5] [.d (.agg (Record.row (⟨v0.source, v0.serial, v0.kind, o0c3j1, o0c4j1, v0.start, v0.units, v0.call, v0.part, v0.last, v0.trunk, v0.inbound⟩ : Record))), .d (cB (y1.2 == 0))] Tryd.func37 Tryd.results37 ⟨⟨⟨_, _, rfl⟩, q_loadOA one_34 sz_34 rfl rfl (Nat.le_of_ble_eq_true rfl) rfl⟩, rfl, trivial⟩ ?_
      cases H
      exact ⟨_, EVle.tupL (ds := [.agg (Record.row (⟨v0.source, v0.serial, v0.kind, o0c3j1, o0c4j1, v0.start, v0.units, v0.call, v0.part, v0.last, v0.trunk, v0.inbound⟩ : Record)), cB (y1.2 == 0)]) ⟨.rfl' _, .rfl' _, trivial⟩, rfl⟩
    · intro hj1
      refine .seq ?_
      refine .region ?_
      refine .q (q_fieldRef fo_47_0 rfl) rfl ?_
      refine .q (x := .d (cI v1.tag)) (q_loadO one_3 rfl rfl rfl) rfl ?_
      refine .q (q_eql rfl rfl) rfl ?_
      refine .nil ?_
      refine .cond rfl (fun hc => ?_) (fun hc => ?_)
      · replace H := ifT hc H; clear hc
        refine .region ?_
        refine .q (q_move rfl) rfl ?_
        refine .q (q_fieldRef fo_34_3 rfl) rfl ?_
        refine .u (u_store rfl rfl rfl rfl (Nat.le_of_ble_eq_true rfl) sz_9) rfl ?_
        refine .withSt (st' := ⟨[.row 34 [.d (cI v0.source), .d (cI v0.serial), .d (cI v0.kind), .d (cS y1.1), .d (cS v0.b), .d (cI v0.start), .d (cI v0.units), .d (cI v0.call), .d (cI v0.part), .d (cB v0.last), .d (cI v0.trunk), .d (cB v0.inbound)], .row 47 [.d (cI v1.tag), .d (slOf 1 rB8 v1.value)], .row 34 [.d (cI 0), .d (cI 0), .d (cI 0), .d (cS ([] : List UInt8)), .d (cS ([] : List UInt8)), .d (cI 0), .d (cI 0), .d (cI 0), .d (cI 0), .d (cB false), .d (cI 0), .d (cB false)]], []⟩) rfl ?_
        refine .nil ?_
        exact .withSt (st' := ⟨[.row 34 [.d (cI v0.source), .d (cI v0.serial), .d (cI v0.kind), .d (cS y1.1), .d (cS v0.b), .d (cI v0.start), .d (cI v0.units), .d (cI v0.call), .d (cI v0.part), .d (cB v0.last), .d (cI v0.trunk), .d (cB v0.inbound)], .row 47 [.d (cI v1.tag), .d (slOf 1 rB8 v1.value)], .row 34 [.d (cI 0), .d (cI 0), .d (cI 0), .d (cS ([] : List UInt8)), .d (cS ([] : List UInt8)), .d (cI 0), .d (cI 0), .d (cI 0), .d (cI 0), .d (cB false), .d (cI 0), .d (cB false)]], []⟩) rfl <| .sub (.cons rfl (.rfl' _) (.cons rfl (.rfl' _) (.cons rfl (.rfl' _) (.nil)))) (hj1 (y1.1, v0.b) H)
      · replace H := ifF hc H; clear hc
        refine .region ?_
        refine .q (q_move rfl) rfl ?_
        refine .q (q_fieldRef fo_34_4 rfl) rfl ?_
        refine .u (u_store rfl rfl rfl rfl (Nat.le_of_ble_eq_true rfl) sz_9) rfl ?_
        refine .withSt (st' := ⟨[.row 34 [.d (cI v0.source), .d (cI v0.serial), .d (cI v0.kind), .d (cS v0.a), .d (cS y1.1), .d (cI v0.start), .d (cI v0.units), .d (cI v0.call), .d (cI v0.part), .d (cB v0.last), .d (cI v0.trunk), .d (cB v0.inbound)], .row 47 [.d (cI v1.tag), .d (slOf 1 rB8 v1.value)], .row 34 [.d (cI 0), .d (cI 0), .d (cI 0), .d (cS ([] : List UInt8)), .d (cS ([] : List UInt8)), .d (cI 0), .d (cI 0), .d (cI 0), .d (cI 0), .d (cB false), .d (cI 0), .d (cB false)]], []⟩) rfl ?_
        refine .nil ?_
        exact .withSt (st' := ⟨[.row 34 [.d (cI v0.source), .d (cI v0.serial), .d (cI v0.kind), .d (cS v0.a), .d (cS y1.1), .d (cI v0.start), .d (cI v0.units), .d (cI v0.call), .d (cI v0.part), .d (cB v0.last), .d (cI v0.trunk), .d (cB v0.inbound)], .row 47 [.d (cI v1.tag), .d (slOf 1 rB8 v1.value)], .row 34 [.d (cI 0), .d (cI 0), .d (cI 0), .d (cS ([] : List UInt8)), .d (cS ([] : List UInt8)), .d (cI 0), .d (cI 0), .d (cI 0), .d (cI 0), .d (cB false), .d (cI 0), .d (cB false)]], []⟩) rfl <| .sub (.cons rfl (.rfl' _) (.cons rfl (.rfl' _) (.cons rfl (.rfl' _) (.nil)))) (hj1 (v0.a, y1.1) H)
  · replace H := ifF hc H; clear hc
    refine .skip ?_
    refine .seq ?_
    refine .region ?_
    refine .q (q_fieldRef fo_47_1 rfl) rfl ?_
    refine .q (x := .d (slOf 1 rB8 v1.value)) (q_loadO one_25 rfl rfl rfl) rfl ?_
    obtain ⟨y2, hy2, H⟩ := bind_some' H
    refine .g (x := .d (cI y2)) (g_call en_47 rfl rfl (c_f_billingref10_number (hy2))) rfl ?_
    refine .q (q_assign rfl) rfl ?_
    refine .nil ?_
    refine .seqJoin (ι := Int × Int × Int × Int × Int × Int × Int × Int) (fun s => [(2, .ref 0 0), (3, .ref 1 0), (4, .ref 2 0), (8, .d (cI y2))]) (fun s => ⟨[.row 34 [.d (cI s.1), .d (cI s.2.1), .d (cI s.2.2.1), .d (cS v0.a), .d (cS v0.b), .d (cI s.2.2.2.1), .d (cI s.2.2.2.2.1), .d (cI s.2.2.2.2.2.1), .d (cI s.2.2.2.2.2.2.1), .d (cB v0.last), .d (cI s.2.2.2.2.2.2.2), .d (cB v0.inbound)], .row 47 [.d (cI v1.tag), .d (slOf 1 rB8 v1.value)], .row 34 [.d (cI 0), .d (cI 0), .d (cI 0), .d (cS ([] : List UInt8)), .d (cS ([] : List UInt8)), .d (cI 0), .d (cI 0), .d (cI 0), .d (cI 0), .d (cB false), .d (cI 0), .d (cB false)]], []⟩) (fun s => f_billingref10_field_j2 v0 v1 y2 s.1 s.2.1 s.2.2.1 s.2.2.2.1 s.2.2.2.2.1 s.2.2.2.2.2.1 s.2.2.2.2.2.2.1 s.2.2.2.2.2.2.2 = some r) ?_ ?_
    · rintro ⟨o0c0j2, o0c1j2, o0c2j2, o0c5j2, o0c6j2, o0c7j2, o0c8j2, o0c10j2⟩ H
      replace H : f_billingref10_field_j2 v0 v1 y2 o0c0j2 o0c1j2 o0c2j2 o0c5j2 o0c6j2 o0c7j2 o0c8j2 o0c10j2 = some r := H
      unfold f_billingref10_field_j2 at H
      change ARun _ _ _ _ _ _ [(2, .ref 0 0), (3, .ref 1 0), (4, .ref 2 0), (8, .d (cI y2))] ⟨[.row 34 [.d (cI o0c0j2), .d (cI o0c1j2), .d (cI o0c2j2), .d (cS v0.a), .d (cS v0.b), .d (cI o0c5j2), .d (cI o0c6j2), .d (cI o0c7j2), .d (cI o0c8j2), .d (cB v0.last), .d (cI o0c10j2), .d (cB v0.inbound)], .row 47 [.d (cI v1.tag), .d (slOf 1 rB8 v1.value)], .row 34 [.d (cI 0), .d (cI 0), .d (cI 0), .d (cS ([] : List UInt8)), .d (cS ([] : List UInt8)), .d (cI 0), .d (cI 0), .d (cI 0), .d (cI 0), .d (cB false), .d (cI 0), .d (cB false)]], []⟩
      refine .seq ?_
      refine .orders1 9 8 [⟨[.row 34 [.d (cI o0c0j2), .d (cI o0c1j2), .d (cI o0c2j2), .d (cS v0.a), .d (cS v0.b), .d (cI o0c5j2), .d (cI o0c6j2), .d (cI o0c7j2), .d (cI o0c8j2), .d (cB v0.last), .d (cI o0c10j2), .d (cB v0.inbound)], .row 47 [.d (cI v1.tag), .d (slOf 1 rB8 v1.value)], .row 34 [.d (cI 0), .d (cI 0), .d (cI 0), .d (cS ([] : List UInt8)), .d (cS ([] : List UInt8)), .d (cI 0), .d (cI 0), .d (cI 0), .d (cI 0), .d (cB false), .d (cI 0), .d (cB false)]], []⟩, ⟨[.row 34 [.d (cI o0c0j2), .d (cI o0c1j2), .d (cI o0c2j2), .d (cS v0.a), .d (cS v0.b), .d (cI o0c5j2), .d (cI o0c6j2), .d (cI o0c7j2), .d (cI o0c8j2), .d (cB v0.last), .d (cI o0c10j2), .d (cB v0.inbound)], .row 47 [.d (cI v1.tag), .d (slOf 1 rB8 v1.value)], .row 34 [.d (cI o0c0j2), .d (cI o0c1j2), .d (cI o0c2j2), .d (cS v0.a), .d (cS v0.b), .d (cI o0c5j2), .d (cI o0c6j2), .d (cI o0c7j2), .d (cI o0c8j2), .d (cB v0.last), .d (cI o0c10j2), .d (cB v0.inbound)]], []⟩] hMix (by kernel_rfl) (by decide) rfl ?_
      show XOps _ _ _ _ _ _ _ _ _ _ (_ :: _) _ _
      refine .g (x := .d (.agg (Record.row (⟨o0c0j2, o0c1j2, o0c2j2, v0.a, v0.b, o0c5j2, o0c6j2, o0c7j2, o0c8j2, v0.last, o0c10j2, v0.inbound⟩ : Record)))) 0 0 ⟨OpQ.g (q_loadOA one_34 sz_34 rfl rfl (Nat.le_of_ble_eq_true rfl) rfl), trivial⟩ rfl (by kernel_rfl) rfl ?_
      refine .g (x := .d (cI y2)) 0 0 ⟨OpQ.g (q_move rfl), trivial⟩ rfl (by kernel_rfl) rfl ?_
      refine .g (x := .d (cB (decide (y2 > 0)))) 0 0 ⟨OpQ.g (q_gtr rfl rfl), trivial⟩ rfl (by kernel_rfl) rfl ?_
      refine .g (x := .d (cB (decide (y2 > 0)))) 0 0 ⟨OpQ.g (q_move rfl), trivial⟩ rfl (by kernel_rfl) rfl ?_
      refine .guardG (b := decide (y2 > 0)) (x := .ref 1 0) (env' := [(3, _)]) 0 1 rfl rfl rfl ⟨.inl rfl, trivial⟩ rfl (fun hg => ⟨OpQ.g (q_fieldRef fo_47_0 rfl), OpQ.g (q_fieldRef fo_47_0 rfl), trivial⟩) rfl (by kernel_rfl) ?_
      refine .guardG (b := decide (y2 > 0)) (x := .d (cI v1.tag)) (env' := [(96, _)]) 0 1 rfl rfl rfl ⟨.inr (.inl rfl), trivial⟩ rfl (fun hg => ⟨OpQ.g (q_loadO one_3 rfl rfl rfl), OpQ.g (q_loadO one_3 rfl rfl rfl), trivial⟩) rfl (by kernel_rfl) ?_
      refine .guardG (b := decide (y2 > 0)) (x := .d (cB (decide (v1.tag ≤ 11)))) (env' := [(97, _)]) 0 1 rfl rfl rfl ⟨.inr (.inl rfl), trivial⟩ rfl (fun hg => ⟨OpQ.g (q_leq rfl rfl), OpQ.g (q_leq rfl rfl), trivial⟩) rfl (by kernel_rfl) ?_
      refine .g (x := .d (cB ((decide (y2 > 0)) && (decide (v1.tag ≤ 11))))) 0 1 ⟨OpQ.g (q_pickAndB rfl rfl rfl), OpQ.g (q_pickAndB rfl rfl rfl), trivial⟩ rfl (by kernel_rfl) rfl ?_
      refine .u 0 (u_store rfl rfl rfl rfl (Nat.le_of_ble_eq_true rfl) sz_34) rfl rfl rfl rfl ?_
      refine .nil rfl ?_
      show AOps _ _ _ _ _ _ (_ :: _) _ _ _
      refine .q (q_assign rfl) rfl ?_
      refine .nil ?_
      refine .retN [.cell 4 34, .tmp 5] [.d (.agg (Record.row (⟨o0c0j2, o0c1j2, o0c2j2, v0.a, v0.b, o0c5j2, o0c6j2, o0c7j2, o0c8j2, v0.last, o0c10j2, v0.inbound⟩ : Record))), .d (cB ((decide (y2 > 0)) && (decide (v1.tag ≤ 11))))] Tryd.func37 Tryd.results37 ⟨⟨⟨_, _, rfl⟩, q_loadOA one_34 sz_34 rfl rfl (Nat.le_of_ble_eq_true rfl) rfl⟩, rfl, trivial⟩ ?_
      cases H
      exact ⟨_, EVle.tupL (ds := [.agg (Record.row (⟨o0c0j2, o0c1j2, o0c2j2, v0.a, v0.b, o0c5j2, o0c6j2, o0c7j2, o0c8j2, v0.last, o0c10j2, v0.inbound⟩ : Record)), cB ((decide (y2 > 0)) && (decide (v1.tag ≤ 11)))]) ⟨.rfl' _, .rfl' _, trivial⟩, rfl⟩
    · intro hj2
      refine .seq ?_
      refine .region ?_
      refine .q (q_fieldRef fo_47_0 rfl) rfl ?_
      refine .q (x := .d (cI v1.tag)) (q_loadO one_3 rfl rfl rfl) rfl ?_
      refine .nil ?_
      refine .block ?_
      refine .seq ?_
      refine .region ?_
      refine .q (q_eql rfl rfl) rfl ?_
      refine .q (q_assign rfl) rfl ?_
      refine .nil ?_
      refine .cond rfl (fun hc => ?_) (fun hc => ?_)
      · replace H := ifT hc H; clear hc
        refine .region ?_
        refine .q (q_move rfl) rfl ?_
        refine .q (q_fieldRef fo_34_2 rfl) rfl ?_
        refine .u (u_store rfl rfl rfl rfl (Nat.le_of_ble_eq_true rfl) sz_3) rfl ?_
        refine .withSt (st' := ⟨[.row 34 [.d (cI v0.source), .d (cI v0.serial), .d (cI y2), .d (cS v0.a), .d (cS v0.b), .d (cI v0.start), .d (cI v0.units), .d (cI v0.call), .d (cI v0.part), .d (cB v0.last), .d (cI v0.trunk), .d (cB v0.inbound)], .row 47 [.d (cI v1.tag), .d (slOf 1 rB8 v1.value)], .row 34 [.d (cI 0), .d (cI 0), .d (cI 0), .d (cS ([] : List UInt8)), .d (cS ([] : List UInt8)), .d (cI 0), .d (cI 0), .d (cI 0), .d (cI 0), .d (cB false), .d (cI 0), .d (cB false)]], []⟩) rfl ?_
        refine .nil ?_
        refine .inBlock ?_
        exact .withSt (st' := ⟨[.row 34 [.d (cI v0.source), .d (cI v0.serial), .d (cI y2), .d (cS v0.a), .d (cS v0.b), .d (cI v0.start), .d (cI v0.units), .d (cI v0.call), .d (cI v0.part), .d (cB v0.last), .d (cI v0.trunk), .d (cB v0.inbound)], .row 47 [.d (cI v1.tag), .d (slOf 1 rB8 v1.value)], .row 34 [.d (cI 0), .d (cI 0), .d (cI 0), .d (cS ([] : List UInt8)), .d (cS ([] : List UInt8)), .d (cI 0), .d (cI 0), .d (cI 0), .d (cI 0), .d (cB false), .d (cI 0), .d (cB false)]], []⟩) rfl <| .sub (.cons rfl (.rfl' _) (.cons rfl (.rfl' _) (.cons rfl (.rfl' _) (.cons rfl (.rfl' _) (.nil))))) (hj2 (v0.source, v0.serial, y2, v0.start, v0.units, v0.call, v0.part, v0.trunk) H)
      · replace H := ifF hc H; clear hc
        refine .seq ?_
        refine .region ?_
        refine .q (q_eql rfl rfl) rfl ?_
        refine .q (q_assign rfl) rfl ?_
        refine .nil ?_
        refine .cond rfl (fun hc => ?_) (fun hc => ?_)
        · replace H := ifT hc H; clear hc
          refine .region ?_
          refine .q (q_move rfl) rfl ?_
          refine .q (q_fieldRef fo_34_0 rfl) rfl ?_
          refine .u (u_store rfl rfl rfl rfl (Nat.le_of_ble_eq_true rfl) sz_3) rfl ?_
          refine .withSt (st' := ⟨[.row 34 [.d (cI y2), .d (cI v0.serial), .d (cI v0.kind), .d (cS v0.a), .d (cS v0.b), .d (cI v0.start), .d (cI v0.units), .d (cI v0.call), .d (cI v0.part), .d (cB v0.last), .d (cI v0.trunk), .d (cB v0.inbound)], .row 47 [.d (cI v1.tag), .d (slOf 1 rB8 v1.value)], .row 34 [.d (cI 0), .d (cI 0), .d (cI 0), .d (cS ([] : List UInt8)), .d (cS ([] : List UInt8)), .d (cI 0), .d (cI 0), .d (cI 0), .d (cI 0), .d (cB false), .d (cI 0), .d (cB false)]], []⟩) rfl ?_
          refine .nil ?_
          refine .inBlock ?_
          exact .withSt (st' := ⟨[.row 34 [.d (cI y2), .d (cI v0.serial), .d (cI v0.kind), .d (cS v0.a), .d (cS v0.b), .d (cI v0.start), .d (cI v0.units), .d (cI v0.call), .d (cI v0.part), .d (cB v0.last), .d (cI v0.trunk), .d (cB v0.inbound)], .row 47 [.d (cI v1.tag), .d (slOf 1 rB8 v1.value)], .row 34 [.d (cI 0), .d (cI 0), .d (cI 0), .d (cS ([] : List UInt8)), .d (cS ([] : List UInt8)), .d (cI 0), .d (cI 0), .d (cI 0), .d (cI 0), .d (cB false), .d (cI 0), .d (cB false)]], []⟩) rfl <| .sub (.cons rfl (.rfl' _) (.cons rfl (.rfl' _) (.cons rfl (.rfl' _) (.cons rfl (.rfl' _) (.nil))))) (hj2 (y2, v0.serial, v0.kind, v0.start, v0.units, v0.call, v0.part, v0.trunk) H)
        · replace H := ifF hc H; clear hc
          refine .seq ?_
          refine .region ?_
          refine .q (q_eql rfl rfl) rfl ?_
          refine .q (q_assign rfl) rfl ?_
          refine .nil ?_
          refine .cond rfl (fun hc => ?_) (fun hc => ?_)
          · replace H := ifT hc H; clear hc
            refine .region ?_
            refine .q (q_move rfl) rfl ?_
            refine .q (q_fieldRef fo_34_1 rfl) rfl ?_
            refine .u (u_store rfl rfl rfl rfl (Nat.le_of_ble_eq_true rfl) sz_3) rfl ?_
            refine .withSt (st' := ⟨[.row 34 [.d (cI v0.source), .d (cI y2), .d (cI v0.kind), .d (cS v0.a), .d (cS v0.b), .d (cI v0.start), .d (cI v0.units), .d (cI v0.call), .d (cI v0.part), .d (cB v0.last), .d (cI v0.trunk), .d (cB v0.inbound)], .row 47 [.d (cI v1.tag), .d (slOf 1 rB8 v1.value)], .row 34 [.d (cI 0), .d (cI 0), .d (cI 0), .d (cS ([] : List UInt8)), .d (cS ([] : List UInt8)), .d (cI 0), .d (cI 0), .d (cI 0), .d (cI 0), .d (cB false), .d (cI 0), .d (cB false)]], []⟩) rfl ?_
            refine .nil ?_
            refine .inBlock ?_
            exact .withSt (st' := ⟨[.row 34 [.d (cI v0.source), .d (cI y2), .d (cI v0.kind), .d (cS v0.a), .d (cS v0.b), .d (cI v0.start), .d (cI v0.units), .d (cI v0.call), .d (cI v0.part), .d (cB v0.last), .d (cI v0.trunk), .d (cB v0.inbound)], .row 47 [.d (cI v1.tag), .d (slOf 1 rB8 v1.value)], .row 34 [.d (cI 0), .d (cI 0), .d (cI 0), .d (cS ([] : List UInt8)), .d (cS ([] : List UInt8)), .d (cI 0), .d (cI 0), .d (cI 0), .d (cI 0), .d (cB false), .d (cI 0), .d (cB false)]], []⟩) rfl <| .sub (.cons rfl (.rfl' _) (.cons rfl (.rfl' _) (.cons rfl (.rfl' _) (.cons rfl (.rfl' _) (.nil))))) (hj2 (v0.source, y2, v0.kind, v0.start, v0.units, v0.call, v0.part, v0.trunk) H)
          · replace H := ifF hc H; clear hc
            refine .seq ?_
            refine .region ?_
            refine .q (q_eql rfl rfl) rfl ?_
            refine .q (q_assign rfl) rfl ?_
            refine .nil ?_
            refine .cond rfl (fun hc => ?_) (fun hc => ?_)
            · replace H := ifT hc H; clear hc
              refine .region ?_
              refine .q (q_move rfl) rfl ?_
              refine .q (q_fieldRef fo_34_5 rfl) rfl ?_
              refine .u (u_store rfl rfl rfl rfl (Nat.le_of_ble_eq_true rfl) sz_3) rfl ?_
              refine .withSt (st' := ⟨[.row 34 [.d (cI v0.source), .d (cI v0.serial), .d (cI v0.kind), .d (cS v0.a), .d (cS v0.b), .d (cI y2), .d (cI v0.units), .d (cI v0.call), .d (cI v0.part), .d (cB v0.last), .d (cI v0.trunk), .d (cB v0.inbound)], .row 47 [.d (cI v1.tag), .d (slOf 1 rB8 v1.value)], .row 34 [.d (cI 0), .d (cI 0), .d (cI 0), .d (cS ([] : List UInt8)), .d (cS ([] : List UInt8)), .d (cI 0), .d (cI 0), .d (cI 0), .d (cI 0), .d (cB false), .d (cI 0), .d (cB false)]], []⟩) rfl ?_
              refine .nil ?_
              refine .inBlock ?_
              exact .withSt (st' := ⟨[.row 34 [.d (cI v0.source), .d (cI v0.serial), .d (cI v0.kind), .d (cS v0.a), .d (cS v0.b), .d (cI y2), .d (cI v0.units), .d (cI v0.call), .d (cI v0.part), .d (cB v0.last), .d (cI v0.trunk), .d (cB v0.inbound)], .row 47 [.d (cI v1.tag), .d (slOf 1 rB8 v1.value)], .row 34 [.d (cI 0), .d (cI 0), .d (cI 0), .d (cS ([] : List UInt8)), .d (cS ([] : List UInt8)), .d (cI 0), .d (cI 0), .d (cI 0), .d (cI 0), .d (cB false), .d (cI 0), .d (cB false)]], []⟩) rfl <| .sub (.cons rfl (.rfl' _) (.cons rfl (.rfl' _) (.cons rfl (.rfl' _) (.cons rfl (.rfl' _) (.nil))))) (hj2 (v0.source, v0.serial, v0.kind, y2, v0.units, v0.call, v0.part, v0.trunk) H)
            · replace H := ifF hc H; clear hc
              refine .seq ?_
              refine .region ?_
              refine .q (q_eql rfl rfl) rfl ?_
              refine .q (q_assign rfl) rfl ?_
              refine .nil ?_
              refine .cond rfl (fun hc => ?_) (fun hc => ?_)
              · replace H := ifT hc H; clear hc
                refine .region ?_
                refine .q (q_move rfl) rfl ?_
                refine .q (q_fieldRef fo_34_6 rfl) rfl ?_
                refine .u (u_store rfl rfl rfl rfl (Nat.le_of_ble_eq_true rfl) sz_3) rfl ?_
                refine .withSt (st' := ⟨[.row 34 [.d (cI v0.source), .d (cI v0.serial), .d (cI v0.kind), .d (cS v0.a), .d (cS v0.b), .d (cI v0.start), .d (cI y2), .d (cI v0.call), .d (cI v0.part), .d (cB v0.last), .d (cI v0.trunk), .d (cB v0.inbound)], .row 47 [.d (cI v1.tag), .d (slOf 1 rB8 v1.value)], .row 34 [.d (cI 0), .d (cI 0), .d (cI 0), .d (cS ([] : List UInt8)), .d (cS ([] : List UInt8)), .d (cI 0), .d (cI 0), .d (cI 0), .d (cI 0), .d (cB false), .d (cI 0), .d (cB false)]], []⟩) rfl ?_
                refine .nil ?_
                refine .inBlock ?_
                exact .withSt (st' := ⟨[.row 34 [.d (cI v0.source), .d (cI v0.serial), .d (cI v0.kind), .d (cS v0.a), .d (cS v0.b), .d (cI v0.start), .d (cI y2), .d (cI v0.call), .d (cI v0.part), .d (cB v0.last), .d (cI v0.trunk), .d (cB v0.inbound)], .row 47 [.d (cI v1.tag), .d (slOf 1 rB8 v1.value)], .row 34 [.d (cI 0), .d (cI 0), .d (cI 0), .d (cS ([] : List UInt8)), .d (cS ([] : List UInt8)), .d (cI 0), .d (cI 0), .d (cI 0), .d (cI 0), .d (cB false), .d (cI 0), .d (cB false)]], []⟩) rfl <| .sub (.cons rfl (.rfl' _) (.cons rfl (.rfl' _) (.cons rfl (.rfl' _) (.cons rfl (.rfl' _) (.nil))))) (hj2 (v0.source, v0.serial, v0.kind, v0.start, y2, v0.call, v0.part, v0.trunk) H)
              · replace H := ifF hc H; clear hc
                refine .seq ?_
                refine .region ?_
                refine .q (q_eql rfl rfl) rfl ?_
                refine .q (q_assign rfl) rfl ?_
                refine .nil ?_
                refine .cond rfl (fun hc => ?_) (fun hc => ?_)
                · replace H := ifT hc H; clear hc
                  refine .region ?_
                  refine .q (q_move rfl) rfl ?_
                  refine .q (q_fieldRef fo_34_7 rfl) rfl ?_
                  refine .u (u_store rfl rfl rfl rfl (Nat.le_of_ble_eq_true rfl) sz_3) rfl ?_
                  refine .withSt (st' := ⟨[.row 34 [.d (cI v0.source), .d (cI v0.serial), .d (cI v0.kind), .d (cS v0.a), .d (cS v0.b), .d (cI v0.start), .d (cI v0.units), .d (cI y2), .d (cI v0.part), .d (cB v0.last), .d (cI v0.trunk), .d (cB v0.inbound)], .row 47 [.d (cI v1.tag), .d (slOf 1 rB8 v1.value)], .row 34 [.d (cI 0), .d (cI 0), .d (cI 0), .d (cS ([] : List UInt8)), .d (cS ([] : List UInt8)), .d (cI 0), .d (cI 0), .d (cI 0), .d (cI 0), .d (cB false), .d (cI 0), .d (cB false)]], []⟩) rfl ?_
                  refine .nil ?_
                  refine .inBlock ?_
                  exact .withSt (st' := ⟨[.row 34 [.d (cI v0.source), .d (cI v0.serial), .d (cI v0.kind), .d (cS v0.a), .d (cS v0.b), .d (cI v0.start), .d (cI v0.units), .d (cI y2), .d (cI v0.part), .d (cB v0.last), .d (cI v0.trunk), .d (cB v0.inbound)], .row 47 [.d (cI v1.tag), .d (slOf 1 rB8 v1.value)], .row 34 [.d (cI 0), .d (cI 0), .d (cI 0), .d (cS ([] : List UInt8)), .d (cS ([] : List UInt8)), .d (cI 0), .d (cI 0), .d (cI 0), .d (cI 0), .d (cB false), .d (cI 0), .d (cB false)]], []⟩) rfl <| .sub (.cons rfl (.rfl' _) (.cons rfl (.rfl' _) (.cons rfl (.rfl' _) (.cons rfl (.rfl' _) (.nil))))) (hj2 (v0.source, v0.serial, v0.kind, v0.start, v0.units, y2, v0.part, v0.trunk) H)
                · replace H := ifF hc H; clear hc
                  refine .seq ?_
                  refine .region ?_
                  refine .q (q_eql rfl rfl) rfl ?_
                  refine .q (q_assign rfl) rfl ?_
                  refine .nil ?_
                  refine .cond rfl (fun hc => ?_) (fun hc => ?_)
                  · replace H := ifT hc H; clear hc
                    refine .region ?_
                    refine .q (q_move rfl) rfl ?_
                    refine .q (q_fieldRef fo_34_8 rfl) rfl ?_
                    refine .u (u_store rfl rfl rfl rfl (Nat.le_of_ble_eq_true rfl) sz_3) rfl ?_
                    refine .withSt (st' := ⟨[.row 34 [.d (cI v0.source), .d (cI v0.serial), .d (cI v0.kind), .d (cS v0.a), .d (cS v0.b), .d (cI v0.start), .d (cI v0.units), .d (cI v0.call), .d (cI y2), .d (cB v0.last), .d (cI v0.trunk), .d (cB v0.inbound)], .row 47 [.d (cI v1.tag), .d (slOf 1 rB8 v1.value)], .row 34 [.d (cI 0), .d (cI 0), .d (cI 0), .d (cS ([] : List UInt8)), .d (cS ([] : List UInt8)), .d (cI 0), .d (cI 0), .d (cI 0), .d (cI 0), .d (cB false), .d (cI 0), .d (cB false)]], []⟩) rfl ?_
                    refine .nil ?_
                    refine .inBlock ?_
                    exact .withSt (st' := ⟨[.row 34 [.d (cI v0.source), .d (cI v0.serial), .d (cI v0.kind), .d (cS v0.a), .d (cS v0.b), .d (cI v0.start), .d (cI v0.units), .d (cI v0.call), .d (cI y2), .d (cB v0.last), .d (cI v0.trunk), .d (cB v0.inbound)], .row 47 [.d (cI v1.tag), .d (slOf 1 rB8 v1.value)], .row 34 [.d (cI 0), .d (cI 0), .d (cI 0), .d (cS ([] : List UInt8)), .d (cS ([] : List UInt8)), .d (cI 0), .d (cI 0), .d (cI 0), .d (cI 0), .d (cB false), .d (cI 0), .d (cB false)]], []⟩) rfl <| .sub (.cons rfl (.rfl' _) (.cons rfl (.rfl' _) (.cons rfl (.rfl' _) (.cons rfl (.rfl' _) (.nil))))) (hj2 (v0.source, v0.serial, v0.kind, v0.start, v0.units, v0.call, y2, v0.trunk) H)
                  · replace H := ifF hc H; clear hc
                    refine .seq ?_
                    refine .region ?_
                    refine .q (q_eql rfl rfl) rfl ?_
                    refine .q (q_assign rfl) rfl ?_
                    refine .nil ?_
                    refine .cond rfl (fun hc => ?_) (fun hc => ?_)
                    · replace H := ifT hc H; clear hc
                      refine .region ?_
                      refine .q (q_move rfl) rfl ?_
                      refine .q (q_fieldRef fo_34_10 rfl) rfl ?_
                      refine .u (u_store rfl rfl rfl rfl (Nat.le_of_ble_eq_true rfl) sz_3) rfl ?_
                      refine .withSt (st' := ⟨[.row 34 [.d (cI v0.source), .d (cI v0.serial), .d (cI v0.kind), .d (cS v0.a), .d (cS v0.b), .d (cI v0.start), .d (cI v0.units), .d (cI v0.call), .d (cI v0.part), .d (cB v0.last), .d (cI y2), .d (cB v0.inbound)], .row 47 [.d (cI v1.tag), .d (slOf 1 rB8 v1.value)], .row 34 [.d (cI 0), .d (cI 0), .d (cI 0), .d (cS ([] : List UInt8)), .d (cS ([] : List UInt8)), .d (cI 0), .d (cI 0), .d (cI 0), .d (cI 0), .d (cB false), .d (cI 0), .d (cB false)]], []⟩) rfl ?_
                      refine .nil ?_
                      refine .inBlock ?_
                      exact .withSt (st' := ⟨[.row 34 [.d (cI v0.source), .d (cI v0.serial), .d (cI v0.kind), .d (cS v0.a), .d (cS v0.b), .d (cI v0.start), .d (cI v0.units), .d (cI v0.call), .d (cI v0.part), .d (cB v0.last), .d (cI y2), .d (cB v0.inbound)], .row 47 [.d (cI v1.tag), .d (slOf 1 rB8 v1.value)], .row 34 [.d (cI 0), .d (cI 0), .d (cI 0), .d (cS ([] : List UInt8)), .d (cS ([] : List UInt8)), .d (cI 0), .d (cI 0), .d (cI 0), .d (cI 0), .d (cB false), .d (cI 0), .d (cB false)]], []⟩) rfl <| .sub (.cons rfl (.rfl' _) (.cons rfl (.rfl' _) (.cons rfl (.rfl' _) (.cons rfl (.rfl' _) (.nil))))) (hj2 (v0.source, v0.serial, v0.kind, v0.start, v0.units, v0.call, v0.part, y2) H)
                    · replace H := ifF hc H; clear hc
                      refine .seq ?_
                      refine .region ?_
                      refine .q (q_eql rfl rfl) rfl ?_
                      refine .q (q_assign rfl) rfl ?_
                      refine .nil ?_
                      refine .cond rfl (fun hc => ?_) (fun hc => ?_)
                      · replace H := ifT hc H; clear hc
                        refine .seq ?_
                        refine .region ?_
                        refine .q (q_move rfl) rfl ?_
                        obtain ⟨hk1, H⟩ := ck_some H
                        refine .q (x := .d (cI (Int.tmod y2 2))) (q_remT rfl rfl hk1) rfl ?_
                        refine .q (q_eql rfl rfl) rfl ?_
                        refine .q (q_fieldRef fo_34_9 rfl) rfl ?_
                        refine .u (u_store rfl rfl rfl rfl (Nat.le_of_ble_eq_true rfl) sz_4) rfl ?_
                        refine .withSt (st' := ⟨[.row 34 [.d (cI v0.source), .d (cI v0.serial), .d (cI v0.kind), .d (cS v0.a), .d (cS v0.b), .d (cI v0.start), .d (cI v0.units), .d (cI v0.call), .d (cI v0.part), .d (cB ((Int.tmod y2 2) == 1)), .d (cI v0.trunk), .d (cB v0.inbound)], .row 47 [.d (cI v1.tag), .d (slOf 1 rB8 v1.value)], .row 34 [.d (cI 0), .d (cI 0), .d (cI 0), .d (cS ([] : List UInt8)), .d (cS ([] : List UInt8)), .d (cI 0), .d (cI 0), .d (cI 0), .d (cI 0), .d (cB false), .d (cI 0), .d (cB false)]], []⟩) rfl ?_
                        refine .nil ?_
                        refine .seq ?_
                        refine .region ?_
                        refine .q (q_move rfl) rfl ?_
                        refine .q (q_geq rfl rfl) rfl ?_
                        refine .q (q_fieldRef fo_34_11 rfl) rfl ?_
                        refine .u (u_store rfl rfl rfl rfl (Nat.le_of_ble_eq_true rfl) sz_4) rfl ?_
                        refine .withSt (st' := ⟨[.row 34 [.d (cI v0.source), .d (cI v0.serial), .d (cI v0.kind), .d (cS v0.a), .d (cS v0.b), .d (cI v0.start), .d (cI v0.units), .d (cI v0.call), .d (cI v0.part), .d (cB ((Int.tmod y2 2) == 1)), .d (cI v0.trunk), .d (cB (decide (y2 ≥ 2)))], .row 47 [.d (cI v1.tag), .d (slOf 1 rB8 v1.value)], .row 34 [.d (cI 0), .d (cI 0), .d (cI 0), .d (cS ([] : List UInt8)), .d (cS ([] : List UInt8)), .d (cI 0), .d (cI 0), .d (cI 0), .d (cI 0), .d (cB false), .d (cI 0), .d (cB false)]], []⟩) rfl ?_
                        refine .nil ?_
                        refine .seq ?_
                        refine .region ?_
                        refine .q (x := .d (.agg (Record.row (⟨v0.source, v0.serial, v0.kind, v0.a, v0.b, v0.start, v0.units, v0.call, v0.part, ((Int.tmod y2 2) == 1), v0.trunk, decide (y2 ≥ 2)⟩ : Record)))) (q_loadOA one_34 sz_34 rfl rfl (Nat.le_of_ble_eq_true rfl) rfl) rfl ?_
                        refine .q (q_fieldRef fo_47_1 rfl) rfl ?_
                        refine .q (x := .d (slOf 1 rB8 v1.value)) (q_loadO one_25 rfl rfl rfl) rfl ?_
                        refine .q (q_lenL (l := v1.value) (row := rB8) Tryd.underlying25 rfl rfl) rfl ?_
                        refine .q (q_eql rfl rfl) rfl ?_
                        refine .q (q_move rfl) rfl ?_
                        refine .guardG (env' := [(8, _)]) rfl rfl rfl ⟨.inl rfl, trivial⟩ rfl (fun hg => OpQ.g (q_move rfl)) ?_
                        refine .guardG (env' := [(85, _)]) rfl rfl rfl ⟨.inr (.inl rfl), trivial⟩ rfl (fun hg => OpQ.g (q_geq rfl rfl)) ?_
                        refine .q (q_pickAndB rfl rfl rfl) rfl ?_
                        refine .q (q_move rfl) rfl ?_
                        refine .guardG (env' := [(8, _)]) rfl rfl rfl ⟨.inl rfl, trivial⟩ rfl (fun hg => OpQ.g (q_move rfl)) ?_
                        refine .guardG (env' := [(89, _)]) rfl rfl rfl ⟨.inr (.inl rfl), trivial⟩ rfl (fun hg => OpQ.g (q_leq rfl rfl)) ?_
                        refine .q (q_pickAndB rfl rfl rfl) rfl ?_
                        refine .u (u_store rfl rfl rfl rfl (Nat.le_of_ble_eq_true rfl) sz_34) rfl ?_
                        refine .withSt (st' := ⟨[.row 34 [.d (cI v0.source), .d (cI v0.serial), .d (cI v0.kind), .d (cS v0.a), .d (cS v0.b), .d (cI v0.start), .d (cI v0.units), .d (cI v0.call), .d (cI v0.part), .d (cB ((Int.tmod y2 2) == 1)), .d (cI v0.trunk), .d (cB (decide (y2 ≥ 2)))], .row 47 [.d (cI v1.tag), .d (slOf 1 rB8 v1.value)], .row 34 [.d (cI v0.source), .d (cI v0.serial), .d (cI v0.kind), .d (cS v0.a), .d (cS v0.b), .d (cI v0.start), .d (cI v0.units), .d (cI v0.call), .d (cI v0.part), .d (cB ((Int.tmod y2 2) == 1)), .d (cI v0.trunk), .d (cB (decide (y2 ≥ 2)))]], []⟩) rfl ?_
                        refine .q (q_assign rfl) rfl ?_
                        refine .nil ?_
                        refine .retN [.cell 4 34, .tmp 5] [.d (.agg (Record.row (⟨v0.source, v0.serial, v0.kind, v0.a, v0.b, v0.start, v0.units, v0.call, v0.part, ((Int.tmod y2 2) == 1), v0.trunk, decide (y2 ≥ 2)⟩ : Record))), .d (cB ((((v1.value.length : Int) == 1) && (decide (y2 ≥ 1))) && (decide (y2 ≤ 3))))] Tryd.func37 Tryd.results37 ⟨⟨⟨_, _, rfl⟩, q_loadOA one_34 sz_34 rfl rfl (Nat.le_of_ble_eq_true rfl) rfl⟩, rfl, trivial⟩ ?_
                        cases H
                        exact ⟨_, EVle.tupL (ds := [.agg (Record.row (⟨v0.source, v0.serial, v0.kind, v0.a, v0.b, v0.start, v0.units, v0.call, v0.part, ((Int.tmod y2 2) == 1), v0.trunk, decide (y2 ≥ 2)⟩ : Record)), cB ((((v1.value.length : Int) == 1) && (decide (y2 ≥ 1))) && (decide (y2 ≤ 3)))]) ⟨.rfl' _, .rfl' _, trivial⟩, rfl⟩
                      · replace H := ifF hc H; clear hc
                        refine .skip ?_
                        refine .inBlock ?_
                        exact .withSt (st' := ⟨[.row 34 [.d (cI v0.source), .d (cI v0.serial), .d (cI v0.kind), .d (cS v0.a), .d (cS v0.b), .d (cI v0.start), .d (cI v0.units), .d (cI v0.call), .d (cI v0.part), .d (cB v0.last), .d (cI v0.trunk), .d (cB v0.inbound)], .row 47 [.d (cI v1.tag), .d (slOf 1 rB8 v1.value)], .row 34 [.d (cI 0), .d (cI 0), .d (cI 0), .d (cS ([] : List UInt8)), .d (cS ([] : List UInt8)), .d (cI 0), .d (cI 0), .d (cI 0), .d (cI 0), .d (cB false), .d (cI 0), .d (cB false)]], []⟩) rfl <| .sub (.cons rfl (.rfl' _) (.cons rfl (.rfl' _) (.cons rfl (.rfl' _) (.cons rfl (.rfl' _) (.nil))))) (hj2 (v0.source, v0.serial, v0.kind, v0.start, v0.units, v0.call, v0.part, v0.trunk) H)

set_option maxRecDepth 100000 in
set_option maxHeartbeats 1000000 in
theorem c_f_billingref10_Decode {v0 : List UInt8} {r : Record × Int} (H : f_billingref10_Decode v0 = some r) : ACall Tryd.prog 20 [slOf 1 rB8 v0] (· = .tup [.agg (Record.row r.1), cI r.2]) := by
  obtain ⟨i5, hi5, hz5, hs5, hb5⟩ := in_5
  obtain ⟨i34, hi34, hz34, hs34, hb34⟩ := in_34
  obtain ⟨i47, hi47, hz47, hs47, hb47⟩ := in_47
  refine ACall.enter' Tryd.func20 rfl Tryd.ntmps20 rfl fun S hS => ?_
  unfold f_billingref10_Decode at H
  change ARun _ _ _ _ _ _ [(0, .d (slOf 1 rB8 v0))] _
  refine .seq ?_
  refine .region ?_
  refine .v (x := .ref 0 0) (v_alloc zr_34 rfl) rfl ?_
  refine .withSt (st' := ⟨[.row 34 [.d (cI 0), .d (cI 0), .d (cI 0), .d (cS ([] : List UInt8)), .d (cS ([] : List UInt8)), .d (cI 0), .d (cI 0), .d (cI 0), .d (cI 0), .d (cB false), .d (cI 0), .d (cB false)]], []⟩) rfl ?_
  refine .q (q_assign rfl) rfl ?_
  refine .nil ?_
  refine .seq ?_
  refine .seq ?_
  refine .drawn 19 hMix (by kernel_rfl) ?_
  show DOps _ _ _ _ _ _ _ (_ :: _) _ _ _
  refine .q (q_move rfl) rfl ?_
  refine .q (q_lenL (l := v0) (row := rB8) Tryd.underlying25 rfl rfl) rfl ?_
  refine .q (q_lss rfl rfl) rfl ?_
  refine .q (q_move rfl) rfl ?_
  refine .guardG (env' := [(0, _)]) rfl rfl rfl ⟨.inl rfl, trivial⟩ rfl (fun hg => OpQ.g (q_move rfl)) ?_
  refine .guardG (env' := [(16, _)]) rfl rfl rfl ⟨.inr (.inl rfl), trivial⟩ rfl (fun hg => OpQ.g (q_lenL (l := v0) (row := rB8) Tryd.underlying25 rfl rfl)) ?_
  obtain ⟨hk1, H⟩ := ck_some H
  refine .guardG (env' := [(17, _)]) rfl rfl rfl ⟨.inr (.inl rfl), trivial⟩ rfl (fun hg => OpQ.g (q_subI rfl rfl (hk1 hg).1 (hk1 hg).2)) ?_
  refine .guardG (env' := [(0, _)]) rfl rfl rfl ⟨.inl rfl, trivial⟩ rfl (fun hg => OpQ.g (q_move rfl)) ?_
  obtain ⟨hk2, H⟩ := ck_some H
  refine .guardG (b := (!(decide ((v0.length : Int) < 2)))) (x := .d (.ro (rB8 (nth v0 (Int.toNat (0)))))) (env' := [(19, _)]) rfl rfl rfl ⟨.inr (.inl rfl), trivial⟩ rfl (fun hg => OpQ.g (q_idxL (row := rB8) (l := v0) (i := 0) Tryd.underlying25 hi5 hs5 rfl rfl rfl (hk2 hg))) ?_
  refine .guardG (b := (!(decide ((v0.length : Int) < 2)))) (x := .d (cU8 (nth v0 (Int.toNat (0))))) (env' := [(20, _)]) rfl rfl rfl ⟨.inr (.inl rfl), trivial⟩ rfl (fun hg => OpQ.g (q_load one_5 rfl)) ?_
  refine .guardG (b := (!(decide ((v0.length : Int) < 2)))) (x := .d (cI ((nth v0 (Int.toNat (0))).toNat : Int))) (env' := [(21, _)]) rfl rfl rfl ⟨.inr (.inl rfl), trivial⟩ rfl (fun hg => OpQ.g (q_conv8i (a := nth v0 (Int.toNat (0))) Tryd.underlying5 Tryd.underlying3 rfl)) ?_
  obtain ⟨hk3, H⟩ := ck_some H
  refine .guardG (env' := [(22, _)]) rfl rfl rfl ⟨.inr (.inl rfl), trivial⟩ rfl (fun hg => OpQ.g (q_mulI rfl rfl (hk3 hg).1 (hk3 hg).2)) ?_
  refine .guardG (env' := [(0, _)]) rfl rfl rfl ⟨.inl rfl, trivial⟩ rfl (fun hg => OpQ.g (q_move rfl)) ?_
  obtain ⟨hk4, H⟩ := ck_some H
  refine .guardG (b := (!(decide ((v0.length : Int) < 2)))) (x := .d (.ro (rB8 (nth v0 (Int.toNat (1)))))) (env' := [(24, _)]) rfl rfl rfl ⟨.inr (.inl rfl), trivial⟩ rfl (fun hg => OpQ.g (q_idxL (row := rB8) (l := v0) (i := 1) Tryd.underlying25 hi5 hs5 rfl rfl rfl (hk4 hg))) ?_
  refine .guardG (b := (!(decide ((v0.length : Int) < 2)))) (x := .d (cU8 (nth v0 (Int.toNat (1))))) (env' := [(25, _)]) rfl rfl rfl ⟨.inr (.inl rfl), trivial⟩ rfl (fun hg => OpQ.g (q_load one_5 rfl)) ?_
  refine .guardG (b := (!(decide ((v0.length : Int) < 2)))) (x := .d (cI ((nth v0 (Int.toNat (1))).toNat : Int))) (env' := [(26, _)]) rfl rfl rfl ⟨.inr (.inl rfl), trivial⟩ rfl (fun hg => OpQ.g (q_conv8i (a := nth v0 (Int.toNat (1))) Tryd.underlying5 Tryd.underlying3 rfl)) ?_
  obtain ⟨hk5, H⟩ := ck_some H
  refine .guardG (env' := [(23, _), (27, _)]) rfl rfl rfl ⟨.inr (.inl rfl), ⟨.inr (.inl rfl), trivial⟩⟩ rfl (fun hg => OpQ.g (q_addI rfl rfl (hk5 hg).1 (hk5 hg).2)) ?_
  refine .guardG (env' := [(18, _), (28, _)]) rfl rfl rfl ⟨.inr (.inl rfl), ⟨.inr (.inl rfl), trivial⟩⟩ rfl (fun hg => OpQ.g (q_lss rfl rfl)) ?_
  refine .q (q_pickOrB rfl rfl rfl) rfl ?_
  refine .nil ?_
  show AOps _ _ _ _ _ _ [] _ _ _
  refine .nil ?_
  refine .cond rfl (fun hc => ?_) (fun hc => ?_)
  · replace H := ifT hc H; clear hc
    refine .seq ?_
    refine .region ?_
    refine .q (x := .d (.agg (Record.row (⟨0, 0, 0, ([] : List UInt8), ([] : List UInt8), 0, 0, 0, 0, false, 0, false⟩ : Record)))) (q_buildP pl_34 hi34 hz34 rfl rfl) rfl ?_
    refine .u (u_store rfl rfl rfl rfl (Nat.le_of_ble_eq_true rfl) sz_34) rfl ?_
    refine .withSt (st' := ⟨[.row 34 [.d (cI 0), .d (cI 0), .d (cI 0), .d (cS ([] : List UInt8)), .d (cS ([] : List UInt8)), .d (cI 0), .d (cI 0), .d (cI 0), .d (cI 0), .d (cB false), .d (cI 0), .d (cB false)]], []⟩) rfl ?_
    refine .q (q_assign rfl) rfl ?_
    refine .nil ?_
    refine .retN [.cell 2 34, .tmp 3] [.d (.agg (Record.row (⟨0, 0, 0, ([] : List UInt8), ([] : List UInt8), 0, 0, 0, 0, false, 0, false⟩ : Record))), .d (cI 2)] Tryd.func20 Tryd.results20 ⟨⟨⟨_, _, rfl⟩, q_loadOA one_34 sz_34 rfl rfl (Nat.le_of_ble_eq_true rfl) rfl⟩, rfl, trivial⟩ ?_
    cases H
    exact ⟨_, EVle.tupL (ds := [.agg (Record.row (⟨0, 0, 0, ([] : List UInt8), ([] : List UInt8), 0, 0, 0, 0, false, 0, false⟩ : Record)), cI 2]) ⟨.rfl' _, .rfl' _, trivial⟩, rfl⟩
  · replace H := ifF hc H; clear hc
    refine .skip ?_
    refine .seq ?_
    refine .seq ?_
    refine .drawn 14 hMix (by kernel_rfl) ?_
    show DOps _ _ _ _ _ _ _ (_ :: _) _ _ _
    refine .q (q_move rfl) rfl ?_
    refine .q (q_lenL (l := v0) (row := rB8) Tryd.underlying25 rfl rfl) rfl ?_
    obtain ⟨hk6, H⟩ := ck_some H
    refine .q (q_subI rfl rfl hk6.1 hk6.2) rfl ?_
    refine .q (q_move rfl) rfl ?_
    obtain ⟨hk7, H⟩ := ck_some H
    refine .q (x := .d (.ro (rB8 (nth v0 (Int.toNat (0)))))) (q_idxL (row := rB8) (l := v0) (i := 0) Tryd.underlying25 hi5 hs5 rfl rfl rfl hk7) rfl ?_
    refine .q (x := .d (cU8 (nth v0 (Int.toNat (0))))) (q_load one_5 rfl) rfl ?_
    refine .q (x := .d (cI ((nth v0 (Int.toNat (0))).toNat : Int))) (q_conv8i (a := nth v0 (Int.toNat (0))) Tryd.underlying5 Tryd.underlying3 rfl) rfl ?_
    obtain ⟨hk8, H⟩ := ck_some H
    refine .q (q_mulI rfl rfl hk8.1 hk8.2) rfl ?_
    refine .q (q_move rfl) rfl ?_
    obtain ⟨hk9, H⟩ := ck_some H
    refine .q (x := .d (.ro (rB8 (nth v0 (Int.toNat (1)))))) (q_idxL (row := rB8) (l := v0) (i := 1) Tryd.underlying25 hi5 hs5 rfl rfl rfl hk9) rfl ?_
    refine .q (x := .d (cU8 (nth v0 (Int.toNat (1))))) (q_load one_5 rfl) rfl ?_
    refine .q (x := .d (cI ((nth v0 (Int.toNat (1))).toNat : Int))) (q_conv8i (a := nth v0 (Int.toNat (1))) Tryd.underlying5 Tryd.underlying3 rfl) rfl ?_
    obtain ⟨hk10, H⟩ := ck_some H
    refine .q (q_addI rfl rfl hk10.1 hk10.2) rfl ?_
    refine .q (q_gtr rfl rfl) rfl ?_
    refine .nil ?_
    show AOps _ _ _ _ _ _ [] _ _ _
    refine .nil ?_
    refine .cond rfl (fun hc => ?_) (fun hc => ?_)
    · replace H := ifT hc H; clear hc
      refine .seq ?_
      refine .region ?_
      refine .q (x := .d (.agg (Record.row (⟨0, 0, 0, ([] : List UInt8), ([] : List UInt8), 0, 0, 0, 0, false, 0, false⟩ : Record)))) (q_buildP pl_34 hi34 hz34 rfl rfl) rfl ?_
      refine .u (u_store rfl rfl rfl rfl (Nat.le_of_ble_eq_true rfl) sz_34) rfl ?_
      refine .withSt (st' := ⟨[.row 34 [.d (cI 0), .d (cI 0), .d (cI 0), .d (cS ([] : List UInt8)), .d (cS ([] : List UInt8)), .d (cI 0), .d (cI 0), .d (cI 0), .d (cI 0), .d (cB false), .d (cI 0), .d (cB false)]], []⟩) rfl ?_
      refine .q (q_assign rfl) rfl ?_
      refine .nil ?_
      refine .retN [.cell 2 34, .tmp 3] [.d (.agg (Record.row (⟨0, 0, 0, ([] : List UInt8), ([] : List UInt8), 0, 0, 0, 0, false, 0, false⟩ : Record))), .d (cI 3)] Tryd.func20 Tryd.results20 ⟨⟨⟨_, _, rfl⟩, q_loadOA one_34 sz_34 rfl rfl (Nat.le_of_ble_eq_true rfl) rfl⟩, rfl, trivial⟩ ?_
      cases H
      exact ⟨_, EVle.tupL (ds := [.agg (Record.row (⟨0, 0, 0, ([] : List UInt8), ([] : List UInt8), 0, 0, 0, 0, false, 0, false⟩ : Record)), cI 3]) ⟨.rfl' _, .rfl' _, trivial⟩, rfl⟩
    · replace H := ifF hc H; clear hc
      refine .skip ?_
      refine .seq ?_
      refine .region ?_
      refine .q (q_move rfl) rfl ?_
      obtain ⟨hk11, H⟩ := ck_some H
      refine .q (x := .d (slOf 1 rB8 (v0.drop (Int.toNat ((2 : Int)))))) (q_slLL (l := v0) (row := rB8) Tryd.underlying25 hi5 hs5 rfl rfl rfl hk11) rfl ?_
      obtain ⟨y1, hy1, H⟩ := bind_some' H
      refine .g (x := .d (.tup [slOf 2 Element.row y1.1, cI y1.2])) (g_call en_15 rfl rfl (c_f_billingref10_Elements (hy1))) rfl ?_
      refine .q (q_move rfl) rfl ?_
      refine .q (q_extract rfl rfl) rfl ?_
      refine .q (q_extract rfl rfl) rfl ?_
      refine .q (q_assign rfl) rfl ?_
      refine .q (q_assign rfl) rfl ?_
      refine .nil ?_
      refine .seq ?_
      refine .seq ?_
      refine .region ?_
      refine .q (q_move rfl) rfl ?_
      refine .q (q_neq rfl rfl) rfl ?_
      refine .nil ?_
      refine .cond rfl (fun hc => ?_) (fun hc => ?_)
      · replace H := ifT hc H; clear hc
        refine .seq ?_
        refine .region ?_
        refine .q (x := .d (.agg (Record.row (⟨0, 0, 0, ([] : List UInt8), ([] : List UInt8), 0, 0, 0, 0, false, 0, false⟩ : Record)))) (q_buildP pl_34 hi34 hz34 rfl rfl) rfl ?_
        refine .q (q_move rfl) rfl ?_
        refine .u (u_store rfl rfl rfl rfl (Nat.le_of_ble_eq_true rfl) sz_34) rfl ?_
        refine .withSt (st' := ⟨[.row 34 [.d (cI 0), .d (cI 0), .d (cI 0), .d (cS ([] : List UInt8)), .d (cS ([] : List UInt8)), .d (cI 0), .d (cI 0), .d (cI 0), .d (cI 0), .d (cB false), .d (cI 0), .d (cB false)]], []⟩) rfl ?_
        refine .q (q_assign rfl) rfl ?_
        refine .nil ?_
        refine .retN [.cell 2 34, .tmp 3] [.d (.agg (Record.row (⟨0, 0, 0, ([] : List UInt8), ([] : List UInt8), 0, 0, 0, 0, false, 0, false⟩ : Record))), .d (cI y1.2)] Tryd.func20 Tryd.results20 ⟨⟨⟨_, _, rfl⟩, q_loadOA one_34 sz_34 rfl rfl (Nat.le_of_ble_eq_true rfl) rfl⟩, rfl, trivial⟩ ?_
        cases H
        exact ⟨_, EVle.tupL (ds := [.agg (Record.row (⟨0, 0, 0, ([] : List UInt8), ([] : List UInt8), 0, 0, 0, 0, false, 0, false⟩ : Record)), cI y1.2]) ⟨.rfl' _, .rfl' _, trivial⟩, rfl⟩
      · replace H := ifF hc H; clear hc
        refine .skip ?_
        refine .seq ?_
        refine .region ?_
        refine .q (x := .d (.agg (Record.row (⟨0, 0, 0, ([] : List UInt8), ([] : List UInt8), 0, 0, 0, 0, false, 0, false⟩ : Record)))) (q_buildP pl_34 hi34 hz34 rfl rfl) rfl ?_
        refine .v (x := .ref 1 0) (v_alloc zr_34 rfl) rfl ?_
        refine .withSt (st' := ⟨[.row 34 [.d (cI 0), .d (cI 0), .d (cI 0), .d (cS ([] : List UInt8)), .d (cS ([] : List UInt8)), .d (cI 0), .d (cI 0), .d (cI 0), .d (cI 0), .d (cB false), .d (cI 0), .d (cB false)], .row 34 [.d (cI 0), .d (cI 0), .d (cI 0), .d (cS ([] : List UInt8)), .d (cS ([] : List UInt8)), .d (cI 0), .d (cI 0), .d (cI 0), .d (cI 0), .d (cB false), .d (cI 0), .d (cB false)]], []⟩) rfl ?_
        refine .u (u_store rfl rfl rfl rfl (Nat.le_of_ble_eq_true rfl) sz_34) rfl ?_
        refine .withSt (st' := ⟨[.row 34 [.d (cI 0), .d (cI 0), .d (cI 0), .d (cS ([] : List UInt8)), .d (cS ([] : List UInt8)), .d (cI 0), .d (cI 0), .d (cI 0), .d (cI 0), .d (cB false), .d (cI 0), .d (cB false)], .row 34 [.d (cI 0), .d (cI 0), .d (cI 0), .d (cS ([] : List UInt8)), .d (cS ([] : List UInt8)), .d (cI 0), .d (cI 0), .d (cI 0), .d (cI 0), .d (cB false), .d (cI 0), .d (cB false)]], []⟩) rfl ?_
        refine .q (q_assign rfl) rfl ?_
        refine .nil ?_
        refine .seq ?_
        refine .seq ?_
        refine .region ?_
        refine .q (q_assign rfl) rfl ?_
        refine .nil ?_
        refine .blockJoin2 (ι := Bool × Int × Int × Int × List UInt8 × List UInt8 × Int × Int × Int × Int × Bool × Int × Bool) (fun s => [(2, .ref 0 0), (6, .ref 1 0), (7, .d (cB s.1))]) (fun s => ⟨[.row 34 [.d (cI 0), .d (cI 0), .d (cI 0), .d (cS ([] : List UInt8)), .d (cS ([] : List UInt8)), .d (cI 0), .d (cI 0), .d (cI 0), .d (cI 0), .d (cB false), .d (cI 0), .d (cB false)], .row 34 [.d (cI s.2.1), .d (cI s.2.2.1), .d (cI s.2.2.2.1), .d (cS s.2.2.2.2.1), .d (cS s.2.2.2.2.2.1), .d (cI s.2.2.2.2.2.2.1), .d (cI s.2.2.2.2.2.2.2.1), .d (cI s.2.2.2.2.2.2.2.2.1), .d (cI s.2.2.2.2.2.2.2.2.2.1), .d (cB s.2.2.2.2.2.2.2.2.2.2.1), .d (cI s.2.2.2.2.2.2.2.2.2.2.2.1), .d (cB s.2.2.2.2.2.2.2.2.2.2.2.2)]], []⟩) (fun s => f_billingref10_Decode_j1 s.1 s.2.1 s.2.2.1 s.2.2.2.1 s.2.2.2.2.1 s.2.2.2.2.2.1 s.2.2.2.2.2.2.1 s.2.2.2.2.2.2.2.1 s.2.2.2.2.2.2.2.2.1 s.2.2.2.2.2.2.2.2.2.1 s.2.2.2.2.2.2.2.2.2.2.1 s.2.2.2.2.2.2.2.2.2.2.2.1 s.2.2.2.2.2.2.2.2.2.2.2.2 = some r) ?_ ?_
        · rintro ⟨v7j1, o1c0j1, o1c1j1, o1c2j1, o1c3j1, o1c4j1, o1c5j1, o1c6j1, o1c7j1, o1c8j1, o1c9j1, o1c10j1, o1c11j1⟩ H
          replace H : f_billingref10_Decode_j1 v7j1 o1c0j1 o1c1j1 o1c2j1 o1c3j1 o1c4j1 o1c5j1 o1c6j1 o1c7j1 o1c8j1 o1c9j1 o1c10j1 o1c11j1 = some r := H
          unfold f_billingref10_Decode_j1 at H
          change ARun _ _ _ _ _ _ [(2, .ref 0 0), (6, .ref 1 0), (7, .d (cB v7j1))] ⟨[.row 34 [.d (cI 0), .d (cI 0), .d (cI 0), .d (cS ([] : List UInt8)), .d (cS ([] : List UInt8)), .d (cI 0), .d (cI 0), .d (cI 0), .d (cI 0), .d (cB false), .d (cI 0), .d (cB false)], .row 34 [.d (cI o1c0j1), .d (cI o1c1j1), .d (cI o1c2j1), .d (cS o1c3j1), .d (cS o1c4j1), .d (cI o1c5j1), .d (cI o1c6j1), .d (cI o1c7j1), .d (cI o1c8j1), .d (cB o1c9j1), .d (cI o1c10j1), .d (cB o1c11j1)]], []⟩
          refine .seq ?_
          refine .seq ?_
          refine .region ?_
          refine .q (q_move rfl) rfl ?_
          refine .q (q_not rfl) rfl ?_
          refine .nil ?_
          refine .cond rfl (fun hc => ?_) (fun hc => ?_)
          · replace H := ifT hc H; clear hc
            refine .seq ?_
            refine .region ?_
            refine .q (x := .d (.agg (Record.row (⟨0, 0, 0, ([] : List UInt8), ([] : List UInt8), 0, 0, 0, 0, false, 0, false⟩ : Record)))) (q_buildP pl_34 hi34 hz34 rfl rfl) rfl ?_
            refine .u (u_store rfl rfl rfl rfl (Nat.le_of_ble_eq_true rfl) sz_34) rfl ?_
            refine .withSt (st' := ⟨[.row 34 [.d (cI 0), .d (cI 0), .d (cI 0), .d (cS ([] : List UInt8)), .d (cS ([] : List UInt8)), .d (cI 0), .d (cI 0), .d (cI 0), .d (cI 0), .d (cB false), .d (cI 0), .d (cB false)], .row 34 [.d (cI o1c0j1), .d (cI o1c1j1), .d (cI o1c2j1), .d (cS o1c3j1), .d (cS o1c4j1), .d (cI o1c5j1), .d (cI o1c6j1), .d (cI o1c7j1), .d (cI o1c8j1), .d (cB o1c9j1), .d (cI o1c10j1), .d (cB o1c11j1)]], []⟩) rfl ?_
            refine .q (q_assign rfl) rfl ?_
            refine .nil ?_
            refine .retN [.cell 2 34, .tmp 3] [.d (.agg (Record.row (⟨0, 0, 0, ([] : List UInt8), ([] : List UInt8), 0, 0, 0, 0, false, 0, false⟩ : Record))), .d (cI 1)] Tryd.func20 Tryd.results20 ⟨⟨⟨_, _, rfl⟩, q_loadOA one_34 sz_34 rfl rfl (Nat.le_of_ble_eq_true rfl) rfl⟩, rfl, trivial⟩ ?_
            cases H
            exact ⟨_, EVle.tupL (ds := [.agg (Record.row (⟨0, 0, 0, ([] : List UInt8), ([] : List UInt8), 0, 0, 0, 0, false, 0, false⟩ : Record)), cI 1]) ⟨.rfl' _, .rfl' _, trivial⟩, rfl⟩
          · replace H := ifF hc H; clear hc
            refine .skip ?_
            refine .seq ?_
            refine .seq ?_
            refine .region ?_
            refine .q (x := .d (.agg (Record.row (⟨o1c0j1, o1c1j1, o1c2j1, o1c3j1, o1c4j1, o1c5j1, o1c6j1, o1c7j1, o1c8j1, o1c9j1, o1c10j1, o1c11j1⟩ : Record)))) (q_loadOA one_34 sz_34 rfl rfl (Nat.le_of_ble_eq_true rfl) rfl) rfl ?_
            obtain ⟨y2, hy2, H⟩ := bind_some' H
            refine .g (x := .d (cI y2)) (g_call en_31 rfl rfl (c_f_billingref09_Error (hy2))) rfl ?_
            refine .q (q_assign rfl) rfl ?_
            refine .nil ?_
            refine .seq ?_
            refine .region ?_
            refine .q (q_move rfl) rfl ?_
            refine .q (q_neq rfl rfl) rfl ?_
            refine .nil ?_
            refine .cond rfl (fun hc => ?_) (fun hc => ?_)
            · replace H := ifT hc H; clear hc
              refine .seq ?_
              refine .region ?_
              refine .q (x := .d (.agg (Record.row (⟨0, 0, 0, ([] : List UInt8), ([] : List UInt8), 0, 0, 0, 0, false, 0, false⟩ : Record)))) (q_buildP pl_34 hi34 hz34 rfl rfl) rfl ?_
              refine .q (q_move rfl) rfl ?_
              refine .u (u_store rfl rfl rfl rfl (Nat.le_of_ble_eq_true rfl) sz_34) rfl ?_
              refine .withSt (st' := ⟨[.row 34 [.d (cI 0), .d (cI 0), .d (cI 0), .d (cS ([] : List UInt8)), .d (cS ([] : List UInt8)), .d (cI 0), .d (cI 0), .d (cI 0), .d (cI 0), .d (cB false), .d (cI 0), .d (cB false)], .row 34 [.d (cI o1c0j1), .d (cI o1c1j1), .d (cI o1c2j1), .d (cS o1c3j1), .d (cS o1c4j1), .d (cI o1c5j1), .d (cI o1c6j1), .d (cI o1c7j1), .d (cI o1c8j1), .d (cB o1c9j1), .d (cI o1c10j1), .d (cB o1c11j1)]], []⟩) rfl ?_
              refine .q (q_assign rfl) rfl ?_
              refine .nil ?_
              refine .retN [.cell 2 34, .tmp 3] [.d (.agg (Record.row (⟨0, 0, 0, ([] : List UInt8), ([] : List UInt8), 0, 0, 0, 0, false, 0, false⟩ : Record))), .d (cI y2)] Tryd.func20 Tryd.results20 ⟨⟨⟨_, _, rfl⟩, q_loadOA one_34 sz_34 rfl rfl (Nat.le_of_ble_eq_true rfl) rfl⟩, rfl, trivial⟩ ?_
              cases H
              exact ⟨_, EVle.tupL (ds := [.agg (Record.row (⟨0, 0, 0, ([] : List UInt8), ([] : List UInt8), 0, 0, 0, 0, false, 0, false⟩ : Record)), cI y2]) ⟨.rfl' _, .rfl' _, trivial⟩, rfl⟩
            · replace H := ifF hc H; clear hc
              refine .skip ?_
              refine .seq ?_
              refine .region ?_
              refine .q (x := .d (.agg (Record.row (⟨o1c0j1, o1c1j1, o1c2j1, o1c3j1, o1c4j1, o1c5j1, o1c6j1, o1c7j1, o1c8j1, o1c9j1, o1c10j1, o1c11j1⟩ : Record)))) (q_loadOA one_34 sz_34 rfl rfl (Nat.le_of_ble_eq_true rfl) rfl) rfl ?_
              refine .u (u_store rfl rfl rfl rfl (Nat.le_of_ble_eq_true rfl) sz_34) rfl ?_
              refine .withSt (st' := ⟨[.row 34 [.d (cI o1c0j1), .d (cI o1c1j1), .d (cI o1c2j1), .d (cS o1c3j1), .d (cS o1c4j1), .d (cI o1c5j1), .d (cI o1c6j1), .d (cI o1c7j1), .d (cI o1c8j1), .d (cB o1c9j1), .d (cI o1c10j1), .d (cB o1c11j1)], .row 34 [.d (cI o1c0j1), .d (cI o1c1j1), .d (cI o1c2j1), .d (cS o1c3j1), .d (cS o1c4j1), .d (cI o1c5j1), .d (cI o1c6j1), .d (cI o1c7j1), .d (cI o1c8j1), .d (cB o1c9j1), .d (cI o1c10j1), .d (cB o1c11j1)]], []⟩) rfl ?_
              refine .q (q_assign rfl) rfl ?_
              refine .nil ?_
              refine .retN [.cell 2 34, .tmp 3] [.d (.agg (Record.row (⟨o1c0j1, o1c1j1, o1c2j1, o1c3j1, o1c4j1, o1c5j1, o1c6j1, o1c7j1, o1c8j1, o1c9j1, o1c10j1, o1c11j1⟩ : Record))), .d (cI 0)] Tryd.func20 Tryd.results20 ⟨⟨⟨_, _, rfl⟩, q_loadOA one_34 sz_34 rfl rfl (Nat.le_of_ble_eq_true rfl) rfl⟩, rfl, trivial⟩ ?_
              cases H
              exact ⟨_, EVle.tupL (ds := [.agg (Record.row (⟨o1c0j1, o1c1j1, o1c2j1, o1c3j1, o1c4j1, o1c5j1, o1c6j1, o1c7j1, o1c8j1, o1c9j1, o1c10j1, o1c11j1⟩ : Record)), cI 0]) ⟨.rfl' _, .rfl' _, trivial⟩, rfl⟩
        · intro hj1 hj1x
          obtain ⟨n1, H⟩ := loop_some H
          refine .withSt (st' := ⟨[.row 34 [.d (cI 0), .d (cI 0), .d (cI 0), .d (cS ([] : List UInt8)), .d (cS ([] : List UInt8)), .d (cI 0), .d (cI 0), .d (cI 0), .d (cI 0), .d (cB false), .d (cI 0), .d (cB false)], .row 34 [.d (cI 0), .d (cI 0), .d (cI 0), .d (cS ([] : List UInt8)), .d (cS ([] : List UInt8)), .d (cI 0), .d (cI 0), .d (cI 0), .d (cI 0), .d (cB false), .d (cI 0), .d (cB false)]], []⟩) rfl <| .loop (ι := Nat × (Bool × Int × Int × Int × Int × List UInt8 × List UInt8 × Int × Int × Int × Int × Bool × Int × Bool)) (fun p => [(2, .ref 0 0), (4, .d (slOf 2 Element.row y1.1)), (6, .ref 1 0), (7, .d (cB p.2.1)), (8, .d (cI p.2.2.1))]) (fun p => ⟨[.row 34 [.d (cI 0), .d (cI 0), .d (cI 0), .d (cS ([] : List UInt8)), .d (cS ([] : List UInt8)), .d (cI 0), .d (cI 0), .d (cI 0), .d (cI 0), .d (cB false), .d (cI 0), .d (cB false)], .row 34 [.d (cI p.2.2.2.1), .d (cI p.2.2.2.2.1), .d (cI p.2.2.2.2.2.1), .d (cS p.2.2.2.2.2.2.1), .d (cS p.2.2.2.2.2.2.2.1), .d (cI p.2.2.2.2.2.2.2.2.1), .d (cI p.2.2.2.2.2.2.2.2.2.1), .d (cI p.2.2.2.2.2.2.2.2.2.2.1), .d (cI p.2.2.2.2.2.2.2.2.2.2.2.1), .d (cB p.2.2.2.2.2.2.2.2.2.2.2.2.1), .d (cI p.2.2.2.2.2.2.2.2.2.2.2.2.2.1), .d (cB p.2.2.2.2.2.2.2.2.2.2.2.2.2.2)]], []⟩) (fun p => iter (fun s => f_billingref10_Decode_l1 y1 s.1 s.2.1 s.2.2.1 s.2.2.2.1 s.2.2.2.2.1 s.2.2.2.2.2.1 s.2.2.2.2.2.2.1 s.2.2.2.2.2.2.2.1 s.2.2.2.2.2.2.2.2.1 s.2.2.2.2.2.2.2.2.2.1 s.2.2.2.2.2.2.2.2.2.2.1 s.2.2.2.2.2.2.2.2.2.2.2.1 s.2.2.2.2.2.2.2.2.2.2.2.2.1 s.2.2.2.2.2.2.2.2.2.2.2.2.2) p.1 p.2 = some r) (·.1) (n1, (true, 0, 0, 0, 0, ([] : List UInt8), ([] : List UInt8), 0, 0, 0, 0, false, 0, false)) H (.cons rfl (.rfl' _) (.cons rfl (.rfl' _) (.cons rfl (.rfl' _) (.cons rfl (.rfl' _) (.cons rfl (.rfl' _) (.nil)))))) rfl ?_
          rintro ⟨m1, v7l1, v8l1, o1c0l1, o1c1l1, o1c2l1, o1c3l1, o1c4l1, o1c5l1, o1c6l1, o1c7l1, o1c8l1, o1c9l1, o1c10l1, o1c11l1⟩ HI ih1
          obtain ⟨n1, q1, hm1, H, HK1⟩ := iter_succ HI
          clear HI
          replace H : f_billingref10_Decode_l1 y1 v7l1 v8l1 o1c0l1 o1c1l1 o1c2l1 o1c3l1 o1c4l1 o1c5l1 o1c6l1 o1c7l1 o1c8l1 o1c9l1 o1c10l1 o1c11l1 = some q1 := H
          unfold f_billingref10_Decode_l1 at H
          change ARun _ _ _ _ _ _ [(2, .ref 0 0), (4, .d (slOf 2 Element.row y1.1)), (6, .ref 1 0), (7, .d (cB v7l1)), (8, .d (cI v8l1))] ⟨[.row 34 [.d (cI 0), .d (cI 0), .d (cI 0), .d (cS ([] : List UInt8)), .d (cS ([] : List UInt8)), .d (cI 0), .d (cI 0), .d (cI 0), .d (cI 0), .d (cB false), .d (cI 0), .d (cB false)], .row 34 [.d (cI o1c0l1), .d (cI o1c1l1), .d (cI o1c2l1), .d (cS o1c3l1), .d (cS o1c4l1), .d (cI o1c5l1), .d (cI o1c6l1), .d (cI o1c7l1), .d (cI o1c8l1), .d (cB o1c9l1), .d (cI o1c10l1), .d (cB o1c11l1)]], []⟩
          refine .seq ?_
          refine .seq ?_
          refine .region ?_
          refine .q (q_move rfl) rfl ?_
          refine .q (q_move rfl) rfl ?_
          refine .q (q_lenL (l := y1.1) (row := Element.row) Tryd.underlying22 rfl rfl) rfl ?_
          refine .q (q_lss rfl rfl) rfl ?_
          refine .nil ?_
          refine .cond rfl (fun hc => ?_) (fun hc => ?_)
          · replace H := ifT hc H; clear hc
            refine .skip ?_
            refine .seq ?_
            refine .block ?_
            refine .seq ?_
            obtain ⟨hk12, H⟩ := ck_some H
            obtain ⟨y3, hy3, H⟩ := bind_some' H
            refine .orders2 11 9 10 [⟨[.row 34 [.d (cI 0), .d (cI 0), .d (cI 0), .d (cS ([] : List UInt8)), .d (cS ([] : List UInt8)), .d (cI 0), .d (cI 0), .d (cI 0), .d (cI 0), .d (cB false), .d (cI 0), .d (cB false)], .row 34 [.d (cI o1c0l1), .d (cI o1c1l1), .d (cI o1c2l1), .d (cS o1c3l1), .d (cS o1c4l1), .d (cI o1c5l1), .d (cI o1c6l1), .d (cI o1c7l1), .d (cI o1c8l1), .d (cB o1c9l1), .d (cI o1c10l1), .d (cB o1c11l1)]], []⟩, ⟨[.row 34 [.d (cI 0), .d (cI 0), .d (cI 0), .d (cS ([] : List UInt8)), .d (cS ([] : List UInt8)), .d (cI 0), .d (cI 0), .d (cI 0), .d (cI 0), .d (cB false), .d (cI 0), .d (cB false)], .row 34 [.d (cI o1c0l1), .d (cI o1c1l1), .d (cI o1c2l1), .d (cS o1c3l1), .d (cS o1c4l1), .d (cI o1c5l1), .d (cI o1c6l1), .d (cI o1c7l1), .d (cI o1c8l1), .d (cB o1c9l1), .d (cI o1c10l1), .d (cB o1c11l1)], .row 34 [.d (cI 0), .d (cI 0), .d (cI 0), .d (cS ([] : List UInt8)), .d (cS ([] : List UInt8)), .d (cI 0), .d (cI 0), .d (cI 0), .d (cI 0), .d (cB false), .d (cI 0), .d (cB false)]], []⟩, ⟨[.row 34 [.d (cI 0), .d (cI 0), .d (cI 0), .d (cS ([] : List UInt8)), .d (cS ([] : List UInt8)), .d (cI 0), .d (cI 0), .d (cI 0), .d (cI 0), .d (cB false), .d (cI 0), .d (cB false)], .row 34 [.d (cI o1c0l1), .d (cI o1c1l1), .d (cI o1c2l1), .d (cS o1c3l1), .d (cS o1c4l1), .d (cI o1c5l1), .d (cI o1c6l1), .d (cI o1c7l1), .d (cI o1c8l1), .d (cB o1c9l1), .d (cI o1c10l1), .d (cB o1c11l1)], .row 34 [.d (cI y3.1.source), .d (cI y3.1.serial), .d (cI y3.1.kind), .d (cS y3.1.a), .d (cS y3.1.b), .d (cI y3.1.start), .d (cI y3.1.units), .d (cI y3.1.call), .d (cI y3.1.part), .d (cB y3.1.last), .d (cI y3.1.trunk), .d (cB y3.1.inbound)]], []⟩] hMix (by kernel_rfl) (by decide) (by decide) (by kernel_rfl) rfl ?_
            show XOps _ _ _ _ _ _ _ _ _ _ (_ :: _) _ _
            refine .g (x := .d (.agg (Record.row (⟨o1c0l1, o1c1l1, o1c2l1, o1c3l1, o1c4l1, o1c5l1, o1c6l1, o1c7l1, o1c8l1, o1c9l1, o1c10l1, o1c11l1⟩ : Record)))) 0 1 ⟨OpQ.g (q_loadOA one_34 sz_34 rfl rfl (Nat.le_of_ble_eq_true rfl) rfl), OpQ.g (q_loadOA one_34 sz_34 rfl rfl (Nat.le_of_ble_eq_true rfl) rfl), trivial⟩ rfl (by kernel_rfl) rfl ?_
            refine .g (x := .d (slOf 2 Element.row y1.1)) 0 1 ⟨OpQ.g (q_move rfl), OpQ.g (q_move rfl), trivial⟩ rfl (by kernel_rfl) rfl ?_
            refine .g (x := .d (cI v8l1)) 0 1 ⟨OpQ.g (q_move rfl), OpQ.g (q_move rfl), trivial⟩ rfl (by kernel_rfl) rfl ?_
            refine .g (x := .d (.ro (Element.row (nth y1.1 (Int.toNat (v8l1)))))) 0 1 ⟨OpQ.g (q_idxL (row := Element.row) (l := y1.1) (i := v8l1) Tryd.underlying22 hi47 hs47 rfl rfl rfl hk12), OpQ.g (q_idxL (row := Element.row) (l := y1.1) (i := v8l1) Tryd.underlying22 hi47 hs47 rfl rfl rfl hk12), trivial⟩ rfl (by kernel_rfl) rfl ?_
            refine .g (x := .d (.agg (Element.row (nth y1.1 (Int.toNat (v8l1)))))) 0 1 ⟨OpQ.g (q_loadAll one_47 sz_47 rfl rfl), OpQ.g (q_loadAll one_47 sz_47 rfl rfl), trivial⟩ rfl (by kernel_rfl) rfl ?_
            refine .g (x := .d (.tup [.agg (Record.row y3.1), cB y3.2])) 0 1 ⟨(g_call en_37 rfl rfl (c_f_billingref10_field (hy3))), (g_call en_37 rfl rfl (c_f_billingref10_field (hy3))), trivial⟩ rfl (by kernel_rfl) rfl ?_
            refine .g (x := .d (.tup [.agg (Record.row y3.1), cB y3.2])) 0 1 ⟨OpQ.g (q_move rfl), OpQ.g (q_move rfl), trivial⟩ rfl (by kernel_rfl) rfl ?_
            refine .g (x := .d (.agg (Record.row y3.1))) 0 1 ⟨OpQ.g (q_extract rfl rfl), OpQ.g (q_extract rfl rfl), trivial⟩ rfl (by kernel_rfl) rfl ?_
            refine .g (x := .d (cB y3.2)) 0 2 ⟨OpQ.g (q_extract rfl rfl), OpQ.g (q_extract rfl rfl), OpQ.g (q_extract rfl rfl), trivial⟩ rfl (by kernel_rfl) rfl ?_
            refine .v (x := .ref 2 0) 0 (v_alloc zr_34 rfl) rfl rfl rfl rfl ?_
            refine .u 1 (u_store rfl rfl rfl rfl (Nat.le_of_ble_eq_true rfl) sz_34) rfl rfl rfl rfl ?_
            refine .nil rfl ?_
            show AOps _ _ _ _ _ _ (_ :: _) _ _ _
            refine .q (q_assign rfl) rfl ?_
            refine .nil ?_
            refine .region ?_
            refine .q (x := .d (.agg (Record.row y3.1))) (q_loadOA one_34 sz_34 rfl rfl (Nat.le_of_ble_eq_true rfl) rfl) rfl ?_
            refine .q (q_move rfl) rfl ?_
            refine .q (q_move rfl) rfl ?_
            refine .guardG (env' := [(10, _)]) rfl rfl rfl ⟨.inl rfl, trivial⟩ rfl (fun hg => OpQ.g (q_move rfl)) ?_
            refine .q (q_pickAndB rfl rfl rfl) rfl ?_
            refine .u (u_store rfl rfl rfl rfl (Nat.le_of_ble_eq_true rfl) sz_34) rfl ?_
            refine .withSt (st' := ⟨[.row 34 [.d (cI 0), .d (cI 0), .d (cI 0), .d (cS ([] : List UInt8)), .d (cS ([] : List UInt8)), .d (cI 0), .d (cI 0), .d (cI 0), .d (cI 0), .d (cB false), .d (cI 0), .d (cB false)], .row 34 [.d (cI y3.1.source), .d (cI y3.1.serial), .d (cI y3.1.kind), .d (cS y3.1.a), .d (cS y3.1.b), .d (cI y3.1.start), .d (cI y3.1.units), .d (cI y3.1.call), .d (cI y3.1.part), .d (cB y3.1.last), .d (cI y3.1.trunk), .d (cB y3.1.inbound)], .row 34 [.d (cI y3.1.source), .d (cI y3.1.serial), .d (cI y3.1.kind), .d (cS y3.1.a), .d (cS y3.1.b), .d (cI y3.1.start), .d (cI y3.1.units), .d (cI y3.1.call), .d (cI y3.1.part), .d (cB y3.1.last), .d (cI y3.1.trunk), .d (cB y3.1.inbound)]], []⟩) rfl ?_
            refine .q (q_assign rfl) rfl ?_
            refine .nil ?_
            refine .inBlock ?_
            refine .region ?_
            refine .q (q_move rfl) rfl ?_
            obtain ⟨hk13, H⟩ := ck_some H
            refine .q (q_addI rfl rfl hk13.1 hk13.2) rfl ?_
            refine .q (q_assign rfl) rfl ?_
            refine .nil ?_
            cases H
            exact .to 2 0 (env' := [(2, .ref 0 0), (4, .d (slOf 2 Element.row y1.1)), (6, .ref 1 0), (7, .d (cB (v7l1 && y3.2))), (8, .d (cI (v8l1 + 1)))]) (st' := ⟨[.row 34 [.d (cI 0), .d (cI 0), .d (cI 0), .d (cS ([] : List UInt8)), .d (cS ([] : List UInt8)), .d (cI 0), .d (cI 0), .d (cI 0), .d (cI 0), .d (cB false), .d (cI 0), .d (cB false)], .row 34 [.d (cI y3.1.source), .d (cI y3.1.serial), .d (cI y3.1.kind), .d (cS y3.1.a), .d (cS y3.1.b), .d (cI y3.1.start), .d (cI y3.1.units), .d (cI y3.1.call), .d (cI y3.1.part), .d (cB y3.1.last), .d (cI y3.1.trunk), .d (cB y3.1.inbound)]], []⟩) (.cons rfl (.rfl' _) (.cons rfl (.rfl' _) (.cons rfl (.rfl' _) (.cons rfl (.rfl' _) (.cons rfl (.rfl' _) (.nil)))))) rfl rfl rfl rfl rfl (by rw [hS]; exact Nat.le_of_ble_eq_true rfl) (by rw [hS]; exact Nat.le_of_ble_eq_true rfl) <| .sub (.cons rfl (.rfl' _) (.cons rfl (.rfl' _) (.cons rfl (.rfl' _) (.cons rfl (.rfl' _) (.cons rfl (.rfl' _) (.nil)))))) (ih1 (n1, ((v7l1 && y3.2), v8l1 + 1, y3.1.source, y3.1.serial, y3.1.kind, y3.1.a, y3.1.b, y3.1.start, y3.1.units, y3.1.call, y3.1.part, y3.1.last, y3.1.trunk, y3.1.inbound)) HK1 hm1)
          · replace H := ifF hc H; clear hc
            refine .exit rfl ?_
            obtain ⟨q0, H9, hq0⟩ := map_some' H; clear H; cases hq0
            cases HK1
            have H := H9
            exact .withSt (st' := ⟨[.row 34 [.d (cI 0), .d (cI 0), .d (cI 0), .d (cS ([] : List UInt8)), .d (cS ([] : List UInt8)), .d (cI 0), .d (cI 0), .d (cI 0), .d (cI 0), .d (cB false), .d (cI 0), .d (cB false)], .row 34 [.d (cI o1c0l1), .d (cI o1c1l1), .d (cI o1c2l1), .d (cS o1c3l1), .d (cS o1c4l1), .d (cI o1c5l1), .d (cI o1c6l1), .d (cI o1c7l1), .d (cI o1c8l1), .d (cB o1c9l1), .d (cI o1c10l1), .d (cB o1c11l1)]], []⟩) rfl <| .sub (.cons rfl (.rfl' _) (.cons rfl (.rfl' _) (.cons rfl (.rfl' _) (.nil)))) (hj1x (v7l1, o1c0l1, o1c1l1, o1c2l1, o1c3l1, o1c4l1, o1c5l1, o1c6l1, o1c7l1, o1c8l1, o1c9l1, o1c10l1, o1c11l1) H)

end Go.Proofs.YtmdpmallgcekgaaDoor

set_option linter.unusedSimpArgs false
set_option linter.unusedVariables false
namespace Go.Proofs.YtmdpmallgcekgaaDoor
open Go.RowKit Go.Abs
set_option maxRecDepth 100000 in
set_option maxHeartbeats 1000000 in
theorem c_f_billinglaw10_TaggedDecodes {v0b : List UInt8} {r : Bool} (H : f_billinglaw10_TaggedDecodes v0b = some r) : ACall Tryd.prog 6 [slOf 1 rB8 v0b] (· = cB r) := by
  refine ACall.enter' Tryd.func6 rfl Tryd.ntmps6 rfl fun S hS => ?_
  unfold f_billinglaw10_TaggedDecodes at H
  change ARun _ _ _ _ _ _ [(0, .d (slOf 1 rB8 v0b))] _
  refine .seq ?_
  refine .region ?_
  refine .q (q_assign rfl) rfl ?_
  refine .nil ?_
  refine .seq ?_
  refine .seq ?_
  refine .region ?_
  refine .q (q_move rfl) rfl ?_
  refine .q (q_lenL (l := v0b) (row := rB8) Tryd.underlying25 rfl rfl) rfl ?_
  refine .q (q_gtr rfl rfl) rfl ?_
  refine .nil ?_
  refine .cond rfl (fun hc => ?_) (fun hc => ?_)
  · replace H := ifT hc H; clear hc
    refine .seq ?_
    refine .region ?_
    obtain ⟨y1, hy1, H⟩ := bind_some' H
    refine .g (x := .d (cB y1)) (g_call en_10 rfl rfl (c_f_billinglaw10_awake (hy1))) rfl ?_
    refine .q (q_assign rfl) rfl ?_
    refine .nil ?_
    refine .retN [.tmp 2] [.d (cB y1)] Tryd.func6 Tryd.results6 ⟨rfl, trivial⟩ ?_
    cases H
    exact ⟨_, .rfl' _, rfl⟩
  · replace H := ifF hc H; clear hc
    refine .skip ?_
    refine .seq ?_
    refine .region ?_
    refine .q (q_move rfl) rfl ?_
    obtain ⟨y2, hy2, H⟩ := bind_some' H
    refine .g (x := .d (.tup [.agg (Record.row y2.1), cI y2.2])) (g_call en_19 rfl rfl (c_f_tagged_Decode (hy2))) rfl ?_
    refine .q (q_move rfl) rfl ?_
    refine .q (q_extract rfl rfl) rfl ?_
    refine .q (q_extract rfl rfl) rfl ?_
    refine .v (x := .ref 0 0) (v_alloc zr_34 rfl) rfl ?_
    refine .withSt (st' := ⟨[.row 34 [.d (cI 0), .d (cI 0), .d (cI 0), .d (cS ([] : List UInt8)), .d (cS ([] : List UInt8)), .d (cI 0), .d (cI 0), .d (cI 0), .d (cI 0), .d (cB false), .d (cI 0), .d (cB false)]], []⟩) rfl ?_
    refine .u (u_store rfl rfl rfl rfl (Nat.le_of_ble_eq_true rfl) sz_34) rfl ?_
    refine .withSt (st' := ⟨[.row 34 [.d (cI y2.1.source), .d (cI y2.1.serial), .d (cI y2.1.kind), .d (cS y2.1.a), .d (cS y2.1.b), .d (cI y2.1.start), .d (cI y2.1.units), .d (cI y2.1.call), .d (cI y2.1.part), .d (cB y2.1.last), .d (cI y2.1.trunk), .d (cB y2.1.inbound)]], []⟩) rfl ?_
    refine .q (q_assign rfl) rfl ?_
    refine .nil ?_
    refine .seq ?_
    refine .region ?_
    refine .q (q_move rfl) rfl ?_
    obtain ⟨y3, hy3, H⟩ := bind_some' H
    refine .g (x := .d (.tup [.agg (Record.row y3.1), cI y3.2])) (g_call en_20 rfl rfl (c_f_billingref10_Decode (hy3))) rfl ?_
    refine .q (q_move rfl) rfl ?_
    refine .q (q_extract rfl rfl) rfl ?_
    refine .q (q_extract rfl rfl) rfl ?_
    refine .v (x := .ref 1 0) (v_alloc zr_34 rfl) rfl ?_
    refine .withSt (st' := ⟨[.row 34 [.d (cI y2.1.source), .d (cI y2.1.serial), .d (cI y2.1.kind), .d (cS y2.1.a), .d (cS y2.1.b), .d (cI y2.1.start), .d (cI y2.1.units), .d (cI y2.1.call), .d (cI y2.1.part), .d (cB y2.1.last), .d (cI y2.1.trunk), .d (cB y2.1.inbound)], .row 34 [.d (cI 0), .d (cI 0), .d (cI 0), .d (cS ([] : List UInt8)), .d (cS ([] : List UInt8)), .d (cI 0), .d (cI 0), .d (cI 0), .d (cI 0), .d (cB false), .d (cI 0), .d (cB false)]], []⟩) rfl ?_
    refine .u (u_store rfl rfl rfl rfl (Nat.le_of_ble_eq_true rfl) sz_34) rfl ?_
    refine .withSt (st' := ⟨[.row 34 [.d (cI y2.1.source), .d (cI y2.1.serial), .d (cI y2.1.kind), .d (cS y2.1.a), .d (cS y2.1.b), .d (cI y2.1.start), .d (cI y2.1.units), .d (cI y2.1.call), .d (cI y2.1.part), .d (cB y2.1.last), .d (cI y2.1.trunk), .d (cB y2.1.inbound)], .row 34 [.d (cI y3.1.source), .d (cI y3.1.serial), .d (cI y3.1.kind), .d (cS y3.1.a), .d (cS y3.1.b), .d (cI y3.1.start), .d (cI y3.1.units), .d (cI y3.1.call), .d (cI y3.1.part), .d (cB y3.1.last), .d (cI y3.1.trunk), .d (cB y3.1.inbound)]], []⟩) rfl ?_
    refine .q (q_assign rfl) rfl ?_
    refine .nil ?_
    refine .seq ?_
    refine .region ?_
    refine .q (x := .d (.agg (Record.row y2.1))) (q_loadOA one_34 sz_34 rfl rfl (Nat.le_of_ble_eq_true rfl) rfl) rfl ?_
    refine .q (x := .d (.agg (Record.row y3.1))) (q_loadOA one_34 sz_34 rfl rfl (Nat.le_of_ble_eq_true rfl) rfl) rfl ?_
    refine .q (x := .d (cB (eqVs (Record.vals y2.1) (Record.vals y3.1)))) (q_steql fk_34 rfl rfl (xs := Record.vals y2.1) (ys := Record.vals y3.1) rfl rfl rfl rfl) rfl ?_
    refine .q (q_move rfl) rfl ?_
    refine .guardG (env' := [(4, _)]) rfl rfl rfl ⟨.inl rfl, trivial⟩ rfl (fun hg => OpQ.g (q_move rfl)) ?_
    refine .guardG (env' := [(6, _)]) rfl rfl rfl ⟨.inl rfl, trivial⟩ rfl (fun hg => OpQ.g (q_move rfl)) ?_
    refine .guardG (env' := [(25, _), (26, _)]) rfl rfl rfl ⟨.inr (.inl rfl), ⟨.inr (.inl rfl), trivial⟩⟩ rfl (fun hg => OpQ.g (q_eql rfl rfl)) ?_
    refine .q (q_pickAndB rfl rfl rfl) rfl ?_
    refine .q (q_move rfl) rfl ?_
    obtain ⟨y4, hy4, H⟩ := bind_some' H
    refine .guardG (b := ((eqVs (Record.vals y2.1) (Record.vals y3.1)) && (y2.2 == y3.2))) (x := .d (cB y4)) (env' := []) rfl rfl rfl trivial rfl (fun hg => (g_call en_10 rfl rfl (c_f_billinglaw10_awake (gcall_some hy4 hg)))) ?_
    refine .q (q_pickAndB rfl rfl rfl) rfl ?_
    refine .q (q_assign rfl) rfl ?_
    refine .nil ?_
    refine .retN [.tmp 2] [.d (cB (((eqVs (Record.vals y2.1) (Record.vals y3.1)) && (y2.2 == y3.2)) && y4))] Tryd.func6 Tryd.results6 ⟨rfl, trivial⟩ ?_
    cases H
    exact ⟨_, .rfl' _, rfl⟩

set_option maxRecDepth 100000 in
set_option maxHeartbeats 1000000 in
theorem c_f_billinglaw10_TaggedBack {v0 : Record} {v1 : List UInt8} {v2 : Int} {r : Bool} (H : f_billinglaw10_TaggedBack v0 v1 v2 = some r) : ACall Tryd.prog 7 [.agg (Record.row v0), slOf 1 rB8 v1, cI v2] (· = cB r) := by
  obtain ⟨i5, hi5, hz5, hs5, hb5⟩ := in_5
  refine ACall.enter' Tryd.func7 rfl Tryd.ntmps7 rfl fun S hS => ?_
  unfold f_billinglaw10_TaggedBack at H
  change ARun _ _ _ _ _ _ [(0, .d (.agg (Record.row v0))), (1, .d (slOf 1 rB8 v1)), (2, .d (cI v2))] _
  refine .seq ?_
  refine .region ?_
  refine .v (x := .ref 0 0) (v_box rfl rfl) rfl ?_
  refine .withSt (st' := ⟨[.row 34 [.d (cI v0.source), .d (cI v0.serial), .d (cI v0.kind), .d (cS v0.a), .d (cS v0.b), .d (cI v0.start), .d (cI v0.units), .d (cI v0.call), .d (cI v0.part), .d (cB v0.last), .d (cI v0.trunk), .d (cB v0.inbound)]], []⟩) rfl ?_
  refine .q (q_assign rfl) rfl ?_
  refine .nil ?_
  refine .seq ?_
  refine .seq ?_
  refine .region ?_
  refine .q (x := .d (.agg (Record.row v0))) (q_loadOA one_34 sz_34 rfl rfl (Nat.le_of_ble_eq_true rfl) rfl) rfl ?_
  obtain ⟨y1, hy1, H⟩ := bind_some' H
  refine .g (x := .d (cB y1)) (g_call en_16 rfl rfl (c_f_billinglaw10_short (hy1))) rfl ?_
  refine .q (q_not rfl) rfl ?_
  refine .q (q_move rfl) rfl ?_
  refine .guardG (env' := [(1, _)]) rfl rfl rfl ⟨.inl rfl, trivial⟩ rfl (fun hg => OpQ.g (q_move rfl)) ?_
  refine .guardG (env' := [(23, _)]) rfl rfl rfl ⟨.inr (.inl rfl), trivial⟩ rfl (fun hg => OpQ.g (q_lenL (l := v1) (row := rB8) Tryd.underlying25 rfl rfl)) ?_
  refine .guardG (env' := [(24, _)]) rfl rfl rfl ⟨.inr (.inl rfl), trivial⟩ rfl (fun hg => OpQ.g (q_gtr rfl rfl)) ?_
  refine .q (q_pickOrB rfl rfl rfl) rfl ?_
  refine .nil ?_
  refine .cond rfl (fun hc => ?_) (fun hc => ?_)
  · replace H := ifT hc H; clear hc
    refine .seq ?_
    refine .region ?_
    obtain ⟨y2, hy2, H⟩ := bind_some' H
    refine .g (x := .d (cB y2)) (g_call en_10 rfl rfl (c_f_billinglaw10_awake (hy2))) rfl ?_
    refine .q (q_assign rfl) rfl ?_
    refine .nil ?_
    refine .retN [.tmp 6] [.d (cB y2)] Tryd.func7 Tryd.results7 ⟨rfl, trivial⟩ ?_
    cases H
    exact ⟨_, .rfl' _, rfl⟩
  · replace H := ifF hc H; clear hc
    refine .skip ?_
    refine .seq ?_
    refine .region ?_
    refine .q (x := .d (.agg (Record.row v0))) (q_loadOA one_34 sz_34 rfl rfl (Nat.le_of_ble_eq_true rfl) rfl) rfl ?_
    obtain ⟨y3, hy3, H⟩ := bind_some' H
    refine .g (x := .d (.tup [slOf 1 rB8 y3.1, cI y3.2])) (g_call en_17 rfl rfl (c_f_tagged_Encode (hy3))) rfl ?_
    refine .q (q_move rfl) rfl ?_
    refine .q (q_extract rfl rfl) rfl ?_
    refine .q (q_extract rfl rfl) rfl ?_
    refine .q (q_assign rfl) rfl ?_
    refine .q (q_assign rfl) rfl ?_
    refine .nil ?_
    refine .seqJoin (ι := Unit) (fun s => [(1, .d (slOf 1 rB8 v1))]) (fun s => ⟨[.row 34 [.d (cI v0.source), .d (cI v0.serial), .d (cI v0.kind), .d (cS v0.a), .d (cS v0.b), .d (cI v0.start), .d (cI v0.units), .d (cI v0.call), .d (cI v0.part), .d (cB v0.last), .d (cI v0.trunk), .d (cB v0.inbound)]], []⟩) (fun s => f_billinglaw10_TaggedBack_j1 v1 = some r) ?_ ?_
    · rintro _ H
      replace H : f_billinglaw10_TaggedBack_j1 v1 = some r := H
      unfold f_billinglaw10_TaggedBack_j1 at H
      change ARun _ _ _ _ _ _ [(1, .d (slOf 1 rB8 v1))] ⟨[.row 34 [.d (cI v0.source), .d (cI v0.serial), .d (cI v0.kind), .d (cS v0.a), .d (cS v0.b), .d (cI v0.start), .d (cI v0.units), .d (cI v0.call), .d (cI v0.part), .d (cB v0.last), .d (cI v0.trunk), .d (cB v0.inbound)]], []⟩
      refine .seq ?_
      refine .region ?_
      refine .q (q_move rfl) rfl ?_
      obtain ⟨y4, hy4, H⟩ := bind_some' H
      refine .g (x := .d (.tup [.agg (Record.row y4.1), cI y4.2])) (g_call en_19 rfl rfl (c_f_tagged_Decode (hy4))) rfl ?_
      refine .q (q_move rfl) rfl ?_
      refine .q (q_extract rfl rfl) rfl ?_
      refine .q (q_extract rfl rfl) rfl ?_
      refine .v (x := .ref 1 0) (v_alloc zr_34 rfl) rfl ?_
      refine .withSt (st' := ⟨[.row 34 [.d (cI v0.source), .d (cI v0.serial), .d (cI v0.kind), .d (cS v0.a), .d (cS v0.b), .d (cI v0.start), .d (cI v0.units), .d (cI v0.call), .d (cI v0.part), .d (cB v0.last), .d (cI v0.trunk), .d (cB v0.inbound)], .row 34 [.d (cI 0), .d (cI 0), .d (cI 0), .d (cS ([] : List UInt8)), .d (cS ([] : List UInt8)), .d (cI 0), .d (cI 0), .d (cI 0), .d (cI 0), .d (cB false), .d (cI 0), .d (cB false)]], []⟩) rfl ?_
      refine .u (u_store rfl rfl rfl rfl (Nat.le_of_ble_eq_true rfl) sz_34) rfl ?_
      refine .withSt (st' := ⟨[.row 34 [.d (cI v0.source), .d (cI v0.serial), .d (cI v0.kind), .d (cS v0.a), .d (cS v0.b), .d (cI v0.start), .d (cI v0.units), .d (cI v0.call), .d (cI v0.part), .d (cB v0.last), .d (cI v0.trunk), .d (cB v0.inbound)], .row 34 [.d (cI y4.1.source), .d (cI y4.1.serial), .d (cI y4.1.kind), .d (cS y4.1.a), .d (cS y4.1.b), .d (cI y4.1.start), .d (cI y4.1.units), .d (cI y4.1.call), .d (cI y4.1.part), .d (cB y4.1.last), .d (cI y4.1.trunk), .d (cB y4.1.inbound)]], []⟩) rfl ?_
      refine .q (q_assign rfl) rfl ?_
      refine .nil ?_
      refine .seq ?_
      refine .seq ?_
      refine .region ?_
      refine .q (q_move rfl) rfl ?_
      refine .q (q_neq rfl rfl) rfl ?_
      refine .nil ?_
      refine .cond rfl (fun hc => ?_) (fun hc => ?_)
      · replace H := ifT hc H; clear hc
        refine .seq ?_
        refine .region ?_
        obtain ⟨y5, hy5, H⟩ := bind_some' H
        refine .g (x := .d (cB y5)) (g_call en_10 rfl rfl (c_f_billinglaw10_awake (hy5))) rfl ?_
        refine .q (q_assign rfl) rfl ?_
        refine .nil ?_
        refine .retN [.tmp 6] [.d (cB y5)] Tryd.func7 Tryd.results7 ⟨rfl, trivial⟩ ?_
        cases H
        exact ⟨_, .rfl' _, rfl⟩
      · replace H := ifF hc H; clear hc
        refine .skip ?_
        refine .seq ?_
        refine .region ?_
        refine .q (x := .d (.agg (Record.row y4.1))) (q_loadOA one_34 sz_34 rfl rfl (Nat.le_of_ble_eq_true rfl) rfl) rfl ?_
        obtain ⟨y6, hy6, H⟩ := bind_some' H
        refine .g (x := .d (.tup [slOf 1 rB8 y6.1, cI y6.2])) (g_call en_17 rfl rfl (c_f_tagged_Encode (hy6))) rfl ?_
        refine .q (q_move rfl) rfl ?_
        refine .q (q_extract rfl rfl) rfl ?_
        refine .q (q_extract rfl rfl) rfl ?_
        refine .q (q_assign rfl) rfl ?_
        refine .q (q_assign rfl) rfl ?_
        refine .nil ?_
        refine .seq ?_
        refine .region ?_
        refine .q (q_move rfl) rfl ?_
        refine .q (q_eql rfl rfl) rfl ?_
        refine .q (q_move rfl) rfl ?_
        refine .guardG (env' := [(17, _)]) rfl rfl rfl ⟨.inl rfl, trivial⟩ rfl (fun hg => OpQ.g (q_move rfl)) ?_
        refine .guardG (b := (y6.2 == 0)) (x := .d (cS y6.1)) (env' := [(93, _)]) rfl rfl rfl ⟨.inr (.inl rfl), trivial⟩ rfl (fun hg => OpQ.g (q_bytesStrL (a := y6.1) Tryd.underlying25 Tryd.underlying5 Tryd.underlying9 rfl rfl)) ?_
        refine .guardG (env' := [(1, _)]) rfl rfl rfl ⟨.inl rfl, trivial⟩ rfl (fun hg => OpQ.g (q_move rfl)) ?_
        refine .guardG (b := (y6.2 == 0)) (x := .d (cS v1)) (env' := [(95, _)]) rfl rfl rfl ⟨.inr (.inl rfl), trivial⟩ rfl (fun hg => OpQ.g (q_bytesStrL (a := v1) Tryd.underlying25 Tryd.underlying5 Tryd.underlying9 rfl rfl)) ?_
        refine .guardG (env' := [(94, _), (96, _)]) rfl rfl rfl ⟨.inr (.inl rfl), ⟨.inr (.inl rfl), trivial⟩⟩ rfl (fun hg => OpQ.g (q_seql rfl rfl)) ?_
        refine .q (q_pickAndB rfl rfl rfl) rfl ?_
        refine .q (q_move rfl) rfl ?_
        obtain ⟨y7, hy7, H⟩ := bind_some' H
        refine .guardG (b := ((y6.2 == 0) && (y6.1 == v1))) (x := .d (cB y7)) (env' := []) rfl rfl rfl trivial rfl (fun hg => (g_call en_10 rfl rfl (c_f_billinglaw10_awake (gcall_some hy7 hg)))) ?_
        refine .q (q_pickAndB rfl rfl rfl) rfl ?_
        refine .q (q_assign rfl) rfl ?_
        refine .nil ?_
        refine .retN [.tmp 6] [.d (cB (((y6.2 == 0) && (y6.1 == v1)) && y7))] Tryd.func7 Tryd.results7 ⟨rfl, trivial⟩ ?_
        cases H
        exact ⟨_, .rfl' _, rfl⟩
    · intro hj1
      refine .seq ?_
      refine .region ?_
      refine .q (q_move rfl) rfl ?_
      refine .q (q_eql rfl rfl) rfl ?_
      refine .nil ?_
      refine .cond rfl (fun hc => ?_) (fun hc => ?_)
      · replace H := ifT hc H; clear hc
        refine .seq ?_
        refine .region ?_
        refine .q (q_move rfl) rfl ?_
        obtain ⟨y8, hy8, H⟩ := bind_some' H
        refine .g (x := .d (.tup [.agg (Record.row y8.1), cI y8.2])) (g_call en_19 rfl rfl (c_f_tagged_Decode (hy8))) rfl ?_
        refine .q (q_move rfl) rfl ?_
        refine .q (q_extract rfl rfl) rfl ?_
        refine .q (q_extract rfl rfl) rfl ?_
        refine .v (x := .ref 1 0) (v_alloc zr_34 rfl) rfl ?_
        refine .withSt (st' := ⟨[.row 34 [.d (cI v0.source), .d (cI v0.serial), .d (cI v0.kind), .d (cS v0.a), .d (cS v0.b), .d (cI v0.start), .d (cI v0.units), .d (cI v0.call), .d (cI v0.part), .d (cB v0.last), .d (cI v0.trunk), .d (cB v0.inbound)], .row 34 [.d (cI 0), .d (cI 0), .d (cI 0), .d (cS ([] : List UInt8)), .d (cS ([] : List UInt8)), .d (cI 0), .d (cI 0), .d (cI 0), .d (cI 0), .d (cB false), .d (cI 0), .d (cB false)]], []⟩) rfl ?_
        refine .u (u_store rfl rfl rfl rfl (Nat.le_of_ble_eq_true rfl) sz_34) rfl ?_
        refine .withSt (st' := ⟨[.row 34 [.d (cI v0.source), .d (cI v0.serial), .d (cI v0.kind), .d (cS v0.a), .d (cS v0.b), .d (cI v0.start), .d (cI v0.units), .d (cI v0.call), .d (cI v0.part), .d (cB v0.last), .d (cI v0.trunk), .d (cB v0.inbound)], .row 34 [.d (cI y8.1.source), .d (cI y8.1.serial), .d (cI y8.1.kind), .d (cS y8.1.a), .d (cS y8.1.b), .d (cI y8.1.start), .d (cI y8.1.units), .d (cI y8.1.call), .d (cI y8.1.part), .d (cB y8.1.last), .d (cI y8.1.trunk), .d (cB y8.1.inbound)]], []⟩) rfl ?_
        refine .q (q_assign rfl) rfl ?_
        refine .nil ?_
        refine .seq ?_
        refine .region ?_
        refine .v (x := .tsl 1 (([] : List UInt8).map rB8) 0) (v_build0T Tryd.underlying25 hi5 hs5) rfl ?_
        refine .withSt (st' := ⟨[.row 34 [.d (cI v0.source), .d (cI v0.serial), .d (cI v0.kind), .d (cS v0.a), .d (cS v0.b), .d (cI v0.start), .d (cI v0.units), .d (cI v0.call), .d (cI v0.part), .d (cB v0.last), .d (cI v0.trunk), .d (cB v0.inbound)], .row 34 [.d (cI y8.1.source), .d (cI y8.1.serial), .d (cI y8.1.kind), .d (cS y8.1.a), .d (cS y8.1.b), .d (cI y8.1.start), .d (cI y8.1.units), .d (cI y8.1.call), .d (cI y8.1.part), .d (cB y8.1.last), .d (cI y8.1.trunk), .d (cB y8.1.inbound)]], [⟨5, 1, ([] : List UInt8).length, none⟩]⟩) rfl ?_
        refine .q (q_move rfl) rfl ?_
        obtain ⟨hk1, H⟩ := ck_some H
        refine .v (x := .tsl 1 ((([] : List UInt8) ++ y3.1).map rB8) 0) (v_appendL (l := ([] : List UInt8)) (l' := y3.1) (row := rB8) Tryd.underlying25 hi5 hz5 hs5 rfl (by rw [hb5]; decide) rfl rfl rfl rfl hk1) rfl ?_
        refine .withSt (st' := ⟨[.row 34 [.d (cI v0.source), .d (cI v0.serial), .d (cI v0.kind), .d (cS v0.a), .d (cS v0.b), .d (cI v0.start), .d (cI v0.units), .d (cI v0.call), .d (cI v0.part), .d (cB v0.last), .d (cI v0.trunk), .d (cB v0.inbound)], .row 34 [.d (cI y8.1.source), .d (cI y8.1.serial), .d (cI y8.1.kind), .d (cS y8.1.a), .d (cS y8.1.b), .d (cI y8.1.start), .d (cI y8.1.units), .d (cI y8.1.call), .d (cI y8.1.part), .d (cB y8.1.last), .d (cI y8.1.trunk), .d (cB y8.1.inbound)]], [⟨5, 1, (([] : List UInt8) ++ y3.1).length, none⟩]⟩) rfl ?_
        refine .g (x := .d (slOf 1 rB8 ([0] : List UInt8))) (g_buildSlice1 Tryd.underlying25 hi5 hs5 hz5 rfl rfl rfl rfl rfl) rfl ?_
        obtain ⟨hk2, H⟩ := ck_some H
        refine .v (x := .tsl 1 (((([] : List UInt8) ++ y3.1) ++ ([0] : List UInt8)).map rB8) 0) (v_appendL (l := ([] : List UInt8) ++ y3.1) (l' := ([0] : List UInt8)) (row := rB8) Tryd.underlying25 hi5 hz5 hs5 rfl (by rw [hb5]; decide) rfl rfl rfl rfl hk2) rfl ?_
        refine .withSt (st' := ⟨[.row 34 [.d (cI v0.source), .d (cI v0.serial), .d (cI v0.kind), .d (cS v0.a), .d (cS v0.b), .d (cI v0.start), .d (cI v0.units), .d (cI v0.call), .d (cI v0.part), .d (cB v0.last), .d (cI v0.trunk), .d (cB v0.inbound)], .row 34 [.d (cI y8.1.source), .d (cI y8.1.serial), .d (cI y8.1.kind), .d (cS y8.1.a), .d (cS y8.1.b), .d (cI y8.1.start), .d (cI y8.1.units), .d (cI y8.1.call), .d (cI y8.1.part), .d (cB y8.1.last), .d (cI y8.1.trunk), .d (cB y8.1.inbound)]], [⟨5, 1, ((([] : List UInt8) ++ y3.1) ++ ([0] : List UInt8)).length, none⟩]⟩) rfl ?_
        obtain ⟨y9, hy9, H⟩ := bind_some' H
        refine .g (x := .d (.tup [.agg (Record.row y9.1), cI y9.2])) (g_call en_19 rfl rfl (c_f_tagged_Decode (hy9))) rfl ?_
        refine .q (q_move rfl) rfl ?_
        refine .q (q_extract rfl rfl) rfl ?_
        refine .q (q_extract rfl rfl) rfl ?_
        refine .v (x := .ref 2 0) (v_alloc zr_34 rfl) rfl ?_
        refine .withSt (st' := ⟨[.row 34 [.d (cI v0.source), .d (cI v0.serial), .d (cI v0.kind), .d (cS v0.a), .d (cS v0.b), .d (cI v0.start), .d (cI v0.units), .d (cI v0.call), .d (cI v0.part), .d (cB v0.last), .d (cI v0.trunk), .d (cB v0.inbound)], .row 34 [.d (cI y8.1.source), .d (cI y8.1.serial), .d (cI y8.1.kind), .d (cS y8.1.a), .d (cS y8.1.b), .d (cI y8.1.start), .d (cI y8.1.units), .d (cI y8.1.call), .d (cI y8.1.part), .d (cB y8.1.last), .d (cI y8.1.trunk), .d (cB y8.1.inbound)], .row 34 [.d (cI 0), .d (cI 0), .d (cI 0), .d (cS ([] : List UInt8)), .d (cS ([] : List UInt8)), .d (cI 0), .d (cI 0), .d (cI 0), .d (cI 0), .d (cB false), .d (cI 0), .d (cB false)]], [⟨5, 1, ((([] : List UInt8) ++ y3.1) ++ ([0] : List UInt8)).length, none⟩]⟩) rfl ?_
        refine .u (u_store rfl rfl rfl rfl (Nat.le_of_ble_eq_true rfl) sz_34) rfl ?_
        refine .withSt (st' := ⟨[.row 34 [.d (cI v0.source), .d (cI v0.serial), .d (cI v0.kind), .d (cS v0.a), .d (cS v0.b), .d (cI v0.start), .d (cI v0.units), .d (cI v0.call), .d (cI v0.part), .d (cB v0.last), .d (cI v0.trunk), .d (cB v0.inbound)], .row 34 [.d (cI y8.1.source), .d (cI y8.1.serial), .d (cI y8.1.kind), .d (cS y8.1.a), .d (cS y8.1.b), .d (cI y8.1.start), .d (cI y8.1.units), .d (cI y8.1.call), .d (cI y8.1.part), .d (cB y8.1.last), .d (cI y8.1.trunk), .d (cB y8.1.inbound)], .row 34 [.d (cI y9.1.source), .d (cI y9.1.serial), .d (cI y9.1.kind), .d (cS y9.1.a), .d (cS y9.1.b), .d (cI y9.1.start), .d (cI y9.1.units), .d (cI y9.1.call), .d (cI y9.1.part), .d (cB y9.1.last), .d (cI y9.1.trunk), .d (cB y9.1.inbound)]], [⟨5, 1, ((([] : List UInt8) ++ y3.1) ++ ([0] : List UInt8)).length, none⟩]⟩) rfl ?_
        refine .q (q_assign rfl) rfl ?_
        refine .nil ?_
        refine .seq ?_
        refine .seq ?_
        refine .region ?_
        refine .q (q_move rfl) rfl ?_
        refine .q (q_neq rfl rfl) rfl ?_
        refine .q (q_move rfl) rfl ?_
        refine .guardG (b := (!(y8.2 != 0))) (x := .d (.agg (Record.row y8.1))) (env' := [(9, _)]) rfl rfl rfl ⟨.inl rfl, trivial⟩ rfl (fun hg => OpQ.g (q_loadOA one_34 sz_34 rfl rfl (Nat.le_of_ble_eq_true rfl) rfl)) ?_
        refine .guardG (b := (!(y8.2 != 0))) (x := .d (.agg (Record.row v0))) (env' := [(3, _)]) rfl rfl rfl ⟨.inl rfl, trivial⟩ rfl (fun hg => OpQ.g (q_loadOA one_34 sz_34 rfl rfl (Nat.le_of_ble_eq_true rfl) rfl)) ?_
        refine .guardG (b := (!(y8.2 != 0))) (x := .d (cB (!(eqVs (Record.vals y8.1) (Record.vals v0))))) (env' := [(52, _), (53, _)]) rfl rfl rfl ⟨.inr (.inl rfl), ⟨.inr (.inl rfl), trivial⟩⟩ rfl (fun hg => OpQ.g (q_stneq fk_34 rfl rfl (xs := Record.vals y8.1) (ys := Record.vals v0) rfl rfl rfl rfl)) ?_
        refine .q (q_pickOrB rfl rfl rfl) rfl ?_
        refine .q (q_move rfl) rfl ?_
        refine .guardG (env' := [(12, _)]) rfl rfl rfl ⟨.inl rfl, trivial⟩ rfl (fun hg => OpQ.g (q_move rfl)) ?_
        refine .guardG (env' := [(57, _)]) rfl rfl rfl ⟨.inr (.inl rfl), trivial⟩ rfl (fun hg => OpQ.g (q_neq rfl rfl)) ?_
        refine .q (q_pickOrB rfl rfl rfl) rfl ?_
        refine .nil ?_
        refine .cond rfl (fun hc => ?_) (fun hc => ?_)
        · replace H := ifT hc H; clear hc
          refine .seq ?_
          refine .region ?_
          refine .q (q_assign rfl) rfl ?_
          refine .nil ?_
          refine .retN [.tmp 6] [.d (cB false)] Tryd.func7 Tryd.results7 ⟨rfl, trivial⟩ ?_
          cases H
          exact ⟨_, .rfl' _, rfl⟩
        · replace H := ifF hc H; clear hc
          refine .skip ?_
          refine .seq ?_
          refine .region ?_
          refine .q (q_move rfl) rfl ?_
          refine .q (q_geq rfl rfl) rfl ?_
          refine .q (q_move rfl) rfl ?_
          refine .guardG (env' := [(2, _)]) rfl rfl rfl ⟨.inl rfl, trivial⟩ rfl (fun hg => OpQ.g (q_move rfl)) ?_
          refine .guardG (env' := [(7, _)]) rfl rfl rfl ⟨.inl rfl, trivial⟩ rfl (fun hg => OpQ.g (q_move rfl)) ?_
          refine .guardG (env' := [(64, _)]) rfl rfl rfl ⟨.inr (.inl rfl), trivial⟩ rfl (fun hg => OpQ.g (q_lenL (l := y3.1) (row := rB8) Tryd.underlying25 rfl rfl)) ?_
          refine .guardG (env' := [(63, _), (65, _)]) rfl rfl rfl ⟨.inr (.inl rfl), ⟨.inr (.inl rfl), trivial⟩⟩ rfl (fun hg => OpQ.g (q_lss rfl rfl)) ?_
          refine .q (q_pickAndB rfl rfl rfl) rfl ?_
          refine .nil ?_
          refine .cond rfl (fun hc => ?_) (fun hc => ?_)
          · replace H := ifT hc H; clear hc
            refine .seq ?_
            refine .region ?_
            refine .q (q_move rfl) rfl ?_
            refine .q (q_move rfl) rfl ?_
            obtain ⟨hk3, H⟩ := ck_some H
            refine .q (x := .d (slOf 1 rB8 (y3.1.take (Int.toNat (v2))))) (q_slHL (l := y3.1) (row := rB8) Tryd.underlying25 hi5 hs5 rfl rfl rfl hk3) rfl ?_
            obtain ⟨y10, hy10, H⟩ := bind_some' H
            refine .g (x := .d (.tup [.agg (Record.row y10.1), cI y10.2])) (g_call en_19 rfl rfl (c_f_tagged_Decode (hy10))) rfl ?_
            refine .q (q_move rfl) rfl ?_
            refine .q (q_extract rfl rfl) rfl ?_
            refine .q (q_extract rfl rfl) rfl ?_
            refine .v (x := .ref 3 0) (v_alloc zr_34 rfl) rfl ?_
            refine .withSt (st' := ⟨[.row 34 [.d (cI v0.source), .d (cI v0.serial), .d (cI v0.kind), .d (cS v0.a), .d (cS v0.b), .d (cI v0.start), .d (cI v0.units), .d (cI v0.call), .d (cI v0.part), .d (cB v0.last), .d (cI v0.trunk), .d (cB v0.inbound)], .row 34 [.d (cI y8.1.source), .d (cI y8.1.serial), .d (cI y8.1.kind), .d (cS y8.1.a), .d (cS y8.1.b), .d (cI y8.1.start), .d (cI y8.1.units), .d (cI y8.1.call), .d (cI y8.1.part), .d (cB y8.1.last), .d (cI y8.1.trunk), .d (cB y8.1.inbound)], .row 34 [.d (cI y9.1.source), .d (cI y9.1.serial), .d (cI y9.1.kind), .d (cS y9.1.a), .d (cS y9.1.b), .d (cI y9.1.start), .d (cI y9.1.units), .d (cI y9.1.call), .d (cI y9.1.part), .d (cB y9.1.last), .d (cI y9.1.trunk), .d (cB y9.1.inbound)], .row 34 [.d (cI 0), .d (cI 0), .d (cI 0), .d (cS ([] : List UInt8)), .d (cS ([] : List UInt8)), .d (cI 0), .d (cI 0), .d (cI 0), .d (cI 0), .d (cB false), .d (cI 0), .d (cB false)]], [⟨5, 1, ((([] : List UInt8) ++ y3.1) ++ ([0] : List UInt8)).length, none⟩]⟩) rfl ?_
            refine .u (u_store rfl rfl rfl rfl (Nat.le_of_ble_eq_true rfl) sz_34) rfl ?_
            refine .withSt (st' := ⟨[.row 34 [.d (cI v0.source), .d (cI v0.serial), .d (cI v0.kind), .d (cS v0.a), .d (cS v0.b), .d (cI v0.start), .d (cI v0.units), .d (cI v0.call), .d (cI v0.part), .d (cB v0.last), .d (cI v0.trunk), .d (cB v0.inbound)], .row 34 [.d (cI y8.1.source), .d (cI y8.1.serial), .d (cI y8.1.kind), .d (cS y8.1.a), .d (cS y8.1.b), .d (cI y8.1.start), .d (cI y8.1.units), .d (cI y8.1.call), .d (cI y8.1.part), .d (cB y8.1.last), .d (cI y8.1.trunk), .d (cB y8.1.inbound)], .row 34 [.d (cI y9.1.source), .d (cI y9.1.serial), .d (cI y9.1.kind), .d (cS y9.1.a), .d (cS y9.1.b), .d (cI y9.1.start), .d (cI y9.1.units), .d (cI y9.1.call), .d (cI y9.1.part), .d (cB y9.1.last), .d (cI y9.1.trunk), .d (cB y9.1.inbound)], .row 34 [.d (cI y10.1.source), .d (cI y10.1.serial), .d (cI y10.1.kind), .d (cS y10.1.a), .d (cS y10.1.b), .d (cI y10.1.start), .d (cI y10.1.units), .d (cI y10.1.call), .d (cI y10.1.part), .d (cB y10.1.last), .d (cI y10.1.trunk), .d (cB y10.1.inbound)]], [⟨5, 1, ((([] : List UInt8) ++ y3.1) ++ ([0] : List UInt8)).length, none⟩]⟩) rfl ?_
            refine .q (q_assign rfl) rfl ?_
            refine .nil ?_
            refine .seq ?_
            refine .region ?_
            refine .q (q_move rfl) rfl ?_
            refine .q (q_neq rfl rfl) rfl ?_
            refine .nil ?_
            refine .cond rfl (fun hc => ?_) (fun hc => ?_)
            · replace H := ifT hc H; clear hc
              refine .seq ?_
              refine .region ?_
              refine .q (q_assign rfl) rfl ?_
              refine .nil ?_
              refine .retN [.tmp 6] [.d (cB false)] Tryd.func7 Tryd.results7 ⟨rfl, trivial⟩ ?_
              cases H
              exact ⟨_, .rfl' _, rfl⟩
            · replace H := ifF hc H; clear hc
              refine .skip ?_
              exact .to 1 0 (env' := [(1, .d (slOf 1 rB8 v1))]) (st' := ⟨[.row 34 [.d (cI v0.source), .d (cI v0.serial), .d (cI v0.kind), .d (cS v0.a), .d (cS v0.b), .d (cI v0.start), .d (cI v0.units), .d (cI v0.call), .d (cI v0.part), .d (cB v0.last), .d (cI v0.trunk), .d (cB v0.inbound)]], []⟩) (.cons rfl (.rfl' _) (.nil)) rfl rfl rfl rfl rfl (by rw [hS]; exact Nat.le_of_ble_eq_true rfl) (by rw [hS]; exact Nat.le_of_ble_eq_true rfl) <| .sub (.cons rfl (.rfl' _) (.nil)) (hj1 () H)
          · replace H := ifF hc H; clear hc
            refine .skip ?_
            exact .to 1 0 (env' := [(1, .d (slOf 1 rB8 v1))]) (st' := ⟨[.row 34 [.d (cI v0.source), .d (cI v0.serial), .d (cI v0.kind), .d (cS v0.a), .d (cS v0.b), .d (cI v0.start), .d (cI v0.units), .d (cI v0.call), .d (cI v0.part), .d (cB v0.last), .d (cI v0.trunk), .d (cB v0.inbound)]], []⟩) (.cons rfl (.rfl' _) (.nil)) rfl rfl rfl rfl rfl (by rw [hS]; exact Nat.le_of_ble_eq_true rfl) (by rw [hS]; exact Nat.le_of_ble_eq_true rfl) <| .sub (.cons rfl (.rfl' _) (.nil)) (hj1 () H)
      · replace H := ifF hc H; clear hc
        refine .skip ?_
        exact .sub (.cons rfl (.rfl' _) (.nil)) (hj1 () H)

set_option maxRecDepth 100000 in
set_option maxHeartbeats 1000000 in
theorem c_f_tagged_All {v0b : List UInt8} {r : (List Record) × (List Reject) × Int} (H : f_tagged_All v0b = some r) : ACall Tryd.prog 21 [slOf 1 rB8 v0b] (· = .tup [slOf 12 Record.row r.1, slOf 4 Reject.row r.2.1, cI r.2.2]) := by
  obtain ⟨i5, hi5, hz5, hs5, hb5⟩ := in_5
  obtain ⟨i34, hi34, hz34, hs34, hb34⟩ := in_34
  obtain ⟨i66, hi66, hz66, hs66, hb66⟩ := in_66
  refine ACall.enter' Tryd.func21 rfl Tryd.ntmps21 rfl fun S hS => ?_
  unfold f_tagged_All at H
  change ARun _ _ _ _ _ _ [(0, .d (slOf 1 rB8 v0b))] _
  refine .seq ?_
  refine .region ?_
  refine .q (q_assign rfl) rfl ?_
  refine .q (q_assign rfl) rfl ?_
  refine .q (q_assign rfl) rfl ?_
  refine .nil ?_
  refine .seq ?_
  refine .region ?_
  refine .q (q_assign rfl) rfl ?_
  refine .nil ?_
  refine .seq ?_
  refine .region ?_
  refine .q (q_assign rfl) rfl ?_
  refine .nil ?_
  refine .seq ?_
  refine .seq ?_
  refine .region ?_
  refine .q (q_assign rfl) rfl ?_
  refine .nil ?_
  refine .tok (i := 5) (e := 34) (sz := 12) rfl ?_
  refine .withSt (st' := ⟨[], [⟨34, 12, ([] : List Record).length, none⟩]⟩) rfl ?_
  refine .tok (i := 6) (e := 66) (sz := 4) rfl ?_
  refine .withSt (st' := ⟨[], [⟨34, 12, ([] : List Record).length, none⟩, ⟨66, 4, ([] : List Reject).length, none⟩]⟩) rfl ?_
  refine .blockJoin2 (ι := List Record × List Reject) (fun s => [(5, .tsl 12 (s.1.map Record.row) 0), (6, .tsl 4 (s.2.map Reject.row) 1)]) (fun s => ⟨[], [⟨34, 12, s.1.length, none⟩, ⟨66, 4, s.2.length, none⟩]⟩) (fun s => f_tagged_All_j1 s.1 s.2 = some r) ?_ ?_
  · rintro ⟨v5outj1, v6noj1⟩ H
    replace H : f_tagged_All_j1 v5outj1 v6noj1 = some r := H
    unfold f_tagged_All_j1 at H
    change ARun _ _ _ _ _ _ [(5, .tsl 12 (v5outj1.map Record.row) 0), (6, .tsl 4 (v6noj1.map Reject.row) 1)] ⟨[], [⟨34, 12, v5outj1.length, none⟩, ⟨66, 4, v6noj1.length, none⟩]⟩
    refine .seq ?_
    refine .region ?_
    refine .q (q_move rfl) rfl ?_
    refine .q (q_move rfl) rfl ?_
    refine .q (q_assign rfl) rfl ?_
    refine .q (q_assign rfl) rfl ?_
    refine .q (q_assign rfl) rfl ?_
    refine .nil ?_
    refine .retN [.tmp 2, .tmp 3, .tmp 4] [.tsl 12 (v5outj1.map Record.row) 0, .tsl 4 (v6noj1.map Reject.row) 1, .d (cI 0)] Tryd.func21 Tryd.results21 ⟨rfl, rfl, rfl, trivial⟩ ?_
    cases H
    exact ⟨_, EVle.tupL (ds := [slOf 12 Record.row v5outj1, slOf 4 Reject.row v6noj1, cI 0]) ⟨.tsl _ _ _, .tsl _ _ _, .rfl' _, trivial⟩, rfl⟩
  · intro hj1 hj1x
    obtain ⟨n1, H⟩ := loop_some H
    refine .withSt (st' := ⟨[], [⟨34, 12, ([] : List Record).length, none⟩, ⟨66, 4, ([] : List Reject).length, none⟩]⟩) rfl <| .loop (ι := Nat × (List UInt8 × List Record × List Reject × Int)) (fun p => [(0, .d (slOf 1 rB8 p.2.1)), (5, .tsl 12 (p.2.2.1.map Record.row) 0), (6, .tsl 4 (p.2.2.2.1.map Reject.row) 1), (7, .d (cI p.2.2.2.2))]) (fun p => ⟨[], [⟨34, 12, p.2.2.1.length, none⟩, ⟨66, 4, p.2.2.2.1.length, none⟩]⟩) (fun p => iter (fun s => f_tagged_All_l1 s.1 s.2.1 s.2.2.1 s.2.2.2) p.1 p.2 = some r) (·.1) (n1, (v0b, ([] : List Record), ([] : List Reject), 0)) H (.cons rfl (.rfl' _) (.cons rfl (.rfl' _) (.cons rfl (.rfl' _) (.cons rfl (.rfl' _) (.nil))))) rfl ?_
    rintro ⟨m1, v0bl1, v5outl1, v6nol1, v7il1⟩ HI ih1
    obtain ⟨n1, q1, hm1, H, HK1⟩ := iter_succ HI
    clear HI
    replace H : f_tagged_All_l1 v0bl1 v5outl1 v6nol1 v7il1 = some q1 := H
    unfold f_tagged_All_l1 at H
    change ARun _ _ _ _ _ _ [(0, .d (slOf 1 rB8 v0bl1)), (5, .tsl 12 (v5outl1.map Record.row) 0), (6, .tsl 4 (v6nol1.map Reject.row) 1), (7, .d (cI v7il1))] ⟨[], [⟨34, 12, v5outl1.length, none⟩, ⟨66, 4, v6nol1.length, none⟩]⟩
    refine .seq ?_
    refine .seq ?_
    refine .region ?_
    refine .q (q_move rfl) rfl ?_
    refine .q (q_lenL (l := v0bl1) (row := rB8) Tryd.underlying25 rfl rfl) rfl ?_
    refine .q (q_gtr rfl rfl) rfl ?_
    refine .nil ?_
    refine .cond rfl (fun hc => ?_) (fun hc => ?_)
    · replace H := ifT hc H; clear hc
      refine .skip ?_
      refine .seq ?_
      refine .block ?_
      refine .seq ?_
      refine .seq ?_
      refine .region ?_
      refine .q (q_move rfl) rfl ?_
      refine .q (q_eql rfl rfl) rfl ?_
      refine .nil ?_
      refine .cond rfl (fun hc => ?_) (fun hc => ?_)
      · replace H := ifT hc H; clear hc
        refine .seq ?_
        refine .region ?_
        refine .q (q_assign rfl) rfl ?_
        refine .q (q_assign rfl) rfl ?_
        refine .q (q_assign rfl) rfl ?_
        refine .nil ?_
        refine .retN [.tmp 2, .tmp 3, .tmp 4] [.d (nilD), .d (nilD), .d (cI 5)] Tryd.func21 Tryd.results21 ⟨rfl, rfl, rfl, trivial⟩ ?_
        cases H
        cases HK1
        exact ⟨_, EVle.tupL (ds := [slOf 12 Record.row ([] : List Record), slOf 4 Reject.row ([] : List Reject), cI 5]) ⟨.nil 12, .nil 4, .rfl' _, trivial⟩, rfl⟩
      · replace H := ifF hc H; clear hc
        refine .skip ?_
        refine .seq ?_
        refine .region ?_
        refine .q (q_move rfl) rfl ?_
        obtain ⟨y1, hy1, H⟩ := bind_some' H
        refine .g (x := .d (.tup [cI y1.1, cI y1.2])) (g_call en_35 rfl rfl (c_f_tagged_size (hy1))) rfl ?_
        refine .q (q_move rfl) rfl ?_
        refine .q (q_extract rfl rfl) rfl ?_
        refine .q (q_extract rfl rfl) rfl ?_
        refine .q (q_assign rfl) rfl ?_
        refine .q (q_assign rfl) rfl ?_
        refine .nil ?_
        refine .seq ?_
        refine .seq ?_
        refine .region ?_
        refine .q (q_move rfl) rfl ?_
        refine .q (q_neq rfl rfl) rfl ?_
        refine .nil ?_
        refine .cond rfl (fun hc => ?_) (fun hc => ?_)
        · replace H := ifT hc H; clear hc
          refine .seq ?_
          refine .region ?_
          refine .q (q_move rfl) rfl ?_
          refine .q (q_assign rfl) rfl ?_
          refine .q (q_assign rfl) rfl ?_
          refine .q (q_assign rfl) rfl ?_
          refine .nil ?_
          refine .retN [.tmp 2, .tmp 3, .tmp 4] [.d (nilD), .d (nilD), .d (cI y1.2)] Tryd.func21 Tryd.results21 ⟨rfl, rfl, rfl, trivial⟩ ?_
          cases H
          cases HK1
          exact ⟨_, EVle.tupL (ds := [slOf 12 Record.row ([] : List Record), slOf 4 Reject.row ([] : List Reject), cI y1.2]) ⟨.nil 12, .nil 4, .rfl' _, trivial⟩, rfl⟩
        · replace H := ifF hc H; clear hc
          refine .skip ?_
          refine .seq ?_
          refine .region ?_
          refine .q (q_move rfl) rfl ?_
          refine .q (q_move rfl) rfl ?_
          obtain ⟨hk1, H⟩ := ck_some H
          refine .q (x := .d (slOf 1 rB8 (v0bl1.take (Int.toNat (y1.1))))) (q_slHL (l := v0bl1) (row := rB8) Tryd.underlying25 hi5 hs5 rfl rfl rfl hk1) rfl ?_
          obtain ⟨y2, hy2, H⟩ := bind_some' H
          refine .g (x := .d (.tup [.agg (Record.row y2.1), cI y2.2])) (g_call en_19 rfl rfl (c_f_tagged_Decode (hy2))) rfl ?_
          refine .q (q_move rfl) rfl ?_
          refine .q (q_extract rfl rfl) rfl ?_
          refine .q (q_extract rfl rfl) rfl ?_
          refine .v (x := .ref 0 0) (v_alloc zr_34 rfl) rfl ?_
          refine .withSt (st' := ⟨[.row 34 [.d (cI 0), .d (cI 0), .d (cI 0), .d (cS ([] : List UInt8)), .d (cS ([] : List UInt8)), .d (cI 0), .d (cI 0), .d (cI 0), .d (cI 0), .d (cB false), .d (cI 0), .d (cB false)]], [⟨34, 12, v5outl1.length, none⟩, ⟨66, 4, v6nol1.length, none⟩]⟩) rfl ?_
          refine .u (u_store rfl rfl rfl rfl (Nat.le_of_ble_eq_true rfl) sz_34) rfl ?_
          refine .withSt (st' := ⟨[.row 34 [.d (cI y2.1.source), .d (cI y2.1.serial), .d (cI y2.1.kind), .d (cS y2.1.a), .d (cS y2.1.b), .d (cI y2.1.start), .d (cI y2.1.units), .d (cI y2.1.call), .d (cI y2.1.part), .d (cB y2.1.last), .d (cI y2.1.trunk), .d (cB y2.1.inbound)]], [⟨34, 12, v5outl1.length, none⟩, ⟨66, 4, v6nol1.length, none⟩]⟩) rfl ?_
          refine .q (q_assign rfl) rfl ?_
          refine .nil ?_
          refine .seqJoin (ι := List Record × List Reject) (fun s => [(0, .d (slOf 1 rB8 v0bl1)), (5, .tsl 12 (s.1.map Record.row) 0), (6, .tsl 4 (s.2.map Reject.row) 1), (7, .d (cI v7il1)), (8, .d (cI y1.1))]) (fun s => ⟨[.row 34 [.d (cI y2.1.source), .d (cI y2.1.serial), .d (cI y2.1.kind), .d (cS y2.1.a), .d (cS y2.1.b), .d (cI y2.1.start), .d (cI y2.1.units), .d (cI y2.1.call), .d (cI y2.1.part), .d (cB y2.1.last), .d (cI y2.1.trunk), .d (cB y2.1.inbound)]], [⟨34, 12, s.1.length, none⟩, ⟨66, 4, s.2.length, none⟩]⟩) (fun s => f_tagged_All_j2 v0bl1 v7il1 y1 s.1 s.2 = some q1) ?_ ?_
          · rintro ⟨v5outj2, v6noj2⟩ H
            replace H : f_tagged_All_j2 v0bl1 v7il1 y1 v5outj2 v6noj2 = some q1 := H
            unfold f_tagged_All_j2 at H
            change ARun _ _ _ _ _ _ [(0, .d (slOf 1 rB8 v0bl1)), (5, .tsl 12 (v5outj2.map Record.row) 0), (6, .tsl 4 (v6noj2.map Reject.row) 1), (7, .d (cI v7il1)), (8, .d (cI y1.1))] ⟨[.row 34 [.d (cI y2.1.source), .d (cI y2.1.serial), .d (cI y2.1.kind), .d (cS y2.1.a), .d (cS y2.1.b), .d (cI y2.1.start), .d (cI y2.1.units), .d (cI y2.1.call), .d (cI y2.1.part), .d (cB y2.1.last), .d (cI y2.1.trunk), .d (cB y2.1.inbound)]], [⟨34, 12, v5outj2.length, none⟩, ⟨66, 4, v6noj2.length, none⟩]⟩
            refine .region ?_
            refine .q (q_move rfl) rfl ?_
            refine .q (q_move rfl) rfl ?_
            obtain ⟨hk2, H⟩ := ck_some H
            refine .q (x := .d (slOf 1 rB8 (v0bl1.drop (Int.toNat (y1.1))))) (q_slLL (l := v0bl1) (row := rB8) Tryd.underlying25 hi5 hs5 rfl rfl rfl hk2) rfl ?_
            refine .q (q_assign rfl) rfl ?_
            refine .nil ?_
            refine .inBlock ?_
            refine .region ?_
            refine .q (q_move rfl) rfl ?_
            obtain ⟨hk3, H⟩ := ck_some H
            refine .q (q_addI rfl rfl hk3.1 hk3.2) rfl ?_
            refine .q (q_assign rfl) rfl ?_
            refine .nil ?_
            cases H
            exact .to 0 2 (env' := [(0, .d (slOf 1 rB8 (v0bl1.drop (Int.toNat (y1.1))))), (5, .tsl 12 (v5outj2.map Record.row) 0), (6, .tsl 4 (v6noj2.map Reject.row) 1), (7, .d (cI (v7il1 + 1)))]) (st' := ⟨[], [⟨34, 12, v5outj2.length, none⟩, ⟨66, 4, v6noj2.length, none⟩]⟩) (.cons rfl (.rfl' _) (.cons rfl (.rfl' _) (.cons rfl (.rfl' _) (.cons rfl (.rfl' _) (.nil))))) rfl rfl rfl rfl rfl (by rw [hS]; exact Nat.le_of_ble_eq_true rfl) (by rw [hS]; exact Nat.le_of_ble_eq_true rfl) <| .sub (.cons rfl (.rfl' _) (.cons rfl (.rfl' _) (.cons rfl (.rfl' _) (.cons rfl (.rfl' _) (.nil))))) (ih1 (n1, (v0bl1.drop (Int.toNat (y1.1)), v5outj2, v6noj2, v7il1 + 1)) HK1 hm1)
          · intro hj2
            refine .seq ?_
            refine .region ?_
            refine .q (q_move rfl) rfl ?_
            refine .q (q_neq rfl rfl) rfl ?_
            refine .nil ?_
            refine .cond rfl (fun hc => ?_) (fun hc => ?_)
            · replace H := ifT hc H; clear hc
              refine .region ?_
              refine .q (q_move rfl) rfl ?_
              refine .q (q_move rfl) rfl ?_
              refine .q (q_move rfl) rfl ?_
              refine .q (x := .d (.agg (Reject.row (⟨0, 0, v7il1, y2.2⟩ : Reject)))) (q_buildP pl_66 hi66 hz66 rfl rfl) rfl ?_
              refine .g (x := .d (slOf 4 Reject.row ([(⟨0, 0, v7il1, y2.2⟩ : Reject)] : List Reject))) (g_buildSlice1 Tryd.underlying41 hi66 hs66 hz66 rfl rfl rfl rfl rfl) rfl ?_
              obtain ⟨hk4, H⟩ := ck_some H
              refine .v (x := .tsl 4 ((v6nol1 ++ ([(⟨0, 0, v7il1, y2.2⟩ : Reject)] : List Reject)).map Reject.row) 1) (v_appendL (l := v6nol1) (l' := ([(⟨0, 0, v7il1, y2.2⟩ : Reject)] : List Reject)) (row := Reject.row) Tryd.underlying41 hi66 hz66 hs66 rfl (by rw [hb66]; decide) rfl rfl rfl rfl hk4) rfl ?_
              refine .withSt (st' := ⟨[.row 34 [.d (cI y2.1.source), .d (cI y2.1.serial), .d (cI y2.1.kind), .d (cS y2.1.a), .d (cS y2.1.b), .d (cI y2.1.start), .d (cI y2.1.units), .d (cI y2.1.call), .d (cI y2.1.part), .d (cB y2.1.last), .d (cI y2.1.trunk), .d (cB y2.1.inbound)]], [⟨34, 12, v5outl1.length, none⟩, ⟨66, 4, (v6nol1 ++ ([(⟨0, 0, v7il1, y2.2⟩ : Reject)] : List Reject)).length, none⟩]⟩) rfl ?_
              refine .q (q_assign rfl) rfl ?_
              refine .nil ?_
              exact .withSt (st' := ⟨[.row 34 [.d (cI y2.1.source), .d (cI y2.1.serial), .d (cI y2.1.kind), .d (cS y2.1.a), .d (cS y2.1.b), .d (cI y2.1.start), .d (cI y2.1.units), .d (cI y2.1.call), .d (cI y2.1.part), .d (cB y2.1.last), .d (cI y2.1.trunk), .d (cB y2.1.inbound)]], [⟨34, 12, v5outl1.length, none⟩, ⟨66, 4, (v6nol1 ++ ([(⟨0, 0, v7il1, y2.2⟩ : Reject)] : List Reject)).length, none⟩]⟩) rfl <| .sub (.cons rfl (.rfl' _) (.cons rfl (.rfl' _) (.cons rfl (.rfl' _) (.cons rfl (.rfl' _) (.cons rfl (.rfl' _) (.nil)))))) (hj2 (v5outl1, v6nol1 ++ ([(⟨0, 0, v7il1, y2.2⟩ : Reject)] : List Reject)) H)
            · replace H := ifF hc H; clear hc
              refine .region ?_
              refine .q (q_move rfl) rfl ?_
              refine .q (x := .d (.agg (Record.row y2.1))) (q_loadOA one_34 sz_34 rfl rfl (Nat.le_of_ble_eq_true rfl) rfl) rfl ?_
              refine .g (x := .d (slOf 12 Record.row ([y2.1] : List Record))) (g_buildSlice1 Tryd.underlying40 hi34 hs34 hz34 rfl rfl rfl rfl rfl) rfl ?_
              obtain ⟨hk5, H⟩ := ck_some H
              refine .v (x := .tsl 12 ((v5outl1 ++ ([y2.1] : List Record)).map Record.row) 0) (v_appendL (l := v5outl1) (l' := ([y2.1] : List Record)) (row := Record.row) Tryd.underlying40 hi34 hz34 hs34 rfl (by rw [hb34]; decide) rfl rfl rfl rfl hk5) rfl ?_
              refine .withSt (st' := ⟨[.row 34 [.d (cI y2.1.source), .d (cI y2.1.serial), .d (cI y2.1.kind), .d (cS y2.1.a), .d (cS y2.1.b), .d (cI y2.1.start), .d (cI y2.1.units), .d (cI y2.1.call), .d (cI y2.1.part), .d (cB y2.1.last), .d (cI y2.1.trunk), .d (cB y2.1.inbound)]], [⟨34, 12, (v5outl1 ++ ([y2.1] : List Record)).length, none⟩, ⟨66, 4, v6nol1.length, none⟩]⟩) rfl ?_
              refine .q (q_assign rfl) rfl ?_
              refine .nil ?_
              exact .withSt (st' := ⟨[.row 34 [.d (cI y2.1.source), .d (cI y2.1.serial), .d (cI y2.1.kind), .d (cS y2.1.a), .d (cS y2.1.b), .d (cI y2.1.start), .d (cI y2.1.units), .d (cI y2.1.call), .d (cI y2.1.part), .d (cB y2.1.last), .d (cI y2.1.trunk), .d (cB y2.1.inbound)]], [⟨34, 12, (v5outl1 ++ ([y2.1] : List Record)).length, none⟩, ⟨66, 4, v6nol1.length, none⟩]⟩) rfl <| .sub (.cons rfl (.rfl' _) (.cons rfl (.rfl' _) (.cons rfl (.rfl' _) (.cons rfl (.rfl' _) (.cons rfl (.rfl' _) (.nil)))))) (hj2 (v5outl1 ++ ([y2.1] : List Record), v6nol1) H)
    · replace H := ifF hc H; clear hc
      refine .exit rfl ?_
      obtain ⟨q0, H9, hq0⟩ := map_some' H; clear H; cases hq0
      cases HK1
      have H := H9
      exact .withSt (st' := ⟨[], [⟨34, 12, v5outl1.length, none⟩, ⟨66, 4, v6nol1.length, none⟩]⟩) rfl <| .sub (.cons rfl (.rfl' _) (.cons rfl (.rfl' _) (.nil))) (hj1x (v5outl1, v6nol1) H)

set_option maxRecDepth 100000 in
set_option maxHeartbeats 1000000 in
theorem c_f_billingref10_All {v0 : List UInt8} {r : (List Record) × (List Reject) × Int} (H : f_billingref10_All v0 = some r) : ACall Tryd.prog 22 [slOf 1 rB8 v0] (· = .tup [slOf 12 Record.row r.1, slOf 4 Reject.row r.2.1, cI r.2.2]) := by
  obtain ⟨i5, hi5, hz5, hs5, hb5⟩ := in_5
  obtain ⟨i34, hi34, hz34, hs34, hb34⟩ := in_34
  obtain ⟨i66, hi66, hz66, hs66, hb66⟩ := in_66
  refine ACall.enter' Tryd.func22 rfl Tryd.ntmps22 rfl fun S hS => ?_
  unfold f_billingref10_All at H
  change ARun _ _ _ _ _ _ [(0, .d (slOf 1 rB8 v0))] _
  refine .seq ?_
  refine .region ?_
  refine .q (q_assign rfl) rfl ?_
  refine .q (q_assign rfl) rfl ?_
  refine .q (q_assign rfl) rfl ?_
  refine .nil ?_
  refine .seq ?_
  refine .region ?_
  refine .q (q_assign rfl) rfl ?_
  refine .nil ?_
  refine .seq ?_
  refine .region ?_
  refine .q (q_assign rfl) rfl ?_
  refine .nil ?_
  refine .seq ?_
  refine .region ?_
  refine .q (q_assign rfl) rfl ?_
  refine .nil ?_
  refine .seq ?_
  refine .seq ?_
  refine .region ?_
  refine .q (q_assign rfl) rfl ?_
  refine .nil ?_
  refine .tok (i := 5) (e := 34) (sz := 12) rfl ?_
  refine .withSt (st' := ⟨[], [⟨34, 12, ([] : List Record).length, none⟩]⟩) rfl ?_
  refine .tok (i := 6) (e := 66) (sz := 4) rfl ?_
  refine .withSt (st' := ⟨[], [⟨34, 12, ([] : List Record).length, none⟩, ⟨66, 4, ([] : List Reject).length, none⟩]⟩) rfl ?_
  refine .blockJoin2 (ι := List Record × List Reject) (fun s => [(5, .tsl 12 (s.1.map Record.row) 0), (6, .tsl 4 (s.2.map Reject.row) 1)]) (fun s => ⟨[], [⟨34, 12, s.1.length, none⟩, ⟨66, 4, s.2.length, none⟩]⟩) (fun s => f_billingref10_All_j1 s.1 s.2 = some r) ?_ ?_
  · rintro ⟨v5j1, v6j1⟩ H
    replace H : f_billingref10_All_j1 v5j1 v6j1 = some r := H
    unfold f_billingref10_All_j1 at H
    change ARun _ _ _ _ _ _ [(5, .tsl 12 (v5j1.map Record.row) 0), (6, .tsl 4 (v6j1.map Reject.row) 1)] ⟨[], [⟨34, 12, v5j1.length, none⟩, ⟨66, 4, v6j1.length, none⟩]⟩
    refine .seq ?_
    refine .region ?_
    refine .q (q_move rfl) rfl ?_
    refine .q (q_move rfl) rfl ?_
    refine .q (q_assign rfl) rfl ?_
    refine .q (q_assign rfl) rfl ?_
    refine .q (q_assign rfl) rfl ?_
    refine .nil ?_
    refine .retN [.tmp 2, .tmp 3, .tmp 4] [.tsl 12 (v5j1.map Record.row) 0, .tsl 4 (v6j1.map Reject.row) 1, .d (cI 0)] Tryd.func22 Tryd.results22 ⟨rfl, rfl, rfl, trivial⟩ ?_
    cases H
    exact ⟨_, EVle.tupL (ds := [slOf 12 Record.row v5j1, slOf 4 Reject.row v6j1, cI 0]) ⟨.tsl _ _ _, .tsl _ _ _, .rfl' _, trivial⟩, rfl⟩
  · intro hj1 hj1x
    obtain ⟨n1, H⟩ := loop_some H
    refine .withSt (st' := ⟨[], [⟨34, 12, ([] : List Record).length, none⟩, ⟨66, 4, ([] : List Reject).length, none⟩]⟩) rfl <| .loop (ι := Nat × (List Record × List Reject × Int × Int)) (fun p => [(0, .d (slOf 1 rB8 v0)), (5, .tsl 12 (p.2.1.map Record.row) 0), (6, .tsl 4 (p.2.2.1.map Reject.row) 1), (7, .d (cI p.2.2.2.1)), (8, .d (cI p.2.2.2.2))]) (fun p => ⟨[], [⟨34, 12, p.2.1.length, none⟩, ⟨66, 4, p.2.2.1.length, none⟩]⟩) (fun p => iter (fun s => f_billingref10_All_l1 v0 s.1 s.2.1 s.2.2.1 s.2.2.2) p.1 p.2 = some r) (·.1) (n1, (([] : List Record), ([] : List Reject), 0, 0)) H (.cons rfl (.rfl' _) (.cons rfl (.rfl' _) (.cons rfl (.rfl' _) (.cons rfl (.rfl' _) (.cons rfl (.rfl' _) (.nil)))))) rfl ?_
    rintro ⟨m1, v5l1, v6l1, v7l1, v8l1⟩ HI ih1
    obtain ⟨n1, q1, hm1, H, HK1⟩ := iter_succ HI
    clear HI
    replace H : f_billingref10_All_l1 v0 v5l1 v6l1 v7l1 v8l1 = some q1 := H
    unfold f_billingref10_All_l1 at H
    change ARun _ _ _ _ _ _ [(0, .d (slOf 1 rB8 v0)), (5, .tsl 12 (v5l1.map Record.row) 0), (6, .tsl 4 (v6l1.map Reject.row) 1), (7, .d (cI v7l1)), (8, .d (cI v8l1))] ⟨[], [⟨34, 12, v5l1.length, none⟩, ⟨66, 4, v6l1.length, none⟩]⟩
    refine .seq ?_
    refine .seq ?_
    refine .region ?_
    refine .q (q_move rfl) rfl ?_
    refine .q (q_move rfl) rfl ?_
    refine .q (q_lenL (l := v0) (row := rB8) Tryd.underlying25 rfl rfl) rfl ?_
    refine .q (q_lss rfl rfl) rfl ?_
    refine .nil ?_
    refine .cond rfl (fun hc => ?_) (fun hc => ?_)
    · replace H := ifT hc H; clear hc
      refine .skip ?_
      refine .seq ?_
      refine .block ?_
      refine .seq ?_
      refine .seq ?_
      refine .region ?_
      refine .q (q_move rfl) rfl ?_
      refine .q (q_eql rfl rfl) rfl ?_
      refine .nil ?_
      refine .cond rfl (fun hc => ?_) (fun hc => ?_)
      · replace H := ifT hc H; clear hc
        refine .seq ?_
        refine .region ?_
        refine .q (q_assign rfl) rfl ?_
        refine .q (q_assign rfl) rfl ?_
        refine .q (q_assign rfl) rfl ?_
        refine .nil ?_
        refine .retN [.tmp 2, .tmp 3, .tmp 4] [.d (nilD), .d (nilD), .d (cI 5)] Tryd.func22 Tryd.results22 ⟨rfl, rfl, rfl, trivial⟩ ?_
        cases H
        cases HK1
        exact ⟨_, EVle.tupL (ds := [slOf 12 Record.row ([] : List Record), slOf 4 Reject.row ([] : List Reject), cI 5]) ⟨.nil 12, .nil 4, .rfl' _, trivial⟩, rfl⟩
      · replace H := ifF hc H; clear hc
        refine .skip ?_
        refine .seq ?_
        refine .seq ?_
        refine .drawn 26 hMix (by kernel_rfl) ?_
        show DOps _ _ _ _ _ _ _ (_ :: _) _ _ _
        refine .q (q_move rfl) rfl ?_
        obtain ⟨hk1, H⟩ := ck_some H
        refine .q (q_addI rfl rfl hk1.1 hk1.2) rfl ?_
        refine .q (q_move rfl) rfl ?_
        refine .q (q_lenL (l := v0) (row := rB8) Tryd.underlying25 rfl rfl) rfl ?_
        refine .q (q_gtr rfl rfl) rfl ?_
        refine .q (q_move rfl) rfl ?_
        refine .guardG (env' := [(7, _)]) rfl rfl rfl ⟨.inl rfl, trivial⟩ rfl (fun hg => OpQ.g (q_move rfl)) ?_
        obtain ⟨hk2, H⟩ := ck_some H
        refine .guardG (env' := [(26, _)]) rfl rfl rfl ⟨.inr (.inl rfl), trivial⟩ rfl (fun hg => OpQ.g (q_addI rfl rfl (hk2 hg).1 (hk2 hg).2)) ?_
        refine .guardG (env' := [(0, _)]) rfl rfl rfl ⟨.inl rfl, trivial⟩ rfl (fun hg => OpQ.g (q_move rfl)) ?_
        refine .guardG (env' := [(7, _)]) rfl rfl rfl ⟨.inl rfl, trivial⟩ rfl (fun hg => OpQ.g (q_move rfl)) ?_
        obtain ⟨hk3, H⟩ := ck_some H
        refine .guardG (b := (!(decide ((v7l1 + 2) > (v0.length : Int))))) (x := .d (.ro (rB8 (nth v0 (Int.toNat (v7l1)))))) (env' := [(28, _), (29, _)]) rfl rfl rfl ⟨.inr (.inl rfl), ⟨.inr (.inl rfl), trivial⟩⟩ rfl (fun hg => OpQ.g (q_idxL (row := rB8) (l := v0) (i := v7l1) Tryd.underlying25 hi5 hs5 rfl rfl rfl (hk3 hg))) ?_
        refine .guardG (b := (!(decide ((v7l1 + 2) > (v0.length : Int))))) (x := .d (cU8 (nth v0 (Int.toNat (v7l1))))) (env' := [(30, _)]) rfl rfl rfl ⟨.inr (.inl rfl), trivial⟩ rfl (fun hg => OpQ.g (q_load one_5 rfl)) ?_
        refine .guardG (b := (!(decide ((v7l1 + 2) > (v0.length : Int))))) (x := .d (cI ((nth v0 (Int.toNat (v7l1))).toNat : Int))) (env' := [(31, _)]) rfl rfl rfl ⟨.inr (.inl rfl), trivial⟩ rfl (fun hg => OpQ.g (q_conv8i (a := nth v0 (Int.toNat (v7l1))) Tryd.underlying5 Tryd.underlying3 rfl)) ?_
        obtain ⟨hk4, H⟩ := ck_some H
        refine .guardG (env' := [(32, _)]) rfl rfl rfl ⟨.inr (.inl rfl), trivial⟩ rfl (fun hg => OpQ.g (q_mulI rfl rfl (hk4 hg).1 (hk4 hg).2)) ?_
        obtain ⟨hk5, H⟩ := ck_some H
        refine .guardG (env' := [(27, _), (33, _)]) rfl rfl rfl ⟨.inr (.inl rfl), ⟨.inr (.inl rfl), trivial⟩⟩ rfl (fun hg => OpQ.g (q_addI rfl rfl (hk5 hg).1 (hk5 hg).2)) ?_
        refine .guardG (env' := [(0, _)]) rfl rfl rfl ⟨.inl rfl, trivial⟩ rfl (fun hg => OpQ.g (q_move rfl)) ?_
        refine .guardG (env' := [(7, _)]) rfl rfl rfl ⟨.inl rfl, trivial⟩ rfl (fun hg => OpQ.g (q_move rfl)) ?_
        obtain ⟨hk6, H⟩ := ck_some H
        refine .guardG (env' := [(36, _)]) rfl rfl rfl ⟨.inr (.inl rfl), trivial⟩ rfl (fun hg => OpQ.g (q_addI rfl rfl (hk6 hg).1 (hk6 hg).2)) ?_
        obtain ⟨hk7, H⟩ := ck_some H
        refine .guardG (b := (!(decide ((v7l1 + 2) > (v0.length : Int))))) (x := .d (.ro (rB8 (nth v0 (Int.toNat (v7l1 + 1)))))) (env' := [(35, _), (37, _)]) rfl rfl rfl ⟨.inr (.inl rfl), ⟨.inr (.inl rfl), trivial⟩⟩ rfl (fun hg => OpQ.g (q_idxL (row := rB8) (l := v0) (i := v7l1 + 1) Tryd.underlying25 hi5 hs5 rfl rfl rfl (hk7 hg))) ?_
        refine .guardG (b := (!(decide ((v7l1 + 2) > (v0.length : Int))))) (x := .d (cU8 (nth v0 (Int.toNat (v7l1 + 1))))) (env' := [(38, _)]) rfl rfl rfl ⟨.inr (.inl rfl), trivial⟩ rfl (fun hg => OpQ.g (q_load one_5 rfl)) ?_
        refine .guardG (b := (!(decide ((v7l1 + 2) > (v0.length : Int))))) (x := .d (cI ((nth v0 (Int.toNat (v7l1 + 1))).toNat : Int))) (env' := [(39, _)]) rfl rfl rfl ⟨.inr (.inl rfl), trivial⟩ rfl (fun hg => OpQ.g (q_conv8i (a := nth v0 (Int.toNat (v7l1 + 1))) Tryd.underlying5 Tryd.underlying3 rfl)) ?_
        obtain ⟨hk8, H⟩ := ck_some H
        refine .guardG (env' := [(34, _), (40, _)]) rfl rfl rfl ⟨.inr (.inl rfl), ⟨.inr (.inl rfl), trivial⟩⟩ rfl (fun hg => OpQ.g (q_addI rfl rfl (hk8 hg).1 (hk8 hg).2)) ?_
        refine .guardG (env' := [(0, _)]) rfl rfl rfl ⟨.inl rfl, trivial⟩ rfl (fun hg => OpQ.g (q_move rfl)) ?_
        refine .guardG (env' := [(42, _)]) rfl rfl rfl ⟨.inr (.inl rfl), trivial⟩ rfl (fun hg => OpQ.g (q_lenL (l := v0) (row := rB8) Tryd.underlying25 rfl rfl)) ?_
        refine .guardG (env' := [(41, _), (43, _)]) rfl rfl rfl ⟨.inr (.inl rfl), ⟨.inr (.inl rfl), trivial⟩⟩ rfl (fun hg => OpQ.g (q_gtr rfl rfl)) ?_
        refine .q (q_pickOrB rfl rfl rfl) rfl ?_
        refine .nil ?_
        show AOps _ _ _ _ _ _ [] _ _ _
        refine .nil ?_
        refine .cond rfl (fun hc => ?_) (fun hc => ?_)
        · replace H := ifT hc H; clear hc
          refine .seq ?_
          refine .region ?_
          refine .q (q_assign rfl) rfl ?_
          refine .q (q_assign rfl) rfl ?_
          refine .q (q_assign rfl) rfl ?_
          refine .nil ?_
          refine .retN [.tmp 2, .tmp 3, .tmp 4] [.d (nilD), .d (nilD), .d (cI 2)] Tryd.func22 Tryd.results22 ⟨rfl, rfl, rfl, trivial⟩ ?_
          cases H
          cases HK1
          exact ⟨_, EVle.tupL (ds := [slOf 12 Record.row ([] : List Record), slOf 4 Reject.row ([] : List Reject), cI 2]) ⟨.nil 12, .nil 4, .rfl' _, trivial⟩, rfl⟩
        · replace H := ifF hc H; clear hc
          refine .skip ?_
          refine .seq ?_
          refine .drawn 17 hMix (by kernel_rfl) ?_
          show DOps _ _ _ _ _ _ _ (_ :: _) _ _ _
          refine .q (q_move rfl) rfl ?_
          obtain ⟨hk9, H⟩ := ck_some H
          refine .q (q_addI rfl rfl hk9.1 hk9.2) rfl ?_
          refine .q (q_move rfl) rfl ?_
          refine .q (q_move rfl) rfl ?_
          obtain ⟨hk10, H⟩ := ck_some H
          refine .q (x := .d (.ro (rB8 (nth v0 (Int.toNat (v7l1)))))) (q_idxL (row := rB8) (l := v0) (i := v7l1) Tryd.underlying25 hi5 hs5 rfl rfl rfl hk10) rfl ?_
          refine .q (x := .d (cU8 (nth v0 (Int.toNat (v7l1))))) (q_load one_5 rfl) rfl ?_
          refine .q (x := .d (cI ((nth v0 (Int.toNat (v7l1))).toNat : Int))) (q_conv8i (a := nth v0 (Int.toNat (v7l1))) Tryd.underlying5 Tryd.underlying3 rfl) rfl ?_
          obtain ⟨hk11, H⟩ := ck_some H
          refine .q (q_mulI rfl rfl hk11.1 hk11.2) rfl ?_
          obtain ⟨hk12, H⟩ := ck_some H
          refine .q (q_addI rfl rfl hk12.1 hk12.2) rfl ?_
          refine .q (q_move rfl) rfl ?_
          refine .q (q_move rfl) rfl ?_
          obtain ⟨hk13, H⟩ := ck_some H
          refine .q (q_addI rfl rfl hk13.1 hk13.2) rfl ?_
          obtain ⟨hk14, H⟩ := ck_some H
          refine .q (x := .d (.ro (rB8 (nth v0 (Int.toNat (v7l1 + 1)))))) (q_idxL (row := rB8) (l := v0) (i := v7l1 + 1) Tryd.underlying25 hi5 hs5 rfl rfl rfl hk14) rfl ?_
          refine .q (x := .d (cU8 (nth v0 (Int.toNat (v7l1 + 1))))) (q_load one_5 rfl) rfl ?_
          refine .q (x := .d (cI ((nth v0 (Int.toNat (v7l1 + 1))).toNat : Int))) (q_conv8i (a := nth v0 (Int.toNat (v7l1 + 1))) Tryd.underlying5 Tryd.underlying3 rfl) rfl ?_
          obtain ⟨hk15, H⟩ := ck_some H
          refine .q (q_addI rfl rfl hk15.1 hk15.2) rfl ?_
          refine .q (q_assign rfl) rfl ?_
          refine .nil ?_
          show AOps _ _ _ _ _ _ [] _ _ _
          refine .nil ?_
          refine .seqJoin (ι := List Record × List Reject × Int × Int × Int × List UInt8 × List UInt8 × Int × Int × Int × Int × Bool × Int × Bool) (fun s => [(0, .d (slOf 1 rB8 v0)), (5, .tsl 12 (s.1.map Record.row) 0), (6, .tsl 4 (s.2.1.map Reject.row) 1), (8, .d (cI v8l1)), (9, .d (cI (((v7l1 + 2) + (((nth v0 (Int.toNat (v7l1))).toNat : Int) * 256)) + ((nth v0 (Int.toNat (v7l1 + 1))).toNat : Int))))]) (fun s => ⟨[.row 34 [.d (cI s.2.2.1), .d (cI s.2.2.2.1), .d (cI s.2.2.2.2.1), .d (cS s.2.2.2.2.2.1), .d (cS s.2.2.2.2.2.2.1), .d (cI s.2.2.2.2.2.2.2.1), .d (cI s.2.2.2.2.2.2.2.2.1), .d (cI s.2.2.2.2.2.2.2.2.2.1), .d (cI s.2.2.2.2.2.2.2.2.2.2.1), .d (cB s.2.2.2.2.2.2.2.2.2.2.2.1), .d (cI s.2.2.2.2.2.2.2.2.2.2.2.2.1), .d (cB s.2.2.2.2.2.2.2.2.2.2.2.2.2)]], [⟨34, 12, s.1.length, none⟩, ⟨66, 4, s.2.1.length, none⟩]⟩) (fun s => f_billingref10_All_j2 v0 v7l1 v8l1 s.1 s.2.1 s.2.2.1 s.2.2.2.1 s.2.2.2.2.1 s.2.2.2.2.2.1 s.2.2.2.2.2.2.1 s.2.2.2.2.2.2.2.1 s.2.2.2.2.2.2.2.2.1 s.2.2.2.2.2.2.2.2.2.1 s.2.2.2.2.2.2.2.2.2.2.1 s.2.2.2.2.2.2.2.2.2.2.2.1 s.2.2.2.2.2.2.2.2.2.2.2.2.1 s.2.2.2.2.2.2.2.2.2.2.2.2.2 = some q1) ?_ ?_
          · rintro ⟨v5j2, v6j2, o0c0j2, o0c1j2, o0c2j2, o0c3j2, o0c4j2, o0c5j2, o0c6j2, o0c7j2, o0c8j2, o0c9j2, o0c10j2, o0c11j2⟩ H
            replace H : f_billingref10_All_j2 v0 v7l1 v8l1 v5j2 v6j2 o0c0j2 o0c1j2 o0c2j2 o0c3j2 o0c4j2 o0c5j2 o0c6j2 o0c7j2 o0c8j2 o0c9j2 o0c10j2 o0c11j2 = some q1 := H
            unfold f_billingref10_All_j2 at H
            change ARun _ _ _ _ _ _ [(0, .d (slOf 1 rB8 v0)), (5, .tsl 12 (v5j2.map Record.row) 0), (6, .tsl 4 (v6j2.map Reject.row) 1), (8, .d (cI v8l1)), (9, .d (cI (((v7l1 + 2) + (((nth v0 (Int.toNat (v7l1))).toNat : Int) * 256)) + ((nth v0 (Int.toNat (v7l1 + 1))).toNat : Int))))] ⟨[.row 34 [.d (cI o0c0j2), .d (cI o0c1j2), .d (cI o0c2j2), .d (cS o0c3j2), .d (cS o0c4j2), .d (cI o0c5j2), .d (cI o0c6j2), .d (cI o0c7j2), .d (cI o0c8j2), .d (cB o0c9j2), .d (cI o0c10j2), .d (cB o0c11j2)]], [⟨34, 12, v5j2.length, none⟩, ⟨66, 4, v6j2.length, none⟩]⟩
            refine .region ?_
            refine .q (q_move rfl) rfl ?_
            refine .q (q_assign rfl) rfl ?_
            refine .nil ?_
            refine .inBlock ?_
            refine .region ?_
            refine .q (q_move rfl) rfl ?_
            obtain ⟨hk16, H⟩ := ck_some H
            refine .q (q_addI rfl rfl hk16.1 hk16.2) rfl ?_
            refine .q (q_assign rfl) rfl ?_
            refine .nil ?_
            cases H
            exact .to 0 2 (env' := [(0, .d (slOf 1 rB8 v0)), (5, .tsl 12 (v5j2.map Record.row) 0), (6, .tsl 4 (v6j2.map Reject.row) 1), (7, .d (cI (((v7l1 + 2) + (((nth v0 (Int.toNat (v7l1))).toNat : Int) * 256)) + ((nth v0 (Int.toNat (v7l1 + 1))).toNat : Int)))), (8, .d (cI (v8l1 + 1)))]) (st' := ⟨[], [⟨34, 12, v5j2.length, none⟩, ⟨66, 4, v6j2.length, none⟩]⟩) (.cons rfl (.rfl' _) (.cons rfl (.rfl' _) (.cons rfl (.rfl' _) (.cons rfl (.rfl' _) (.cons rfl (.rfl' _) (.nil)))))) rfl rfl rfl rfl rfl (by rw [hS]; exact Nat.le_of_ble_eq_true rfl) (by rw [hS]; exact Nat.le_of_ble_eq_true rfl) <| .sub (.cons rfl (.rfl' _) (.cons rfl (.rfl' _) (.cons rfl (.rfl' _) (.cons rfl (.rfl' _) (.cons rfl (.rfl' _) (.nil)))))) (ih1 (n1, (v5j2, v6j2, ((v7l1 + 2) + (((nth v0 (Int.toNat (v7l1))).toNat : Int) * 256)) + ((nth v0 (Int.toNat (v7l1 + 1))).toNat : Int), v8l1 + 1)) HK1 hm1)
          · intro hj2
            refine .seq ?_
            refine .region ?_
            refine .q (q_move rfl) rfl ?_
            refine .q (q_move rfl) rfl ?_
            refine .q (q_move rfl) rfl ?_
            obtain ⟨hk17, H⟩ := ck_some H
            refine .q (x := .d (slOf 1 rB8 ((v0.take (Int.toNat (((v7l1 + 2) + (((nth v0 (Int.toNat (v7l1))).toNat : Int) * 256)) + ((nth v0 (Int.toNat (v7l1 + 1))).toNat : Int)))).drop (Int.toNat (v7l1))))) (q_slLHL (l := v0) (row := rB8) Tryd.underlying25 hi5 hs5 rfl rfl rfl rfl hk17) rfl ?_
            obtain ⟨y1, hy1, H⟩ := bind_some' H
            refine .g (x := .d (.tup [.agg (Record.row y1.1), cI y1.2])) (g_call en_20 rfl rfl (c_f_billingref10_Decode (hy1))) rfl ?_
            refine .q (q_move rfl) rfl ?_
            refine .q (q_extract rfl rfl) rfl ?_
            refine .q (q_extract rfl rfl) rfl ?_
            refine .v (x := .ref 0 0) (v_alloc zr_34 rfl) rfl ?_
            refine .withSt (st' := ⟨[.row 34 [.d (cI 0), .d (cI 0), .d (cI 0), .d (cS ([] : List UInt8)), .d (cS ([] : List UInt8)), .d (cI 0), .d (cI 0), .d (cI 0), .d (cI 0), .d (cB false), .d (cI 0), .d (cB false)]], [⟨34, 12, v5l1.length, none⟩, ⟨66, 4, v6l1.length, none⟩]⟩) rfl ?_
            refine .u (u_store rfl rfl rfl rfl (Nat.le_of_ble_eq_true rfl) sz_34) rfl ?_
            refine .withSt (st' := ⟨[.row 34 [.d (cI y1.1.source), .d (cI y1.1.serial), .d (cI y1.1.kind), .d (cS y1.1.a), .d (cS y1.1.b), .d (cI y1.1.start), .d (cI y1.1.units), .d (cI y1.1.call), .d (cI y1.1.part), .d (cB y1.1.last), .d (cI y1.1.trunk), .d (cB y1.1.inbound)]], [⟨34, 12, v5l1.length, none⟩, ⟨66, 4, v6l1.length, none⟩]⟩) rfl ?_
            refine .q (q_assign rfl) rfl ?_
            refine .nil ?_
            refine .seq ?_
            refine .region ?_
            refine .q (q_move rfl) rfl ?_
            refine .q (q_eql rfl rfl) rfl ?_
            refine .nil ?_
            refine .cond rfl (fun hc => ?_) (fun hc => ?_)
            · replace H := ifT hc H; clear hc
              refine .region ?_
              refine .q (q_move rfl) rfl ?_
              refine .q (x := .d (.agg (Record.row y1.1))) (q_loadOA one_34 sz_34 rfl rfl (Nat.le_of_ble_eq_true rfl) rfl) rfl ?_
              refine .g (x := .d (slOf 12 Record.row ([y1.1] : List Record))) (g_buildSlice1 Tryd.underlying40 hi34 hs34 hz34 rfl rfl rfl rfl rfl) rfl ?_
              obtain ⟨hk18, H⟩ := ck_some H
              refine .v (x := .tsl 12 ((v5l1 ++ ([y1.1] : List Record)).map Record.row) 0) (v_appendL (l := v5l1) (l' := ([y1.1] : List Record)) (row := Record.row) Tryd.underlying40 hi34 hz34 hs34 rfl (by rw [hb34]; decide) rfl rfl rfl rfl hk18) rfl ?_
              refine .withSt (st' := ⟨[.row 34 [.d (cI y1.1.source), .d (cI y1.1.serial), .d (cI y1.1.kind), .d (cS y1.1.a), .d (cS y1.1.b), .d (cI y1.1.start), .d (cI y1.1.units), .d (cI y1.1.call), .d (cI y1.1.part), .d (cB y1.1.last), .d (cI y1.1.trunk), .d (cB y1.1.inbound)]], [⟨34, 12, (v5l1 ++ ([y1.1] : List Record)).length, none⟩, ⟨66, 4, v6l1.length, none⟩]⟩) rfl ?_
              refine .q (q_assign rfl) rfl ?_
              refine .nil ?_
              exact .withSt (st' := ⟨[.row 34 [.d (cI y1.1.source), .d (cI y1.1.serial), .d (cI y1.1.kind), .d (cS y1.1.a), .d (cS y1.1.b), .d (cI y1.1.start), .d (cI y1.1.units), .d (cI y1.1.call), .d (cI y1.1.part), .d (cB y1.1.last), .d (cI y1.1.trunk), .d (cB y1.1.inbound)]], [⟨34, 12, (v5l1 ++ ([y1.1] : List Record)).length, none⟩, ⟨66, 4, v6l1.length, none⟩]⟩) rfl <| .sub (.cons rfl (.rfl' _) (.cons rfl (.rfl' _) (.cons rfl (.rfl' _) (.cons rfl (.rfl' _) (.cons rfl (.rfl' _) (.nil)))))) (hj2 (v5l1 ++ ([y1.1] : List Record), v6l1, y1.1.source, y1.1.serial, y1.1.kind, y1.1.a, y1.1.b, y1.1.start, y1.1.units, y1.1.call, y1.1.part, y1.1.last, y1.1.trunk, y1.1.inbound) H)
            · replace H := ifF hc H; clear hc
              refine .region ?_
              refine .q (q_move rfl) rfl ?_
              refine .q (q_move rfl) rfl ?_
              refine .q (q_move rfl) rfl ?_
              refine .q (x := .d (.agg (Reject.row (⟨0, 0, v8l1, y1.2⟩ : Reject)))) (q_buildP pl_66 hi66 hz66 rfl rfl) rfl ?_
              refine .g (x := .d (slOf 4 Reject.row ([(⟨0, 0, v8l1, y1.2⟩ : Reject)] : List Reject))) (g_buildSlice1 Tryd.underlying41 hi66 hs66 hz66 rfl rfl rfl rfl rfl) rfl ?_
              obtain ⟨hk19, H⟩ := ck_some H
              refine .v (x := .tsl 4 ((v6l1 ++ ([(⟨0, 0, v8l1, y1.2⟩ : Reject)] : List Reject)).map Reject.row) 1) (v_appendL (l := v6l1) (l' := ([(⟨0, 0, v8l1, y1.2⟩ : Reject)] : List Reject)) (row := Reject.row) Tryd.underlying41 hi66 hz66 hs66 rfl (by rw [hb66]; decide) rfl rfl rfl rfl hk19) rfl ?_
              refine .withSt (st' := ⟨[.row 34 [.d (cI y1.1.source), .d (cI y1.1.serial), .d (cI y1.1.kind), .d (cS y1.1.a), .d (cS y1.1.b), .d (cI y1.1.start), .d (cI y1.1.units), .d (cI y1.1.call), .d (cI y1.1.part), .d (cB y1.1.last), .d (cI y1.1.trunk), .d (cB y1.1.inbound)]], [⟨34, 12, v5l1.length, none⟩, ⟨66, 4, (v6l1 ++ ([(⟨0, 0, v8l1, y1.2⟩ : Reject)] : List Reject)).length, none⟩]⟩) rfl ?_
              refine .q (q_assign rfl) rfl ?_
              refine .nil ?_
              exact .withSt (st' := ⟨[.row 34 [.d (cI y1.1.source), .d (cI y1.1.serial), .d (cI y1.1.kind), .d (cS y1.1.a), .d (cS y1.1.b), .d (cI y1.1.start), .d (cI y1.1.units), .d (cI y1.1.call), .d (cI y1.1.part), .d (cB y1.1.last), .d (cI y1.1.trunk), .d (cB y1.1.inbound)]], [⟨34, 12, v5l1.length, none⟩, ⟨66, 4, (v6l1 ++ ([(⟨0, 0, v8l1, y1.2⟩ : Reject)] : List Reject)).length, none⟩]⟩) rfl <| .sub (.cons rfl (.rfl' _) (.cons rfl (.rfl' _) (.cons rfl (.rfl' _) (.cons rfl (.rfl' _) (.cons rfl (.rfl' _) (.nil)))))) (hj2 (v5l1, v6l1 ++ ([(⟨0, 0, v8l1, y1.2⟩ : Reject)] : List Reject), y1.1.source, y1.1.serial, y1.1.kind, y1.1.a, y1.1.b, y1.1.start, y1.1.units, y1.1.call, y1.1.part, y1.1.last, y1.1.trunk, y1.1.inbound) H)
    · replace H := ifF hc H; clear hc
      refine .exit rfl ?_
      obtain ⟨q0, H9, hq0⟩ := map_some' H; clear H; cases hq0
      cases HK1
      have H := H9
      exact .withSt (st' := ⟨[], [⟨34, 12, v5l1.length, none⟩, ⟨66, 4, v6l1.length, none⟩]⟩) rfl <| .sub (.cons rfl (.rfl' _) (.cons rfl (.rfl' _) (.nil))) (hj1x (v5l1, v6l1) H)

set_option maxRecDepth 100000 in
set_option maxHeartbeats 1000000 in
theorem c_f_billingref09_Same {v0a : List Record} {v1b : List Record} {r : Bool} (H : f_billingref09_Same v0a v1b = some r) : ACall Tryd.prog 23 [slOf 12 Record.row v0a, slOf 12 Record.row v1b] (· = cB r) := by
  obtain ⟨i34, hi34, hz34, hs34, hb34⟩ := in_34
  refine ACall.enter' Tryd.func23 rfl Tryd.ntmps23 rfl fun S hS => ?_
  unfold f_billingref09_Same at H
  change ARun _ _ _ _ _ _ [(0, .d (slOf 12 Record.row v0a)), (1, .d (slOf 12 Record.row v1b))] _
  refine .seq ?_
  refine .region ?_
  refine .q (q_assign rfl) rfl ?_
  refine .nil ?_
  refine .seq ?_
  refine .seq ?_
  refine .region ?_
  refine .q (q_move rfl) rfl ?_
  refine .q (q_lenL (l := v0a) (row := Record.row) Tryd.underlying40 rfl rfl) rfl ?_
  refine .q (q_move rfl) rfl ?_
  refine .q (q_lenL (l := v1b) (row := Record.row) Tryd.underlying40 rfl rfl) rfl ?_
  refine .q (q_neq rfl rfl) rfl ?_
  refine .nil ?_
  refine .cond rfl (fun hc => ?_) (fun hc => ?_)
  · replace H := ifT hc H; clear hc
    refine .seq ?_
    refine .region ?_
    refine .q (q_assign rfl) rfl ?_
    refine .nil ?_
    refine .retN [.tmp 4] [.d (cB false)] Tryd.func23 Tryd.results23 ⟨rfl, trivial⟩ ?_
    cases H
    exact ⟨_, .rfl' _, rfl⟩
  · replace H := ifF hc H; clear hc
    refine .skip ?_
    refine .seq ?_
    refine .seq ?_
    refine .region ?_
    refine .q (q_assign rfl) rfl ?_
    refine .nil ?_
    refine .block ?_
    obtain ⟨n1, H⟩ := loop_some H
    refine .loop (ι := Nat × (Int)) (fun p => [(0, .d (slOf 12 Record.row v0a)), (1, .d (slOf 12 Record.row v1b)), (5, .d (cI p.2))]) (fun p => ⟨[], []⟩) (fun p => iter (fun s => f_billingref09_Same_l1 v0a v1b s) p.1 p.2 = some r) (·.1) (n1, 0) H (.cons rfl (.rfl' _) (.cons rfl (.rfl' _) (.cons rfl (.rfl' _) (.nil)))) rfl ?_
    rintro ⟨m1, v5il1⟩ HI ih1
    obtain ⟨n1, q1, hm1, H, HK1⟩ := iter_succ HI
    clear HI
    replace H : f_billingref09_Same_l1 v0a v1b v5il1 = some q1 := H
    unfold f_billingref09_Same_l1 at H
    change ARun _ _ _ _ _ _ [(0, .d (slOf 12 Record.row v0a)), (1, .d (slOf 12 Record.row v1b)), (5, .d (cI v5il1))] ⟨[], []⟩
    refine .seq ?_
    refine .seq ?_
    refine .region ?_
    refine .q (q_move rfl) rfl ?_
    refine .q (q_move rfl) rfl ?_
    refine .q (q_lenL (l := v0a) (row := Record.row) Tryd.underlying40 rfl rfl) rfl ?_
    refine .q (q_lss rfl rfl) rfl ?_
    refine .nil ?_
    refine .cond rfl (fun hc => ?_) (fun hc => ?_)
    · replace H := ifT hc H; clear hc
      refine .skip ?_
      refine .seq ?_
      refine .block ?_
      refine .seq ?_
      refine .drawn 9 hMix (by kernel_rfl) ?_
      show DOps _ _ _ _ _ _ _ (_ :: _) _ _ _
      refine .q (q_move rfl) rfl ?_
      refine .q (q_move rfl) rfl ?_
      obtain ⟨hk1, H⟩ := ck_some H
      refine .q (x := .d (.ro (Record.row (nth v0a (Int.toNat (v5il1)))))) (q_idxL (row := Record.row) (l := v0a) (i := v5il1) Tryd.underlying40 hi34 hs34 rfl rfl rfl hk1) rfl ?_
      refine .q (x := .d (.agg (Record.row (nth v0a (Int.toNat (v5il1)))))) (q_loadAll one_34 sz_34 rfl rfl) rfl ?_
      refine .q (q_move rfl) rfl ?_
      refine .q (q_move rfl) rfl ?_
      obtain ⟨hk2, H⟩ := ck_some H
      refine .q (x := .d (.ro (Record.row (nth v1b (Int.toNat (v5il1)))))) (q_idxL (row := Record.row) (l := v1b) (i := v5il1) Tryd.underlying40 hi34 hs34 rfl rfl rfl hk2) rfl ?_
      refine .q (x := .d (.agg (Record.row (nth v1b (Int.toNat (v5il1)))))) (q_loadAll one_34 sz_34 rfl rfl) rfl ?_
      refine .q (x := .d (cB (!(eqVs (Record.vals (nth v0a (Int.toNat (v5il1)))) (Record.vals (nth v1b (Int.toNat (v5il1)))))))) (q_stneq fk_34 rfl rfl (xs := Record.vals (nth v0a (Int.toNat (v5il1)))) (ys := Record.vals (nth v1b (Int.toNat (v5il1)))) rfl rfl rfl rfl) rfl ?_
      refine .nil ?_
      show AOps _ _ _ _ _ _ [] _ _ _
      refine .nil ?_
      refine .cond rfl (fun hc => ?_) (fun hc => ?_)
      · replace H := ifT hc H; clear hc
        refine .seq ?_
        refine .region ?_
        refine .q (q_assign rfl) rfl ?_
        refine .nil ?_
        refine .retN [.tmp 4] [.d (cB false)] Tryd.func23 Tryd.results23 ⟨rfl, trivial⟩ ?_
        cases H
        cases HK1
        exact ⟨_, .rfl' _, rfl⟩
      · replace H := ifF hc H; clear hc
        refine .skip ?_
        refine .inBlock ?_
        refine .region ?_
        refine .q (q_move rfl) rfl ?_
        obtain ⟨hk3, H⟩ := ck_some H
        refine .q (q_addI rfl rfl hk3.1 hk3.2) rfl ?_
        refine .q (q_assign rfl) rfl ?_
        refine .nil ?_
        cases H
        exact .sub (.cons rfl (.rfl' _) (.cons rfl (.rfl' _) (.cons rfl (.rfl' _) (.nil)))) (ih1 (n1, (v5il1 + 1)) HK1 hm1)
    · replace H := ifF hc H; clear hc
      refine .exit rfl ?_
      refine .seq ?_
      refine .region ?_
      refine .q (q_assign rfl) rfl ?_
      refine .nil ?_
      refine .retN [.tmp 4] [.d (cB true)] Tryd.func23 Tryd.results23 ⟨rfl, trivial⟩ ?_
      cases H
      cases HK1
      exact ⟨_, .rfl' _, rfl⟩

set_option maxRecDepth 100000 in
set_option maxHeartbeats 1000000 in
theorem c_f_billingref09_SameRejects {v0a : List Reject} {v1b : List Reject} {r : Bool} (H : f_billingref09_SameRejects v0a v1b = some r) : ACall Tryd.prog 24 [slOf 4 Reject.row v0a, slOf 4 Reject.row v1b] (· = cB r) := by
  obtain ⟨i66, hi66, hz66, hs66, hb66⟩ := in_66
  refine ACall.enter' Tryd.func24 rfl Tryd.ntmps24 rfl fun S hS => ?_
  unfold f_billingref09_SameRejects at H
  change ARun _ _ _ _ _ _ [(0, .d (slOf 4 Reject.row v0a)), (1, .d (slOf 4 Reject.row v1b))] _
  refine .seq ?_
  refine .region ?_
  refine .q (q_assign rfl) rfl ?_
  refine .nil ?_
  refine .seq ?_
  refine .seq ?_
  refine .region ?_
  refine .q (q_move rfl) rfl ?_
  refine .q (q_lenL (l := v0a) (row := Reject.row) Tryd.underlying41 rfl rfl) rfl ?_
  refine .q (q_move rfl) rfl ?_
  refine .q (q_lenL (l := v1b) (row := Reject.row) Tryd.underlying41 rfl rfl) rfl ?_
  refine .q (q_neq rfl rfl) rfl ?_
  refine .nil ?_
  refine .cond rfl (fun hc => ?_) (fun hc => ?_)
  · replace H := ifT hc H; clear hc
    refine .seq ?_
    refine .region ?_
    refine .q (q_assign rfl) rfl ?_
    refine .nil ?_
    refine .retN [.tmp 4] [.d (cB false)] Tryd.func24 Tryd.results24 ⟨rfl, trivial⟩ ?_
    cases H
    exact ⟨_, .rfl' _, rfl⟩
  · replace H := ifF hc H; clear hc
    refine .skip ?_
    refine .seq ?_
    refine .seq ?_
    refine .region ?_
    refine .q (q_assign rfl) rfl ?_
    refine .nil ?_
    refine .block ?_
    obtain ⟨n1, H⟩ := loop_some H
    refine .loop (ι := Nat × (Int)) (fun p => [(0, .d (slOf 4 Reject.row v0a)), (1, .d (slOf 4 Reject.row v1b)), (5, .d (cI p.2))]) (fun p => ⟨[], []⟩) (fun p => iter (fun s => f_billingref09_SameRejects_l1 v0a v1b s) p.1 p.2 = some r) (·.1) (n1, 0) H (.cons rfl (.rfl' _) (.cons rfl (.rfl' _) (.cons rfl (.rfl' _) (.nil)))) rfl ?_
    rintro ⟨m1, v5il1⟩ HI ih1
    obtain ⟨n1, q1, hm1, H, HK1⟩ := iter_succ HI
    clear HI
    replace H : f_billingref09_SameRejects_l1 v0a v1b v5il1 = some q1 := H
    unfold f_billingref09_SameRejects_l1 at H
    change ARun _ _ _ _ _ _ [(0, .d (slOf 4 Reject.row v0a)), (1, .d (slOf 4 Reject.row v1b)), (5, .d (cI v5il1))] ⟨[], []⟩
    refine .seq ?_
    refine .seq ?_
    refine .region ?_
    refine .q (q_move rfl) rfl ?_
    refine .q (q_move rfl) rfl ?_
    refine .q (q_lenL (l := v0a) (row := Reject.row) Tryd.underlying41 rfl rfl) rfl ?_
    refine .q (q_lss rfl rfl) rfl ?_
    refine .nil ?_
    refine .cond rfl (fun hc => ?_) (fun hc => ?_)
    · replace H := ifT hc H; clear hc
      refine .skip ?_
      refine .seq ?_
      refine .block ?_
      refine .seq ?_
      refine .drawn 9 hMix (by kernel_rfl) ?_
      show DOps _ _ _ _ _ _ _ (_ :: _) _ _ _
      refine .q (q_move rfl) rfl ?_
      refine .q (q_move rfl) rfl ?_
      obtain ⟨hk1, H⟩ := ck_some H
      refine .q (x := .d (.ro (Reject.row (nth v0a (Int.toNat (v5il1)))))) (q_idxL (row := Reject.row) (l := v0a) (i := v5il1) Tryd.underlying41 hi66 hs66 rfl rfl rfl hk1) rfl ?_
      refine .q (x := .d (.agg (Reject.row (nth v0a (Int.toNat (v5il1)))))) (q_loadAll one_66 sz_66 rfl rfl) rfl ?_
      refine .q (q_move rfl) rfl ?_
      refine .q (q_move rfl) rfl ?_
      obtain ⟨hk2, H⟩ := ck_some H
      refine .q (x := .d (.ro (Reject.row (nth v1b (Int.toNat (v5il1)))))) (q_idxL (row := Reject.row) (l := v1b) (i := v5il1) Tryd.underlying41 hi66 hs66 rfl rfl rfl hk2) rfl ?_
      refine .q (x := .d (.agg (Reject.row (nth v1b (Int.toNat (v5il1)))))) (q_loadAll one_66 sz_66 rfl rfl) rfl ?_
      refine .q (x := .d (cB (!(eqVs (Reject.vals (nth v0a (Int.toNat (v5il1)))) (Reject.vals (nth v1b (Int.toNat (v5il1)))))))) (q_stneq fk_66 rfl rfl (xs := Reject.vals (nth v0a (Int.toNat (v5il1)))) (ys := Reject.vals (nth v1b (Int.toNat (v5il1)))) rfl rfl rfl rfl) rfl ?_
      refine .nil ?_
      show AOps _ _ _ _ _ _ [] _ _ _
      refine .nil ?_
      refine .cond rfl (fun hc => ?_) (fun hc => ?_)
      · replace H := ifT hc H; clear hc
        refine .seq ?_
        refine .region ?_
        refine .q (q_assign rfl) rfl ?_
        refine .nil ?_
        refine .retN [.tmp 4] [.d (cB false)] Tryd.func24 Tryd.results24 ⟨rfl, trivial⟩ ?_
        cases H
        cases HK1
        exact ⟨_, .rfl' _, rfl⟩
      · replace H := ifF hc H; clear hc
        refine .skip ?_
        refine .inBlock ?_
        refine .region ?_
        refine .q (q_move rfl) rfl ?_
        obtain ⟨hk3, H⟩ := ck_some H
        refine .q (q_addI rfl rfl hk3.1 hk3.2) rfl ?_
        refine .q (q_assign rfl) rfl ?_
        refine .nil ?_
        cases H
        exact .sub (.cons rfl (.rfl' _) (.cons rfl (.rfl' _) (.cons rfl (.rfl' _) (.nil)))) (ih1 (n1, (v5il1 + 1)) HK1 hm1)
    · replace H := ifF hc H; clear hc
      refine .exit rfl ?_
      refine .seq ?_
      refine .region ?_
      refine .q (q_assign rfl) rfl ?_
      refine .nil ?_
      refine .retN [.tmp 4] [.d (cB true)] Tryd.func24 Tryd.results24 ⟨rfl, trivial⟩ ?_
      cases H
      cases HK1
      exact ⟨_, .rfl' _, rfl⟩

set_option maxRecDepth 100000 in
set_option maxHeartbeats 1000000 in
theorem c_f_billinglaw10_TaggedAll {v0b : List UInt8} {r : Bool} (H : f_billinglaw10_TaggedAll v0b = some r) : ACall Tryd.prog 8 [slOf 1 rB8 v0b] (· = cB r) := by
  refine ACall.enter' Tryd.func8 rfl Tryd.ntmps8 rfl fun S hS => ?_
  unfold f_billinglaw10_TaggedAll at H
  change ARun _ _ _ _ _ _ [(0, .d (slOf 1 rB8 v0b))] _
  refine .seq ?_
  refine .region ?_
  refine .q (q_assign rfl) rfl ?_
  refine .nil ?_
  refine .seq ?_
  refine .seq ?_
  refine .region ?_
  refine .q (q_move rfl) rfl ?_
  refine .q (q_lenL (l := v0b) (row := rB8) Tryd.underlying25 rfl rfl) rfl ?_
  refine .q (q_gtr rfl rfl) rfl ?_
  refine .nil ?_
  refine .cond rfl (fun hc => ?_) (fun hc => ?_)
  · replace H := ifT hc H; clear hc
    refine .seq ?_
    refine .region ?_
    obtain ⟨y1, hy1, H⟩ := bind_some' H
    refine .g (x := .d (cB y1)) (g_call en_10 rfl rfl (c_f_billinglaw10_awake (hy1))) rfl ?_
    refine .q (q_assign rfl) rfl ?_
    refine .nil ?_
    refine .retN [.tmp 2] [.d (cB y1)] Tryd.func8 Tryd.results8 ⟨rfl, trivial⟩ ?_
    cases H
    exact ⟨_, .rfl' _, rfl⟩
  · replace H := ifF hc H; clear hc
    refine .skip ?_
    refine .seq ?_
    refine .region ?_
    refine .q (q_move rfl) rfl ?_
    obtain ⟨y2, hy2, H⟩ := bind_some' H
    refine .g (x := .d (.tup [slOf 12 Record.row y2.1, slOf 4 Reject.row y2.2.1, cI y2.2.2])) (g_call en_21 rfl rfl (c_f_tagged_All (hy2))) rfl ?_
    refine .q (q_move rfl) rfl ?_
    refine .q (q_extract rfl rfl) rfl ?_
    refine .q (q_extract rfl rfl) rfl ?_
    refine .q (q_extract rfl rfl) rfl ?_
    refine .q (q_assign rfl) rfl ?_
    refine .q (q_assign rfl) rfl ?_
    refine .q (q_assign rfl) rfl ?_
    refine .nil ?_
    refine .seq ?_
    refine .region ?_
    refine .q (q_move rfl) rfl ?_
    obtain ⟨y3, hy3, H⟩ := bind_some' H
    refine .g (x := .d (.tup [slOf 12 Record.row y3.1, slOf 4 Reject.row y3.2.1, cI y3.2.2])) (g_call en_22 rfl rfl (c_f_billingref10_All (hy3))) rfl ?_
    refine .q (q_move rfl) rfl ?_
    refine .q (q_extract rfl rfl) rfl ?_
    refine .q (q_extract rfl rfl) rfl ?_
    refine .q (q_extract rfl rfl) rfl ?_
    refine .q (q_assign rfl) rfl ?_
    refine .q (q_assign rfl) rfl ?_
    refine .q (q_assign rfl) rfl ?_
    refine .nil ?_
    refine .seq ?_
    refine .region ?_
    refine .q (q_move rfl) rfl ?_
    refine .q (q_move rfl) rfl ?_
    obtain ⟨y4, hy4, H⟩ := bind_some' H
    refine .g (x := .d (cB y4)) (g_call en_23 rfl rfl (c_f_billingref09_Same (hy4))) rfl ?_
    refine .q (q_move rfl) rfl ?_
    refine .guardG (env' := [(4, _)]) rfl rfl rfl ⟨.inl rfl, trivial⟩ rfl (fun hg => OpQ.g (q_move rfl)) ?_
    refine .guardG (env' := [(7, _)]) rfl rfl rfl ⟨.inl rfl, trivial⟩ rfl (fun hg => OpQ.g (q_move rfl)) ?_
    obtain ⟨y5, hy5, H⟩ := bind_some' H
    refine .guardG (b := y4) (x := .d (cB y5)) (env' := [(29, _), (30, _)]) rfl rfl rfl ⟨.inr (.inl rfl), ⟨.inr (.inl rfl), trivial⟩⟩ rfl (fun hg => (g_call en_24 rfl rfl (c_f_billingref09_SameRejects (gcall_some hy5 hg)))) ?_
    refine .q (q_pickAndB rfl rfl rfl) rfl ?_
    refine .q (q_move rfl) rfl ?_
    refine .guardG (env' := [(5, _)]) rfl rfl rfl ⟨.inl rfl, trivial⟩ rfl (fun hg => OpQ.g (q_move rfl)) ?_
    refine .guardG (env' := [(8, _)]) rfl rfl rfl ⟨.inl rfl, trivial⟩ rfl (fun hg => OpQ.g (q_move rfl)) ?_
    refine .guardG (env' := [(34, _), (35, _)]) rfl rfl rfl ⟨.inr (.inl rfl), ⟨.inr (.inl rfl), trivial⟩⟩ rfl (fun hg => OpQ.g (q_eql rfl rfl)) ?_
    refine .q (q_pickAndB rfl rfl rfl) rfl ?_
    refine .q (q_move rfl) rfl ?_
    obtain ⟨y6, hy6, H⟩ := bind_some' H
    refine .guardG (b := ((y4 && y5) && (y2.2.2 == y3.2.2))) (x := .d (cB y6)) (env' := []) rfl rfl rfl trivial rfl (fun hg => (g_call en_10 rfl rfl (c_f_billinglaw10_awake (gcall_some hy6 hg)))) ?_
    refine .q (q_pickAndB rfl rfl rfl) rfl ?_
    refine .q (q_assign rfl) rfl ?_
    refine .nil ?_
    refine .retN [.tmp 2] [.d (cB (((y4 && y5) && (y2.2.2 == y3.2.2)) && y6))] Tryd.func8 Tryd.results8 ⟨rfl, trivial⟩ ?_
    cases H
    exact ⟨_, .rfl' _, rfl⟩

end Go.Proofs.YtmdpmallgcekgaaDoor

set_option linter.unusedSimpArgs false
set_option linter.unusedVariables false
namespace Go.Proofs.YtmdpmallgcekgaaDoor
open Go.RowKit Go.Abs
theorem gcall_mk {α : Type} [Inhabited α] {b : Bool} {x : α} : gcall b (some x) = some (if b = true then x else default) := by
  unfold gcall; split <;> rfl
theorem loop_count {R : Type} {step : Int → Option (Int ⊕ R)} (n : Nat) (hn : n < 18446744073709551616) (Q : R → Prop) (h : ∀ i, 0 ≤ i → i ≤ (n : Int) → (∃ r, step i = some (.inr r) ∧ Q r) ∨ (step i = some (.inl (i + 1)) ∧ i < (n : Int))) : ∃ r, loop step 0 = some r ∧ Q r := by
  refine loop_post Q (fun i : Int => 0 ≤ i ∧ i ≤ (n : Int)) (fun i => ((n : Int) - i).toNat) (fun i hI => ?_) ⟨by omega, by omega⟩ (by omega)
  rcases h i hI.1 hI.2 with h | ⟨h1, h2⟩
  · exact .inl h
  · exact .inr ⟨i + 1, h1, ⟨by omega, by omega⟩, by omega⟩
/-- A loop over a list that stops at the first element that is not as wanted. -/
theorem loop_all {α R : Type} [Inhabited α] {step : Int → Option (Int ⊕ R)} (l : List α) (p : α → Bool) (fin bad : R) (hl : l.length < 18446744073709551616)
    (h1 : ∀ i : Int, 0 ≤ i → i < (l.length : Int) → step i = some (if p (nth l i.toNat) = true then .inl (i + 1) else .inr bad)) (h2 : ∀ i : Int, i = (l.length : Int) → step i = some (.inr fin)) : loop step 0 = some (if l.all p = true then fin else bad) := by
  have := loop_spec (step := step) (fun i : Int => some (if (l.drop i.toNat).all p = true then fin else bad)) (fun i => 0 ≤ i ∧ i ≤ (l.length : Int)) (fun i => ((l.length : Int) - i).toNat) (fun i hI => by
    by_cases hi : i < (l.length : Int)
    · have hd := drop_nth (l := l) (k := i.toNat) (by omega)
      rw [h1 i hI.1 hi]
      by_cases hp : p (nth l i.toNat) = true
      · rw [if_pos hp]
        refine .inr ⟨i + 1, rfl, ⟨by omega, by omega⟩, by omega, ?_⟩
        rw [show (i + 1).toNat = i.toNat + 1 from by omega, hd]
        simp [hp]
      · rw [if_neg hp]
        refine .inl ⟨bad, rfl, ?_⟩
        rw [hd]
        simp [hp]
    · have : i = (l.length : Int) := by omega
      refine .inl ⟨fin, h2 i this, ?_⟩
      rw [List.drop_of_length_le (by omega)]
      simp) (s := 0) ⟨by omega, by omega⟩ (by omega)
  simpa using this

/-! ### numbers -/
def isDig (c : UInt8) : Bool := decide (48 ≤ c) && decide (c ≤ 57)
def validB (s : List UInt8) : Bool := s.all isDig && decide (1 ≤ s.length) && decide (s.length ≤ 15)
theorem p_Valid (s : List UInt8) (hl : s.length < 1000000000) : f_digits_Valid s = some (validB s) := by
  unfold f_digits_Valid
  rw [loop_all s isDig (decide ((s.length : Int) ≥ 1) && decide ((s.length : Int) ≤ 15)) false (by omega) (fun i h0 h1 => ?_) (fun i hi => ?_)]
  · unfold validB
    cases s.all isDig <;> simp
    rw [Bool.eq_iff_iff]; simp; omega
  · unfold f_digits_Valid_l1 f_digits_digit
    rw [if_pos (by simpa using h1), ck_pos (by omega)]
    simp only [Option.bind_some]
    rw [ck_pos (by omega)]
    unfold isDig
    simp only [ge_iff_le]
    cases decide (48 ≤ nth s i.toNat) <;> cases decide (nth s i.toNat ≤ 57) <;> rfl
  · unfold f_digits_Valid_l1 f_digits_Valid_j1
    rw [if_neg (by simp; omega)]
    rfl
theorem p_rValid (s : List UInt8) (hl : s.length < 1000000000) : f_billingref02_Valid s = some (validB s) := by
  unfold f_billingref02_Valid
  rw [loop_all s isDig (decide ((s.length : Int) ≥ 1) && decide ((s.length : Int) ≤ 15)) false (by omega) (fun i h0 h1 => ?_) (fun i hi => ?_)]
  · unfold validB
    cases s.all isDig <;> simp
    rw [Bool.eq_iff_iff]; simp; omega
  · unfold f_billingref02_Valid_l1
    rw [if_pos (by simpa using h1), ck_pos (by omega), ck_pos (by omega), ck_pos (by omega)]
    unfold isDig
    have e1 : decide (nth s i.toNat < 48) = !decide (48 ≤ nth s i.toNat) := by rw [← decide_not]; simp
    have e2 : decide (nth s i.toNat > 57) = !decide (nth s i.toNat ≤ 57) := by rw [← decide_not]; simp
    rw [e1, e2]
    cases decide (48 ≤ nth s i.toNat) <;> cases decide (nth s i.toNat ≤ 57) <;> rfl
  · unfold f_billingref02_Valid_l1 f_billingref02_Valid_j1
    rw [if_neg (by simp; omega)]
    rfl

/-! ### the error of a record -/
def errF (r : Record) : Int :=
  if ¬(1 ≤ r.source ∧ r.source ≤ 99 ∧ 1 ≤ r.serial ∧ r.serial ≤ 999999999) then 6
  else if ¬(1 ≤ r.kind ∧ r.kind ≤ 4) then 7
  else if validB r.a = false ∨ (validB r.b = false ∧ ¬((r.kind = 3 ∨ r.kind = 4) ∧ r.b = [])) then 12
  else if ¬(0 ≤ r.start ∧ r.start ≤ 12622780799) then 15
  else if ¬(0 ≤ r.units ∧ r.units ≤ 1099511627776) ∨ (r.kind = 1 ∧ r.units > 604800) then 6
  else if r.kind = 1 ∧ r.start + r.units > 12622780800 then 15
  else if ¬(0 ≤ r.call ∧ r.call ≤ 999999999 ∧ 0 ≤ r.part ∧ r.part ≤ 99) then 6
  else if ¬(r.part = 0 ↔ r.call = 0) ∨ (r.last = true ∧ r.part = 0) then 8
  else if ¬(0 ≤ r.trunk ∧ r.trunk ≤ 999) then 6
  else if r.inbound = true ∧ r.trunk = 0 then 8
  else 0
theorem ite_same {α : Type} {b : Bool} {p : Prop} [Decidable p] {x y x' y' : α} (h : b = true ↔ p) (hx : p → x = x') (hy : ¬p → y = y') : (if b = true then x else y) = if p then x' else y' := by
  by_cases hp : p
  · rw [if_pos hp, if_pos (h.2 hp), hx hp]
  · rw [if_neg hp, if_neg (fun hb => hp (h.1 hb)), hy hp]
theorem ite_some {α : Type} {p : Prop} [Decidable p] {x y : α} : (if p then some x else some y) = some (if p then x else y) := by split <;> rfl
theorem p_check (r : Record) (ha : r.a.length < 1000000000) (hb : r.b.length < 1000000000) : f_textual_check r = some (errF r) := by
  have key : ∀ m, (m = 1099511627776 ∧ r.kind ≠ 1) ∨ (m = 604800 ∧ r.kind = 1) → f_textual_check_j1 r m = some (errF r) := by
    intro m hm
    unfold f_textual_check_j1 errF
    simp only [f_textual_within, p_Valid _ ha, p_Valid _ hb, Option.bind_some, gcall_mk]
    simp only [← ite_some]
    refine ite_same (by simp; grind) (fun _ => rfl) (fun h1 => ?_)
    refine ite_same (by simp; grind) (fun _ => rfl) (fun h2 => ?_)
    refine ite_same (by simp; grind) (fun _ => rfl) (fun h3 => ?_)
    refine ite_same (by simp; grind) (fun _ => rfl) (fun h4 => ?_)
    refine ite_same (by simp; grind) (fun _ => rfl) (fun h5 => ?_)
    rw [ck_pos (by omega)]
    refine ite_same (by simp) (fun _ => rfl) (fun h6 => ?_)
    refine ite_same (by simp; grind) (fun _ => rfl) (fun h7 => ?_)
    refine ite_same (by simp; grind) (fun _ => rfl) (fun h8 => ?_)
    refine ite_same (by simp; grind) (fun _ => rfl) (fun h9 => ?_)
    refine ite_same (by simp) (fun _ => rfl) (fun h10 => rfl)
  unfold f_textual_check
  split
  · rename_i h
    exact key _ (.inr ⟨rfl, by simpa using h⟩)
  · rename_i h
    exact key _ (.inl ⟨rfl, by simpa using h⟩)
theorem p_rError (r : Record) (ha : r.a.length < 1000000000) (hb : r.b.length < 1000000000) : f_billingref09_Error r = some (errF r) := by
  unfold f_billingref09_Error errF
  simp only [f_billingref09_in, p_rValid _ ha, p_rValid _ hb, Option.bind_some, gcall_mk]
  simp only [← ite_some]
  refine ite_same (by simp; grind) (fun _ => rfl) (fun h1 => ?_)
  refine ite_same (by simp; grind) (fun _ => rfl) (fun h2 => ?_)
  by_cases hva : validB r.a = true
  · rw [if_neg (by simp [hva])]
    refine ite_same (by simp [hva]; grind) (fun _ => rfl) (fun h3 => ?_)
    refine ite_same (by simp; grind) (fun _ => rfl) (fun h4 => ?_)
    refine ite_same (by simp; grind) (fun _ => rfl) (fun h5 => ?_)
    rw [ck_pos (by omega)]
    refine ite_same (by simp) (fun _ => rfl) (fun h6 => ?_)
    refine ite_same (by simp; grind) (fun _ => rfl) (fun h7 => ?_)
    refine ite_same (by simp; grind) (fun _ => rfl) (fun h8 => ?_)
    refine ite_same (by simp; grind) (fun _ => rfl) (fun h9 => ?_)
    refine ite_same (by simp) (fun _ => rfl) (fun h10 => rfl)
  · rw [if_pos (by simp [hva]), if_pos (by simp [hva])]
structure Good (r : Record) : Prop where
  source : 1 ≤ r.source ∧ r.source ≤ 99
  serial : 1 ≤ r.serial ∧ r.serial ≤ 999999999
  kind : 1 ≤ r.kind ∧ r.kind ≤ 4
  a : validB r.a = true
  b : validB r.b = true ∨ (r.kind = 3 ∨ r.kind = 4) ∧ r.b = []
  start : 0 ≤ r.start ∧ r.start ≤ 12622780799
  units : 0 ≤ r.units ∧ r.units ≤ 1099511627776
  call : 0 ≤ r.call ∧ r.call ≤ 999999999
  part : 0 ≤ r.part ∧ r.part ≤ 99
  trunk : 0 ≤ r.trunk ∧ r.trunk ≤ 999
theorem errF_good {r : Record} (h : errF r = 0) : Good r := by
  unfold errF at h
  split at h; · cases h
  split at h; · cases h
  split at h; · cases h
  split at h; · cases h
  split at h; · cases h
  split at h; · cases h
  split at h; · cases h
  split at h; · cases h
  split at h; · cases h
  split at h; · cases h
  rename_i h1 h2 h3 h4 h5 h6 h7 h8 h9 h10
  refine ⟨by omega, by omega, by omega, ?_, ?_, by omega, by omega, by omega, by omega, by omega⟩
  · cases hv : validB r.a with
    | true => rfl
    | false => exact absurd (.inl hv) h3
  · cases hv : validB r.b with
    | true => exact .inl rfl
    | false =>
      right
      by_cases hh : (r.kind = 3 ∨ r.kind = 4) ∧ r.b = []
      · exact hh
      · exact absurd (.inr ⟨hv, hh⟩) h3
theorem validB_len {s : List UInt8} (h : validB s = true) : s.length ≤ 15 := by
  unfold validB at h
  simp at h
  exact h.2
/-- The words of a line. -/
def headF (r : Record) : List (List UInt8) := [(([118, 116, 100, 99] : List UInt8).take r.kind.toNat).drop (r.kind - 1).toNat, Go.Lib.itoa r.source, Go.Lib.itoa r.serial, r.a, if r.b = [] then [45] else r.b, Go.Lib.itoa r.start, Go.Lib.itoa r.units]
def partF (r : Record) : List (List UInt8) := if r.part = 0 then [] else [[112, 97, 114, 116], Go.Lib.itoa r.call, Go.Lib.itoa r.part] ++ if r.last = true then [[108, 97, 115, 116]] else []
def trunkF (r : Record) : List (List UInt8) := if r.trunk = 0 then [] else [if r.inbound = true then [105, 110] else [111, 117, 116], Go.Lib.itoa r.trunk]
def wordsF (r : Record) : List (List UInt8) := headF r ++ partF r ++ trunkF r
def lineF (r : Record) : List UInt8 := Go.Lib.join (wordsF r) [32]
theorem join_len (sep : List UInt8) (xs : List (List UInt8)) (m : Nat) (h : ∀ x, x ∈ xs → x.length ≤ m) : (Go.Lib.join xs sep).length ≤ xs.length * (m + sep.length) := by
  cases xs with
  | nil => simp [Go.Lib.join]
  | cons x r =>
    rw [Go.Lib.join_cons]
    have h1 : ∀ (r : List (List UInt8)), (∀ x, x ∈ r → x.length ≤ m) → (Go.Lib.joinTail sep r).length ≤ r.length * (m + sep.length) := by
      intro r
      induction r with
      | nil => simp [Go.Lib.joinTail]
      | cons y r ih =>
        intro hr
        have := ih fun z hz => hr z (List.mem_cons_of_mem _ hz)
        have h2 := hr y List.mem_cons_self
        simp only [Go.Lib.joinTail, List.map_cons, List.flatten_cons, List.length_append, List.length_cons, Nat.add_mul] at *
        omega
    have h3 := h1 r fun z hz => h z (List.mem_cons_of_mem _ hz)
    have h4 := h x List.mem_cons_self
    simp only [List.length_append, List.length_cons, Nat.add_mul] at *
    omega
theorem itoa_le {n : Int} (h0 : 0 ≤ n) (h1 : n ≤ 9223372036854775807) : (Go.Lib.itoa n).length ≤ 21 := Go.Lib.itoa_length_le n (by omega) h1
theorem words_le {r : Record} (g : Good r) : (wordsF r).length ≤ 13 ∧ ∀ x, x ∈ wordsF r → x.length ≤ 21 := by
  have ha := validB_len g.a
  have hb : r.b.length ≤ 15 := by
    rcases g.b with h | h
    · exact validB_len h
    · rw [h.2]; simp
  obtain ⟨gs, ge, gk, _, _, gst, gu, gc, gp, gt⟩ := g
  refine ⟨?_, fun x hx => ?_⟩
  · have h1 : (partF r).length ≤ 4 := by unfold partF; split; simp; split <;> simp
    have h2 : (trunkF r).length ≤ 2 := by unfold trunkF; split <;> simp
    have h3 : (headF r).length = 7 := rfl
    simp only [wordsF, List.length_append]; omega
  · unfold wordsF at hx
    rcases List.mem_append.1 hx with hx | hx
    · rcases List.mem_append.1 hx with hx | hx
      · unfold headF at hx
        simp only [List.mem_cons, List.not_mem_nil, or_false] at hx
        rcases hx with rfl | rfl | rfl | rfl | rfl | rfl | rfl
        · simp; omega
        · exact itoa_le (by omega) (by omega)
        · exact itoa_le (by omega) (by omega)
        · omega
        · split
          · simp
          · omega
        · exact itoa_le (by omega) (by omega)
        · exact itoa_le (by omega) (by omega)
      · unfold partF at hx
        split at hx
        · cases hx
        · rcases List.mem_append.1 hx with hx | hx
          · simp only [List.mem_cons, List.not_mem_nil, or_false] at hx
            rcases hx with rfl | rfl | rfl
            · simp
            · exact itoa_le (by omega) (by omega)
            · exact itoa_le (by omega) (by omega)
          · split at hx
            · simp only [List.mem_cons, List.not_mem_nil, or_false] at hx
              subst hx; simp
            · cases hx
    · unfold trunkF at hx
      split at hx
      · cases hx
      · simp only [List.mem_cons, List.not_mem_nil, or_false] at hx
        rcases hx with rfl | rfl
        · split <;> simp
        · exact itoa_le (by omega) (by omega)
theorem p_Itoa {n : Int} (h0 : 0 ≤ n) (h1 : n ≤ 9223372036854775807) : x_Itoa n = some (Go.Lib.itoa n) := by
  unfold x_Itoa; rw [ck_pos (by omega)]
theorem p_Encode_ok (r : Record) (h : errF r = 0) : f_textual_Encode r = some (lineF r, 0) := by
  have g := errF_good h
  have ha := validB_len g.a
  have hb : r.b.length ≤ 15 := by
    rcases g.b with h | h
    · exact validB_len h
    · rw [h.2]; simp
  have hj3 : ∀ ws, ws = wordsF r → f_textual_Encode_j3 ws = some (lineF r, 0) := by
    rintro ws rfl
    unfold f_textual_Encode_j3 x_Join
    obtain ⟨w1, w2⟩ := words_le g
    have := join_len [32] (wordsF r) 21 w2
    simp only [List.length_cons, List.length_nil] at this
    have h3 : (wordsF r).length * 22 ≤ 13 * 22 := Nat.mul_le_mul_right _ w1
    rw [ck_pos ⟨by omega, by omega⟩]
    rfl
  have hj2 : ∀ ws, ws = headF r ++ partF r → ws.length ≤ 11 → f_textual_Encode_j2 r ws = some (lineF r, 0) := by
    intro ws hw hl
    unfold f_textual_Encode_j2
    by_cases ht : r.trunk = 0
    · rw [if_neg (by simp [ht])]
      exact hj3 _ (by rw [hw, wordsF, trunkF, if_pos ht]; simp)
    · rw [if_pos (by simp [ht])]
      unfold f_textual_Encode_j4
      rw [p_Itoa g.trunk.1 (by have := g.trunk.2; omega)]
      simp only [Option.bind_some]
      split
      · rename_i hi
        rw [ck_pos (by simp; omega)]
        exact hj3 _ (by rw [hw, wordsF, trunkF, if_neg ht, if_pos hi])
      · rename_i hi
        rw [ck_pos (by simp; omega)]
        exact hj3 _ (by rw [hw, wordsF, trunkF, if_neg ht, if_neg hi])
  have hj1 : ∀ b, b = (if r.b = [] then [45] else r.b) → f_textual_Encode_j1 r b = some (lineF r, 0) := by
    rintro b rfl
    unfold f_textual_Encode_j1
    have gk := g.kind
    rw [ck_pos (by omega), ck_pos (by simp; omega), p_Itoa (by have := g.source; omega) (by have := g.source; omega), p_Itoa (by have := g.serial; omega) (by have := g.serial; omega), p_Itoa g.start.1 (by have := g.start; omega), p_Itoa g.units.1 (by have := g.units; omega)]
    simp only [Option.bind_some]
    by_cases hp : r.part = 0
    · rw [if_neg (by simp [hp])]
      exact hj2 _ (by rw [partF, if_pos hp]; simp [headF]) (by simp)
    · rw [if_pos (by simp [hp]), p_Itoa g.call.1 (by have := g.call; omega), p_Itoa g.part.1 (by have := g.part; omega)]
      simp only [Option.bind_some]
      rw [ck_pos (by simp)]
      split
      · rename_i hl
        rw [ck_pos (by simp)]
        exact hj2 _ (by rw [partF, if_neg hp, if_pos hl]; simp [headF]) (by simp)
      · rename_i hl
        exact hj2 _ (by rw [partF, if_neg hp, if_neg hl]; simp [headF]) (by simp)
  unfold f_textual_Encode
  rw [p_check r (by omega) (by omega), h]
  simp only [Option.bind_some]
  rw [if_neg (by simp)]
  split
  · rename_i hb0
    exact hj1 _ (by rw [if_pos (by simpa using hb0)])
  · rename_i hb0
    exact hj1 _ (by rw [if_neg (by simpa using hb0)])
theorem p_Encode (r : Record) (ha : r.a.length < 1000000000) (hb : r.b.length < 1000000000) : f_textual_Encode r = some (if errF r = 0 then lineF r else [], errF r) := by
  by_cases h : errF r = 0
  · rw [p_Encode_ok r h, if_pos h, h]
  · unfold f_textual_Encode
    rw [p_check r ha hb, if_neg h]
    simp only [Option.bind_some]
    rw [if_pos (by simpa using h)]
end Go.Proofs.YtmdpmallgcekgaaDoor
