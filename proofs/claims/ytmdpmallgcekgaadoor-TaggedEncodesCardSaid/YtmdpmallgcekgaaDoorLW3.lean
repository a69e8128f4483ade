import Derived.Test.YtmdpmallgcekgaaDoorLW2
import Derived.Test.YtmdpmallgcekgaaDoorLF
import Derived.Test.YtmdpmallgcekgaaDoorLX
set_option linter.unusedSimpArgs false
set_option linter.unusedVariables false
namespace Go.Proofs.YtmdpmallgcekgaaDoor
open Go.RowKit Go.Abs
set_option maxRecDepth 100000 in
set_option maxHeartbeats 1000000 in
theorem c_f_billinglaw10_TaggedEncodes {v0r : Record} {r : Bool} (H : f_billinglaw10_TaggedEncodes v0r = some r) : ACall Tryd.prog 5 [.agg (Record.row v0r)] (· = cB r) := by
  refine ACall.enter' Tryd.func5 rfl Tryd.ntmps5 rfl fun S hS => ?_
  unfold f_billinglaw10_TaggedEncodes at H
  change ARun _ _ _ _ _ _ [(0, .d (.agg (Record.row v0r)))] _
  refine .seq ?_
  refine .region ?_
  refine .v (x := .ref 0 0) (v_box rfl rfl) rfl ?_
  refine .withSt (st' := ⟨[.row 34 [.d (cI v0r.source), .d (cI v0r.serial), .d (cI v0r.kind), .d (cS v0r.a), .d (cS v0r.b), .d (cI v0r.start), .d (cI v0r.units), .d (cI v0r.call), .d (cI v0r.part), .d (cB v0r.last), .d (cI v0r.trunk), .d (cB v0r.inbound)]], []⟩) rfl ?_
  refine .q (x := .d (cB false)) (q_assign rfl) rfl ?_
  refine .nil ?_
  refine .seq ?_
  refine .seq ?_
  refine .region ?_
  refine .q (x := .d (.agg (Record.row v0r))) (q_loadOA one_34 sz_34 rfl rfl (Nat.le_of_ble_eq_true rfl) rfl) rfl ?_
  obtain ⟨y1, hy1, H⟩ := bind_some' H
  refine .g (x := .d (cB y1)) (g_call en_16 rfl rfl (c_f_billinglaw10_short (hy1))) rfl ?_
  refine .q (x := .d (cB (!y1))) (q_not rfl) rfl ?_
  refine .nil ?_
  refine .cond rfl (fun hc => ?_) (fun hc => ?_)
  · replace H := ifT hc H; clear hc
    refine .seq ?_
    refine .region ?_
    obtain ⟨y2, hy2, H⟩ := bind_some' H
    refine .g (x := .d (cB y2)) (g_call en_10 rfl rfl (c_f_billinglaw10_awake (hy2))) rfl ?_
    refine .q (x := .d (cB y2)) (q_assign rfl) rfl ?_
    refine .nil ?_
    refine .retN [.tmp 2] [.d (cB y2)] Tryd.func5 Tryd.results5 ⟨rfl, trivial⟩ ?_
    cases H
    exact ⟨_, .rfl' _, rfl⟩
  · replace H := ifF hc H; clear hc
    refine .skip ?_
    refine .seq ?_
    refine .region ?_
    refine .q (x := .d (.agg (Record.row v0r))) (q_loadOA one_34 sz_34 rfl rfl (Nat.le_of_ble_eq_true rfl) rfl) rfl ?_
    obtain ⟨y3, hy3, H⟩ := bind_some' H
    refine .g (x := .d (.tup [slOf 1 rB8 y3.1, cI y3.2])) (g_call en_17 rfl rfl (c_f_tagged_Encode (hy3))) rfl ?_
    refine .q (x := .d (.tup [slOf 1 rB8 y3.1, cI y3.2])) (q_move rfl) rfl ?_
    refine .q (x := .d (slOf 1 rB8 y3.1)) (q_extract rfl rfl) rfl ?_
    refine .q (x := .d (cI y3.2)) (q_extract rfl rfl) rfl ?_
    refine .q (x := .d (slOf 1 rB8 y3.1)) (q_assign rfl) rfl ?_
    refine .q (x := .d (cI y3.2)) (q_assign rfl) rfl ?_
    refine .nil ?_
    refine .seq ?_
    refine .region ?_
    refine .q (x := .d (.agg (Record.row v0r))) (q_loadOA one_34 sz_34 rfl rfl (Nat.le_of_ble_eq_true rfl) rfl) rfl ?_
    obtain ⟨y4, hy4, H⟩ := bind_some' H
    refine .g (x := .d (.tup [slOf 1 rB8 y4.1, cI y4.2])) (g_call en_18 rfl rfl (c_f_billingref10_Encode (hy4))) rfl ?_
    refine .q (x := .d (.tup [slOf 1 rB8 y4.1, cI y4.2])) (q_move rfl) rfl ?_
    refine .q (x := .d (slOf 1 rB8 y4.1)) (q_extract rfl rfl) rfl ?_
    refine .q (x := .d (cI y4.2)) (q_extract rfl rfl) rfl ?_
    refine .q (x := .d (slOf 1 rB8 y4.1)) (q_assign rfl) rfl ?_
    refine .q (x := .d (cI y4.2)) (q_assign rfl) rfl ?_
    refine .nil ?_
    refine .seq ?_
    refine .region ?_
    refine .q (x := .d (slOf 1 rB8 y3.1)) (q_move rfl) rfl ?_
    refine .q (x := .d (cS y3.1)) (q_bytesStrL (a := y3.1) Tryd.underlying25 Tryd.underlying5 Tryd.underlying9 rfl rfl) rfl ?_
    refine .q (x := .d (slOf 1 rB8 y4.1)) (q_move rfl) rfl ?_
    refine .q (x := .d (cS y4.1)) (q_bytesStrL (a := y4.1) Tryd.underlying25 Tryd.underlying5 Tryd.underlying9 rfl rfl) rfl ?_
    refine .q (x := .d (cB (y3.1 == y4.1))) (q_seql rfl rfl) rfl ?_
    refine .q (x := .d (cB (y3.1 == y4.1))) (q_move rfl) rfl ?_
    refine .guardG (b := (y3.1 == y4.1)) (x := .d (cI y3.2)) (env' := [(4, _)]) rfl rfl rfl ⟨.inl rfl, trivial⟩ rfl (fun hg => OpQ.g (q_move rfl)) ?_
    refine .guardG (b := (y3.1 == y4.1)) (x := .d (cI y4.2)) (env' := [(6, _)]) rfl rfl rfl ⟨.inl rfl, trivial⟩ rfl (fun hg => OpQ.g (q_move rfl)) ?_
    refine .guardG (b := (y3.1 == y4.1)) (x := .d (cB (y3.2 == y4.2))) (env' := [(27, _), (28, _)]) rfl rfl rfl ⟨.inr (.inl rfl), ⟨.inr (.inl rfl), trivial⟩⟩ rfl (fun hg => OpQ.g (q_eql rfl rfl)) ?_
    refine .q (x := .d (cB ((y3.1 == y4.1) && (y3.2 == y4.2)))) (q_pickAndB rfl rfl rfl) rfl ?_
    refine .q (x := .d (cB ((y3.1 == y4.1) && (y3.2 == y4.2)))) (q_move rfl) rfl ?_
    obtain ⟨y5, hy5, H⟩ := bind_some' H
    refine .guardG (b := ((y3.1 == y4.1) && (y3.2 == y4.2))) (x := .d (cB y5)) (env' := []) rfl rfl rfl trivial rfl (fun hg => (g_call en_10 rfl rfl (c_f_billinglaw10_awake (gcall_some hy5 hg)))) ?_
    refine .q (x := .d (cB (((y3.1 == y4.1) && (y3.2 == y4.2)) && y5))) (q_pickAndB rfl rfl rfl) rfl ?_
    refine .q (x := .d (cB (((y3.1 == y4.1) && (y3.2 == y4.2)) && y5))) (q_assign rfl) rfl ?_
    refine .nil ?_
    refine .retN [.tmp 2] [.d (cB (((y3.1 == y4.1) && (y3.2 == y4.2)) && y5))] Tryd.func5 Tryd.results5 ⟨rfl, trivial⟩ ?_
    cases H
    exact ⟨_, .rfl' _, rfl⟩

set_option maxRecDepth 100000 in
set_option maxHeartbeats 1000000 in
theorem c_f_tagged_size {v0b : List UInt8} {r : Int × Int} (H : f_tagged_size v0b = some r) : ACall Tryd.prog 35 [slOf 1 rB8 v0b] (· = .tup [cI r.1, cI r.2]) := by
  obtain ⟨i5, hi5, hz5, hs5, hb5⟩ := in_5
  refine ACall.enter' Tryd.func35 rfl Tryd.ntmps35 rfl fun S hS => ?_
  unfold f_tagged_size at H
  change ARun _ _ _ _ _ _ [(0, .d (slOf 1 rB8 v0b))] _
  refine .seq ?_
  refine .region ?_
  refine .q (x := .d (cI 0)) (q_assign rfl) rfl ?_
  refine .q (x := .d (cI 0)) (q_assign rfl) rfl ?_
  refine .nil ?_
  refine .seq ?_
  refine .seq ?_
  refine .region ?_
  refine .q (x := .d (slOf 1 rB8 v0b)) (q_move rfl) rfl ?_
  refine .q (x := .d (cI (v0b.length : Int))) (q_lenL (l := v0b) (row := rB8) Tryd.underlying25 rfl rfl) rfl ?_
  refine .q (x := .d (cB (decide ((v0b.length : Int) < 2)))) (q_lss rfl rfl) rfl ?_
  refine .nil ?_
  refine .cond rfl (fun hc => ?_) (fun hc => ?_)
  · replace H := ifT hc H; clear hc
    refine .seq ?_
    refine .region ?_
    refine .q (x := .d (cI 0)) (q_assign rfl) rfl ?_
    refine .q (x := .d (cI 2)) (q_assign rfl) rfl ?_
    refine .nil ?_
    refine .retN [.tmp 2, .tmp 3] [.d (cI 0), .d (cI 2)] Tryd.func35 Tryd.results35 ⟨rfl, rfl, trivial⟩ ?_
    cases H
    exact ⟨_, EVle.tupL (ds := [cI 0, cI 2]) ⟨.rfl' _, .rfl' _, trivial⟩, rfl⟩
  · replace H := ifF hc H; clear hc
    refine .skip ?_
    refine .seq ?_
    refine .drawn 12 hMix (by kernel_rfl) ?_
    show DOps _ _ _ _ _ _ _ (_ :: _) _ _ _
    refine .q (x := .d (slOf 1 rB8 v0b)) (q_move rfl) rfl ?_
    obtain ⟨hk1, H⟩ := ck_some H
    refine .q (x := .d (.ro (rB8 (nth v0b (Int.toNat (0)))))) (q_idxL (row := rB8) (l := v0b) (i := 0) Tryd.underlying25 hi5 hs5 rfl rfl rfl hk1) rfl ?_
    refine .q (x := .d (cU8 (nth v0b (Int.toNat (0))))) (q_load one_5 rfl) rfl ?_
    refine .q (x := .d (cI ((nth v0b (Int.toNat (0))).toNat : Int))) (q_conv8i (a := nth v0b (Int.toNat (0))) Tryd.underlying5 Tryd.underlying3 rfl) rfl ?_
    obtain ⟨hk2, H⟩ := ck_some H
    refine .q (x := .d (cI (((nth v0b (Int.toNat (0))).toNat : Int) * 2 ^ (Int.toNat (8))))) (q_shlI rfl rfl hk2) rfl ?_
    obtain ⟨hk3, H⟩ := ck_some H
    refine .q (x := .d (cI (2 + (((nth v0b (Int.toNat (0))).toNat : Int) * 2 ^ (Int.toNat (8)))))) (q_addI rfl rfl hk3.1 hk3.2) rfl ?_
    refine .q (x := .d (slOf 1 rB8 v0b)) (q_move rfl) rfl ?_
    obtain ⟨hk4, H⟩ := ck_some H
    refine .q (x := .d (.ro (rB8 (nth v0b (Int.toNat (1)))))) (q_idxL (row := rB8) (l := v0b) (i := 1) Tryd.underlying25 hi5 hs5 rfl rfl rfl hk4) rfl ?_
    refine .q (x := .d (cU8 (nth v0b (Int.toNat (1))))) (q_load one_5 rfl) rfl ?_
    refine .q (x := .d (cI ((nth v0b (Int.toNat (1))).toNat : Int))) (q_conv8i (a := nth v0b (Int.toNat (1))) Tryd.underlying5 Tryd.underlying3 rfl) rfl ?_
    obtain ⟨hk5, H⟩ := ck_some H
    refine .q (x := .d (cI ((2 + (((nth v0b (Int.toNat (0))).toNat : Int) * 2 ^ (Int.toNat (8)))) + ((nth v0b (Int.toNat (1))).toNat : Int)))) (q_addI rfl rfl hk5.1 hk5.2) rfl ?_
    refine .q (x := .d (cI ((2 + (((nth v0b (Int.toNat (0))).toNat : Int) * 2 ^ (Int.toNat (8)))) + ((nth v0b (Int.toNat (1))).toNat : Int)))) (q_assign rfl) rfl ?_
    refine .nil ?_
    show AOps _ _ _ _ _ _ [] _ _ _
    refine .nil ?_
    refine .seq ?_
    refine .seq ?_
    refine .region ?_
    refine .q (x := .d (slOf 1 rB8 v0b)) (q_move rfl) rfl ?_
    refine .q (x := .d (cI (v0b.length : Int))) (q_lenL (l := v0b) (row := rB8) Tryd.underlying25 rfl rfl) rfl ?_
    refine .q (x := .d (cI ((2 + (((nth v0b (Int.toNat (0))).toNat : Int) * 2 ^ (Int.toNat (8)))) + ((nth v0b (Int.toNat (1))).toNat : Int)))) (q_move rfl) rfl ?_
    refine .q (x := .d (cB (decide ((v0b.length : Int) < ((2 + (((nth v0b (Int.toNat (0))).toNat : Int) * 2 ^ (Int.toNat (8)))) + ((nth v0b (Int.toNat (1))).toNat : Int)))))) (q_lss rfl rfl) rfl ?_
    refine .nil ?_
    refine .cond rfl (fun hc => ?_) (fun hc => ?_)
    · replace H := ifT hc H; clear hc
      refine .seq ?_
      refine .region ?_
      refine .q (x := .d (cI 0)) (q_assign rfl) rfl ?_
      refine .q (x := .d (cI 2)) (q_assign rfl) rfl ?_
      refine .nil ?_
      refine .retN [.tmp 2, .tmp 3] [.d (cI 0), .d (cI 2)] Tryd.func35 Tryd.results35 ⟨rfl, rfl, trivial⟩ ?_
      cases H
      exact ⟨_, EVle.tupL (ds := [cI 0, cI 2]) ⟨.rfl' _, .rfl' _, trivial⟩, rfl⟩
    · replace H := ifF hc H; clear hc
      refine .skip ?_
      refine .seq ?_
      refine .region ?_
      refine .q (x := .d (cI ((2 + (((nth v0b (Int.toNat (0))).toNat : Int) * 2 ^ (Int.toNat (8)))) + ((nth v0b (Int.toNat (1))).toNat : Int)))) (q_move rfl) rfl ?_
      refine .q (x := .d (cI ((2 + (((nth v0b (Int.toNat (0))).toNat : Int) * 2 ^ (Int.toNat (8)))) + ((nth v0b (Int.toNat (1))).toNat : Int)))) (q_assign rfl) rfl ?_
      refine .q (x := .d (cI 0)) (q_assign rfl) rfl ?_
      refine .nil ?_
      refine .retN [.tmp 2, .tmp 3] [.d (cI ((2 + (((nth v0b (Int.toNat (0))).toNat : Int) * 2 ^ (Int.toNat (8)))) + ((nth v0b (Int.toNat (1))).toNat : Int))), .d (cI 0)] Tryd.func35 Tryd.results35 ⟨rfl, rfl, trivial⟩ ?_
      cases H
      exact ⟨_, EVle.tupL (ds := [cI ((2 + (((nth v0b (Int.toNat (0))).toNat : Int) * 2 ^ (Int.toNat (8)))) + ((nth v0b (Int.toNat (1))).toNat : Int)), cI 0]) ⟨.rfl' _, .rfl' _, trivial⟩, rfl⟩

set_option maxRecDepth 100000 in
set_option maxHeartbeats 1000000 in
theorem c_f_tagged_number {v0value : List UInt8} {r : Int × Bool} (H : f_tagged_number v0value = some r) : ACall Tryd.prog 44 [slOf 1 rB8 v0value] (· = .tup [cI r.1, cB r.2]) := by
  obtain ⟨i5, hi5, hz5, hs5, hb5⟩ := in_5
  refine ACall.enter' Tryd.func44 rfl Tryd.ntmps44 rfl fun S hS => ?_
  unfold f_tagged_number at H
  change ARun _ _ _ _ _ _ [(0, .d (slOf 1 rB8 v0value))] _
  refine .seq ?_
  refine .region ?_
  refine .q (x := .d (cI 0)) (q_assign rfl) rfl ?_
  refine .q (x := .d (cB false)) (q_assign rfl) rfl ?_
  refine .nil ?_
  refine .seq ?_
  refine .seq ?_
  refine .region ?_
  refine .q (x := .d (slOf 1 rB8 v0value)) (q_move rfl) rfl ?_
  refine .q (x := .d (cI (v0value.length : Int))) (q_lenL (l := v0value) (row := rB8) Tryd.underlying25 rfl rfl) rfl ?_
  refine .q (x := .d (cB (decide ((v0value.length : Int) < 1)))) (q_lss rfl rfl) rfl ?_
  refine .q (x := .d (cB (decide ((v0value.length : Int) < 1)))) (q_move rfl) rfl ?_
  refine .guardG (b := (!(decide ((v0value.length : Int) < 1)))) (x := .d (slOf 1 rB8 v0value)) (env' := [(0, _)]) rfl rfl rfl ⟨.inl rfl, trivial⟩ rfl (fun hg => OpQ.g (q_move rfl)) ?_
  refine .guardG (b := (!(decide ((v0value.length : Int) < 1)))) (x := .d (cI (v0value.length : Int))) (env' := [(11, _)]) rfl rfl rfl ⟨.inr (.inl rfl), trivial⟩ rfl (fun hg => OpQ.g (q_lenL (l := v0value) (row := rB8) Tryd.underlying25 rfl rfl)) ?_
  refine .guardG (b := (!(decide ((v0value.length : Int) < 1)))) (x := .d (cB (decide ((v0value.length : Int) > 6)))) (env' := [(12, _)]) rfl rfl rfl ⟨.inr (.inl rfl), trivial⟩ rfl (fun hg => OpQ.g (q_gtr rfl rfl)) ?_
  refine .q (x := .d (cB ((decide ((v0value.length : Int) < 1)) || (decide ((v0value.length : Int) > 6))))) (q_pickOrB rfl rfl rfl) rfl ?_
  refine .q (x := .d (cB ((decide ((v0value.length : Int) < 1)) || (decide ((v0value.length : Int) > 6))))) (q_move rfl) rfl ?_
  refine .guardG (b := (!((decide ((v0value.length : Int) < 1)) || (decide ((v0value.length : Int) > 6))))) (x := .d (slOf 1 rB8 v0value)) (env' := [(0, _)]) rfl rfl rfl ⟨.inl rfl, trivial⟩ rfl (fun hg => OpQ.g (q_move rfl)) ?_
  obtain ⟨hk1, H⟩ := ck_some H
  refine .guardG (b := (!((decide ((v0value.length : Int) < 1)) || (decide ((v0value.length : Int) > 6))))) (x := .d (.ro (rB8 (nth v0value (Int.toNat (0)))))) (env' := [(16, _)]) rfl rfl rfl ⟨.inr (.inl rfl), trivial⟩ rfl (fun hg => OpQ.g (q_idxL (row := rB8) (l := v0value) (i := 0) Tryd.underlying25 hi5 hs5 rfl rfl rfl (hk1 hg))) ?_
  refine .guardG (b := (!((decide ((v0value.length : Int) < 1)) || (decide ((v0value.length : Int) > 6))))) (x := .d (cU8 (nth v0value (Int.toNat (0))))) (env' := [(17, _)]) rfl rfl rfl ⟨.inr (.inl rfl), trivial⟩ rfl (fun hg => OpQ.g (q_load one_5 rfl)) ?_
  refine .guardG (b := (!((decide ((v0value.length : Int) < 1)) || (decide ((v0value.length : Int) > 6))))) (x := .d (cB ((nth v0value (Int.toNat (0))) == 0))) (env' := [(18, _)]) rfl rfl rfl ⟨.inr (.inl rfl), trivial⟩ rfl (fun hg => OpQ.g (q8_eql (a := nth v0value (Int.toNat (0))) (b := 0) rfl rfl)) ?_
  refine .q (x := .d (cB (((decide ((v0value.length : Int) < 1)) || (decide ((v0value.length : Int) > 6))) || ((nth v0value (Int.toNat (0))) == 0)))) (q_pickOrB rfl rfl rfl) rfl ?_
  refine .nil ?_
  refine .cond rfl (fun hc => ?_) (fun hc => ?_)
  · replace H := ifT hc H; clear hc
    refine .seq ?_
    refine .region ?_
    refine .q (x := .d (cI 0)) (q_assign rfl) rfl ?_
    refine .q (x := .d (cB false)) (q_assign rfl) rfl ?_
    refine .nil ?_
    refine .retN [.tmp 2, .tmp 3] [.d (cI 0), .d (cB false)] Tryd.func44 Tryd.results44 ⟨rfl, rfl, trivial⟩ ?_
    cases H
    exact ⟨_, EVle.tupL (ds := [cI 0, cB false]) ⟨.rfl' _, .rfl' _, trivial⟩, rfl⟩
  · replace H := ifF hc H; clear hc
    refine .skip ?_
    refine .seq ?_
    refine .region ?_
    refine .q (x := .d (cI 0)) (q_assign rfl) rfl ?_
    refine .nil ?_
    refine .seq ?_
    refine .seq ?_
    refine .region ?_
    refine .q (x := .d (slOf 1 rB8 v0value)) (q_move rfl) rfl ?_
    refine .q (x := .d (cI (v0value.length : Int))) (q_lenL (l := v0value) (row := rB8) Tryd.underlying25 rfl rfl) rfl ?_
    refine .q (x := .d (cI 0)) (q_move rfl) rfl ?_
    refine .nil ?_
    refine .block ?_
    obtain ⟨n1, H⟩ := loop_some H
    refine .loop (ι := Nat × (Int × Int)) (fun p => [(4, .d (cI p.2.1)), (21, .d (slOf 1 rB8 v0value)), (22, .d (cI (v0value.length : Int))), (23, .d (cI p.2.2))]) (fun p => ⟨[], []⟩) (fun p => iter (fun s => f_tagged_number_l1 v0value s.1 s.2) p.1 p.2 = some r) (·.1) (n1, (0, 0)) H (.cons rfl (.rfl' _) (.cons rfl (.rfl' _) (.cons rfl (.rfl' _) (.cons rfl (.rfl' _) (.nil))))) rfl ?_
    rintro ⟨m1, v4nl1, v23l1⟩ HI ih1
    obtain ⟨n1, q1, hm1, H, HK1⟩ := iter_succ HI
    clear HI
    replace H : f_tagged_number_l1 v0value v4nl1 v23l1 = some q1 := H
    unfold f_tagged_number_l1 at H
    change ARun _ _ _ _ _ _ [(4, .d (cI v4nl1)), (21, .d (slOf 1 rB8 v0value)), (22, .d (cI (v0value.length : Int))), (23, .d (cI v23l1))] ⟨[], []⟩
    refine .seq ?_
    refine .region ?_
    refine .q (x := .d (cB (decide (v23l1 < (v0value.length : Int))))) (q_lss rfl rfl) rfl ?_
    refine .nil ?_
    refine .seq ?_
    refine .cond rfl (fun hc => ?_) (fun hc => ?_)
    · replace H := ifT hc H; clear hc
      refine .skip ?_
      refine .seq ?_
      refine .block ?_
      refine .seq ?_
      refine .region ?_
      obtain ⟨hk2, H⟩ := ck_some H
      refine .q (x := .d (.ro (rB8 (nth v0value (Int.toNat (v23l1)))))) (q_idxL (row := rB8) (l := v0value) (i := v23l1) Tryd.underlying25 hi5 hs5 rfl rfl rfl hk2) rfl ?_
      refine .q (x := .d (cU8 (nth v0value (Int.toNat (v23l1))))) (q_load one_5 rfl) rfl ?_
      refine .q (x := .d (cU8 (nth v0value (Int.toNat (v23l1))))) (q_assign rfl) rfl ?_
      refine .nil ?_
      refine .region ?_
      refine .q (x := .d (cI v4nl1)) (q_move rfl) rfl ?_
      obtain ⟨hk3, H⟩ := ck_some H
      refine .q (x := .d (cI (v4nl1 * 2 ^ (Int.toNat (8))))) (q_shlI rfl rfl hk3) rfl ?_
      refine .q (x := .d (cU8 (nth v0value (Int.toNat (v23l1))))) (q_move rfl) rfl ?_
      refine .q (x := .d (cI ((nth v0value (Int.toNat (v23l1))).toNat : Int))) (q_conv8i (a := nth v0value (Int.toNat (v23l1))) Tryd.underlying5 Tryd.underlying3 rfl) rfl ?_
      obtain ⟨hk4, H⟩ := ck_some H
      refine .q (x := .d (cI ((v4nl1 * 2 ^ (Int.toNat (8))) + ((nth v0value (Int.toNat (v23l1))).toNat : Int)))) (q_addI rfl rfl hk4.1 hk4.2) rfl ?_
      refine .q (x := .d (cI ((v4nl1 * 2 ^ (Int.toNat (8))) + ((nth v0value (Int.toNat (v23l1))).toNat : Int)))) (q_assign rfl) rfl ?_
      refine .nil ?_
      refine .inBlock ?_
      refine .region ?_
      obtain ⟨hk5, H⟩ := ck_some H
      refine .q (x := .d (cI (v23l1 + 1))) (q_addI rfl rfl hk5.1 hk5.2) rfl ?_
      refine .q (x := .d (cI (v23l1 + 1))) (q_move rfl) rfl ?_
      refine .nil ?_
      cases H
      exact .sub (.cons rfl (.rfl' _) (.cons rfl (.rfl' _) (.cons rfl (.rfl' _) (.cons rfl (.rfl' _) (.nil))))) (ih1 (n1, ((v4nl1 * 2 ^ (Int.toNat (8))) + ((nth v0value (Int.toNat (v23l1))).toNat : Int), v23l1 + 1)) HK1 hm1)
    · replace H := ifF hc H; clear hc
      refine .exit rfl ?_
      refine .seq ?_
      refine .region ?_
      refine .q (x := .d (cI v4nl1)) (q_move rfl) rfl ?_
      refine .q (x := .d (cI v4nl1)) (q_assign rfl) rfl ?_
      refine .q (x := .d (cB true)) (q_assign rfl) rfl ?_
      refine .nil ?_
      refine .retN [.tmp 2, .tmp 3] [.d (cI v4nl1), .d (cB true)] Tryd.func44 Tryd.results44 ⟨rfl, rfl, trivial⟩ ?_
      cases H
      cases HK1
      exact ⟨_, EVle.tupL (ds := [cI v4nl1, cB true]) ⟨.rfl' _, .rfl' _, trivial⟩, rfl⟩

set_option maxRecDepth 100000 in
set_option maxHeartbeats 1000000 in
theorem c_f_digits_Unpack {v0b : List UInt8} {r : (List UInt8) × Int} (H : f_digits_Unpack v0b = some r) : ACall Tryd.prog 45 [slOf 1 rB8 v0b] (· = .tup [cS r.1, cI r.2]) := by
  obtain ⟨i5, hi5, hz5, hs5, hb5⟩ := in_5
  refine ACall.enter' Tryd.func45 rfl Tryd.ntmps45 rfl fun S hS => ?_
  unfold f_digits_Unpack at H
  change ARun _ _ _ _ _ _ [(0, .d (slOf 1 rB8 v0b))] _
  refine .seq ?_
  refine .region ?_
  refine .q (x := .d (cS ([] : List UInt8))) (q_assign rfl) rfl ?_
  refine .q (x := .d (cI 0)) (q_assign rfl) rfl ?_
  refine .nil ?_
  refine .seq ?_
  refine .region ?_
  refine .q (x := .d (nilD)) (q_assign rfl) rfl ?_
  refine .nil ?_
  refine .seq ?_
  refine .seq ?_
  refine .region ?_
  refine .q (x := .d (slOf 1 rB8 v0b)) (q_move rfl) rfl ?_
  refine .q (x := .d (cI (v0b.length : Int))) (q_lenL (l := v0b) (row := rB8) Tryd.underlying25 rfl rfl) rfl ?_
  refine .q (x := .d (cI 0)) (q_move rfl) rfl ?_
  refine .nil ?_
  refine .tok (i := 4) (e := 5) (sz := 1) rfl ?_
  refine .withSt (st' := ⟨[], [⟨5, 1, ([] : List UInt8).length, none⟩]⟩) rfl ?_
  refine .blockJoin2 (ι := List UInt8) (fun s => [(4, .tsl 1 (s.map rB8) 0)]) (fun s => ⟨[], [⟨5, 1, s.length, none⟩]⟩) (fun s => f_digits_Unpack_j1 s = some r) ?_ ?_
  · rintro v4sj1 H
    replace H : f_digits_Unpack_j1 v4sj1 = some r := H
    unfold f_digits_Unpack_j1 at H
    change ARun _ _ _ _ _ _ [(4, .tsl 1 (v4sj1.map rB8) 0)] ⟨[], [⟨5, 1, v4sj1.length, none⟩]⟩
    refine .seq ?_
    refine .seq ?_
    refine .region ?_
    refine .q (x := .tsl 1 (v4sj1.map rB8) 0) (q_move rfl) rfl ?_
    refine .q (x := .d (cS v4sj1)) (q_bytesStrL (a := v4sj1) Tryd.underlying25 Tryd.underlying5 Tryd.underlying9 rfl rfl) rfl ?_
    obtain ⟨y1, hy1, H⟩ := bind_some' H
    refine .g (x := .d (cB y1)) (g_call en_41 rfl rfl (c_f_digits_Valid (hy1))) rfl ?_
    refine .q (x := .d (cB (!y1))) (q_not rfl) rfl ?_
    refine .nil ?_
    refine .cond rfl (fun hc => ?_) (fun hc => ?_)
    · replace H := ifT hc H; clear hc
      refine .seq ?_
      refine .region ?_
      refine .q (x := .d (cS ([] : List UInt8))) (q_assign rfl) rfl ?_
      refine .q (x := .d (cI 12)) (q_assign rfl) rfl ?_
      refine .nil ?_
      refine .retN [.tmp 2, .tmp 3] [.d (cS ([] : List UInt8)), .d (cI 12)] Tryd.func45 Tryd.results45 ⟨rfl, rfl, trivial⟩ ?_
      cases H
      exact ⟨_, EVle.tupL (ds := [cS ([] : List UInt8), cI 12]) ⟨.rfl' _, .rfl' _, trivial⟩, rfl⟩
    · replace H := ifF hc H; clear hc
      refine .skip ?_
      refine .seq ?_
      refine .region ?_
      refine .q (x := .tsl 1 (v4sj1.map rB8) 0) (q_move rfl) rfl ?_
      refine .q (x := .d (cS v4sj1)) (q_bytesStrL (a := v4sj1) Tryd.underlying25 Tryd.underlying5 Tryd.underlying9 rfl rfl) rfl ?_
      refine .q (x := .d (cS v4sj1)) (q_assign rfl) rfl ?_
      refine .q (x := .d (cI 0)) (q_assign rfl) rfl ?_
      refine .nil ?_
      refine .retN [.tmp 2, .tmp 3] [.d (cS v4sj1), .d (cI 0)] Tryd.func45 Tryd.results45 ⟨rfl, rfl, trivial⟩ ?_
      cases H
      exact ⟨_, EVle.tupL (ds := [cS v4sj1, cI 0]) ⟨.rfl' _, .rfl' _, trivial⟩, rfl⟩
  · intro hj1 hj1x
    obtain ⟨n1, H⟩ := loop_some H
    refine .withSt (st' := ⟨[], [⟨5, 1, ([] : List UInt8).length, none⟩]⟩) rfl <| .loop (ι := Nat × (List UInt8 × Int)) (fun p => [(0, .d (slOf 1 rB8 v0b)), (4, .tsl 1 (p.2.1.map rB8) 0), (7, .d (slOf 1 rB8 v0b)), (8, .d (cI (v0b.length : Int))), (9, .d (cI p.2.2))]) (fun p => ⟨[], [⟨5, 1, p.2.1.length, none⟩]⟩) (fun p => iter (fun s => f_digits_Unpack_l1 v0b s.1 s.2) p.1 p.2 = some r) (·.1) (n1, (([] : List UInt8), 0)) H (.cons rfl (.rfl' _) (.cons rfl (.rfl' _) (.cons rfl (.rfl' _) (.cons rfl (.rfl' _) (.cons rfl (.rfl' _) (.nil)))))) rfl ?_
    rintro ⟨m1, v4sl1, v9l1⟩ HI ih1
    obtain ⟨n1, q1, hm1, H, HK1⟩ := iter_succ HI
    clear HI
    replace H : f_digits_Unpack_l1 v0b v4sl1 v9l1 = some q1 := H
    unfold f_digits_Unpack_l1 at H
    change ARun _ _ _ _ _ _ [(0, .d (slOf 1 rB8 v0b)), (4, .tsl 1 (v4sl1.map rB8) 0), (7, .d (slOf 1 rB8 v0b)), (8, .d (cI (v0b.length : Int))), (9, .d (cI v9l1))] ⟨[], [⟨5, 1, v4sl1.length, none⟩]⟩
    refine .seq ?_
    refine .region ?_
    refine .q (x := .d (cB (decide (v9l1 < (v0b.length : Int))))) (q_lss rfl rfl) rfl ?_
    refine .nil ?_
    refine .seq ?_
    refine .cond rfl (fun hc => ?_) (fun hc => ?_)
    · replace H := ifT hc H; clear hc
      refine .skip ?_
      refine .seq ?_
      refine .block ?_
      refine .seq ?_
      refine .region ?_
      refine .q (x := .d (cI v9l1)) (q_move rfl) rfl ?_
      obtain ⟨hk1, H⟩ := ck_some H
      refine .q (x := .d (.ro (rB8 (nth v0b (Int.toNat (v9l1)))))) (q_idxL (row := rB8) (l := v0b) (i := v9l1) Tryd.underlying25 hi5 hs5 rfl rfl rfl hk1) rfl ?_
      refine .q (x := .d (cU8 (nth v0b (Int.toNat (v9l1))))) (q_load one_5 rfl) rfl ?_
      refine .q (x := .d (cI v9l1)) (q_assign rfl) rfl ?_
      refine .q (x := .d (cU8 (nth v0b (Int.toNat (v9l1))))) (q_assign rfl) rfl ?_
      refine .nil ?_
      refine .seq ?_
      refine .region ?_
      refine .q (x := .tsl 1 (v4sl1.map rB8) 0) (q_move rfl) rfl ?_
      refine .q (x := .d (cU8 (nth v0b (Int.toNat (v9l1))))) (q_move rfl) rfl ?_
      obtain ⟨hk2, H⟩ := ck_some H
      refine .q (x := .d (cU8 (u8shr (nth v0b (Int.toNat (v9l1))) 4))) (q8_shr (a := nth v0b (Int.toNat (v9l1))) (n := 4) rfl rfl hk2) rfl ?_
      refine .q (x := .d (cU8 (48 + (u8shr (nth v0b (Int.toNat (v9l1))) 4)))) (q8_add (a := 48) (b := u8shr (nth v0b (Int.toNat (v9l1))) 4) rfl rfl) rfl ?_
      refine .g (x := .d (slOf 1 rB8 ([48 + (u8shr (nth v0b (Int.toNat (v9l1))) 4)] : List UInt8))) (g_buildSlice1 Tryd.underlying25 hi5 hs5 hz5 rfl rfl rfl rfl rfl) rfl ?_
      obtain ⟨hk3, H⟩ := ck_some H
      refine .v (x := .tsl 1 ((v4sl1 ++ ([48 + (u8shr (nth v0b (Int.toNat (v9l1))) 4)] : List UInt8)).map rB8) 0) (v_appendL (l := v4sl1) (l' := ([48 + (u8shr (nth v0b (Int.toNat (v9l1))) 4)] : List UInt8)) (row := rB8) Tryd.underlying25 hi5 hz5 hs5 rfl (by rw [hb5]; decide) rfl rfl rfl rfl hk3) rfl ?_
      refine .withSt (st' := ⟨[], [⟨5, 1, (v4sl1 ++ ([48 + (u8shr (nth v0b (Int.toNat (v9l1))) 4)] : List UInt8)).length, none⟩]⟩) rfl ?_
      refine .q (x := .tsl 1 ((v4sl1 ++ ([48 + (u8shr (nth v0b (Int.toNat (v9l1))) 4)] : List UInt8)).map rB8) 0) (q_assign rfl) rfl ?_
      refine .nil ?_
      refine .seq ?_
      refine .region ?_
      refine .q (x := .d (cU8 (nth v0b (Int.toNat (v9l1))))) (q_move rfl) rfl ?_
      refine .q (x := .d (cU8 ((nth v0b (Int.toNat (v9l1))) &&& 15))) (q8_and (a := nth v0b (Int.toNat (v9l1))) (b := 15) rfl rfl) rfl ?_
      refine .q (x := .d (cB (((nth v0b (Int.toNat (v9l1))) &&& 15) != 15))) (q8_neq (a := (nth v0b (Int.toNat (v9l1))) &&& 15) (b := 15) rfl rfl) rfl ?_
      refine .q (x := .d (cB (((nth v0b (Int.toNat (v9l1))) &&& 15) != 15))) (q_move rfl) rfl ?_
      refine .guardG (b := (!(((nth v0b (Int.toNat (v9l1))) &&& 15) != 15))) (x := .d (cI v9l1)) (env' := [(5, _)]) rfl rfl rfl ⟨.inl rfl, trivial⟩ rfl (fun hg => OpQ.g (q_move rfl)) ?_
      refine .guardG (b := (!(((nth v0b (Int.toNat (v9l1))) &&& 15) != 15))) (x := .d (slOf 1 rB8 v0b)) (env' := [(0, _)]) rfl rfl rfl ⟨.inl rfl, trivial⟩ rfl (fun hg => OpQ.g (q_move rfl)) ?_
      refine .guardG (b := (!(((nth v0b (Int.toNat (v9l1))) &&& 15) != 15))) (x := .d (cI (v0b.length : Int))) (env' := [(25, _)]) rfl rfl rfl ⟨.inr (.inl rfl), trivial⟩ rfl (fun hg => OpQ.g (q_lenL (l := v0b) (row := rB8) Tryd.underlying25 rfl rfl)) ?_
      obtain ⟨hk4, H⟩ := ck_some H
      refine .guardG (b := (!(((nth v0b (Int.toNat (v9l1))) &&& 15) != 15))) (x := .d (cI ((v0b.length : Int) - 1))) (env' := [(26, _)]) rfl rfl rfl ⟨.inr (.inl rfl), trivial⟩ rfl (fun hg => OpQ.g (q_subI rfl rfl (hk4 hg).1 (hk4 hg).2)) ?_
      refine .guardG (b := (!(((nth v0b (Int.toNat (v9l1))) &&& 15) != 15))) (x := .d (cB (decide (v9l1 < ((v0b.length : Int) - 1))))) (env' := [(24, _), (27, _)]) rfl rfl rfl ⟨.inr (.inl rfl), ⟨.inr (.inl rfl), trivial⟩⟩ rfl (fun hg => OpQ.g (q_lss rfl rfl)) ?_
      refine .q (x := .d (cB ((((nth v0b (Int.toNat (v9l1))) &&& 15) != 15) || (decide (v9l1 < ((v0b.length : Int) - 1)))))) (q_pickOrB rfl rfl rfl) rfl ?_
      refine .nil ?_
      refine .cond rfl (fun hc => ?_) (fun hc => ?_)
      · replace H := ifT hc H; clear hc
        refine .region ?_
        refine .q (x := .tsl 1 ((v4sl1 ++ ([48 + (u8shr (nth v0b (Int.toNat (v9l1))) 4)] : List UInt8)).map rB8) 0) (q_move rfl) rfl ?_
        refine .q (x := .d (cU8 (nth v0b (Int.toNat (v9l1))))) (q_move rfl) rfl ?_
        refine .q (x := .d (cU8 ((nth v0b (Int.toNat (v9l1))) &&& 15))) (q8_and (a := nth v0b (Int.toNat (v9l1))) (b := 15) rfl rfl) rfl ?_
        refine .q (x := .d (cU8 (48 + ((nth v0b (Int.toNat (v9l1))) &&& 15)))) (q8_add (a := 48) (b := (nth v0b (Int.toNat (v9l1))) &&& 15) rfl rfl) rfl ?_
        refine .g (x := .d (slOf 1 rB8 ([48 + ((nth v0b (Int.toNat (v9l1))) &&& 15)] : List UInt8))) (g_buildSlice1 Tryd.underlying25 hi5 hs5 hz5 rfl rfl rfl rfl rfl) rfl ?_
        obtain ⟨hk5, H⟩ := ck_some H
        refine .v (x := .tsl 1 (((v4sl1 ++ ([48 + (u8shr (nth v0b (Int.toNat (v9l1))) 4)] : List UInt8)) ++ ([48 + ((nth v0b (Int.toNat (v9l1))) &&& 15)] : List UInt8)).map rB8) 0) (v_appendL (l := v4sl1 ++ ([48 + (u8shr (nth v0b (Int.toNat (v9l1))) 4)] : List UInt8)) (l' := ([48 + ((nth v0b (Int.toNat (v9l1))) &&& 15)] : List UInt8)) (row := rB8) Tryd.underlying25 hi5 hz5 hs5 rfl (by rw [hb5]; decide) rfl rfl rfl rfl hk5) rfl ?_
        refine .withSt (st' := ⟨[], [⟨5, 1, ((v4sl1 ++ ([48 + (u8shr (nth v0b (Int.toNat (v9l1))) 4)] : List UInt8)) ++ ([48 + ((nth v0b (Int.toNat (v9l1))) &&& 15)] : List UInt8)).length, none⟩]⟩) rfl ?_
        refine .q (x := .tsl 1 (((v4sl1 ++ ([48 + (u8shr (nth v0b (Int.toNat (v9l1))) 4)] : List UInt8)) ++ ([48 + ((nth v0b (Int.toNat (v9l1))) &&& 15)] : List UInt8)).map rB8) 0) (q_assign rfl) rfl ?_
        refine .nil ?_
        refine .inBlock ?_
        refine .region ?_
        obtain ⟨hk6, H⟩ := ck_some H
        refine .q (x := .d (cI (v9l1 + 1))) (q_addI rfl rfl hk6.1 hk6.2) rfl ?_
        refine .q (x := .d (cI (v9l1 + 1))) (q_move rfl) rfl ?_
        refine .nil ?_
        cases H
        exact .withSt (st' := ⟨[], [⟨5, 1, ((v4sl1 ++ ([48 + (u8shr (nth v0b (Int.toNat (v9l1))) 4)] : List UInt8)) ++ ([48 + ((nth v0b (Int.toNat (v9l1))) &&& 15)] : List UInt8)).length, none⟩]⟩) rfl <| .sub (.cons rfl (.rfl' _) (.cons rfl (.rfl' _) (.cons rfl (.rfl' _) (.cons rfl (.rfl' _) (.cons rfl (.rfl' _) (.nil)))))) (ih1 (n1, ((v4sl1 ++ ([48 + (u8shr (nth v0b (Int.toNat (v9l1))) 4)] : List UInt8)) ++ ([48 + ((nth v0b (Int.toNat (v9l1))) &&& 15)] : List UInt8), v9l1 + 1)) HK1 hm1)
      · replace H := ifF hc H; clear hc
        refine .skip ?_
        refine .inBlock ?_
        refine .region ?_
        obtain ⟨hk7, H⟩ := ck_some H
        refine .q (x := .d (cI (v9l1 + 1))) (q_addI rfl rfl hk7.1 hk7.2) rfl ?_
        refine .q (x := .d (cI (v9l1 + 1))) (q_move rfl) rfl ?_
        refine .nil ?_
        cases H
        exact .withSt (st' := ⟨[], [⟨5, 1, (v4sl1 ++ ([48 + (u8shr (nth v0b (Int.toNat (v9l1))) 4)] : List UInt8)).length, none⟩]⟩) rfl <| .sub (.cons rfl (.rfl' _) (.cons rfl (.rfl' _) (.cons rfl (.rfl' _) (.cons rfl (.rfl' _) (.cons rfl (.rfl' _) (.nil)))))) (ih1 (n1, (v4sl1 ++ ([48 + (u8shr (nth v0b (Int.toNat (v9l1))) 4)] : List UInt8), v9l1 + 1)) HK1 hm1)
    · replace H := ifF hc H; clear hc
      refine .exit rfl ?_
      obtain ⟨q0, H9, hq0⟩ := map_some' H; clear H; cases hq0
      cases HK1
      have H := H9
      exact .withSt (st' := ⟨[], [⟨5, 1, v4sl1.length, none⟩]⟩) rfl <| .sub (.cons rfl (.rfl' _) (.nil)) (hj1x v4sl1 H)

set_option maxRecDepth 100000 in
set_option maxHeartbeats 1000000 in
theorem c_f_billingref02_Unpack {v0b : List UInt8} {r : (List UInt8) × Int} (H : f_billingref02_Unpack v0b = some r) : ACall Tryd.prog 46 [slOf 1 rB8 v0b] (· = .tup [cS r.1, cI r.2]) := by
  obtain ⟨i5, hi5, hz5, hs5, hb5⟩ := in_5
  refine ACall.enter' Tryd.func46 rfl Tryd.ntmps46 rfl fun S hS => ?_
  unfold f_billingref02_Unpack at H
  change ARun _ _ _ _ _ _ [(0, .d (slOf 1 rB8 v0b))] _
  refine .seq ?_
  refine .region ?_
  refine .q (x := .d (cS ([] : List UInt8))) (q_assign rfl) rfl ?_
  refine .q (x := .d (cI 0)) (q_assign rfl) rfl ?_
  refine .nil ?_
  refine .seq ?_
  refine .region ?_
  refine .q (x := .d (cS ([] : List UInt8))) (q_assign rfl) rfl ?_
  refine .nil ?_
  refine .seq ?_
  refine .seq ?_
  refine .region ?_
  refine .q (x := .d (cI 0)) (q_assign rfl) rfl ?_
  refine .nil ?_
  refine .blockJoin2 (ι := List UInt8) (fun s => [(0, .d (slOf 1 rB8 v0b)), (4, .d (cS s))]) (fun s => ⟨[], []⟩) (fun s => f_billingref02_Unpack_j1 v0b s = some r) ?_ ?_
  · rintro v4sj1 H
    replace H : f_billingref02_Unpack_j1 v0b v4sj1 = some r := H
    unfold f_billingref02_Unpack_j1 at H
    change ARun _ _ _ _ _ _ [(0, .d (slOf 1 rB8 v0b)), (4, .d (cS v4sj1))] ⟨[], []⟩
    refine .seq ?_
    refine .seq ?_
    refine .region ?_
    refine .q (x := .d (cS v4sj1)) (q_move rfl) rfl ?_
    obtain ⟨y1, hy1, H⟩ := bind_some' H
    refine .g (x := .d (cB y1)) (g_call en_43 rfl rfl (c_f_billingref02_Valid (hy1))) rfl ?_
    refine .q (x := .d (cB (!y1))) (q_not rfl) rfl ?_
    refine .q (x := .d (cB (!y1))) (q_move rfl) rfl ?_
    refine .guardG (b := (!(!y1))) (x := .d (slOf 1 rB8 v0b)) (env' := [(0, _)]) rfl rfl rfl ⟨.inl rfl, trivial⟩ rfl (fun hg => OpQ.g (q_move rfl)) ?_
    refine .guardG (b := (!(!y1))) (x := .d (cI (v0b.length : Int))) (env' := [(53, _)]) rfl rfl rfl ⟨.inr (.inl rfl), trivial⟩ rfl (fun hg => OpQ.g (q_lenL (l := v0b) (row := rB8) Tryd.underlying25 rfl rfl)) ?_
    obtain ⟨hk1, H⟩ := ck_some H
    refine .guardG (b := (!(!y1))) (x := .d (cI (2 * (v0b.length : Int)))) (env' := [(54, _)]) rfl rfl rfl ⟨.inr (.inl rfl), trivial⟩ rfl (fun hg => OpQ.g (q_mulI rfl rfl (hk1 hg).1 (hk1 hg).2)) ?_
    refine .guardG (b := (!(!y1))) (x := .d (cS v4sj1)) (env' := [(4, _)]) rfl rfl rfl ⟨.inl rfl, trivial⟩ rfl (fun hg => OpQ.g (q_move rfl)) ?_
    refine .guardG (b := (!(!y1))) (x := .d (cI (v4sj1.length : Int))) (env' := [(56, _)]) rfl rfl rfl ⟨.inr (.inl rfl), trivial⟩ rfl (fun hg => OpQ.g (q_lenS Tryd.underlying9 rfl)) ?_
    obtain ⟨hk2, H⟩ := ck_some H
    refine .guardG (b := (!(!y1))) (x := .d (cI ((2 * (v0b.length : Int)) - (v4sj1.length : Int)))) (env' := [(55, _), (57, _)]) rfl rfl rfl ⟨.inr (.inl rfl), ⟨.inr (.inl rfl), trivial⟩⟩ rfl (fun hg => OpQ.g (q_subI rfl rfl (hk2 hg).1 (hk2 hg).2)) ?_
    refine .guardG (b := (!(!y1))) (x := .d (cB (decide (((2 * (v0b.length : Int)) - (v4sj1.length : Int)) > 1)))) (env' := [(58, _)]) rfl rfl rfl ⟨.inr (.inl rfl), trivial⟩ rfl (fun hg => OpQ.g (q_gtr rfl rfl)) ?_
    refine .q (x := .d (cB ((!y1) || (decide (((2 * (v0b.length : Int)) - (v4sj1.length : Int)) > 1))))) (q_pickOrB rfl rfl rfl) rfl ?_
    refine .nil ?_
    refine .cond rfl (fun hc => ?_) (fun hc => ?_)
    · replace H := ifT hc H; clear hc
      refine .seq ?_
      refine .region ?_
      refine .q (x := .d (cS ([] : List UInt8))) (q_assign rfl) rfl ?_
      refine .q (x := .d (cI 12)) (q_assign rfl) rfl ?_
      refine .nil ?_
      refine .retN [.tmp 2, .tmp 3] [.d (cS ([] : List UInt8)), .d (cI 12)] Tryd.func46 Tryd.results46 ⟨rfl, rfl, trivial⟩ ?_
      cases H
      exact ⟨_, EVle.tupL (ds := [cS ([] : List UInt8), cI 12]) ⟨.rfl' _, .rfl' _, trivial⟩, rfl⟩
    · replace H := ifF hc H; clear hc
      refine .skip ?_
      refine .seq ?_
      refine .region ?_
      refine .q (x := .d (cS v4sj1)) (q_move rfl) rfl ?_
      refine .q (x := .d (cS v4sj1)) (q_assign rfl) rfl ?_
      refine .q (x := .d (cI 0)) (q_assign rfl) rfl ?_
      refine .nil ?_
      refine .retN [.tmp 2, .tmp 3] [.d (cS v4sj1), .d (cI 0)] Tryd.func46 Tryd.results46 ⟨rfl, rfl, trivial⟩ ?_
      cases H
      exact ⟨_, EVle.tupL (ds := [cS v4sj1, cI 0]) ⟨.rfl' _, .rfl' _, trivial⟩, rfl⟩
  · intro hj1 hj1x
    obtain ⟨n1, H⟩ := loop_some H
    refine .loop (ι := Nat × (List UInt8 × Int)) (fun p => [(0, .d (slOf 1 rB8 v0b)), (4, .d (cS p.2.1)), (5, .d (cI p.2.2))]) (fun p => ⟨[], []⟩) (fun p => iter (fun s => f_billingref02_Unpack_l1 v0b s.1 s.2) p.1 p.2 = some r) (·.1) (n1, (([] : List UInt8), 0)) H (.cons rfl (.rfl' _) (.cons rfl (.rfl' _) (.cons rfl (.rfl' _) (.nil)))) rfl ?_
    rintro ⟨m1, v4sl1, v5il1⟩ HI ih1
    obtain ⟨n1, q1, hm1, H, HK1⟩ := iter_succ HI
    clear HI
    replace H : f_billingref02_Unpack_l1 v0b v4sl1 v5il1 = some q1 := H
    unfold f_billingref02_Unpack_l1 at H
    change ARun _ _ _ _ _ _ [(0, .d (slOf 1 rB8 v0b)), (4, .d (cS v4sl1)), (5, .d (cI v5il1))] ⟨[], []⟩
    refine .seq ?_
    refine .seq ?_
    refine .region ?_
    refine .q (x := .d (cI v5il1)) (q_move rfl) rfl ?_
    refine .q (x := .d (slOf 1 rB8 v0b)) (q_move rfl) rfl ?_
    refine .q (x := .d (cI (v0b.length : Int))) (q_lenL (l := v0b) (row := rB8) Tryd.underlying25 rfl rfl) rfl ?_
    refine .q (x := .d (cB (decide (v5il1 < (v0b.length : Int))))) (q_lss rfl rfl) rfl ?_
    refine .q (x := .d (cB (decide (v5il1 < (v0b.length : Int))))) (q_move rfl) rfl ?_
    refine .guardG (b := decide (v5il1 < (v0b.length : Int))) (x := .d (cI v5il1)) (env' := [(5, _)]) rfl rfl rfl ⟨.inl rfl, trivial⟩ rfl (fun hg => OpQ.g (q_move rfl)) ?_
    refine .guardG (b := decide (v5il1 < (v0b.length : Int))) (x := .d (cB (decide (v5il1 ≤ 15)))) (env' := [(13, _)]) rfl rfl rfl ⟨.inr (.inl rfl), trivial⟩ rfl (fun hg => OpQ.g (q_leq rfl rfl)) ?_
    refine .q (x := .d (cB ((decide (v5il1 < (v0b.length : Int))) && (decide (v5il1 ≤ 15))))) (q_pickAndB rfl rfl rfl) rfl ?_
    refine .nil ?_
    refine .cond rfl (fun hc => ?_) (fun hc => ?_)
    · replace H := ifT hc H; clear hc
      refine .skip ?_
      refine .seq ?_
      refine .block ?_
      refine .seq ?_
      refine .drawn 12 hMix (by kernel_rfl) ?_
      show DOps _ _ _ _ _ _ _ (_ :: _) _ _ _
      refine .q (x := .d (slOf 1 rB8 v0b)) (q_move rfl) rfl ?_
      refine .q (x := .d (cI v5il1)) (q_move rfl) rfl ?_
      obtain ⟨hk3, H⟩ := ck_some H
      refine .q (x := .d (.ro (rB8 (nth v0b (Int.toNat (v5il1)))))) (q_idxL (row := rB8) (l := v0b) (i := v5il1) Tryd.underlying25 hi5 hs5 rfl rfl rfl hk3) rfl ?_
      refine .q (x := .d (cU8 (nth v0b (Int.toNat (v5il1))))) (q_load one_5 rfl) rfl ?_
      obtain ⟨hk4, H⟩ := ck_some H
      refine .q (x := .d (cU8 (u8shr (nth v0b (Int.toNat (v5il1))) 4))) (q8_shr (a := nth v0b (Int.toNat (v5il1))) (n := 4) rfl rfl hk4) rfl ?_
      refine .q (x := .d (slOf 1 rB8 v0b)) (q_move rfl) rfl ?_
      refine .q (x := .d (cI v5il1)) (q_move rfl) rfl ?_
      obtain ⟨hk5, H⟩ := ck_some H
      refine .q (x := .d (.ro (rB8 (nth v0b (Int.toNat (v5il1)))))) (q_idxL (row := rB8) (l := v0b) (i := v5il1) Tryd.underlying25 hi5 hs5 rfl rfl rfl hk5) rfl ?_
      refine .q (x := .d (cU8 (nth v0b (Int.toNat (v5il1))))) (q_load one_5 rfl) rfl ?_
      refine .q (x := .d (cU8 ((nth v0b (Int.toNat (v5il1))) &&& 15))) (q8_and (a := nth v0b (Int.toNat (v5il1))) (b := 15) rfl rfl) rfl ?_
      refine .q (x := .d (cU8 (u8shr (nth v0b (Int.toNat (v5il1))) 4))) (q_assign rfl) rfl ?_
      refine .q (x := .d (cU8 ((nth v0b (Int.toNat (v5il1))) &&& 15))) (q_assign rfl) rfl ?_
      refine .nil ?_
      show AOps _ _ _ _ _ _ [] _ _ _
      refine .nil ?_
      refine .seq ?_
      refine .region ?_
      refine .q (x := .d (cS v4sl1)) (q_move rfl) rfl ?_
      refine .q (x := .d (cU8 (u8shr (nth v0b (Int.toNat (v5il1))) 4))) (q_move rfl) rfl ?_
      refine .q (x := .d (cU8 (48 + (u8shr (nth v0b (Int.toNat (v5il1))) 4)))) (q8_add (a := 48) (b := u8shr (nth v0b (Int.toNat (v5il1))) 4) rfl rfl) rfl ?_
      refine .g (x := .d (slOf 1 rB8 ([48 + (u8shr (nth v0b (Int.toNat (v5il1))) 4)] : List UInt8))) (g_buildSlice1 Tryd.underlying25 hi5 hs5 hz5 rfl rfl rfl rfl rfl) rfl ?_
      refine .q (x := .d (cS ([48 + (u8shr (nth v0b (Int.toNat (v5il1))) 4)] : List UInt8))) (q_bytesStrL (a := ([48 + (u8shr (nth v0b (Int.toNat (v5il1))) 4)] : List UInt8)) Tryd.underlying25 Tryd.underlying5 Tryd.underlying9 rfl rfl) rfl ?_
      obtain ⟨hk6, H⟩ := ck_some H
      refine .q (x := .d (cS (v4sl1 ++ ([48 + (u8shr (nth v0b (Int.toNat (v5il1))) 4)] : List UInt8)))) (q_sadd rfl rfl hk6) rfl ?_
      refine .q (x := .d (cS (v4sl1 ++ ([48 + (u8shr (nth v0b (Int.toNat (v5il1))) 4)] : List UInt8)))) (q_assign rfl) rfl ?_
      refine .nil ?_
      refine .seq ?_
      refine .region ?_
      refine .q (x := .d (cU8 ((nth v0b (Int.toNat (v5il1))) &&& 15))) (q_move rfl) rfl ?_
      refine .q (x := .d (cB (((nth v0b (Int.toNat (v5il1))) &&& 15) != 15))) (q8_neq (a := (nth v0b (Int.toNat (v5il1))) &&& 15) (b := 15) rfl rfl) rfl ?_
      refine .q (x := .d (cB (((nth v0b (Int.toNat (v5il1))) &&& 15) != 15))) (q_move rfl) rfl ?_
      refine .guardG (b := (!(((nth v0b (Int.toNat (v5il1))) &&& 15) != 15))) (x := .d (cI v5il1)) (env' := [(5, _)]) rfl rfl rfl ⟨.inl rfl, trivial⟩ rfl (fun hg => OpQ.g (q_move rfl)) ?_
      refine .guardG (b := (!(((nth v0b (Int.toNat (v5il1))) &&& 15) != 15))) (x := .d (slOf 1 rB8 v0b)) (env' := [(0, _)]) rfl rfl rfl ⟨.inl rfl, trivial⟩ rfl (fun hg => OpQ.g (q_move rfl)) ?_
      refine .guardG (b := (!(((nth v0b (Int.toNat (v5il1))) &&& 15) != 15))) (x := .d (cI (v0b.length : Int))) (env' := [(38, _)]) rfl rfl rfl ⟨.inr (.inl rfl), trivial⟩ rfl (fun hg => OpQ.g (q_lenL (l := v0b) (row := rB8) Tryd.underlying25 rfl rfl)) ?_
      obtain ⟨hk7, H⟩ := ck_some H
      refine .guardG (b := (!(((nth v0b (Int.toNat (v5il1))) &&& 15) != 15))) (x := .d (cI ((v0b.length : Int) - 1))) (env' := [(39, _)]) rfl rfl rfl ⟨.inr (.inl rfl), trivial⟩ rfl (fun hg => OpQ.g (q_subI rfl rfl (hk7 hg).1 (hk7 hg).2)) ?_
      refine .guardG (b := (!(((nth v0b (Int.toNat (v5il1))) &&& 15) != 15))) (x := .d (cB (decide (v5il1 < ((v0b.length : Int) - 1))))) (env' := [(37, _), (40, _)]) rfl rfl rfl ⟨.inr (.inl rfl), ⟨.inr (.inl rfl), trivial⟩⟩ rfl (fun hg => OpQ.g (q_lss rfl rfl)) ?_
      refine .q (x := .d (cB ((((nth v0b (Int.toNat (v5il1))) &&& 15) != 15) || (decide (v5il1 < ((v0b.length : Int) - 1)))))) (q_pickOrB rfl rfl rfl) rfl ?_
      refine .nil ?_
      refine .cond rfl (fun hc => ?_) (fun hc => ?_)
      · replace H := ifT hc H; clear hc
        refine .region ?_
        refine .q (x := .d (cS (v4sl1 ++ ([48 + (u8shr (nth v0b (Int.toNat (v5il1))) 4)] : List UInt8)))) (q_move rfl) rfl ?_
        refine .q (x := .d (cU8 ((nth v0b (Int.toNat (v5il1))) &&& 15))) (q_move rfl) rfl ?_
        refine .q (x := .d (cU8 (48 + ((nth v0b (Int.toNat (v5il1))) &&& 15)))) (q8_add (a := 48) (b := (nth v0b (Int.toNat (v5il1))) &&& 15) rfl rfl) rfl ?_
        refine .g (x := .d (slOf 1 rB8 ([48 + ((nth v0b (Int.toNat (v5il1))) &&& 15)] : List UInt8))) (g_buildSlice1 Tryd.underlying25 hi5 hs5 hz5 rfl rfl rfl rfl rfl) rfl ?_
        refine .q (x := .d (cS ([48 + ((nth v0b (Int.toNat (v5il1))) &&& 15)] : List UInt8))) (q_bytesStrL (a := ([48 + ((nth v0b (Int.toNat (v5il1))) &&& 15)] : List UInt8)) Tryd.underlying25 Tryd.underlying5 Tryd.underlying9 rfl rfl) rfl ?_
        obtain ⟨hk8, H⟩ := ck_some H
        refine .q (x := .d (cS ((v4sl1 ++ ([48 + (u8shr (nth v0b (Int.toNat (v5il1))) 4)] : List UInt8)) ++ ([48 + ((nth v0b (Int.toNat (v5il1))) &&& 15)] : List UInt8)))) (q_sadd rfl rfl hk8) rfl ?_
        refine .q (x := .d (cS ((v4sl1 ++ ([48 + (u8shr (nth v0b (Int.toNat (v5il1))) 4)] : List UInt8)) ++ ([48 + ((nth v0b (Int.toNat (v5il1))) &&& 15)] : List UInt8)))) (q_assign rfl) rfl ?_
        refine .nil ?_
        refine .inBlock ?_
        refine .region ?_
        refine .q (x := .d (cI v5il1)) (q_move rfl) rfl ?_
        obtain ⟨hk9, H⟩ := ck_some H
        refine .q (x := .d (cI (v5il1 + 1))) (q_addI rfl rfl hk9.1 hk9.2) rfl ?_
        refine .q (x := .d (cI (v5il1 + 1))) (q_assign rfl) rfl ?_
        refine .nil ?_
        cases H
        exact .sub (.cons rfl (.rfl' _) (.cons rfl (.rfl' _) (.cons rfl (.rfl' _) (.nil)))) (ih1 (n1, ((v4sl1 ++ ([48 + (u8shr (nth v0b (Int.toNat (v5il1))) 4)] : List UInt8)) ++ ([48 + ((nth v0b (Int.toNat (v5il1))) &&& 15)] : List UInt8), v5il1 + 1)) HK1 hm1)
      · replace H := ifF hc H; clear hc
        refine .skip ?_
        refine .inBlock ?_
        refine .region ?_
        refine .q (x := .d (cI v5il1)) (q_move rfl) rfl ?_
        obtain ⟨hk10, H⟩ := ck_some H
        refine .q (x := .d (cI (v5il1 + 1))) (q_addI rfl rfl hk10.1 hk10.2) rfl ?_
        refine .q (x := .d (cI (v5il1 + 1))) (q_assign rfl) rfl ?_
        refine .nil ?_
        cases H
        exact .sub (.cons rfl (.rfl' _) (.cons rfl (.rfl' _) (.cons rfl (.rfl' _) (.nil)))) (ih1 (n1, (v4sl1 ++ ([48 + (u8shr (nth v0b (Int.toNat (v5il1))) 4)] : List UInt8), v5il1 + 1)) HK1 hm1)
    · replace H := ifF hc H; clear hc
      refine .exit rfl ?_
      obtain ⟨q0, H9, hq0⟩ := map_some' H; clear H; cases hq0
      cases HK1
      have H := H9
      exact .sub (.cons rfl (.rfl' _) (.cons rfl (.rfl' _) (.nil))) (hj1x v4sl1 H)

set_option maxRecDepth 100000 in
set_option maxHeartbeats 1000000 in
theorem c_f_billingref10_number {v0b : List UInt8} {r : Int} (H : f_billingref10_number v0b = some r) : ACall Tryd.prog 47 [slOf 1 rB8 v0b] (· = cI r) := by
  obtain ⟨i5, hi5, hz5, hs5, hb5⟩ := in_5
  refine ACall.enter' Tryd.func47 rfl Tryd.ntmps47 rfl fun S hS => ?_
  unfold f_billingref10_number at H
  change ARun _ _ _ _ _ _ [(0, .d (slOf 1 rB8 v0b))] _
  refine .seq ?_
  refine .region ?_
  refine .q (x := .d (cI 0)) (q_assign rfl) rfl ?_
  refine .nil ?_
  refine .seq ?_
  refine .seq ?_
  refine .region ?_
  refine .q (x := .d (slOf 1 rB8 v0b)) (q_move rfl) rfl ?_
  refine .q (x := .d (cI (v0b.length : Int))) (q_lenL (l := v0b) (row := rB8) Tryd.underlying25 rfl rfl) rfl ?_
  refine .q (x := .d (cB (decide ((v0b.length : Int) < 1)))) (q_lss rfl rfl) rfl ?_
  refine .q (x := .d (cB (decide ((v0b.length : Int) < 1)))) (q_move rfl) rfl ?_
  refine .guardG (b := (!(decide ((v0b.length : Int) < 1)))) (x := .d (slOf 1 rB8 v0b)) (env' := [(0, _)]) rfl rfl rfl ⟨.inl rfl, trivial⟩ rfl (fun hg => OpQ.g (q_move rfl)) ?_
  refine .guardG (b := (!(decide ((v0b.length : Int) < 1)))) (x := .d (cI (v0b.length : Int))) (env' := [(9, _)]) rfl rfl rfl ⟨.inr (.inl rfl), trivial⟩ rfl (fun hg => OpQ.g (q_lenL (l := v0b) (row := rB8) Tryd.underlying25 rfl rfl)) ?_
  refine .guardG (b := (!(decide ((v0b.length : Int) < 1)))) (x := .d (cB (decide ((v0b.length : Int) > 6)))) (env' := [(10, _)]) rfl rfl rfl ⟨.inr (.inl rfl), trivial⟩ rfl (fun hg => OpQ.g (q_gtr rfl rfl)) ?_
  refine .q (x := .d (cB ((decide ((v0b.length : Int) < 1)) || (decide ((v0b.length : Int) > 6))))) (q_pickOrB rfl rfl rfl) rfl ?_
  refine .q (x := .d (cB ((decide ((v0b.length : Int) < 1)) || (decide ((v0b.length : Int) > 6))))) (q_move rfl) rfl ?_
  refine .guardG (b := (!((decide ((v0b.length : Int) < 1)) || (decide ((v0b.length : Int) > 6))))) (x := .d (slOf 1 rB8 v0b)) (env' := [(0, _)]) rfl rfl rfl ⟨.inl rfl, trivial⟩ rfl (fun hg => OpQ.g (q_move rfl)) ?_
  obtain ⟨hk1, H⟩ := ck_some H
  refine .guardG (b := (!((decide ((v0b.length : Int) < 1)) || (decide ((v0b.length : Int) > 6))))) (x := .d (.ro (rB8 (nth v0b (Int.toNat (0)))))) (env' := [(14, _)]) rfl rfl rfl ⟨.inr (.inl rfl), trivial⟩ rfl (fun hg => OpQ.g (q_idxL (row := rB8) (l := v0b) (i := 0) Tryd.underlying25 hi5 hs5 rfl rfl rfl (hk1 hg))) ?_
  refine .guardG (b := (!((decide ((v0b.length : Int) < 1)) || (decide ((v0b.length : Int) > 6))))) (x := .d (cU8 (nth v0b (Int.toNat (0))))) (env' := [(15, _)]) rfl rfl rfl ⟨.inr (.inl rfl), trivial⟩ rfl (fun hg => OpQ.g (q_load one_5 rfl)) ?_
  refine .guardG (b := (!((decide ((v0b.length : Int) < 1)) || (decide ((v0b.length : Int) > 6))))) (x := .d (cB ((nth v0b (Int.toNat (0))) == 0))) (env' := [(16, _)]) rfl rfl rfl ⟨.inr (.inl rfl), trivial⟩ rfl (fun hg => OpQ.g (q8_eql (a := nth v0b (Int.toNat (0))) (b := 0) rfl rfl)) ?_
  refine .q (x := .d (cB (((decide ((v0b.length : Int) < 1)) || (decide ((v0b.length : Int) > 6))) || ((nth v0b (Int.toNat (0))) == 0)))) (q_pickOrB rfl rfl rfl) rfl ?_
  refine .nil ?_
  refine .cond rfl (fun hc => ?_) (fun hc => ?_)
  · replace H := ifT hc H; clear hc
    refine .seq ?_
    refine .region ?_
    refine .q (x := .d (cI (-1))) (q_assign rfl) rfl ?_
    refine .nil ?_
    refine .retN [.tmp 2] [.d (cI (-1))] Tryd.func47 Tryd.results47 ⟨rfl, trivial⟩ ?_
    cases H
    exact ⟨_, .rfl' _, rfl⟩
  · replace H := ifF hc H; clear hc
    refine .skip ?_
    refine .seq ?_
    refine .region ?_
    refine .q (x := .d (cI 0)) (q_assign rfl) rfl ?_
    refine .nil ?_
    refine .seq ?_
    refine .seq ?_
    refine .region ?_
    refine .q (x := .d (cI 0)) (q_assign rfl) rfl ?_
    refine .nil ?_
    refine .block ?_
    obtain ⟨n1, H⟩ := loop_some H
    refine .loop (ι := Nat × (Int × Int)) (fun p => [(0, .d (slOf 1 rB8 v0b)), (3, .d (cI p.2.1)), (4, .d (cI p.2.2))]) (fun p => ⟨[], []⟩) (fun p => iter (fun s => f_billingref10_number_l1 v0b s.1 s.2) p.1 p.2 = some r) (·.1) (n1, (0, 0)) H (.cons rfl (.rfl' _) (.cons rfl (.rfl' _) (.cons rfl (.rfl' _) (.nil)))) rfl ?_
    rintro ⟨m1, v3nl1, v4il1⟩ HI ih1
    obtain ⟨n1, q1, hm1, H, HK1⟩ := iter_succ HI
    clear HI
    replace H : f_billingref10_number_l1 v0b v3nl1 v4il1 = some q1 := H
    unfold f_billingref10_number_l1 at H
    change ARun _ _ _ _ _ _ [(0, .d (slOf 1 rB8 v0b)), (3, .d (cI v3nl1)), (4, .d (cI v4il1))] ⟨[], []⟩
    refine .seq ?_
    refine .seq ?_
    refine .region ?_
    refine .q (x := .d (cI v4il1)) (q_move rfl) rfl ?_
    refine .q (x := .d (slOf 1 rB8 v0b)) (q_move rfl) rfl ?_
    refine .q (x := .d (cI (v0b.length : Int))) (q_lenL (l := v0b) (row := rB8) Tryd.underlying25 rfl rfl) rfl ?_
    refine .q (x := .d (cB (decide (v4il1 < (v0b.length : Int))))) (q_lss rfl rfl) rfl ?_
    refine .nil ?_
    refine .cond rfl (fun hc => ?_) (fun hc => ?_)
    · replace H := ifT hc H; clear hc
      refine .skip ?_
      refine .seq ?_
      refine .block ?_
      refine .region ?_
      refine .q (x := .d (cI v3nl1)) (q_move rfl) rfl ?_
      obtain ⟨hk2, H⟩ := ck_some H
      refine .q (x := .d (cI (v3nl1 * 256))) (q_mulI rfl rfl hk2.1 hk2.2) rfl ?_
      refine .q (x := .d (slOf 1 rB8 v0b)) (q_move rfl) rfl ?_
      refine .q (x := .d (cI v4il1)) (q_move rfl) rfl ?_
      obtain ⟨hk3, H⟩ := ck_some H
      refine .q (x := .d (.ro (rB8 (nth v0b (Int.toNat (v4il1)))))) (q_idxL (row := rB8) (l := v0b) (i := v4il1) Tryd.underlying25 hi5 hs5 rfl rfl rfl hk3) rfl ?_
      refine .q (x := .d (cU8 (nth v0b (Int.toNat (v4il1))))) (q_load one_5 rfl) rfl ?_
      refine .q (x := .d (cI ((nth v0b (Int.toNat (v4il1))).toNat : Int))) (q_conv8i (a := nth v0b (Int.toNat (v4il1))) Tryd.underlying5 Tryd.underlying3 rfl) rfl ?_
      obtain ⟨hk4, H⟩ := ck_some H
      refine .q (x := .d (cI ((v3nl1 * 256) + ((nth v0b (Int.toNat (v4il1))).toNat : Int)))) (q_addI rfl rfl hk4.1 hk4.2) rfl ?_
      refine .q (x := .d (cI ((v3nl1 * 256) + ((nth v0b (Int.toNat (v4il1))).toNat : Int)))) (q_assign rfl) rfl ?_
      refine .nil ?_
      refine .inBlock ?_
      refine .region ?_
      refine .q (x := .d (cI v4il1)) (q_move rfl) rfl ?_
      obtain ⟨hk5, H⟩ := ck_some H
      refine .q (x := .d (cI (v4il1 + 1))) (q_addI rfl rfl hk5.1 hk5.2) rfl ?_
      refine .q (x := .d (cI (v4il1 + 1))) (q_assign rfl) rfl ?_
      refine .nil ?_
      cases H
      exact .sub (.cons rfl (.rfl' _) (.cons rfl (.rfl' _) (.cons rfl (.rfl' _) (.nil)))) (ih1 (n1, ((v3nl1 * 256) + ((nth v0b (Int.toNat (v4il1))).toNat : Int), v4il1 + 1)) HK1 hm1)
    · replace H := ifF hc H; clear hc
      refine .exit rfl ?_
      refine .seq ?_
      refine .region ?_
      refine .q (x := .d (cI v3nl1)) (q_move rfl) rfl ?_
      refine .q (x := .d (cI v3nl1)) (q_assign rfl) rfl ?_
      refine .nil ?_
      refine .retN [.tmp 2] [.d (cI v3nl1)] Tryd.func47 Tryd.results47 ⟨rfl, trivial⟩ ?_
      cases H
      cases HK1
      exact ⟨_, .rfl' _, rfl⟩

set_option maxRecDepth 100000 in
set_option maxHeartbeats 1000000 in
theorem c_f_billingref10_field {v0 : Record} {v1 : Element} {r : Record × Bool} (H : f_billingref10_field v0 v1 = some r) : ACall Tryd.prog 37 [.agg (Record.row v0), .agg (Element.row v1)] (· = .tup [.agg (Record.row r.1), cB r.2]) := by
  refine ACall.enter' Tryd.func37 rfl Tryd.ntmps37 rfl fun S hS => ?_
  unfold f_billingref10_field at H
  change ARun _ _ _ _ _ _ [(0, .d (.agg (Record.row v0))), (1, .d (.agg (Element.row v1)))] _
  refine .seq ?_
  refine .region ?_
  refine .v (x := .ref 0 0) (v_box rfl rfl) rfl ?_
  refine .withSt (st' := ⟨[.row 34 [.d (cI v0.source), .d (cI v0.serial), .d (cI v0.kind), .d (cS v0.a), .d (cS v0.b), .d (cI v0.start), .d (cI v0.units), .d (cI v0.call), .d (cI v0.part), .d (cB v0.last), .d (cI v0.trunk), .d (cB v0.inbound)]], []⟩) rfl ?_
  refine .v (x := .ref 1 0) (v_box rfl rfl) rfl ?_
  refine .withSt (st' := ⟨[.row 34 [.d (cI v0.source), .d (cI v0.serial), .d (cI v0.kind), .d (cS v0.a), .d (cS v0.b), .d (cI v0.start), .d (cI v0.units), .d (cI v0.call), .d (cI v0.part), .d (cB v0.last), .d (cI v0.trunk), .d (cB v0.inbound)], .row 47 [.d (cI v1.tag), .d (slOf 1 rB8 v1.value)]], []⟩) rfl ?_
  refine .v (x := .ref 2 0) (v_alloc zr_34 rfl) rfl ?_
  refine .withSt (st' := ⟨[.row 34 [.d (cI v0.source), .d (cI v0.serial), .d (cI v0.kind), .d (cS v0.a), .d (cS v0.b), .d (cI v0.start), .d (cI v0.units), .d (cI v0.call), .d (cI v0.part), .d (cB v0.last), .d (cI v0.trunk), .d (cB v0.inbound)], .row 47 [.d (cI v1.tag), .d (slOf 1 rB8 v1.value)], .row 34 [.d (cI 0), .d (cI 0), .d (cI 0), .d (cS ([] : List UInt8)), .d (cS ([] : List UInt8)), .d (cI 0), .d (cI 0), .d (cI 0), .d (cI 0), .d (cB false), .d (cI 0), .d (cB false)]], []⟩) rfl ?_
  refine .q (x := .d (cB false)) (q_assign rfl) rfl ?_
  refine .nil ?_
  refine .seq ?_
  refine .seq ?_
  refine .region ?_
  refine .q (x := .ref 1 0) (q_fieldRef fo_47_0 rfl) rfl ?_
  refine .q (x := .d (cI v1.tag)) (q_loadO one_3 rfl rfl rfl) rfl ?_
  refine .q (x := .d (cB (v1.tag == 4))) (q_eql rfl rfl) rfl ?_
  refine .q (x := .d (cB (v1.tag == 4))) (q_move rfl) rfl ?_
  refine .guardG (b := (!(v1.tag == 4))) (x := .ref 1 0) (env' := [(3, _)]) rfl rfl rfl ⟨.inl rfl, trivial⟩ rfl (fun hg => OpQ.g (q_fieldRef fo_47_0 rfl)) ?_
  refine .guardG (b := (!(v1.tag == 4))) (x := .d (cI v1.tag)) (env' := [(13, _)]) rfl rfl rfl ⟨.inr (.inl rfl), trivial⟩ rfl (fun hg => OpQ.g (q_loadO one_3 rfl rfl rfl)) ?_
  refine .guardG (b := (!(v1.tag == 4))) (x := .d (cB (v1.tag == 5))) (env' := [(14, _)]) rfl rfl rfl ⟨.inr (.inl rfl), trivial⟩ rfl (fun hg => OpQ.g (q_eql rfl rfl)) ?_
  refine .q (x := .d (cB ((v1.tag == 4) || (v1.tag == 5)))) (q_pickOrB rfl rfl rfl) rfl ?_
  refine .nil ?_
  refine .cond rfl (fun hc => ?_) (fun hc => ?_)
  · replace H := ifT hc H; clear hc
    refine .seq ?_
    refine .region ?_
    refine .q (x := .ref 1 1) (q_fieldRef fo_47_1 rfl) rfl ?_
    refine .q (x := .d (slOf 1 rB8 v1.value)) (q_loadO one_25 rfl rfl rfl) rfl ?_
    obtain ⟨y1, hy1, H⟩ := bind_some' H
    refine .g (x := .d (.tup [cS y1.1, cI y1.2])) (g_call en_46 rfl rfl (c_f_billingref02_Unpack (hy1))) rfl ?_
    refine .q (x := .d (.tup [cS y1.1, cI y1.2])) (q_move rfl) rfl ?_
    refine .q (x := .d (cS y1.1)) (q_extract rfl rfl) rfl ?_
    refine .q (x := .d (cI y1.2)) (q_extract rfl rfl) rfl ?_
    refine .q (x := .d (cS y1.1)) (q_assign rfl) rfl ?_
    refine .q (x := .d (cI y1.2)) (q_assign rfl) rfl ?_
    refine .nil ?_
    refine .seqJoin (ι := List UInt8 × List UInt8) (fun s => [(2, .ref 0 0), (4, .ref 2 0), (7, .d (cI y1.2))]) (fun s => ⟨[.row 34 [.d (cI v0.source), .d (cI v0.serial), .d (cI v0.kind), .d (cS s.1), .d (cS s.2), .d (cI v0.start), .d (cI v0.units), .d (cI v0.call), .d (cI v0.part), .d (cB v0.last), .d (cI v0.trunk), .d (cB v0.inbound)], .row 47 [.d (cI v1.tag), .d (slOf 1 rB8 v1.value)], .row 34 [.d (cI 0), .d (cI 0), .d (cI 0), .d (cS ([] : List UInt8)), .d (cS ([] : List UInt8)), .d (cI 0), .d (cI 0), .d (cI 0), .d (cI 0), .d (cB false), .d (cI 0), .d (cB false)]], []⟩) (fun s => f_billingref10_field_j1 v0 y1 s.1 s.2 = some r) ?_ ?_
    · rintro ⟨o0c3j1, o0c4j1⟩ H
      replace H : f_billingref10_field_j1 v0 y1 o0c3j1 o0c4j1 = some r := H
      unfold f_billingref10_field_j1 at H
      change ARun _ _ _ _ _ _ [(2, .ref 0 0), (4, .ref 2 0), (7, .d (cI y1.2))] ⟨[.row 34 [.d (cI v0.source), .d (cI v0.serial), .d (cI v0.kind), .d (cS o0c3j1), .d (cS o0c4j1), .d (cI v0.start), .d (cI v0.units), .d (cI v0.call), .d (cI v0.part), .d (cB v0.last), .d (cI v0.trunk), .d (cB v0.inbound)], .row 47 [.d (cI v1.tag), .d (slOf 1 rB8 v1.value)], .row 34 [.d (cI 0), .d (cI 0), .d (cI 0), .d (cS ([] : List UInt8)), .d (cS ([] : List UInt8)), .d (cI 0), .d (cI 0), .d (cI 0), .d (cI 0), .d (cB false), .d (cI 0), .d (cB false)]], []⟩
      refine .seq ?_
      refine .region ?_
      refine .q (x := .d (.agg (Record.row (⟨v0.source, v0.serial, v0.kind, o0c3j1, o0c4j1, v0.start, v0.units, v0.call, v0.part, v0.last, v0.trunk, v0.inbound⟩ : Record)))) (q_loadOA one_34 sz_34 rfl rfl (Nat.le_of_ble_eq_true rfl) rfl) rfl ?_
      refine .q (x := .d (cI y1.2)) (q_move rfl) rfl ?_
      refine .q (x := .d (cB (y1.2 == 0))) (q_eql rfl rfl) rfl ?_
      refine .u (u_store rfl rfl rfl rfl (Nat.le_of_ble_eq_true rfl) sz_34) rfl ?_
      refine .withSt (st' := ⟨[.row 34 [.d (cI v0.source), .d (cI v0.serial), .d (cI v0.kind), .d (cS o0c3j1), .d (cS o0c4j1), .d (cI v0.start), .d (cI v0.units), .d (cI v0.call), .d (cI v0.part), .d (cB v0.last), .d (cI v0.trunk), .d (cB v0.inbound)], .row 47 [.d (cI v1.tag), .d (slOf 1 rB8 v1.value)], .row 34 [.d (cI v0.source), .d (cI v0.serial), .d (cI v0.kind), .d (cS o0c3j1), .d (cS o0c4j1), .d (cI v0.start), .d (cI v0.units), .d (cI v0.call), .d (cI v0.part), .d (cB v0.last), .d (cI v0.trunk), .d (cB v0.inbound)]], []⟩) rfl ?_
      refine .q (x := .d (cB (y1.2 == 0))) (q_assign rfl) rfl ?_
      refine .nil ?_
      refine .retN [.cell 4 34, .tmp 5] [.d (.agg (Record.row (⟨v0.source, v0.serial, v0.kind, o0c3j1, o0c4j1, v0.start, v0.units, v0.call, v0.part, v0.last, v0.trunk, v0.inbound⟩ : Record))), .d (cB (y1.2 == 0))] Tryd.func37 Tryd.results37 ⟨⟨⟨_, _, rfl⟩, q_loadOA one_34 sz_34 rfl rfl (Nat.le_of_ble_eq_true rfl) rfl⟩, rfl, trivial⟩ ?_
      cases H
      exact ⟨_, EVle.tupL (ds := [.agg (Record.row (⟨v0.source, v0.serial, v0.kind, o0c3j1, o0c4j1, v0.start, v0.units, v0.call, v0.part, v0.last, v0.trunk, v0.inbound⟩ : Record)), cB (y1.2 == 0)]) ⟨.rfl' _, .rfl' _, trivial⟩, rfl⟩
    · intro hj1
      refine .seq ?_
      refine .region ?_
      refine .q (x := .ref 1 0) (q_fieldRef fo_47_0 rfl) rfl ?_
      refine .q (x := .d (cI v1.tag)) (q_loadO one_3 rfl rfl rfl) rfl ?_
      refine .q (x := .d (cB (v1.tag == 4))) (q_eql rfl rfl) rfl ?_
      refine .nil ?_
      refine .cond rfl (fun hc => ?_) (fun hc => ?_)
      · replace H := ifT hc H; clear hc
        refine .region ?_
        refine .q (x := .d (cS y1.1)) (q_move rfl) rfl ?_
        refine .q (x := .ref 0 3) (q_fieldRef fo_34_3 rfl) rfl ?_
        refine .u (u_store rfl rfl rfl rfl (Nat.le_of_ble_eq_true rfl) sz_9) rfl ?_
        refine .withSt (st' := ⟨[.row 34 [.d (cI v0.source), .d (cI v0.serial), .d (cI v0.kind), .d (cS y1.1), .d (cS v0.b), .d (cI v0.start), .d (cI v0.units), .d (cI v0.call), .d (cI v0.part), .d (cB v0.last), .d (cI v0.trunk), .d (cB v0.inbound)], .row 47 [.d (cI v1.tag), .d (slOf 1 rB8 v1.value)], .row 34 [.d (cI 0), .d (cI 0), .d (cI 0), .d (cS ([] : List UInt8)), .d (cS ([] : List UInt8)), .d (cI 0), .d (cI 0), .d (cI 0), .d (cI 0), .d (cB false), .d (cI 0), .d (cB false)]], []⟩) rfl ?_
        refine .nil ?_
        exact .withSt (st' := ⟨[.row 34 [.d (cI v0.source), .d (cI v0.serial), .d (cI v0.kind), .d (cS y1.1), .d (cS v0.b), .d (cI v0.start), .d (cI v0.units), .d (cI v0.call), .d (cI v0.part), .d (cB v0.last), .d (cI v0.trunk), .d (cB v0.inbound)], .row 47 [.d (cI v1.tag), .d (slOf 1 rB8 v1.value)], .row 34 [.d (cI 0), .d (cI 0), .d (cI 0), .d (cS ([] : List UInt8)), .d (cS ([] : List UInt8)), .d (cI 0), .d (cI 0), .d (cI 0), .d (cI 0), .d (cB false), .d (cI 0), .d (cB false)]], []⟩) rfl <| .sub (.cons rfl (.rfl' _) (.cons rfl (.rfl' _) (.cons rfl (.rfl' _) (.nil)))) (hj1 (y1.1, v0.b) H)
      · replace H := ifF hc H; clear hc
        refine .region ?_
        refine .q (x := .d (cS y1.1)) (q_move rfl) rfl ?_
        refine .q (x := .ref 0 4) (q_fieldRef fo_34_4 rfl) rfl ?_
        refine .u (u_store rfl rfl rfl rfl (Nat.le_of_ble_eq_true rfl) sz_9) rfl ?_
        refine .withSt (st' := ⟨[.row 34 [.d (cI v0.source), .d (cI v0.serial), .d (cI v0.kind), .d (cS v0.a), .d (cS y1.1), .d (cI v0.start), .d (cI v0.units), .d (cI v0.call), .d (cI v0.part), .d (cB v0.last), .d (cI v0.trunk), .d (cB v0.inbound)], .row 47 [.d (cI v1.tag), .d (slOf 1 rB8 v1.value)], .row 34 [.d (cI 0), .d (cI 0), .d (cI 0), .d (cS ([] : List UInt8)), .d (cS ([] : List UInt8)), .d (cI 0), .d (cI 0), .d (cI 0), .d (cI 0), .d (cB false), .d (cI 0), .d (cB false)]], []⟩) rfl ?_
        refine .nil ?_
        exact .withSt (st' := ⟨[.row 34 [.d (cI v0.source), .d (cI v0.serial), .d (cI v0.kind), .d (cS v0.a), .d (cS y1.1), .d (cI v0.start), .d (cI v0.units), .d (cI v0.call), .d (cI v0.part), .d (cB v0.last), .d (cI v0.trunk), .d (cB v0.inbound)], .row 47 [.d (cI v1.tag), .d (slOf 1 rB8 v1.value)], .row 34 [.d (cI 0), .d (cI 0), .d (cI 0), .d (cS ([] : List UInt8)), .d (cS ([] : List UInt8)), .d (cI 0), .d (cI 0), .d (cI 0), .d (cI 0), .d (cB false), .d (cI 0), .d (cB false)]], []⟩) rfl <| .sub (.cons rfl (.rfl' _) (.cons rfl (.rfl' _) (.cons rfl (.rfl' _) (.nil)))) (hj1 (v0.a, y1.1) H)
  · replace H := ifF hc H; clear hc
    refine .skip ?_
    refine .seq ?_
    refine .region ?_
    refine .q (x := .ref 1 1) (q_fieldRef fo_47_1 rfl) rfl ?_
    refine .q (x := .d (slOf 1 rB8 v1.value)) (q_loadO one_25 rfl rfl rfl) rfl ?_
    obtain ⟨y2, hy2, H⟩ := bind_some' H
    refine .g (x := .d (cI y2)) (g_call en_47 rfl rfl (c_f_billingref10_number (hy2))) rfl ?_
    refine .q (x := .d (cI y2)) (q_assign rfl) rfl ?_
    refine .nil ?_
    refine .seqJoin (ι := Int × Int × Int × Int × Int × Int × Int × Int) (fun s => [(2, .ref 0 0), (3, .ref 1 0), (4, .ref 2 0), (8, .d (cI y2))]) (fun s => ⟨[.row 34 [.d (cI s.1), .d (cI s.2.1), .d (cI s.2.2.1), .d (cS v0.a), .d (cS v0.b), .d (cI s.2.2.2.1), .d (cI s.2.2.2.2.1), .d (cI s.2.2.2.2.2.1), .d (cI s.2.2.2.2.2.2.1), .d (cB v0.last), .d (cI s.2.2.2.2.2.2.2), .d (cB v0.inbound)], .row 47 [.d (cI v1.tag), .d (slOf 1 rB8 v1.value)], .row 34 [.d (cI 0), .d (cI 0), .d (cI 0), .d (cS ([] : List UInt8)), .d (cS ([] : List UInt8)), .d (cI 0), .d (cI 0), .d (cI 0), .d (cI 0), .d (cB false), .d (cI 0), .d (cB false)]], []⟩) (fun s => f_billingref10_field_j2 v0 v1 y2 s.1 s.2.1 s.2.2.1 s.2.2.2.1 s.2.2.2.2.1 s.2.2.2.2.2.1 s.2.2.2.2.2.2.1 s.2.2.2.2.2.2.2 = some r) ?_ ?_
    · rintro ⟨o0c0j2, o0c1j2, o0c2j2, o0c5j2, o0c6j2, o0c7j2, o0c8j2, o0c10j2⟩ H
      replace H : f_billingref10_field_j2 v0 v1 y2 o0c0j2 o0c1j2 o0c2j2 o0c5j2 o0c6j2 o0c7j2 o0c8j2 o0c10j2 = some r := H
      unfold f_billingref10_field_j2 at H
      change ARun _ _ _ _ _ _ [(2, .ref 0 0), (3, .ref 1 0), (4, .ref 2 0), (8, .d (cI y2))] ⟨[.row 34 [.d (cI o0c0j2), .d (cI o0c1j2), .d (cI o0c2j2), .d (cS v0.a), .d (cS v0.b), .d (cI o0c5j2), .d (cI o0c6j2), .d (cI o0c7j2), .d (cI o0c8j2), .d (cB v0.last), .d (cI o0c10j2), .d (cB v0.inbound)], .row 47 [.d (cI v1.tag), .d (slOf 1 rB8 v1.value)], .row 34 [.d (cI 0), .d (cI 0), .d (cI 0), .d (cS ([] : List UInt8)), .d (cS ([] : List UInt8)), .d (cI 0), .d (cI 0), .d (cI 0), .d (cI 0), .d (cB false), .d (cI 0), .d (cB false)]], []⟩
      refine .seq ?_
      refine .drawnU (xs := [.d (.agg (Record.row (⟨o0c0j2, o0c1j2, o0c2j2, v0.a, v0.b, o0c5j2, o0c6j2, o0c7j2, o0c8j2, v0.last, o0c10j2, v0.inbound⟩ : Record))), .d (cI y2), .d (cB (decide (y2 > 0))), .d (cB (decide (y2 > 0))), .gd (decide (y2 > 0)) (.ref 1 0), .gd (decide (y2 > 0)) (.d (cI v1.tag)), .gd (decide (y2 > 0)) (.d (cB (decide (v1.tag ≤ 11)))), .d (cB ((decide (y2 > 0)) && (decide (v1.tag ≤ 11))))]) (st' := ⟨[.row 34 [.d (cI o0c0j2), .d (cI o0c1j2), .d (cI o0c2j2), .d (cS v0.a), .d (cS v0.b), .d (cI o0c5j2), .d (cI o0c6j2), .d (cI o0c7j2), .d (cI o0c8j2), .d (cB v0.last), .d (cI o0c10j2), .d (cB v0.inbound)], .row 47 [.d (cI v1.tag), .d (slOf 1 rB8 v1.value)], .row 34 [.d (cI o0c0j2), .d (cI o0c1j2), .d (cI o0c2j2), .d (cS v0.a), .d (cS v0.b), .d (cI o0c5j2), .d (cI o0c6j2), .d (cI o0c7j2), .d (cI o0c8j2), .d (cB v0.last), .d (cI o0c10j2), .d (cB v0.inbound)]], []⟩) 8 hMix (by kernel_rfl) rfl ?_ ?_ ?_ ?_
      · show Chain _ _ _ _ (_ :: _) _ _
        refine .q' (x := .d (.agg (Record.row (⟨o0c0j2, o0c1j2, o0c2j2, v0.a, v0.b, o0c5j2, o0c6j2, o0c7j2, o0c8j2, v0.last, o0c10j2, v0.inbound⟩ : Record)))) (q_loadOA one_34 sz_34 rfl rfl (Nat.le_of_ble_eq_true rfl) rfl) rfl ?_
        refine .q' (x := .d (cI y2)) (q_move rfl) rfl ?_
        refine .q' (x := .d (cB (decide (y2 > 0)))) (q_gtr rfl rfl) rfl ?_
        refine .q' (x := .d (cB (decide (y2 > 0)))) (q_move rfl) rfl ?_
        refine .guardG' (b := decide (y2 > 0)) (x := .ref 1 0) (env' := [(3, _)]) rfl rfl rfl ⟨.inl rfl, trivial⟩ rfl (fun hg => OpQ.g (q_fieldRef fo_47_0 rfl)) ?_
        refine .guardG' (b := decide (y2 > 0)) (x := .d (cI v1.tag)) (env' := [(96, _)]) rfl rfl rfl ⟨.inr (.inl rfl), trivial⟩ rfl (fun hg => OpQ.g (q_loadO one_3 rfl rfl rfl)) ?_
        refine .guardG' (b := decide (y2 > 0)) (x := .d (cB (decide (v1.tag ≤ 11)))) (env' := [(97, _)]) rfl rfl rfl ⟨.inr (.inl rfl), trivial⟩ rfl (fun hg => OpQ.g (q_leq rfl rfl)) ?_
        refine .q' (x := .d (cB ((decide (y2 > 0)) && (decide (v1.tag ≤ 11))))) (q_pickAndB rfl rfl rfl) rfl ?_
        exact .nil'
      · exact OpU.stc (u_store rfl rfl rfl rfl (Nat.le_of_ble_eq_true rfl) sz_34) rfl
      · show Chain _ _ _ _ (_ :: _) _ _
        refine .q' (x := .d (.agg (Record.row (⟨o0c0j2, o0c1j2, o0c2j2, v0.a, v0.b, o0c5j2, o0c6j2, o0c7j2, o0c8j2, v0.last, o0c10j2, v0.inbound⟩ : Record)))) (q_loadOA one_34 sz_34 rfl rfl (Nat.le_of_ble_eq_true rfl) rfl) rfl ?_
        refine .q' (x := .d (cI y2)) (q_move rfl) rfl ?_
        refine .q' (x := .d (cB (decide (y2 > 0)))) (q_gtr rfl rfl) rfl ?_
        refine .q' (x := .d (cB (decide (y2 > 0)))) (q_move rfl) rfl ?_
        refine .guardG' (b := decide (y2 > 0)) (x := .ref 1 0) (env' := [(3, _)]) rfl rfl rfl ⟨.inl rfl, trivial⟩ rfl (fun hg => OpQ.g (q_fieldRef fo_47_0 rfl)) ?_
        refine .guardG' (b := decide (y2 > 0)) (x := .d (cI v1.tag)) (env' := [(96, _)]) rfl rfl rfl ⟨.inr (.inl rfl), trivial⟩ rfl (fun hg => OpQ.g (q_loadO one_3 rfl rfl rfl)) ?_
        refine .guardG' (b := decide (y2 > 0)) (x := .d (cB (decide (v1.tag ≤ 11)))) (env' := [(97, _)]) rfl rfl rfl ⟨.inr (.inl rfl), trivial⟩ rfl (fun hg => OpQ.g (q_leq rfl rfl)) ?_
        refine .q' (x := .d (cB ((decide (y2 > 0)) && (decide (v1.tag ≤ 11))))) (q_pickAndB rfl rfl rfl) rfl ?_
        exact .nil'
      show AOps _ _ _ _ _ _ (_ :: _) _ _ _
      refine .q (x := .d (cB ((decide (y2 > 0)) && (decide (v1.tag ≤ 11))))) (q_assign rfl) rfl ?_
      refine .nil ?_
      refine .retN [.cell 4 34, .tmp 5] [.d (.agg (Record.row (⟨o0c0j2, o0c1j2, o0c2j2, v0.a, v0.b, o0c5j2, o0c6j2, o0c7j2, o0c8j2, v0.last, o0c10j2, v0.inbound⟩ : Record))), .d (cB ((decide (y2 > 0)) && (decide (v1.tag ≤ 11))))] Tryd.func37 Tryd.results37 ⟨⟨⟨_, _, rfl⟩, q_loadOA one_34 sz_34 rfl rfl (Nat.le_of_ble_eq_true rfl) rfl⟩, rfl, trivial⟩ ?_
      cases H
      exact ⟨_, EVle.tupL (ds := [.agg (Record.row (⟨o0c0j2, o0c1j2, o0c2j2, v0.a, v0.b, o0c5j2, o0c6j2, o0c7j2, o0c8j2, v0.last, o0c10j2, v0.inbound⟩ : Record)), cB ((decide (y2 > 0)) && (decide (v1.tag ≤ 11)))]) ⟨.rfl' _, .rfl' _, trivial⟩, rfl⟩
    · intro hj2
      refine .seq ?_
      refine .region ?_
      refine .q (x := .ref 1 0) (q_fieldRef fo_47_0 rfl) rfl ?_
      refine .q (x := .d (cI v1.tag)) (q_loadO one_3 rfl rfl rfl) rfl ?_
      refine .nil ?_
      refine .block ?_
      refine .seq ?_
      refine .region ?_
      refine .q (x := .d (cB (v1.tag == 1))) (q_eql rfl rfl) rfl ?_
      refine .q (x := .d (cB (v1.tag == 1))) (q_assign rfl) rfl ?_
      refine .nil ?_
      refine .cond rfl (fun hc => ?_) (fun hc => ?_)
      · replace H := ifT hc H; clear hc
        refine .region ?_
        refine .q (x := .d (cI y2)) (q_move rfl) rfl ?_
        refine .q (x := .ref 0 2) (q_fieldRef fo_34_2 rfl) rfl ?_
        refine .u (u_store rfl rfl rfl rfl (Nat.le_of_ble_eq_true rfl) sz_3) rfl ?_
        refine .withSt (st' := ⟨[.row 34 [.d (cI v0.source), .d (cI v0.serial), .d (cI y2), .d (cS v0.a), .d (cS v0.b), .d (cI v0.start), .d (cI v0.units), .d (cI v0.call), .d (cI v0.part), .d (cB v0.last), .d (cI v0.trunk), .d (cB v0.inbound)], .row 47 [.d (cI v1.tag), .d (slOf 1 rB8 v1.value)], .row 34 [.d (cI 0), .d (cI 0), .d (cI 0), .d (cS ([] : List UInt8)), .d (cS ([] : List UInt8)), .d (cI 0), .d (cI 0), .d (cI 0), .d (cI 0), .d (cB false), .d (cI 0), .d (cB false)]], []⟩) rfl ?_
        refine .nil ?_
        refine .inBlock ?_
        exact .withSt (st' := ⟨[.row 34 [.d (cI v0.source), .d (cI v0.serial), .d (cI y2), .d (cS v0.a), .d (cS v0.b), .d (cI v0.start), .d (cI v0.units), .d (cI v0.call), .d (cI v0.part), .d (cB v0.last), .d (cI v0.trunk), .d (cB v0.inbound)], .row 47 [.d (cI v1.tag), .d (slOf 1 rB8 v1.value)], .row 34 [.d (cI 0), .d (cI 0), .d (cI 0), .d (cS ([] : List UInt8)), .d (cS ([] : List UInt8)), .d (cI 0), .d (cI 0), .d (cI 0), .d (cI 0), .d (cB false), .d (cI 0), .d (cB false)]], []⟩) rfl <| .sub (.cons rfl (.rfl' _) (.cons rfl (.rfl' _) (.cons rfl (.rfl' _) (.cons rfl (.rfl' _) (.nil))))) (hj2 (v0.source, v0.serial, y2, v0.start, v0.units, v0.call, v0.part, v0.trunk) H)
      · replace H := ifF hc H; clear hc
        refine .seq ?_
        refine .region ?_
        refine .q (x := .d (cB (v1.tag == 2))) (q_eql rfl rfl) rfl ?_
        refine .q (x := .d (cB (v1.tag == 2))) (q_assign rfl) rfl ?_
        refine .nil ?_
        refine .cond rfl (fun hc => ?_) (fun hc => ?_)
        · replace H := ifT hc H; clear hc
          refine .region ?_
          refine .q (x := .d (cI y2)) (q_move rfl) rfl ?_
          refine .q (x := .ref 0 0) (q_fieldRef fo_34_0 rfl) rfl ?_
          refine .u (u_store rfl rfl rfl rfl (Nat.le_of_ble_eq_true rfl) sz_3) rfl ?_
          refine .withSt (st' := ⟨[.row 34 [.d (cI y2), .d (cI v0.serial), .d (cI v0.kind), .d (cS v0.a), .d (cS v0.b), .d (cI v0.start), .d (cI v0.units), .d (cI v0.call), .d (cI v0.part), .d (cB v0.last), .d (cI v0.trunk), .d (cB v0.inbound)], .row 47 [.d (cI v1.tag), .d (slOf 1 rB8 v1.value)], .row 34 [.d (cI 0), .d (cI 0), .d (cI 0), .d (cS ([] : List UInt8)), .d (cS ([] : List UInt8)), .d (cI 0), .d (cI 0), .d (cI 0), .d (cI 0), .d (cB false), .d (cI 0), .d (cB false)]], []⟩) rfl ?_
          refine .nil ?_
          refine .inBlock ?_
          exact .withSt (st' := ⟨[.row 34 [.d (cI y2), .d (cI v0.serial), .d (cI v0.kind), .d (cS v0.a), .d (cS v0.b), .d (cI v0.start), .d (cI v0.units), .d (cI v0.call), .d (cI v0.part), .d (cB v0.last), .d (cI v0.trunk), .d (cB v0.inbound)], .row 47 [.d (cI v1.tag), .d (slOf 1 rB8 v1.value)], .row 34 [.d (cI 0), .d (cI 0), .d (cI 0), .d (cS ([] : List UInt8)), .d (cS ([] : List UInt8)), .d (cI 0), .d (cI 0), .d (cI 0), .d (cI 0), .d (cB false), .d (cI 0), .d (cB false)]], []⟩) rfl <| .sub (.cons rfl (.rfl' _) (.cons rfl (.rfl' _) (.cons rfl (.rfl' _) (.cons rfl (.rfl' _) (.nil))))) (hj2 (y2, v0.serial, v0.kind, v0.start, v0.units, v0.call, v0.part, v0.trunk) H)
        · replace H := ifF hc H; clear hc
          refine .seq ?_
          refine .region ?_
          refine .q (x := .d (cB (v1.tag == 3))) (q_eql rfl rfl) rfl ?_
          refine .q (x := .d (cB (v1.tag == 3))) (q_assign rfl) rfl ?_
          refine .nil ?_
          refine .cond rfl (fun hc => ?_) (fun hc => ?_)
          · replace H := ifT hc H; clear hc
            refine .region ?_
            refine .q (x := .d (cI y2)) (q_move rfl) rfl ?_
            refine .q (x := .ref 0 1) (q_fieldRef fo_34_1 rfl) rfl ?_
            refine .u (u_store rfl rfl rfl rfl (Nat.le_of_ble_eq_true rfl) sz_3) rfl ?_
            refine .withSt (st' := ⟨[.row 34 [.d (cI v0.source), .d (cI y2), .d (cI v0.kind), .d (cS v0.a), .d (cS v0.b), .d (cI v0.start), .d (cI v0.units), .d (cI v0.call), .d (cI v0.part), .d (cB v0.last), .d (cI v0.trunk), .d (cB v0.inbound)], .row 47 [.d (cI v1.tag), .d (slOf 1 rB8 v1.value)], .row 34 [.d (cI 0), .d (cI 0), .d (cI 0), .d (cS ([] : List UInt8)), .d (cS ([] : List UInt8)), .d (cI 0), .d (cI 0), .d (cI 0), .d (cI 0), .d (cB false), .d (cI 0), .d (cB false)]], []⟩) rfl ?_
            refine .nil ?_
            refine .inBlock ?_
            exact .withSt (st' := ⟨[.row 34 [.d (cI v0.source), .d (cI y2), .d (cI v0.kind), .d (cS v0.a), .d (cS v0.b), .d (cI v0.start), .d (cI v0.units), .d (cI v0.call), .d (cI v0.part), .d (cB v0.last), .d (cI v0.trunk), .d (cB v0.inbound)], .row 47 [.d (cI v1.tag), .d (slOf 1 rB8 v1.value)], .row 34 [.d (cI 0), .d (cI 0), .d (cI 0), .d (cS ([] : List UInt8)), .d (cS ([] : List UInt8)), .d (cI 0), .d (cI 0), .d (cI 0), .d (cI 0), .d (cB false), .d (cI 0), .d (cB false)]], []⟩) rfl <| .sub (.cons rfl (.rfl' _) (.cons rfl (.rfl' _) (.cons rfl (.rfl' _) (.cons rfl (.rfl' _) (.nil))))) (hj2 (v0.source, y2, v0.kind, v0.start, v0.units, v0.call, v0.part, v0.trunk) H)
          · replace H := ifF hc H; clear hc
            refine .seq ?_
            refine .region ?_
            refine .q (x := .d (cB (v1.tag == 6))) (q_eql rfl rfl) rfl ?_
            refine .q (x := .d (cB (v1.tag == 6))) (q_assign rfl) rfl ?_
            refine .nil ?_
            refine .cond rfl (fun hc => ?_) (fun hc => ?_)
            · replace H := ifT hc H; clear hc
              refine .region ?_
              refine .q (x := .d (cI y2)) (q_move rfl) rfl ?_
              refine .q (x := .ref 0 5) (q_fieldRef fo_34_5 rfl) rfl ?_
              refine .u (u_store rfl rfl rfl rfl (Nat.le_of_ble_eq_true rfl) sz_3) rfl ?_
              refine .withSt (st' := ⟨[.row 34 [.d (cI v0.source), .d (cI v0.serial), .d (cI v0.kind), .d (cS v0.a), .d (cS v0.b), .d (cI y2), .d (cI v0.units), .d (cI v0.call), .d (cI v0.part), .d (cB v0.last), .d (cI v0.trunk), .d (cB v0.inbound)], .row 47 [.d (cI v1.tag), .d (slOf 1 rB8 v1.value)], .row 34 [.d (cI 0), .d (cI 0), .d (cI 0), .d (cS ([] : List UInt8)), .d (cS ([] : List UInt8)), .d (cI 0), .d (cI 0), .d (cI 0), .d (cI 0), .d (cB false), .d (cI 0), .d (cB false)]], []⟩) rfl ?_
              refine .nil ?_
              refine .inBlock ?_
              exact .withSt (st' := ⟨[.row 34 [.d (cI v0.source), .d (cI v0.serial), .d (cI v0.kind), .d (cS v0.a), .d (cS v0.b), .d (cI y2), .d (cI v0.units), .d (cI v0.call), .d (cI v0.part), .d (cB v0.last), .d (cI v0.trunk), .d (cB v0.inbound)], .row 47 [.d (cI v1.tag), .d (slOf 1 rB8 v1.value)], .row 34 [.d (cI 0), .d (cI 0), .d (cI 0), .d (cS ([] : List UInt8)), .d (cS ([] : List UInt8)), .d (cI 0), .d (cI 0), .d (cI 0), .d (cI 0), .d (cB false), .d (cI 0), .d (cB false)]], []⟩) rfl <| .sub (.cons rfl (.rfl' _) (.cons rfl (.rfl' _) (.cons rfl (.rfl' _) (.cons rfl (.rfl' _) (.nil))))) (hj2 (v0.source, v0.serial, v0.kind, y2, v0.units, v0.call, v0.part, v0.trunk) H)
            · replace H := ifF hc H; clear hc
              refine .seq ?_
              refine .region ?_
              refine .q (x := .d (cB (v1.tag == 7))) (q_eql rfl rfl) rfl ?_
              refine .q (x := .d (cB (v1.tag == 7))) (q_assign rfl) rfl ?_
              refine .nil ?_
              refine .cond rfl (fun hc => ?_) (fun hc => ?_)
              · replace H := ifT hc H; clear hc
                refine .region ?_
                refine .q (x := .d (cI y2)) (q_move rfl) rfl ?_
                refine .q (x := .ref 0 6) (q_fieldRef fo_34_6 rfl) rfl ?_
                refine .u (u_store rfl rfl rfl rfl (Nat.le_of_ble_eq_true rfl) sz_3) rfl ?_
                refine .withSt (st' := ⟨[.row 34 [.d (cI v0.source), .d (cI v0.serial), .d (cI v0.kind), .d (cS v0.a), .d (cS v0.b), .d (cI v0.start), .d (cI y2), .d (cI v0.call), .d (cI v0.part), .d (cB v0.last), .d (cI v0.trunk), .d (cB v0.inbound)], .row 47 [.d (cI v1.tag), .d (slOf 1 rB8 v1.value)], .row 34 [.d (cI 0), .d (cI 0), .d (cI 0), .d (cS ([] : List UInt8)), .d (cS ([] : List UInt8)), .d (cI 0), .d (cI 0), .d (cI 0), .d (cI 0), .d (cB false), .d (cI 0), .d (cB false)]], []⟩) rfl ?_
                refine .nil ?_
                refine .inBlock ?_
                exact .withSt (st' := ⟨[.row 34 [.d (cI v0.source), .d (cI v0.serial), .d (cI v0.kind), .d (cS v0.a), .d (cS v0.b), .d (cI v0.start), .d (cI y2), .d (cI v0.call), .d (cI v0.part), .d (cB v0.last), .d (cI v0.trunk), .d (cB v0.inbound)], .row 47 [.d (cI v1.tag), .d (slOf 1 rB8 v1.value)], .row 34 [.d (cI 0), .d (cI 0), .d (cI 0), .d (cS ([] : List UInt8)), .d (cS ([] : List UInt8)), .d (cI 0), .d (cI 0), .d (cI 0), .d (cI 0), .d (cB false), .d (cI 0), .d (cB false)]], []⟩) rfl <| .sub (.cons rfl (.rfl' _) (.cons rfl (.rfl' _) (.cons rfl (.rfl' _) (.cons rfl (.rfl' _) (.nil))))) (hj2 (v0.source, v0.serial, v0.kind, v0.start, y2, v0.call, v0.part, v0.trunk) H)
              · replace H := ifF hc H; clear hc
                refine .seq ?_
                refine .region ?_
                refine .q (x := .d (cB (v1.tag == 8))) (q_eql rfl rfl) rfl ?_
                refine .q (x := .d (cB (v1.tag == 8))) (q_assign rfl) rfl ?_
                refine .nil ?_
                refine .cond rfl (fun hc => ?_) (fun hc => ?_)
                · replace H := ifT hc H; clear hc
                  refine .region ?_
                  refine .q (x := .d (cI y2)) (q_move rfl) rfl ?_
                  refine .q (x := .ref 0 7) (q_fieldRef fo_34_7 rfl) rfl ?_
                  refine .u (u_store rfl rfl rfl rfl (Nat.le_of_ble_eq_true rfl) sz_3) rfl ?_
                  refine .withSt (st' := ⟨[.row 34 [.d (cI v0.source), .d (cI v0.serial), .d (cI v0.kind), .d (cS v0.a), .d (cS v0.b), .d (cI v0.start), .d (cI v0.units), .d (cI y2), .d (cI v0.part), .d (cB v0.last), .d (cI v0.trunk), .d (cB v0.inbound)], .row 47 [.d (cI v1.tag), .d (slOf 1 rB8 v1.value)], .row 34 [.d (cI 0), .d (cI 0), .d (cI 0), .d (cS ([] : List UInt8)), .d (cS ([] : List UInt8)), .d (cI 0), .d (cI 0), .d (cI 0), .d (cI 0), .d (cB false), .d (cI 0), .d (cB false)]], []⟩) rfl ?_
                  refine .nil ?_
                  refine .inBlock ?_
                  exact .withSt (st' := ⟨[.row 34 [.d (cI v0.source), .d (cI v0.serial), .d (cI v0.kind), .d (cS v0.a), .d (cS v0.b), .d (cI v0.start), .d (cI v0.units), .d (cI y2), .d (cI v0.part), .d (cB v0.last), .d (cI v0.trunk), .d (cB v0.inbound)], .row 47 [.d (cI v1.tag), .d (slOf 1 rB8 v1.value)], .row 34 [.d (cI 0), .d (cI 0), .d (cI 0), .d (cS ([] : List UInt8)), .d (cS ([] : List UInt8)), .d (cI 0), .d (cI 0), .d (cI 0), .d (cI 0), .d (cB false), .d (cI 0), .d (cB false)]], []⟩) rfl <| .sub (.cons rfl (.rfl' _) (.cons rfl (.rfl' _) (.cons rfl (.rfl' _) (.cons rfl (.rfl' _) (.nil))))) (hj2 (v0.source, v0.serial, v0.kind, v0.start, v0.units, y2, v0.part, v0.trunk) H)
                · replace H := ifF hc H; clear hc
                  refine .seq ?_
                  refine .region ?_
                  refine .q (x := .d (cB (v1.tag == 9))) (q_eql rfl rfl) rfl ?_
                  refine .q (x := .d (cB (v1.tag == 9))) (q_assign rfl) rfl ?_
                  refine .nil ?_
                  refine .cond rfl (fun hc => ?_) (fun hc => ?_)
                  · replace H := ifT hc H; clear hc
                    refine .region ?_
                    refine .q (x := .d (cI y2)) (q_move rfl) rfl ?_
                    refine .q (x := .ref 0 8) (q_fieldRef fo_34_8 rfl) rfl ?_
                    refine .u (u_store rfl rfl rfl rfl (Nat.le_of_ble_eq_true rfl) sz_3) rfl ?_
                    refine .withSt (st' := ⟨[.row 34 [.d (cI v0.source), .d (cI v0.serial), .d (cI v0.kind), .d (cS v0.a), .d (cS v0.b), .d (cI v0.start), .d (cI v0.units), .d (cI v0.call), .d (cI y2), .d (cB v0.last), .d (cI v0.trunk), .d (cB v0.inbound)], .row 47 [.d (cI v1.tag), .d (slOf 1 rB8 v1.value)], .row 34 [.d (cI 0), .d (cI 0), .d (cI 0), .d (cS ([] : List UInt8)), .d (cS ([] : List UInt8)), .d (cI 0), .d (cI 0), .d (cI 0), .d (cI 0), .d (cB false), .d (cI 0), .d (cB false)]], []⟩) rfl ?_
                    refine .nil ?_
                    refine .inBlock ?_
                    exact .withSt (st' := ⟨[.row 34 [.d (cI v0.source), .d (cI v0.serial), .d (cI v0.kind), .d (cS v0.a), .d (cS v0.b), .d (cI v0.start), .d (cI v0.units), .d (cI v0.call), .d (cI y2), .d (cB v0.last), .d (cI v0.trunk), .d (cB v0.inbound)], .row 47 [.d (cI v1.tag), .d (slOf 1 rB8 v1.value)], .row 34 [.d (cI 0), .d (cI 0), .d (cI 0), .d (cS ([] : List UInt8)), .d (cS ([] : List UInt8)), .d (cI 0), .d (cI 0), .d (cI 0), .d (cI 0), .d (cB false), .d (cI 0), .d (cB false)]], []⟩) rfl <| .sub (.cons rfl (.rfl' _) (.cons rfl (.rfl' _) (.cons rfl (.rfl' _) (.cons rfl (.rfl' _) (.nil))))) (hj2 (v0.source, v0.serial, v0.kind, v0.start, v0.units, v0.call, y2, v0.trunk) H)
                  · replace H := ifF hc H; clear hc
                    refine .seq ?_
                    refine .region ?_
                    refine .q (x := .d (cB (v1.tag == 10))) (q_eql rfl rfl) rfl ?_
                    refine .q (x := .d (cB (v1.tag == 10))) (q_assign rfl) rfl ?_
                    refine .nil ?_
                    refine .cond rfl (fun hc => ?_) (fun hc => ?_)
                    · replace H := ifT hc H; clear hc
                      refine .region ?_
                      refine .q (x := .d (cI y2)) (q_move rfl) rfl ?_
                      refine .q (x := .ref 0 10) (q_fieldRef fo_34_10 rfl) rfl ?_
                      refine .u (u_store rfl rfl rfl rfl (Nat.le_of_ble_eq_true rfl) sz_3) rfl ?_
                      refine .withSt (st' := ⟨[.row 34 [.d (cI v0.source), .d (cI v0.serial), .d (cI v0.kind), .d (cS v0.a), .d (cS v0.b), .d (cI v0.start), .d (cI v0.units), .d (cI v0.call), .d (cI v0.part), .d (cB v0.last), .d (cI y2), .d (cB v0.inbound)], .row 47 [.d (cI v1.tag), .d (slOf 1 rB8 v1.value)], .row 34 [.d (cI 0), .d (cI 0), .d (cI 0), .d (cS ([] : List UInt8)), .d (cS ([] : List UInt8)), .d (cI 0), .d (cI 0), .d (cI 0), .d (cI 0), .d (cB false), .d (cI 0), .d (cB false)]], []⟩) rfl ?_
                      refine .nil ?_
                      refine .inBlock ?_
                      exact .withSt (st' := ⟨[.row 34 [.d (cI v0.source), .d (cI v0.serial), .d (cI v0.kind), .d (cS v0.a), .d (cS v0.b), .d (cI v0.start), .d (cI v0.units), .d (cI v0.call), .d (cI v0.part), .d (cB v0.last), .d (cI y2), .d (cB v0.inbound)], .row 47 [.d (cI v1.tag), .d (slOf 1 rB8 v1.value)], .row 34 [.d (cI 0), .d (cI 0), .d (cI 0), .d (cS ([] : List UInt8)), .d (cS ([] : List UInt8)), .d (cI 0), .d (cI 0), .d (cI 0), .d (cI 0), .d (cB false), .d (cI 0), .d (cB false)]], []⟩) rfl <| .sub (.cons rfl (.rfl' _) (.cons rfl (.rfl' _) (.cons rfl (.rfl' _) (.cons rfl (.rfl' _) (.nil))))) (hj2 (v0.source, v0.serial, v0.kind, v0.start, v0.units, v0.call, v0.part, y2) H)
                    · replace H := ifF hc H; clear hc
                      refine .seq ?_
                      refine .region ?_
                      refine .q (x := .d (cB (v1.tag == 11))) (q_eql rfl rfl) rfl ?_
                      refine .q (x := .d (cB (v1.tag == 11))) (q_assign rfl) rfl ?_
                      refine .nil ?_
                      refine .cond rfl (fun hc => ?_) (fun hc => ?_)
                      · replace H := ifT hc H; clear hc
                        refine .seq ?_
                        refine .region ?_
                        refine .q (x := .d (cI y2)) (q_move rfl) rfl ?_
                        obtain ⟨hk1, H⟩ := ck_some H
                        refine .q (x := .d (cI (Int.tmod y2 2))) (q_remT rfl rfl hk1) rfl ?_
                        refine .q (x := .d (cB ((Int.tmod y2 2) == 1))) (q_eql rfl rfl) rfl ?_
                        refine .q (x := .ref 0 9) (q_fieldRef fo_34_9 rfl) rfl ?_
                        refine .u (u_store rfl rfl rfl rfl (Nat.le_of_ble_eq_true rfl) sz_4) rfl ?_
                        refine .withSt (st' := ⟨[.row 34 [.d (cI v0.source), .d (cI v0.serial), .d (cI v0.kind), .d (cS v0.a), .d (cS v0.b), .d (cI v0.start), .d (cI v0.units), .d (cI v0.call), .d (cI v0.part), .d (cB ((Int.tmod y2 2) == 1)), .d (cI v0.trunk), .d (cB v0.inbound)], .row 47 [.d (cI v1.tag), .d (slOf 1 rB8 v1.value)], .row 34 [.d (cI 0), .d (cI 0), .d (cI 0), .d (cS ([] : List UInt8)), .d (cS ([] : List UInt8)), .d (cI 0), .d (cI 0), .d (cI 0), .d (cI 0), .d (cB false), .d (cI 0), .d (cB false)]], []⟩) rfl ?_
                        refine .nil ?_
                        refine .seq ?_
                        refine .region ?_
                        refine .q (x := .d (cI y2)) (q_move rfl) rfl ?_
                        refine .q (x := .d (cB (decide (y2 ≥ 2)))) (q_geq rfl rfl) rfl ?_
                        refine .q (x := .ref 0 11) (q_fieldRef fo_34_11 rfl) rfl ?_
                        refine .u (u_store rfl rfl rfl rfl (Nat.le_of_ble_eq_true rfl) sz_4) rfl ?_
                        refine .withSt (st' := ⟨[.row 34 [.d (cI v0.source), .d (cI v0.serial), .d (cI v0.kind), .d (cS v0.a), .d (cS v0.b), .d (cI v0.start), .d (cI v0.units), .d (cI v0.call), .d (cI v0.part), .d (cB ((Int.tmod y2 2) == 1)), .d (cI v0.trunk), .d (cB (decide (y2 ≥ 2)))], .row 47 [.d (cI v1.tag), .d (slOf 1 rB8 v1.value)], .row 34 [.d (cI 0), .d (cI 0), .d (cI 0), .d (cS ([] : List UInt8)), .d (cS ([] : List UInt8)), .d (cI 0), .d (cI 0), .d (cI 0), .d (cI 0), .d (cB false), .d (cI 0), .d (cB false)]], []⟩) rfl ?_
                        refine .nil ?_
                        refine .seq ?_
                        refine .region ?_
                        refine .q (x := .d (.agg (Record.row (⟨v0.source, v0.serial, v0.kind, v0.a, v0.b, v0.start, v0.units, v0.call, v0.part, ((Int.tmod y2 2) == 1), v0.trunk, decide (y2 ≥ 2)⟩ : Record)))) (q_loadOA one_34 sz_34 rfl rfl (Nat.le_of_ble_eq_true rfl) rfl) rfl ?_
                        refine .q (x := .ref 1 1) (q_fieldRef fo_47_1 rfl) rfl ?_
                        refine .q (x := .d (slOf 1 rB8 v1.value)) (q_loadO one_25 rfl rfl rfl) rfl ?_
                        refine .q (x := .d (cI (v1.value.length : Int))) (q_lenL (l := v1.value) (row := rB8) Tryd.underlying25 rfl rfl) rfl ?_
                        refine .q (x := .d (cB ((v1.value.length : Int) == 1))) (q_eql rfl rfl) rfl ?_
                        refine .q (x := .d (cB ((v1.value.length : Int) == 1))) (q_move rfl) rfl ?_
                        refine .guardG (b := ((v1.value.length : Int) == 1)) (x := .d (cI y2)) (env' := [(8, _)]) rfl rfl rfl ⟨.inl rfl, trivial⟩ rfl (fun hg => OpQ.g (q_move rfl)) ?_
                        refine .guardG (b := ((v1.value.length : Int) == 1)) (x := .d (cB (decide (y2 ≥ 1)))) (env' := [(85, _)]) rfl rfl rfl ⟨.inr (.inl rfl), trivial⟩ rfl (fun hg => OpQ.g (q_geq rfl rfl)) ?_
                        refine .q (x := .d (cB (((v1.value.length : Int) == 1) && (decide (y2 ≥ 1))))) (q_pickAndB rfl rfl rfl) rfl ?_
                        refine .q (x := .d (cB (((v1.value.length : Int) == 1) && (decide (y2 ≥ 1))))) (q_move rfl) rfl ?_
                        refine .guardG (b := (((v1.value.length : Int) == 1) && (decide (y2 ≥ 1)))) (x := .d (cI y2)) (env' := [(8, _)]) rfl rfl rfl ⟨.inl rfl, trivial⟩ rfl (fun hg => OpQ.g (q_move rfl)) ?_
                        refine .guardG (b := (((v1.value.length : Int) == 1) && (decide (y2 ≥ 1)))) (x := .d (cB (decide (y2 ≤ 3)))) (env' := [(89, _)]) rfl rfl rfl ⟨.inr (.inl rfl), trivial⟩ rfl (fun hg => OpQ.g (q_leq rfl rfl)) ?_
                        refine .q (x := .d (cB ((((v1.value.length : Int) == 1) && (decide (y2 ≥ 1))) && (decide (y2 ≤ 3))))) (q_pickAndB rfl rfl rfl) rfl ?_
                        refine .u (u_store rfl rfl rfl rfl (Nat.le_of_ble_eq_true rfl) sz_34) rfl ?_
                        refine .withSt (st' := ⟨[.row 34 [.d (cI v0.source), .d (cI v0.serial), .d (cI v0.kind), .d (cS v0.a), .d (cS v0.b), .d (cI v0.start), .d (cI v0.units), .d (cI v0.call), .d (cI v0.part), .d (cB ((Int.tmod y2 2) == 1)), .d (cI v0.trunk), .d (cB (decide (y2 ≥ 2)))], .row 47 [.d (cI v1.tag), .d (slOf 1 rB8 v1.value)], .row 34 [.d (cI v0.source), .d (cI v0.serial), .d (cI v0.kind), .d (cS v0.a), .d (cS v0.b), .d (cI v0.start), .d (cI v0.units), .d (cI v0.call), .d (cI v0.part), .d (cB ((Int.tmod y2 2) == 1)), .d (cI v0.trunk), .d (cB (decide (y2 ≥ 2)))]], []⟩) rfl ?_
                        refine .q (x := .d (cB ((((v1.value.length : Int) == 1) && (decide (y2 ≥ 1))) && (decide (y2 ≤ 3))))) (q_assign rfl) rfl ?_
                        refine .nil ?_
                        refine .retN [.cell 4 34, .tmp 5] [.d (.agg (Record.row (⟨v0.source, v0.serial, v0.kind, v0.a, v0.b, v0.start, v0.units, v0.call, v0.part, ((Int.tmod y2 2) == 1), v0.trunk, decide (y2 ≥ 2)⟩ : Record))), .d (cB ((((v1.value.length : Int) == 1) && (decide (y2 ≥ 1))) && (decide (y2 ≤ 3))))] Tryd.func37 Tryd.results37 ⟨⟨⟨_, _, rfl⟩, q_loadOA one_34 sz_34 rfl rfl (Nat.le_of_ble_eq_true rfl) rfl⟩, rfl, trivial⟩ ?_
                        cases H
                        exact ⟨_, EVle.tupL (ds := [.agg (Record.row (⟨v0.source, v0.serial, v0.kind, v0.a, v0.b, v0.start, v0.units, v0.call, v0.part, ((Int.tmod y2 2) == 1), v0.trunk, decide (y2 ≥ 2)⟩ : Record)), cB ((((v1.value.length : Int) == 1) && (decide (y2 ≥ 1))) && (decide (y2 ≤ 3)))]) ⟨.rfl' _, .rfl' _, trivial⟩, rfl⟩
                      · replace H := ifF hc H; clear hc
                        refine .skip ?_
                        refine .inBlock ?_
                        exact .withSt (st' := ⟨[.row 34 [.d (cI v0.source), .d (cI v0.serial), .d (cI v0.kind), .d (cS v0.a), .d (cS v0.b), .d (cI v0.start), .d (cI v0.units), .d (cI v0.call), .d (cI v0.part), .d (cB v0.last), .d (cI v0.trunk), .d (cB v0.inbound)], .row 47 [.d (cI v1.tag), .d (slOf 1 rB8 v1.value)], .row 34 [.d (cI 0), .d (cI 0), .d (cI 0), .d (cS ([] : List UInt8)), .d (cS ([] : List UInt8)), .d (cI 0), .d (cI 0), .d (cI 0), .d (cI 0), .d (cB false), .d (cI 0), .d (cB false)]], []⟩) rfl <| .sub (.cons rfl (.rfl' _) (.cons rfl (.rfl' _) (.cons rfl (.rfl' _) (.cons rfl (.rfl' _) (.nil))))) (hj2 (v0.source, v0.serial, v0.kind, v0.start, v0.units, v0.call, v0.part, v0.trunk) H)

set_option maxRecDepth 100000 in
set_option maxHeartbeats 1000000 in
theorem c_f_billingref09_Same {v0a : List Record} {v1b : List Record} {r : Bool} (H : f_billingref09_Same v0a v1b = some r) : ACall Tryd.prog 23 [slOf 12 Record.row v0a, slOf 12 Record.row v1b] (· = cB r) := by
  obtain ⟨i34, hi34, hz34, hs34, hb34⟩ := in_34
  refine ACall.enter' Tryd.func23 rfl Tryd.ntmps23 rfl fun S hS => ?_
  unfold f_billingref09_Same at H
  change ARun _ _ _ _ _ _ [(0, .d (slOf 12 Record.row v0a)), (1, .d (slOf 12 Record.row v1b))] _
  refine .seq ?_
  refine .region ?_
  refine .q (x := .d (cB false)) (q_assign rfl) rfl ?_
  refine .nil ?_
  refine .seq ?_
  refine .seq ?_
  refine .region ?_
  refine .q (x := .d (slOf 12 Record.row v0a)) (q_move rfl) rfl ?_
  refine .q (x := .d (cI (v0a.length : Int))) (q_lenL (l := v0a) (row := Record.row) Tryd.underlying40 rfl rfl) rfl ?_
  refine .q (x := .d (slOf 12 Record.row v1b)) (q_move rfl) rfl ?_
  refine .q (x := .d (cI (v1b.length : Int))) (q_lenL (l := v1b) (row := Record.row) Tryd.underlying40 rfl rfl) rfl ?_
  refine .q (x := .d (cB ((v0a.length : Int) != (v1b.length : Int)))) (q_neq rfl rfl) rfl ?_
  refine .nil ?_
  refine .cond rfl (fun hc => ?_) (fun hc => ?_)
  · replace H := ifT hc H; clear hc
    refine .seq ?_
    refine .region ?_
    refine .q (x := .d (cB false)) (q_assign rfl) rfl ?_
    refine .nil ?_
    refine .retN [.tmp 4] [.d (cB false)] Tryd.func23 Tryd.results23 ⟨rfl, trivial⟩ ?_
    cases H
    exact ⟨_, .rfl' _, rfl⟩
  · replace H := ifF hc H; clear hc
    refine .skip ?_
    refine .seq ?_
    refine .seq ?_
    refine .region ?_
    refine .q (x := .d (cI 0)) (q_assign rfl) rfl ?_
    refine .nil ?_
    refine .block ?_
    obtain ⟨n1, H⟩ := loop_some H
    refine .loop (ι := Nat × (Int)) (fun p => [(0, .d (slOf 12 Record.row v0a)), (1, .d (slOf 12 Record.row v1b)), (5, .d (cI p.2))]) (fun p => ⟨[], []⟩) (fun p => iter (fun s => f_billingref09_Same_l1 v0a v1b s) p.1 p.2 = some r) (·.1) (n1, 0) H (.cons rfl (.rfl' _) (.cons rfl (.rfl' _) (.cons rfl (.rfl' _) (.nil)))) rfl ?_
    rintro ⟨m1, v5il1⟩ HI ih1
    obtain ⟨n1, q1, hm1, H, HK1⟩ := iter_succ HI
    clear HI
    replace H : f_billingref09_Same_l1 v0a v1b v5il1 = some q1 := H
    unfold f_billingref09_Same_l1 at H
    change ARun _ _ _ _ _ _ [(0, .d (slOf 12 Record.row v0a)), (1, .d (slOf 12 Record.row v1b)), (5, .d (cI v5il1))] ⟨[], []⟩
    refine .seq ?_
    refine .seq ?_
    refine .region ?_
    refine .q (x := .d (cI v5il1)) (q_move rfl) rfl ?_
    refine .q (x := .d (slOf 12 Record.row v0a)) (q_move rfl) rfl ?_
    refine .q (x := .d (cI (v0a.length : Int))) (q_lenL (l := v0a) (row := Record.row) Tryd.underlying40 rfl rfl) rfl ?_
    refine .q (x := .d (cB (decide (v5il1 < (v0a.length : Int))))) (q_lss rfl rfl) rfl ?_
    refine .nil ?_
    refine .cond rfl (fun hc => ?_) (fun hc => ?_)
    · replace H := ifT hc H; clear hc
      refine .skip ?_
      refine .seq ?_
      refine .block ?_
      refine .seq ?_
      refine .drawn 9 hMix (by kernel_rfl) ?_
      show DOps _ _ _ _ _ _ _ (_ :: _) _ _ _
      refine .q (x := .d (slOf 12 Record.row v0a)) (q_move rfl) rfl ?_
      refine .q (x := .d (cI v5il1)) (q_move rfl) rfl ?_
      obtain ⟨hk1, H⟩ := ck_some H
      refine .q (x := .d (.ro (Record.row (nth v0a (Int.toNat (v5il1)))))) (q_idxL (row := Record.row) (l := v0a) (i := v5il1) Tryd.underlying40 hi34 hs34 rfl rfl rfl hk1) rfl ?_
      refine .q (x := .d (.agg (Record.row (nth v0a (Int.toNat (v5il1)))))) (q_loadAll one_34 sz_34 rfl rfl) rfl ?_
      refine .q (x := .d (slOf 12 Record.row v1b)) (q_move rfl) rfl ?_
      refine .q (x := .d (cI v5il1)) (q_move rfl) rfl ?_
      obtain ⟨hk2, H⟩ := ck_some H
      refine .q (x := .d (.ro (Record.row (nth v1b (Int.toNat (v5il1)))))) (q_idxL (row := Record.row) (l := v1b) (i := v5il1) Tryd.underlying40 hi34 hs34 rfl rfl rfl hk2) rfl ?_
      refine .q (x := .d (.agg (Record.row (nth v1b (Int.toNat (v5il1)))))) (q_loadAll one_34 sz_34 rfl rfl) rfl ?_
      refine .q (x := .d (cB (!(eqVs (Record.vals (nth v0a (Int.toNat (v5il1)))) (Record.vals (nth v1b (Int.toNat (v5il1)))))))) (q_stneq fk_34 rfl rfl (xs := Record.vals (nth v0a (Int.toNat (v5il1)))) (ys := Record.vals (nth v1b (Int.toNat (v5il1)))) rfl rfl rfl rfl) rfl ?_
      refine .nil ?_
      show AOps _ _ _ _ _ _ [] _ _ _
      refine .nil ?_
      refine .cond rfl (fun hc => ?_) (fun hc => ?_)
      · replace H := ifT hc H; clear hc
        refine .seq ?_
        refine .region ?_
        refine .q (x := .d (cB false)) (q_assign rfl) rfl ?_
        refine .nil ?_
        refine .retN [.tmp 4] [.d (cB false)] Tryd.func23 Tryd.results23 ⟨rfl, trivial⟩ ?_
        cases H
        cases HK1
        exact ⟨_, .rfl' _, rfl⟩
      · replace H := ifF hc H; clear hc
        refine .skip ?_
        refine .inBlock ?_
        refine .region ?_
        refine .q (x := .d (cI v5il1)) (q_move rfl) rfl ?_
        obtain ⟨hk3, H⟩ := ck_some H
        refine .q (x := .d (cI (v5il1 + 1))) (q_addI rfl rfl hk3.1 hk3.2) rfl ?_
        refine .q (x := .d (cI (v5il1 + 1))) (q_assign rfl) rfl ?_
        refine .nil ?_
        cases H
        exact .sub (.cons rfl (.rfl' _) (.cons rfl (.rfl' _) (.cons rfl (.rfl' _) (.nil)))) (ih1 (n1, (v5il1 + 1)) HK1 hm1)
    · replace H := ifF hc H; clear hc
      refine .exit rfl ?_
      refine .seq ?_
      refine .region ?_
      refine .q (x := .d (cB true)) (q_assign rfl) rfl ?_
      refine .nil ?_
      refine .retN [.tmp 4] [.d (cB true)] Tryd.func23 Tryd.results23 ⟨rfl, trivial⟩ ?_
      cases H
      cases HK1
      exact ⟨_, .rfl' _, rfl⟩

set_option maxRecDepth 100000 in
set_option maxHeartbeats 1000000 in
theorem c_f_billingref09_SameRejects {v0a : List Reject} {v1b : List Reject} {r : Bool} (H : f_billingref09_SameRejects v0a v1b = some r) : ACall Tryd.prog 24 [slOf 4 Reject.row v0a, slOf 4 Reject.row v1b] (· = cB r) := by
  obtain ⟨i66, hi66, hz66, hs66, hb66⟩ := in_66
  refine ACall.enter' Tryd.func24 rfl Tryd.ntmps24 rfl fun S hS => ?_
  unfold f_billingref09_SameRejects at H
  change ARun _ _ _ _ _ _ [(0, .d (slOf 4 Reject.row v0a)), (1, .d (slOf 4 Reject.row v1b))] _
  refine .seq ?_
  refine .region ?_
  refine .q (x := .d (cB false)) (q_assign rfl) rfl ?_
  refine .nil ?_
  refine .seq ?_
  refine .seq ?_
  refine .region ?_
  refine .q (x := .d (slOf 4 Reject.row v0a)) (q_move rfl) rfl ?_
  refine .q (x := .d (cI (v0a.length : Int))) (q_lenL (l := v0a) (row := Reject.row) Tryd.underlying41 rfl rfl) rfl ?_
  refine .q (x := .d (slOf 4 Reject.row v1b)) (q_move rfl) rfl ?_
  refine .q (x := .d (cI (v1b.length : Int))) (q_lenL (l := v1b) (row := Reject.row) Tryd.underlying41 rfl rfl) rfl ?_
  refine .q (x := .d (cB ((v0a.length : Int) != (v1b.length : Int)))) (q_neq rfl rfl) rfl ?_
  refine .nil ?_
  refine .cond rfl (fun hc => ?_) (fun hc => ?_)
  · replace H := ifT hc H; clear hc
    refine .seq ?_
    refine .region ?_
    refine .q (x := .d (cB false)) (q_assign rfl) rfl ?_
    refine .nil ?_
    refine .retN [.tmp 4] [.d (cB false)] Tryd.func24 Tryd.results24 ⟨rfl, trivial⟩ ?_
    cases H
    exact ⟨_, .rfl' _, rfl⟩
  · replace H := ifF hc H; clear hc
    refine .skip ?_
    refine .seq ?_
    refine .seq ?_
    refine .region ?_
    refine .q (x := .d (cI 0)) (q_assign rfl) rfl ?_
    refine .nil ?_
    refine .block ?_
    obtain ⟨n1, H⟩ := loop_some H
    refine .loop (ι := Nat × (Int)) (fun p => [(0, .d (slOf 4 Reject.row v0a)), (1, .d (slOf 4 Reject.row v1b)), (5, .d (cI p.2))]) (fun p => ⟨[], []⟩) (fun p => iter (fun s => f_billingref09_SameRejects_l1 v0a v1b s) p.1 p.2 = some r) (·.1) (n1, 0) H (.cons rfl (.rfl' _) (.cons rfl (.rfl' _) (.cons rfl (.rfl' _) (.nil)))) rfl ?_
    rintro ⟨m1, v5il1⟩ HI ih1
    obtain ⟨n1, q1, hm1, H, HK1⟩ := iter_succ HI
    clear HI
    replace H : f_billingref09_SameRejects_l1 v0a v1b v5il1 = some q1 := H
    unfold f_billingref09_SameRejects_l1 at H
    change ARun _ _ _ _ _ _ [(0, .d (slOf 4 Reject.row v0a)), (1, .d (slOf 4 Reject.row v1b)), (5, .d (cI v5il1))] ⟨[], []⟩
    refine .seq ?_
    refine .seq ?_
    refine .region ?_
    refine .q (x := .d (cI v5il1)) (q_move rfl) rfl ?_
    refine .q (x := .d (slOf 4 Reject.row v0a)) (q_move rfl) rfl ?_
    refine .q (x := .d (cI (v0a.length : Int))) (q_lenL (l := v0a) (row := Reject.row) Tryd.underlying41 rfl rfl) rfl ?_
    refine .q (x := .d (cB (decide (v5il1 < (v0a.length : Int))))) (q_lss rfl rfl) rfl ?_
    refine .nil ?_
    refine .cond rfl (fun hc => ?_) (fun hc => ?_)
    · replace H := ifT hc H; clear hc
      refine .skip ?_
      refine .seq ?_
      refine .block ?_
      refine .seq ?_
      refine .drawn 9 hMix (by kernel_rfl) ?_
      show DOps _ _ _ _ _ _ _ (_ :: _) _ _ _
      refine .q (x := .d (slOf 4 Reject.row v0a)) (q_move rfl) rfl ?_
      refine .q (x := .d (cI v5il1)) (q_move rfl) rfl ?_
      obtain ⟨hk1, H⟩ := ck_some H
      refine .q (x := .d (.ro (Reject.row (nth v0a (Int.toNat (v5il1)))))) (q_idxL (row := Reject.row) (l := v0a) (i := v5il1) Tryd.underlying41 hi66 hs66 rfl rfl rfl hk1) rfl ?_
      refine .q (x := .d (.agg (Reject.row (nth v0a (Int.toNat (v5il1)))))) (q_loadAll one_66 sz_66 rfl rfl) rfl ?_
      refine .q (x := .d (slOf 4 Reject.row v1b)) (q_move rfl) rfl ?_
      refine .q (x := .d (cI v5il1)) (q_move rfl) rfl ?_
      obtain ⟨hk2, H⟩ := ck_some H
      refine .q (x := .d (.ro (Reject.row (nth v1b (Int.toNat (v5il1)))))) (q_idxL (row := Reject.row) (l := v1b) (i := v5il1) Tryd.underlying41 hi66 hs66 rfl rfl rfl hk2) rfl ?_
      refine .q (x := .d (.agg (Reject.row (nth v1b (Int.toNat (v5il1)))))) (q_loadAll one_66 sz_66 rfl rfl) rfl ?_
      refine .q (x := .d (cB (!(eqVs (Reject.vals (nth v0a (Int.toNat (v5il1)))) (Reject.vals (nth v1b (Int.toNat (v5il1)))))))) (q_stneq fk_66 rfl rfl (xs := Reject.vals (nth v0a (Int.toNat (v5il1)))) (ys := Reject.vals (nth v1b (Int.toNat (v5il1)))) rfl rfl rfl rfl) rfl ?_
      refine .nil ?_
      show AOps _ _ _ _ _ _ [] _ _ _
      refine .nil ?_
      refine .cond rfl (fun hc => ?_) (fun hc => ?_)
      · replace H := ifT hc H; clear hc
        refine .seq ?_
        refine .region ?_
        refine .q (x := .d (cB false)) (q_assign rfl) rfl ?_
        refine .nil ?_
        refine .retN [.tmp 4] [.d (cB false)] Tryd.func24 Tryd.results24 ⟨rfl, trivial⟩ ?_
        cases H
        cases HK1
        exact ⟨_, .rfl' _, rfl⟩
      · replace H := ifF hc H; clear hc
        refine .skip ?_
        refine .inBlock ?_
        refine .region ?_
        refine .q (x := .d (cI v5il1)) (q_move rfl) rfl ?_
        obtain ⟨hk3, H⟩ := ck_some H
        refine .q (x := .d (cI (v5il1 + 1))) (q_addI rfl rfl hk3.1 hk3.2) rfl ?_
        refine .q (x := .d (cI (v5il1 + 1))) (q_assign rfl) rfl ?_
        refine .nil ?_
        cases H
        exact .sub (.cons rfl (.rfl' _) (.cons rfl (.rfl' _) (.cons rfl (.rfl' _) (.nil)))) (ih1 (n1, (v5il1 + 1)) HK1 hm1)
    · replace H := ifF hc H; clear hc
      refine .exit rfl ?_
      refine .seq ?_
      refine .region ?_
      refine .q (x := .d (cB true)) (q_assign rfl) rfl ?_
      refine .nil ?_
      refine .retN [.tmp 4] [.d (cB true)] Tryd.func24 Tryd.results24 ⟨rfl, trivial⟩ ?_
      cases H
      cases HK1
      exact ⟨_, .rfl' _, rfl⟩

end Go.Proofs.YtmdpmallgcekgaaDoor
