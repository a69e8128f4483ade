import Derived.Test.YtmdpmallgcekgaaDoorLTys
import Derived.Test.YtmdpmallgcekgaaDoorLF
import Derived.Test.YtmdpmallgcekgaaDoorLX
set_option linter.unusedSimpArgs false
set_option linter.unusedVariables false
namespace Go.Proofs.YtmdpmallgcekgaaDoor
open Go.RowKit Go.Abs
set_option maxRecDepth 100000 in
set_option maxHeartbeats 1000000 in
theorem c_f_billinglaw10_light {v0list : List Element} {r : Bool} (H : f_billinglaw10_light v0list = some r) : ACall Tryd.prog 9 [slOf 2 Element.row v0list] (· = cB r) := by
  obtain ⟨i47, hi47, hz47, hs47, hb47⟩ := in_47
  refine ACall.enter' Tryd.func9 rfl Tryd.ntmps9 rfl fun S hS => ?_
  unfold f_billinglaw10_light at H
  change ARun _ _ _ _ _ _ [(0, .d (slOf 2 Element.row v0list))] _
  refine .seq ?_
  refine .region ?_
  refine .q (x := .d (cB false)) (q_assign rfl) rfl ?_
  refine .nil ?_
  refine .seq ?_
  refine .region ?_
  refine .q (x := .d (cI 0)) (q_assign rfl) rfl ?_
  refine .nil ?_
  refine .seq ?_
  refine .seq ?_
  refine .region ?_
  refine .q (x := .d (cI 0)) (q_assign rfl) rfl ?_
  refine .nil ?_
  refine .blockJoin2 (ι := Int) (fun s => [(0, .d (slOf 2 Element.row v0list)), (3, .d (cI s))]) (fun s => ⟨[], []⟩) (fun s => f_billinglaw10_light_j1 v0list s = some r) ?_ ?_
  · rintro v3nj1 H
    replace H : f_billinglaw10_light_j1 v0list v3nj1 = some r := H
    unfold f_billinglaw10_light_j1 at H
    change ARun _ _ _ _ _ _ [(0, .d (slOf 2 Element.row v0list)), (3, .d (cI v3nj1))] ⟨[], []⟩
    refine .seq ?_
    refine .region ?_
    refine .q (x := .d (slOf 2 Element.row v0list)) (q_move rfl) rfl ?_
    refine .q (x := .d (cI (v0list.length : Int))) (q_lenL (l := v0list) (row := Element.row) Tryd.underlying22 rfl rfl) rfl ?_
    refine .q (x := .d (cB (decide ((v0list.length : Int) ≤ 300)))) (q_leq rfl rfl) rfl ?_
    refine .q (x := .d (cB (decide ((v0list.length : Int) ≤ 300)))) (q_move rfl) rfl ?_
    refine .guardG (b := decide ((v0list.length : Int) ≤ 300)) (x := .d (cI v3nj1)) (env' := [(3, _)]) rfl rfl rfl ⟨.inl rfl, trivial⟩ rfl (fun hg => OpQ.g (q_move rfl)) ?_
    refine .guardG (b := decide ((v0list.length : Int) ≤ 300)) (x := .d (cB (decide (v3nj1 ≤ 3000)))) (env' := [(31, _)]) rfl rfl rfl ⟨.inr (.inl rfl), trivial⟩ rfl (fun hg => OpQ.g (q_leq rfl rfl)) ?_
    refine .q (x := .d (cB ((decide ((v0list.length : Int) ≤ 300)) && (decide (v3nj1 ≤ 3000))))) (q_pickAndB rfl rfl rfl) rfl ?_
    refine .q (x := .d (cB ((decide ((v0list.length : Int) ≤ 300)) && (decide (v3nj1 ≤ 3000))))) (q_assign rfl) rfl ?_
    refine .nil ?_
    refine .retN [.tmp 2] [.d (cB ((decide ((v0list.length : Int) ≤ 300)) && (decide (v3nj1 ≤ 3000))))] Tryd.func9 Tryd.results9 ⟨rfl, trivial⟩ ?_
    cases H
    exact ⟨_, .rfl' _, rfl⟩
  · intro hj1 hj1x
    obtain ⟨n1, H⟩ := loop_some H
    refine .loop (ι := Nat × (Int × Int)) (fun p => [(0, .d (slOf 2 Element.row v0list)), (3, .d (cI p.2.1)), (4, .d (cI p.2.2))]) (fun p => ⟨[], []⟩) (fun p => iter (fun s => f_billinglaw10_light_l1 v0list s.1 s.2) p.1 p.2 = some r) (·.1) (n1, (0, 0)) H (.cons rfl (.rfl' _) (.cons rfl (.rfl' _) (.cons rfl (.rfl' _) (.nil)))) rfl ?_
    rintro ⟨m1, v3nl1, v4il1⟩ HI ih1
    obtain ⟨n1, q1, hm1, H, HK1⟩ := iter_succ HI
    clear HI
    replace H : f_billinglaw10_light_l1 v0list v3nl1 v4il1 = some q1 := H
    unfold f_billinglaw10_light_l1 at H
    change ARun _ _ _ _ _ _ [(0, .d (slOf 2 Element.row v0list)), (3, .d (cI v3nl1)), (4, .d (cI v4il1))] ⟨[], []⟩
    refine .seq ?_
    refine .seq ?_
    refine .region ?_
    refine .q (x := .d (cI v4il1)) (q_move rfl) rfl ?_
    refine .q (x := .d (slOf 2 Element.row v0list)) (q_move rfl) rfl ?_
    refine .q (x := .d (cI (v0list.length : Int))) (q_lenL (l := v0list) (row := Element.row) Tryd.underlying22 rfl rfl) rfl ?_
    refine .q (x := .d (cB (decide (v4il1 < (v0list.length : Int))))) (q_lss rfl rfl) rfl ?_
    refine .q (x := .d (cB (decide (v4il1 < (v0list.length : Int))))) (q_move rfl) rfl ?_
    refine .guardG (b := decide (v4il1 < (v0list.length : Int))) (x := .d (cI v4il1)) (env' := [(4, _)]) rfl rfl rfl ⟨.inl rfl, trivial⟩ rfl (fun hg => OpQ.g (q_move rfl)) ?_
    refine .guardG (b := decide (v4il1 < (v0list.length : Int))) (x := .d (cB (decide (v4il1 ≤ 300)))) (env' := [(10, _)]) rfl rfl rfl ⟨.inr (.inl rfl), trivial⟩ rfl (fun hg => OpQ.g (q_leq rfl rfl)) ?_
    refine .q (x := .d (cB ((decide (v4il1 < (v0list.length : Int))) && (decide (v4il1 ≤ 300))))) (q_pickAndB rfl rfl rfl) rfl ?_
    refine .q (x := .d (cB ((decide (v4il1 < (v0list.length : Int))) && (decide (v4il1 ≤ 300))))) (q_move rfl) rfl ?_
    refine .guardG (b := ((decide (v4il1 < (v0list.length : Int))) && (decide (v4il1 ≤ 300)))) (x := .d (cI v3nl1)) (env' := [(3, _)]) rfl rfl rfl ⟨.inl rfl, trivial⟩ rfl (fun hg => OpQ.g (q_move rfl)) ?_
    refine .guardG (b := ((decide (v4il1 < (v0list.length : Int))) && (decide (v4il1 ≤ 300)))) (x := .d (cB (decide (v3nl1 ≤ 3000)))) (env' := [(14, _)]) rfl rfl rfl ⟨.inr (.inl rfl), trivial⟩ rfl (fun hg => OpQ.g (q_leq rfl rfl)) ?_
    refine .q (x := .d (cB (((decide (v4il1 < (v0list.length : Int))) && (decide (v4il1 ≤ 300))) && (decide (v3nl1 ≤ 3000))))) (q_pickAndB rfl rfl rfl) rfl ?_
    refine .nil ?_
    refine .cond rfl (fun hc => ?_) (fun hc => ?_)
    · replace H := ifT hc H; clear hc
      refine .skip ?_
      refine .seq ?_
      refine .block ?_
      refine .region ?_
      refine .q (x := .d (cI v3nl1)) (q_move rfl) rfl ?_
      refine .q (x := .d (slOf 2 Element.row v0list)) (q_move rfl) rfl ?_
      refine .q (x := .d (cI v4il1)) (q_move rfl) rfl ?_
      obtain ⟨hk1, H⟩ := ck_some H
      refine .q (x := .d (.ro (Element.row (nth v0list (Int.toNat (v4il1)))))) (q_idxL (row := Element.row) (l := v0list) (i := v4il1) Tryd.underlying22 hi47 hs47 rfl rfl rfl hk1) rfl ?_
      refine .q (x := .d (.ro ((Element.row (nth v0list (Int.toNat (v4il1)))).drop 1))) (q_fieldRo fo_47_1 rfl) rfl ?_
      refine .q (x := .d (slOf 1 rB8 ((nth v0list (Int.toNat (v4il1))).value))) (q_load one_25 rfl) rfl ?_
      refine .q (x := .d (cI (((nth v0list (Int.toNat (v4il1))).value).length : Int))) (q_lenL (l := (nth v0list (Int.toNat (v4il1))).value) (row := rB8) Tryd.underlying25 rfl rfl) rfl ?_
      refine .q (x := .d (cI (IntKind.wrap .i64 (v3nl1 + (((nth v0list (Int.toNat (v4il1))).value).length : Int))))) (q_add rfl rfl rfl) rfl ?_
      refine .q (x := .d (cI (IntKind.wrap .i64 (v3nl1 + (((nth v0list (Int.toNat (v4il1))).value).length : Int))))) (q_assign rfl) rfl ?_
      refine .nil ?_
      refine .inBlock ?_
      refine .region ?_
      refine .q (x := .d (cI v4il1)) (q_move rfl) rfl ?_
      refine .q (x := .d (cI (IntKind.wrap .i64 (v4il1 + 1)))) (q_add rfl rfl rfl) rfl ?_
      refine .q (x := .d (cI (IntKind.wrap .i64 (v4il1 + 1)))) (q_assign rfl) rfl ?_
      refine .nil ?_
      cases H
      exact .sub (.cons rfl (.rfl' _) (.cons rfl (.rfl' _) (.cons rfl (.rfl' _) (.nil)))) (ih1 (n1, (IntKind.wrap .i64 (v3nl1 + (((nth v0list (Int.toNat (v4il1))).value).length : Int)), IntKind.wrap .i64 (v4il1 + 1))) HK1 hm1)
    · replace H := ifF hc H; clear hc
      refine .exit rfl ?_
      obtain ⟨q0, H9, hq0⟩ := map_some' H; clear H; cases hq0
      cases HK1
      have H := H9
      exact .sub (.cons rfl (.rfl' _) (.cons rfl (.rfl' _) (.nil))) (hj1x v3nl1 H)

set_option maxRecDepth 100000 in
set_option maxHeartbeats 1000000 in
theorem c_g_tagged_put {v1tag : Int} {v2value : List UInt8} {r : (List UInt8)} (H : g_tagged_put v1tag v2value = some r) : ACallS Tryd.prog 25 [.d (nilD), .d (cI v1tag), .d (slOf 1 rB8 v2value)] ⟨[], []⟩ (QE (.tsl 1 (r.map rB8) 0) ⟨[], [⟨5, 1, r.length, none⟩]⟩) := by
  obtain ⟨i5, hi5, hz5, hs5, hb5⟩ := in_5
  refine ACallS.keep ?_
  refine ACallS.enter Tryd.func25 rfl Tryd.ntmps25 rfl fun S hS => ?_
  unfold g_tagged_put at H
  change ARun _ _ _ _ _ _ [(0, .d (nilD)), (1, .d (cI v1tag)), (2, .d (slOf 1 rB8 v2value))] _
  refine .seq ?_
  refine .region ?_
  refine .q (x := .d (nilD)) (q_assign rfl) rfl ?_
  refine .nil ?_
  refine .seq ?_
  refine .region ?_
  refine .q (x := .d (nilD)) (q_move rfl) rfl ?_
  refine .q (x := .d (cI v1tag)) (q_move rfl) rfl ?_
  refine .q (x := .d (cU8 (UInt8.ofInt v1tag))) (q_conv8 Tryd.underlying3 Tryd.underlying5 rfl) rfl ?_
  refine .q (x := .d (slOf 1 rB8 v2value)) (q_move rfl) rfl ?_
  refine .q (x := .d (cI (v2value.length : Int))) (q_lenL (l := v2value) (row := rB8) Tryd.underlying25 rfl rfl) rfl ?_
  refine .q (x := .d (cU8 (UInt8.ofInt (v2value.length : Int)))) (q_conv8 Tryd.underlying3 Tryd.underlying5 rfl) rfl ?_
  refine .g (x := .d (slOf 1 rB8 ([UInt8.ofInt v1tag, UInt8.ofInt (v2value.length : Int)] : List UInt8))) (g_buildSliceN (n := 2) (rows := ([UInt8.ofInt v1tag, UInt8.ofInt (v2value.length : Int)] : List UInt8).map rB8) Tryd.underlying25 hi5 hs5 hz5 rfl rfl rfl rfl rfl) rfl ?_
  obtain ⟨hk1, H⟩ := ck_some H
  refine .v (x := .tsl 1 (([UInt8.ofInt v1tag, UInt8.ofInt (v2value.length : Int)] : List UInt8).map rB8) 0) (v_appendNilL (l' := ([UInt8.ofInt v1tag, UInt8.ofInt (v2value.length : Int)] : List UInt8)) (row := rB8) Tryd.underlying25 hi5 hz5 hs5 rfl (by rw [hb5]; decide) rfl rfl rfl hk1) rfl ?_
  refine .withSt (st' := ⟨[], [⟨5, 1, ([UInt8.ofInt v1tag, UInt8.ofInt (v2value.length : Int)] : List UInt8).length, none⟩]⟩) rfl ?_
  refine .q (x := .tsl 1 (([UInt8.ofInt v1tag, UInt8.ofInt (v2value.length : Int)] : List UInt8).map rB8) 0) (q_assign rfl) rfl ?_
  refine .nil ?_
  refine .seq ?_
  refine .region ?_
  refine .q (x := .tsl 1 (([UInt8.ofInt v1tag, UInt8.ofInt (v2value.length : Int)] : List UInt8).map rB8) 0) (q_move rfl) rfl ?_
  refine .q (x := .d (slOf 1 rB8 v2value)) (q_move rfl) rfl ?_
  obtain ⟨hk2, H⟩ := ck_some H
  refine .v (x := .tsl 1 ((([UInt8.ofInt v1tag, UInt8.ofInt (v2value.length : Int)] : List UInt8) ++ v2value).map rB8) 0) (v_appendL (l := ([UInt8.ofInt v1tag, UInt8.ofInt (v2value.length : Int)] : List UInt8)) (l' := v2value) (row := rB8) Tryd.underlying25 hi5 hz5 hs5 rfl (by rw [hb5]; decide) rfl rfl rfl rfl hk2) rfl ?_
  refine .withSt (st' := ⟨[], [⟨5, 1, (([UInt8.ofInt v1tag, UInt8.ofInt (v2value.length : Int)] : List UInt8) ++ v2value).length, none⟩]⟩) rfl ?_
  refine .q (x := .tsl 1 ((([UInt8.ofInt v1tag, UInt8.ofInt (v2value.length : Int)] : List UInt8) ++ v2value).map rB8) 0) (q_assign rfl) rfl ?_
  refine .nil ?_
  refine .retN [.tmp 6] [.tsl 1 ((([UInt8.ofInt v1tag, UInt8.ofInt (v2value.length : Int)] : List UInt8) ++ v2value).map rB8) 0] Tryd.func25 Tryd.results25 ⟨rfl, trivial⟩ ?_
  cases H
  exact ⟨[], [0], rfl, rfl, rfl, rfl, rfl, rfl, rfl, rfl, .rfl' _⟩

set_option maxRecDepth 100000 in
set_option maxHeartbeats 1000000 in
theorem c_g_tagged_put_v1 {v1tag : Int} {v2value : List UInt8} {y0t0p : List UInt8} {r : (List UInt8)} (H : g_tagged_put_v1 v1tag v2value y0t0p = some r) : ACallS Tryd.prog 25 [.tsl 1 (y0t0p.map rB8) 0, .d (cI v1tag), .d (slOf 1 rB8 v2value)] ⟨[], [⟨5, 1, y0t0p.length, none⟩]⟩ (QE (.tsl 1 (r.map rB8) 0) ⟨[], [⟨5, 1, r.length, none⟩]⟩) := by
  obtain ⟨i5, hi5, hz5, hs5, hb5⟩ := in_5
  refine ACallS.keep ?_
  refine ACallS.enter Tryd.func25 rfl Tryd.ntmps25 rfl fun S hS => ?_
  unfold g_tagged_put_v1 at H
  change ARun _ _ _ _ _ _ [(0, .tsl 1 (y0t0p.map rB8) 0), (1, .d (cI v1tag)), (2, .d (slOf 1 rB8 v2value))] _
  refine .seq ?_
  refine .region ?_
  refine .q (x := .d (nilD)) (q_assign rfl) rfl ?_
  refine .nil ?_
  refine .seq ?_
  refine .region ?_
  refine .q (x := .tsl 1 (y0t0p.map rB8) 0) (q_move rfl) rfl ?_
  refine .q (x := .d (cI v1tag)) (q_move rfl) rfl ?_
  refine .q (x := .d (cU8 (UInt8.ofInt v1tag))) (q_conv8 Tryd.underlying3 Tryd.underlying5 rfl) rfl ?_
  refine .q (x := .d (slOf 1 rB8 v2value)) (q_move rfl) rfl ?_
  refine .q (x := .d (cI (v2value.length : Int))) (q_lenL (l := v2value) (row := rB8) Tryd.underlying25 rfl rfl) rfl ?_
  refine .q (x := .d (cU8 (UInt8.ofInt (v2value.length : Int)))) (q_conv8 Tryd.underlying3 Tryd.underlying5 rfl) rfl ?_
  refine .g (x := .d (slOf 1 rB8 ([UInt8.ofInt v1tag, UInt8.ofInt (v2value.length : Int)] : List UInt8))) (g_buildSliceN (n := 2) (rows := ([UInt8.ofInt v1tag, UInt8.ofInt (v2value.length : Int)] : List UInt8).map rB8) Tryd.underlying25 hi5 hs5 hz5 rfl rfl rfl rfl rfl) rfl ?_
  obtain ⟨hk1, H⟩ := ck_some H
  refine .v (x := .tsl 1 ((y0t0p ++ ([UInt8.ofInt v1tag, UInt8.ofInt (v2value.length : Int)] : List UInt8)).map rB8) 0) (v_appendL (l := y0t0p) (l' := ([UInt8.ofInt v1tag, UInt8.ofInt (v2value.length : Int)] : List UInt8)) (row := rB8) Tryd.underlying25 hi5 hz5 hs5 rfl (by rw [hb5]; decide) rfl rfl rfl rfl hk1) rfl ?_
  refine .withSt (st' := ⟨[], [⟨5, 1, (y0t0p ++ ([UInt8.ofInt v1tag, UInt8.ofInt (v2value.length : Int)] : List UInt8)).length, none⟩]⟩) rfl ?_
  refine .q (x := .tsl 1 ((y0t0p ++ ([UInt8.ofInt v1tag, UInt8.ofInt (v2value.length : Int)] : List UInt8)).map rB8) 0) (q_assign rfl) rfl ?_
  refine .nil ?_
  refine .seq ?_
  refine .region ?_
  refine .q (x := .tsl 1 ((y0t0p ++ ([UInt8.ofInt v1tag, UInt8.ofInt (v2value.length : Int)] : List UInt8)).map rB8) 0) (q_move rfl) rfl ?_
  refine .q (x := .d (slOf 1 rB8 v2value)) (q_move rfl) rfl ?_
  obtain ⟨hk2, H⟩ := ck_some H
  refine .v (x := .tsl 1 (((y0t0p ++ ([UInt8.ofInt v1tag, UInt8.ofInt (v2value.length : Int)] : List UInt8)) ++ v2value).map rB8) 0) (v_appendL (l := y0t0p ++ ([UInt8.ofInt v1tag, UInt8.ofInt (v2value.length : Int)] : List UInt8)) (l' := v2value) (row := rB8) Tryd.underlying25 hi5 hz5 hs5 rfl (by rw [hb5]; decide) rfl rfl rfl rfl hk2) rfl ?_
  refine .withSt (st' := ⟨[], [⟨5, 1, ((y0t0p ++ ([UInt8.ofInt v1tag, UInt8.ofInt (v2value.length : Int)] : List UInt8)) ++ v2value).length, none⟩]⟩) rfl ?_
  refine .q (x := .tsl 1 (((y0t0p ++ ([UInt8.ofInt v1tag, UInt8.ofInt (v2value.length : Int)] : List UInt8)) ++ v2value).map rB8) 0) (q_assign rfl) rfl ?_
  refine .nil ?_
  refine .retN [.tmp 6] [.tsl 1 (((y0t0p ++ ([UInt8.ofInt v1tag, UInt8.ofInt (v2value.length : Int)] : List UInt8)) ++ v2value).map rB8) 0] Tryd.func25 Tryd.results25 ⟨rfl, trivial⟩ ?_
  cases H
  exact ⟨[], [0], rfl, rfl, rfl, rfl, rfl, rfl, rfl, rfl, .rfl' _⟩

set_option maxRecDepth 100000 in
set_option maxHeartbeats 1000000 in
theorem c_f_tagged_Build {v0list : List Element} {r : (List UInt8) × Int} (H : f_tagged_Build v0list = some r) : ACall Tryd.prog 11 [slOf 2 Element.row v0list] (· = .tup [slOf 1 rB8 r.1, cI r.2]) := by
  obtain ⟨i47, hi47, hz47, hs47, hb47⟩ := in_47
  refine ACall.enter' Tryd.func11 rfl Tryd.ntmps11 rfl fun S hS => ?_
  unfold f_tagged_Build at H
  change ARun _ _ _ _ _ _ [(0, .d (slOf 2 Element.row v0list))] _
  refine .seq ?_
  refine .region ?_
  refine .q (x := .d (nilD)) (q_assign rfl) rfl ?_
  refine .q (x := .d (cI 0)) (q_assign rfl) rfl ?_
  refine .nil ?_
  refine .seq ?_
  refine .region ?_
  refine .q (x := .d (nilD)) (q_assign rfl) rfl ?_
  refine .nil ?_
  refine .seq ?_
  refine .region ?_
  refine .q (x := .d (cI 0)) (q_assign rfl) rfl ?_
  refine .nil ?_
  refine .seq ?_
  refine .seq ?_
  refine .region ?_
  refine .q (x := .d (slOf 2 Element.row v0list)) (q_move rfl) rfl ?_
  refine .q (x := .d (cI (v0list.length : Int))) (q_lenL (l := v0list) (row := Element.row) Tryd.underlying22 rfl rfl) rfl ?_
  refine .q (x := .d (cI 0)) (q_move rfl) rfl ?_
  refine .nil ?_
  refine .block ?_
  refine .tok (i := 4) (e := 5) (sz := 1) rfl ?_
  refine .withSt (st' := ⟨[], [⟨5, 1, ([] : List UInt8).length, none⟩]⟩) rfl ?_
  obtain ⟨n1, H⟩ := loop_some H
  refine .withSt (st' := ⟨[], [⟨5, 1, ([] : List UInt8).length, none⟩]⟩) rfl <| .loop (ι := Nat × (List UInt8 × Int × Int)) (fun p => [(4, .tsl 1 (p.2.1.map rB8) 0), (5, .d (cI p.2.2.1)), (8, .d (slOf 2 Element.row v0list)), (9, .d (cI (v0list.length : Int))), (10, .d (cI p.2.2.2))]) (fun p => ⟨[], [⟨5, 1, p.2.1.length, none⟩]⟩) (fun p => iter (fun s => f_tagged_Build_l1 v0list s.1 s.2.1 s.2.2) p.1 p.2 = some r) (·.1) (n1, (([] : List UInt8), 0, 0)) H (.cons rfl (.rfl' _) (.cons rfl (.rfl' _) (.cons rfl (.rfl' _) (.cons rfl (.rfl' _) (.cons rfl (.rfl' _) (.nil)))))) rfl ?_
  rintro ⟨m1, v4outl1, v5lastl1, v10l1⟩ HI ih1
  obtain ⟨n1, q1, hm1, H, HK1⟩ := iter_succ HI
  clear HI
  replace H : f_tagged_Build_l1 v0list v4outl1 v5lastl1 v10l1 = some q1 := H
  unfold f_tagged_Build_l1 at H
  change ARun _ _ _ _ _ _ [(4, .tsl 1 (v4outl1.map rB8) 0), (5, .d (cI v5lastl1)), (8, .d (slOf 2 Element.row v0list)), (9, .d (cI (v0list.length : Int))), (10, .d (cI v10l1))] ⟨[], [⟨5, 1, v4outl1.length, none⟩]⟩
  refine .seq ?_
  refine .region ?_
  refine .q (x := .d (cB (decide (v10l1 < (v0list.length : Int))))) (q_lss rfl rfl) rfl ?_
  refine .nil ?_
  refine .seq ?_
  refine .cond rfl (fun hc => ?_) (fun hc => ?_)
  · replace H := ifT hc H; clear hc
    refine .skip ?_
    refine .seq ?_
    refine .block ?_
    refine .seq ?_
    refine .region ?_
    obtain ⟨hk1, H⟩ := ck_some H
    refine .q (x := .d (.ro (Element.row (nth v0list (Int.toNat (v10l1)))))) (q_idxL (row := Element.row) (l := v0list) (i := v10l1) Tryd.underlying22 hi47 hs47 rfl rfl rfl hk1) rfl ?_
    refine .q (x := .d (.agg (Element.row (nth v0list (Int.toNat (v10l1)))))) (q_loadAll one_47 sz_47 rfl rfl) rfl ?_
    refine .v (x := .ref 0 0) (v_alloc zr_47 rfl) rfl ?_
    refine .withSt (st' := ⟨[.row 47 [.d (cI 0), .d (nilD)]], [⟨5, 1, v4outl1.length, none⟩]⟩) rfl ?_
    refine .u (u_store rfl rfl rfl rfl (Nat.le_of_ble_eq_true rfl) sz_47) rfl ?_
    refine .withSt (st' := ⟨[.row 47 [.d (cI ((nth v0list (Int.toNat (v10l1))).tag)), .d (slOf 1 rB8 ((nth v0list (Int.toNat (v10l1))).value))]], [⟨5, 1, v4outl1.length, none⟩]⟩) rfl ?_
    refine .nil ?_
    refine .seq ?_
    refine .block ?_
    refine .seq ?_
    refine .region ?_
    refine .q (x := .ref 0 0) (q_fieldRef fo_47_0 rfl) rfl ?_
    refine .q (x := .d (cI ((nth v0list (Int.toNat (v10l1))).tag))) (q_loadO one_3 rfl rfl rfl) rfl ?_
    refine .q (x := .d (cB (decide (((nth v0list (Int.toNat (v10l1))).tag) < 1)))) (q_lss rfl rfl) rfl ?_
    refine .q (x := .d (cB (decide (((nth v0list (Int.toNat (v10l1))).tag) < 1)))) (q_move rfl) rfl ?_
    refine .guardG (b := (!(decide (((nth v0list (Int.toNat (v10l1))).tag) < 1)))) (x := .ref 0 0) (env' := [(7, _)]) rfl rfl rfl ⟨.inl rfl, trivial⟩ rfl (fun hg => OpQ.g (q_fieldRef fo_47_0 rfl)) ?_
    refine .guardG (b := (!(decide (((nth v0list (Int.toNat (v10l1))).tag) < 1)))) (x := .d (cI ((nth v0list (Int.toNat (v10l1))).tag))) (env' := [(19, _)]) rfl rfl rfl ⟨.inr (.inl rfl), trivial⟩ rfl (fun hg => OpQ.g (q_loadO one_3 rfl rfl rfl)) ?_
    refine .guardG (b := (!(decide (((nth v0list (Int.toNat (v10l1))).tag) < 1)))) (x := .d (cB (decide (((nth v0list (Int.toNat (v10l1))).tag) > 255)))) (env' := [(20, _)]) rfl rfl rfl ⟨.inr (.inl rfl), trivial⟩ rfl (fun hg => OpQ.g (q_gtr rfl rfl)) ?_
    refine .q (x := .d (cB ((decide (((nth v0list (Int.toNat (v10l1))).tag) < 1)) || (decide (((nth v0list (Int.toNat (v10l1))).tag) > 255))))) (q_pickOrB rfl rfl rfl) rfl ?_
    refine .q (x := .d (cB ((decide (((nth v0list (Int.toNat (v10l1))).tag) < 1)) || (decide (((nth v0list (Int.toNat (v10l1))).tag) > 255))))) (q_assign rfl) rfl ?_
    refine .nil ?_
    refine .cond rfl (fun hc => ?_) (fun hc => ?_)
    · replace H := ifT hc H; clear hc
      refine .seq ?_
      refine .region ?_
      refine .q (x := .d (nilD)) (q_assign rfl) rfl ?_
      refine .q (x := .d (cI 6)) (q_assign rfl) rfl ?_
      refine .nil ?_
      refine .retN [.tmp 2, .tmp 3] [.d (nilD), .d (cI 6)] Tryd.func11 Tryd.results11 ⟨rfl, rfl, trivial⟩ ?_
      cases H
      cases HK1
      exact ⟨_, EVle.tupL (ds := [slOf 1 rB8 ([] : List UInt8), cI 6]) ⟨.nil 1, .rfl' _, trivial⟩, rfl⟩
    · replace H := ifF hc H; clear hc
      refine .seq ?_
      refine .region ?_
      refine .q (x := .ref 0 0) (q_fieldRef fo_47_0 rfl) rfl ?_
      refine .q (x := .d (cI ((nth v0list (Int.toNat (v10l1))).tag))) (q_loadO one_3 rfl rfl rfl) rfl ?_
      refine .q (x := .d (cI v5lastl1)) (q_move rfl) rfl ?_
      refine .q (x := .d (cB (decide (((nth v0list (Int.toNat (v10l1))).tag) ≤ v5lastl1)))) (q_leq rfl rfl) rfl ?_
      refine .q (x := .d (cB (decide (((nth v0list (Int.toNat (v10l1))).tag) ≤ v5lastl1)))) (q_assign rfl) rfl ?_
      refine .nil ?_
      refine .cond rfl (fun hc => ?_) (fun hc => ?_)
      · replace H := ifT hc H; clear hc
        refine .seq ?_
        refine .region ?_
        refine .q (x := .d (nilD)) (q_assign rfl) rfl ?_
        refine .q (x := .d (cI 9)) (q_assign rfl) rfl ?_
        refine .nil ?_
        refine .retN [.tmp 2, .tmp 3] [.d (nilD), .d (cI 9)] Tryd.func11 Tryd.results11 ⟨rfl, rfl, trivial⟩ ?_
        cases H
        cases HK1
        exact ⟨_, EVle.tupL (ds := [slOf 1 rB8 ([] : List UInt8), cI 9]) ⟨.nil 1, .rfl' _, trivial⟩, rfl⟩
      · replace H := ifF hc H; clear hc
        refine .seq ?_
        refine .region ?_
        refine .q (x := .ref 0 1) (q_fieldRef fo_47_1 rfl) rfl ?_
        refine .q (x := .d (slOf 1 rB8 ((nth v0list (Int.toNat (v10l1))).value))) (q_loadO one_25 rfl rfl rfl) rfl ?_
        refine .q (x := .d (cI (((nth v0list (Int.toNat (v10l1))).value).length : Int))) (q_lenL (l := (nth v0list (Int.toNat (v10l1))).value) (row := rB8) Tryd.underlying25 rfl rfl) rfl ?_
        refine .q (x := .d (cB (decide ((((nth v0list (Int.toNat (v10l1))).value).length : Int) > 255)))) (q_gtr rfl rfl) rfl ?_
        refine .q (x := .d (cB (decide ((((nth v0list (Int.toNat (v10l1))).value).length : Int) > 255)))) (q_assign rfl) rfl ?_
        refine .nil ?_
        refine .cond rfl (fun hc => ?_) (fun hc => ?_)
        · replace H := ifT hc H; clear hc
          refine .seq ?_
          refine .region ?_
          refine .q (x := .d (nilD)) (q_assign rfl) rfl ?_
          refine .q (x := .d (cI 5)) (q_assign rfl) rfl ?_
          refine .nil ?_
          refine .retN [.tmp 2, .tmp 3] [.d (nilD), .d (cI 5)] Tryd.func11 Tryd.results11 ⟨rfl, rfl, trivial⟩ ?_
          cases H
          cases HK1
          exact ⟨_, EVle.tupL (ds := [slOf 1 rB8 ([] : List UInt8), cI 5]) ⟨.nil 1, .rfl' _, trivial⟩, rfl⟩
        · replace H := ifF hc H; clear hc
          refine .skip ?_
          refine .inBlock ?_
          refine .seq ?_
          refine .region ?_
          refine .q (x := .tsl 1 (v4outl1.map rB8) 0) (q_move rfl) rfl ?_
          refine .q (x := .ref 0 0) (q_fieldRef fo_47_0 rfl) rfl ?_
          refine .q (x := .d (cI ((nth v0list (Int.toNat (v10l1))).tag))) (q_loadO one_3 rfl rfl rfl) rfl ?_
          refine .q (x := .ref 0 1) (q_fieldRef fo_47_1 rfl) rfl ?_
          refine .q (x := .d (slOf 1 rB8 ((nth v0list (Int.toNat (v10l1))).value))) (q_loadO one_25 rfl rfl rfl) rfl ?_
          obtain ⟨y1, hy1, H⟩ := bind_some' H
          refine .callF en_25 rfl [] [0] (x := .tsl 1 (y1.map rB8) 0) (st' := ⟨[.row 47 [.d (cI ((nth v0list (Int.toNat (v10l1))).tag)), .d (slOf 1 rB8 ((nth v0list (Int.toNat (v10l1))).value))]], [⟨5, 1, y1.length, none⟩]⟩) rfl (c_g_tagged_put_v1 (hy1)) ⟨.rfl' _, .rfl' _, .rfl' _, trivial⟩ rfl rfl rfl rfl rfl rfl ?_
          refine .withSt (st' := ⟨[.row 47 [.d (cI ((nth v0list (Int.toNat (v10l1))).tag)), .d (slOf 1 rB8 ((nth v0list (Int.toNat (v10l1))).value))]], [⟨5, 1, y1.length, none⟩]⟩) rfl ?_
          refine .q (x := .tsl 1 (y1.map rB8) 0) (q_assign rfl) rfl ?_
          refine .nil ?_
          refine .region ?_
          refine .q (x := .ref 0 0) (q_fieldRef fo_47_0 rfl) rfl ?_
          refine .q (x := .d (cI ((nth v0list (Int.toNat (v10l1))).tag))) (q_loadO one_3 rfl rfl rfl) rfl ?_
          refine .q (x := .d (cI ((nth v0list (Int.toNat (v10l1))).tag))) (q_assign rfl) rfl ?_
          refine .nil ?_
          refine .inBlock ?_
          refine .region ?_
          obtain ⟨hk2, H⟩ := ck_some H
          refine .q (x := .d (cI (v10l1 + 1))) (q_addI rfl rfl hk2.1 hk2.2) rfl ?_
          refine .q (x := .d (cI (v10l1 + 1))) (q_move rfl) rfl ?_
          refine .nil ?_
          cases H
          exact .to 0 1 (env' := [(4, .tsl 1 (y1.map rB8) 0), (5, .d (cI ((nth v0list (Int.toNat (v10l1))).tag))), (8, .d (slOf 2 Element.row v0list)), (9, .d (cI (v0list.length : Int))), (10, .d (cI (v10l1 + 1)))]) (st' := ⟨[], [⟨5, 1, y1.length, none⟩]⟩) (.cons rfl (.rfl' _) (.cons rfl (.rfl' _) (.cons rfl (.rfl' _) (.cons rfl (.rfl' _) (.cons rfl (.rfl' _) (.nil)))))) rfl rfl rfl rfl rfl (by rw [hS]; exact Nat.le_of_ble_eq_true rfl) (by rw [hS]; exact Nat.le_of_ble_eq_true rfl) <| .sub (.cons rfl (.rfl' _) (.cons rfl (.rfl' _) (.cons rfl (.rfl' _) (.cons rfl (.rfl' _) (.cons rfl (.rfl' _) (.nil)))))) (ih1 (n1, (y1, (nth v0list (Int.toNat (v10l1))).tag, v10l1 + 1)) HK1 hm1)
  · replace H := ifF hc H; clear hc
    refine .exit rfl ?_
    refine .seq ?_
    refine .region ?_
    refine .q (x := .tsl 1 (v4outl1.map rB8) 0) (q_move rfl) rfl ?_
    refine .q (x := .tsl 1 (v4outl1.map rB8) 0) (q_assign rfl) rfl ?_
    refine .q (x := .d (cI 0)) (q_assign rfl) rfl ?_
    refine .nil ?_
    refine .retN [.tmp 2, .tmp 3] [.tsl 1 (v4outl1.map rB8) 0, .d (cI 0)] Tryd.func11 Tryd.results11 ⟨rfl, rfl, trivial⟩ ?_
    cases H
    cases HK1
    exact ⟨_, EVle.tupL (ds := [slOf 1 rB8 v4outl1, cI 0]) ⟨.tsl _ _ _, .rfl' _, trivial⟩, rfl⟩

set_option maxRecDepth 100000 in
set_option maxHeartbeats 1000000 in
theorem c_f_tagged_Elements {v0b : List UInt8} {r : (List Element) × Int} (H : f_tagged_Elements v0b = some r) : ACall Tryd.prog 13 [slOf 1 rB8 v0b] (· = .tup [slOf 2 Element.row r.1, cI r.2]) := by
  obtain ⟨i5, hi5, hz5, hs5, hb5⟩ := in_5
  obtain ⟨i47, hi47, hz47, hs47, hb47⟩ := in_47
  refine ACall.enter' Tryd.func13 rfl Tryd.ntmps13 rfl fun S hS => ?_
  unfold f_tagged_Elements at H
  change ARun _ _ _ _ _ _ [(0, .d (slOf 1 rB8 v0b))] _
  refine .seq ?_
  refine .region ?_
  refine .q (x := .d (nilD)) (q_assign rfl) rfl ?_
  refine .q (x := .d (cI 0)) (q_assign rfl) rfl ?_
  refine .nil ?_
  refine .seq ?_
  refine .region ?_
  refine .q (x := .d (nilD)) (q_assign rfl) rfl ?_
  refine .nil ?_
  refine .seq ?_
  refine .region ?_
  refine .q (x := .d (cI 0)) (q_assign rfl) rfl ?_
  refine .nil ?_
  refine .seq ?_
  refine .block ?_
  refine .tok (i := 4) (e := 47) (sz := 2) rfl ?_
  refine .withSt (st' := ⟨[], [⟨47, 2, ([] : List Element).length, none⟩]⟩) rfl ?_
  obtain ⟨n1, H⟩ := loop_some H
  refine .withSt (st' := ⟨[], [⟨47, 2, ([] : List Element).length, none⟩]⟩) rfl <| .loop (ι := Nat × (List UInt8 × List Element × Int)) (fun p => [(0, .d (slOf 1 rB8 p.2.1)), (4, .tsl 2 (p.2.2.1.map Element.row) 0), (5, .d (cI p.2.2.2))]) (fun p => ⟨[], [⟨47, 2, p.2.2.1.length, none⟩]⟩) (fun p => iter (fun s => f_tagged_Elements_l1 s.1 s.2.1 s.2.2) p.1 p.2 = some r) (·.1) (n1, (v0b, ([] : List Element), 0)) H (.cons rfl (.rfl' _) (.cons rfl (.rfl' _) (.cons rfl (.rfl' _) (.nil)))) rfl ?_
  rintro ⟨m1, v0bl1, v4outl1, v5lastl1⟩ HI ih1
  obtain ⟨n1, q1, hm1, H, HK1⟩ := iter_succ HI
  clear HI
  replace H : f_tagged_Elements_l1 v0bl1 v4outl1 v5lastl1 = some q1 := H
  unfold f_tagged_Elements_l1 at H
  change ARun _ _ _ _ _ _ [(0, .d (slOf 1 rB8 v0bl1)), (4, .tsl 2 (v4outl1.map Element.row) 0), (5, .d (cI v5lastl1))] ⟨[], [⟨47, 2, v4outl1.length, none⟩]⟩
  refine .seq ?_
  refine .seq ?_
  refine .region ?_
  refine .q (x := .d (slOf 1 rB8 v0bl1)) (q_move rfl) rfl ?_
  refine .q (x := .d (cI (v0bl1.length : Int))) (q_lenL (l := v0bl1) (row := rB8) Tryd.underlying25 rfl rfl) rfl ?_
  refine .q (x := .d (cB (decide ((v0bl1.length : Int) > 0)))) (q_gtr rfl rfl) rfl ?_
  refine .nil ?_
  refine .cond rfl (fun hc => ?_) (fun hc => ?_)
  · replace H := ifT hc H; clear hc
    refine .skip ?_
    refine .block ?_
    refine .seq ?_
    refine .region ?_
    refine .q (x := .d (slOf 1 rB8 v0bl1)) (q_move rfl) rfl ?_
    obtain ⟨hk1, H⟩ := ck_some H
    refine .q (x := .d (.ro (rB8 (nth v0bl1 (Int.toNat (0)))))) (q_idxL (row := rB8) (l := v0bl1) (i := 0) Tryd.underlying25 hi5 hs5 rfl rfl rfl hk1) rfl ?_
    refine .q (x := .d (cU8 (nth v0bl1 (Int.toNat (0))))) (q_load one_5 rfl) rfl ?_
    refine .q (x := .d (cI ((nth v0bl1 (Int.toNat (0))).toNat : Int))) (q_conv8i (a := nth v0bl1 (Int.toNat (0))) Tryd.underlying5 Tryd.underlying3 rfl) rfl ?_
    refine .q (x := .d (cI ((nth v0bl1 (Int.toNat (0))).toNat : Int))) (q_assign rfl) rfl ?_
    refine .nil ?_
    refine .seq ?_
    refine .block ?_
    refine .seq ?_
    refine .region ?_
    refine .q (x := .d (cI ((nth v0bl1 (Int.toNat (0))).toNat : Int))) (q_move rfl) rfl ?_
    refine .q (x := .d (cB (((nth v0bl1 (Int.toNat (0))).toNat : Int) == 0))) (q_eql rfl rfl) rfl ?_
    refine .q (x := .d (cB (((nth v0bl1 (Int.toNat (0))).toNat : Int) == 0))) (q_assign rfl) rfl ?_
    refine .nil ?_
    refine .cond rfl (fun hc => ?_) (fun hc => ?_)
    · replace H := ifT hc H; clear hc
      refine .seq ?_
      refine .region ?_
      refine .q (x := .d (nilD)) (q_assign rfl) rfl ?_
      refine .q (x := .d (cI 6)) (q_assign rfl) rfl ?_
      refine .nil ?_
      refine .retN [.tmp 2, .tmp 3] [.d (nilD), .d (cI 6)] Tryd.func13 Tryd.results13 ⟨rfl, rfl, trivial⟩ ?_
      cases H
      cases HK1
      exact ⟨_, EVle.tupL (ds := [slOf 2 Element.row ([] : List Element), cI 6]) ⟨.nil 2, .rfl' _, trivial⟩, rfl⟩
    · replace H := ifF hc H; clear hc
      refine .seq ?_
      refine .region ?_
      refine .q (x := .d (cI ((nth v0bl1 (Int.toNat (0))).toNat : Int))) (q_move rfl) rfl ?_
      refine .q (x := .d (cI v5lastl1)) (q_move rfl) rfl ?_
      refine .q (x := .d (cB (decide (((nth v0bl1 (Int.toNat (0))).toNat : Int) ≤ v5lastl1)))) (q_leq rfl rfl) rfl ?_
      refine .q (x := .d (cB (decide (((nth v0bl1 (Int.toNat (0))).toNat : Int) ≤ v5lastl1)))) (q_assign rfl) rfl ?_
      refine .nil ?_
      refine .cond rfl (fun hc => ?_) (fun hc => ?_)
      · replace H := ifT hc H; clear hc
        refine .seq ?_
        refine .region ?_
        refine .q (x := .d (nilD)) (q_assign rfl) rfl ?_
        refine .q (x := .d (cI 9)) (q_assign rfl) rfl ?_
        refine .nil ?_
        refine .retN [.tmp 2, .tmp 3] [.d (nilD), .d (cI 9)] Tryd.func13 Tryd.results13 ⟨rfl, rfl, trivial⟩ ?_
        cases H
        cases HK1
        exact ⟨_, EVle.tupL (ds := [slOf 2 Element.row ([] : List Element), cI 9]) ⟨.nil 2, .rfl' _, trivial⟩, rfl⟩
      · replace H := ifF hc H; clear hc
        refine .seq ?_
        refine .region ?_
        refine .q (x := .d (slOf 1 rB8 v0bl1)) (q_move rfl) rfl ?_
        refine .q (x := .d (cI (v0bl1.length : Int))) (q_lenL (l := v0bl1) (row := rB8) Tryd.underlying25 rfl rfl) rfl ?_
        refine .q (x := .d (cB (decide ((v0bl1.length : Int) < 2)))) (q_lss rfl rfl) rfl ?_
        refine .q (x := .d (cB (decide ((v0bl1.length : Int) < 2)))) (q_move rfl) rfl ?_
        refine .guardG (b := (!(decide ((v0bl1.length : Int) < 2)))) (x := .d (slOf 1 rB8 v0bl1)) (env' := [(0, _)]) rfl rfl rfl ⟨.inl rfl, trivial⟩ rfl (fun hg => OpQ.g (q_move rfl)) ?_
        refine .guardG (b := (!(decide ((v0bl1.length : Int) < 2)))) (x := .d (cI (v0bl1.length : Int))) (env' := [(27, _)]) rfl rfl rfl ⟨.inr (.inl rfl), trivial⟩ rfl (fun hg => OpQ.g (q_lenL (l := v0bl1) (row := rB8) Tryd.underlying25 rfl rfl)) ?_
        obtain ⟨hk2, H⟩ := ck_some H
        refine .guardG (b := (!(decide ((v0bl1.length : Int) < 2)))) (x := .d (cI ((v0bl1.length : Int) - 2))) (env' := [(28, _)]) rfl rfl rfl ⟨.inr (.inl rfl), trivial⟩ rfl (fun hg => OpQ.g (q_subI rfl rfl (hk2 hg).1 (hk2 hg).2)) ?_
        refine .guardG (b := (!(decide ((v0bl1.length : Int) < 2)))) (x := .d (slOf 1 rB8 v0bl1)) (env' := [(0, _)]) rfl rfl rfl ⟨.inl rfl, trivial⟩ rfl (fun hg => OpQ.g (q_move rfl)) ?_
        obtain ⟨hk3, H⟩ := ck_some H
        refine .guardG (b := (!(decide ((v0bl1.length : Int) < 2)))) (x := .d (.ro (rB8 (nth v0bl1 (Int.toNat (1)))))) (env' := [(30, _)]) rfl rfl rfl ⟨.inr (.inl rfl), trivial⟩ rfl (fun hg => OpQ.g (q_idxL (row := rB8) (l := v0bl1) (i := 1) Tryd.underlying25 hi5 hs5 rfl rfl rfl (hk3 hg))) ?_
        refine .guardG (b := (!(decide ((v0bl1.length : Int) < 2)))) (x := .d (cU8 (nth v0bl1 (Int.toNat (1))))) (env' := [(31, _)]) rfl rfl rfl ⟨.inr (.inl rfl), trivial⟩ rfl (fun hg => OpQ.g (q_load one_5 rfl)) ?_
        refine .guardG (b := (!(decide ((v0bl1.length : Int) < 2)))) (x := .d (cI ((nth v0bl1 (Int.toNat (1))).toNat : Int))) (env' := [(32, _)]) rfl rfl rfl ⟨.inr (.inl rfl), trivial⟩ rfl (fun hg => OpQ.g (q_conv8i (a := nth v0bl1 (Int.toNat (1))) Tryd.underlying5 Tryd.underlying3 rfl)) ?_
        refine .guardG (b := (!(decide ((v0bl1.length : Int) < 2)))) (x := .d (cB (decide (((v0bl1.length : Int) - 2) < ((nth v0bl1 (Int.toNat (1))).toNat : Int))))) (env' := [(29, _), (33, _)]) rfl rfl rfl ⟨.inr (.inl rfl), ⟨.inr (.inl rfl), trivial⟩⟩ rfl (fun hg => OpQ.g (q_lss rfl rfl)) ?_
        refine .q (x := .d (cB ((decide ((v0bl1.length : Int) < 2)) || (decide (((v0bl1.length : Int) - 2) < ((nth v0bl1 (Int.toNat (1))).toNat : Int)))))) (q_pickOrB rfl rfl rfl) rfl ?_
        refine .q (x := .d (cB ((decide ((v0bl1.length : Int) < 2)) || (decide (((v0bl1.length : Int) - 2) < ((nth v0bl1 (Int.toNat (1))).toNat : Int)))))) (q_assign rfl) rfl ?_
        refine .nil ?_
        refine .cond rfl (fun hc => ?_) (fun hc => ?_)
        · replace H := ifT hc H; clear hc
          refine .seq ?_
          refine .region ?_
          refine .q (x := .d (nilD)) (q_assign rfl) rfl ?_
          refine .q (x := .d (cI 2)) (q_assign rfl) rfl ?_
          refine .nil ?_
          refine .retN [.tmp 2, .tmp 3] [.d (nilD), .d (cI 2)] Tryd.func13 Tryd.results13 ⟨rfl, rfl, trivial⟩ ?_
          cases H
          cases HK1
          exact ⟨_, EVle.tupL (ds := [slOf 2 Element.row ([] : List Element), cI 2]) ⟨.nil 2, .rfl' _, trivial⟩, rfl⟩
        · replace H := ifF hc H; clear hc
          refine .skip ?_
          refine .inBlock ?_
          refine .seq ?_
          refine .region ?_
          refine .q (x := .d (slOf 1 rB8 v0bl1)) (q_move rfl) rfl ?_
          obtain ⟨hk4, H⟩ := ck_some H
          refine .q (x := .d (.ro (rB8 (nth v0bl1 (Int.toNat (1)))))) (q_idxL (row := rB8) (l := v0bl1) (i := 1) Tryd.underlying25 hi5 hs5 rfl rfl rfl hk4) rfl ?_
          refine .q (x := .d (cU8 (nth v0bl1 (Int.toNat (1))))) (q_load one_5 rfl) rfl ?_
          refine .q (x := .d (cI ((nth v0bl1 (Int.toNat (1))).toNat : Int))) (q_conv8i (a := nth v0bl1 (Int.toNat (1))) Tryd.underlying5 Tryd.underlying3 rfl) rfl ?_
          obtain ⟨hk5, H⟩ := ck_some H
          refine .q (x := .d (cI (2 + ((nth v0bl1 (Int.toNat (1))).toNat : Int)))) (q_addI rfl rfl hk5.1 hk5.2) rfl ?_
          refine .q (x := .d (cI (2 + ((nth v0bl1 (Int.toNat (1))).toNat : Int)))) (q_assign rfl) rfl ?_
          refine .nil ?_
          refine .seq ?_
          refine .region ?_
          refine .q (x := .tsl 2 (v4outl1.map Element.row) 0) (q_move rfl) rfl ?_
          refine .q (x := .d (cI ((nth v0bl1 (Int.toNat (0))).toNat : Int))) (q_move rfl) rfl ?_
          refine .g (x := .d (.e0 1)) ((hs5 ▸ g_buildSlice0 Tryd.underlying25 hi5)) rfl ?_
          refine .q (x := .d (slOf 1 rB8 v0bl1)) (q_move rfl) rfl ?_
          refine .q (x := .d (cI (2 + ((nth v0bl1 (Int.toNat (1))).toNat : Int)))) (q_move rfl) rfl ?_
          obtain ⟨hk6, H⟩ := ck_some H
          refine .q (x := .d (slOf 1 rB8 ((v0bl1.take (Int.toNat (2 + ((nth v0bl1 (Int.toNat (1))).toNat : Int)))).drop (Int.toNat ((2 : Int)))))) (q_slLHL (l := v0bl1) (row := rB8) Tryd.underlying25 hi5 hs5 rfl rfl rfl rfl hk6) rfl ?_
          obtain ⟨hk7, H⟩ := ck_some H
          refine .g (x := .d (slOf 1 rB8 ((v0bl1.take (Int.toNat (2 + ((nth v0bl1 (Int.toNat (1))).toNat : Int)))).drop (Int.toNat ((2 : Int)))))) (g_append0L (l' := (v0bl1.take (Int.toNat (2 + ((nth v0bl1 (Int.toNat (1))).toNat : Int)))).drop (Int.toNat ((2 : Int)))) (row := rB8) Tryd.underlying25 hi5 hz5 hs5 rfl (by rw [hb5]; decide) rfl (.inl rfl) rfl rfl hk7) rfl ?_
          refine .q (x := .d (.agg (Element.row (⟨((nth v0bl1 (Int.toNat (0))).toNat : Int), (v0bl1.take (Int.toNat (2 + ((nth v0bl1 (Int.toNat (1))).toNat : Int)))).drop (Int.toNat ((2 : Int)))⟩ : Element)))) (q_buildP pl_47 hi47 hz47 rfl rfl) rfl ?_
          refine .g (x := .d (slOf 2 Element.row ([(⟨((nth v0bl1 (Int.toNat (0))).toNat : Int), (v0bl1.take (Int.toNat (2 + ((nth v0bl1 (Int.toNat (1))).toNat : Int)))).drop (Int.toNat ((2 : Int)))⟩ : Element)] : List Element))) (g_buildSlice1 Tryd.underlying22 hi47 hs47 hz47 rfl rfl rfl rfl rfl) rfl ?_
          obtain ⟨hk8, H⟩ := ck_some H
          refine .v (x := .tsl 2 ((v4outl1 ++ ([(⟨((nth v0bl1 (Int.toNat (0))).toNat : Int), (v0bl1.take (Int.toNat (2 + ((nth v0bl1 (Int.toNat (1))).toNat : Int)))).drop (Int.toNat ((2 : Int)))⟩ : Element)] : List Element)).map Element.row) 0) (v_appendL (l := v4outl1) (l' := ([(⟨((nth v0bl1 (Int.toNat (0))).toNat : Int), (v0bl1.take (Int.toNat (2 + ((nth v0bl1 (Int.toNat (1))).toNat : Int)))).drop (Int.toNat ((2 : Int)))⟩ : Element)] : List Element)) (row := Element.row) Tryd.underlying22 hi47 hz47 hs47 rfl (by rw [hb47]; decide) rfl rfl rfl rfl hk8) rfl ?_
          refine .withSt (st' := ⟨[], [⟨47, 2, (v4outl1 ++ ([(⟨((nth v0bl1 (Int.toNat (0))).toNat : Int), (v0bl1.take (Int.toNat (2 + ((nth v0bl1 (Int.toNat (1))).toNat : Int)))).drop (Int.toNat ((2 : Int)))⟩ : Element)] : List Element)).length, none⟩]⟩) rfl ?_
          refine .q (x := .tsl 2 ((v4outl1 ++ ([(⟨((nth v0bl1 (Int.toNat (0))).toNat : Int), (v0bl1.take (Int.toNat (2 + ((nth v0bl1 (Int.toNat (1))).toNat : Int)))).drop (Int.toNat ((2 : Int)))⟩ : Element)] : List Element)).map Element.row) 0) (q_assign rfl) rfl ?_
          refine .nil ?_
          refine .region ?_
          refine .q (x := .d (slOf 1 rB8 v0bl1)) (q_move rfl) rfl ?_
          refine .q (x := .d (cI (2 + ((nth v0bl1 (Int.toNat (1))).toNat : Int)))) (q_move rfl) rfl ?_
          obtain ⟨hk9, H⟩ := ck_some H
          refine .q (x := .d (slOf 1 rB8 (v0bl1.drop (Int.toNat (2 + ((nth v0bl1 (Int.toNat (1))).toNat : Int)))))) (q_slLL (l := v0bl1) (row := rB8) Tryd.underlying25 hi5 hs5 rfl rfl rfl hk9) rfl ?_
          refine .q (x := .d (cI ((nth v0bl1 (Int.toNat (0))).toNat : Int))) (q_move rfl) rfl ?_
          refine .q (x := .d (slOf 1 rB8 (v0bl1.drop (Int.toNat (2 + ((nth v0bl1 (Int.toNat (1))).toNat : Int)))))) (q_assign rfl) rfl ?_
          refine .q (x := .d (cI ((nth v0bl1 (Int.toNat (0))).toNat : Int))) (q_assign rfl) rfl ?_
          refine .nil ?_
          refine .inBlock ?_
          cases H
          exact .withSt (st' := ⟨[], [⟨47, 2, (v4outl1 ++ ([(⟨((nth v0bl1 (Int.toNat (0))).toNat : Int), (v0bl1.take (Int.toNat (2 + ((nth v0bl1 (Int.toNat (1))).toNat : Int)))).drop (Int.toNat ((2 : Int)))⟩ : Element)] : List Element)).length, none⟩]⟩) rfl <| .sub (.cons rfl (.rfl' _) (.cons rfl (.rfl' _) (.cons rfl (.rfl' _) (.nil)))) (ih1 (n1, (v0bl1.drop (Int.toNat (2 + ((nth v0bl1 (Int.toNat (1))).toNat : Int))), v4outl1 ++ ([(⟨((nth v0bl1 (Int.toNat (0))).toNat : Int), (v0bl1.take (Int.toNat (2 + ((nth v0bl1 (Int.toNat (1))).toNat : Int)))).drop (Int.toNat ((2 : Int)))⟩ : Element)] : List Element), ((nth v0bl1 (Int.toNat (0))).toNat : Int))) HK1 hm1)
  · replace H := ifF hc H; clear hc
    refine .exit rfl ?_
    refine .seq ?_
    refine .region ?_
    refine .q (x := .tsl 2 (v4outl1.map Element.row) 0) (q_move rfl) rfl ?_
    refine .q (x := .tsl 2 (v4outl1.map Element.row) 0) (q_assign rfl) rfl ?_
    refine .q (x := .d (cI 0)) (q_assign rfl) rfl ?_
    refine .nil ?_
    refine .retN [.tmp 2, .tmp 3] [.tsl 2 (v4outl1.map Element.row) 0, .d (cI 0)] Tryd.func13 Tryd.results13 ⟨rfl, rfl, trivial⟩ ?_
    cases H
    cases HK1
    exact ⟨_, EVle.tupL (ds := [slOf 2 Element.row v4outl1, cI 0]) ⟨.tsl _ _ _, .rfl' _, trivial⟩, rfl⟩

set_option maxRecDepth 100000 in
set_option maxHeartbeats 1000000 in
theorem c_f_textual_within {v0n : Int} {v1lo : Int} {v2hi : Int} {r : Bool} (H : f_textual_within v0n v1lo v2hi = some r) : ACall Tryd.prog 48 [cI v0n, cI v1lo, cI v2hi] (· = cB r) := by
  refine ACall.enter' Tryd.func48 rfl Tryd.ntmps48 rfl fun S hS => ?_
  unfold f_textual_within at H
  change ARun _ _ _ _ _ _ [(0, .d (cI v0n)), (1, .d (cI v1lo)), (2, .d (cI v2hi))] _
  refine .seq ?_
  refine .region ?_
  refine .q (x := .d (cB false)) (q_assign rfl) rfl ?_
  refine .nil ?_
  refine .seq ?_
  refine .region ?_
  refine .q (x := .d (cI v0n)) (q_move rfl) rfl ?_
  refine .q (x := .d (cI v1lo)) (q_move rfl) rfl ?_
  refine .q (x := .d (cB (decide (v0n ≥ v1lo)))) (q_geq rfl rfl) rfl ?_
  refine .q (x := .d (cB (decide (v0n ≥ v1lo)))) (q_move rfl) rfl ?_
  refine .guardG (b := decide (v0n ≥ v1lo)) (x := .d (cI v0n)) (env' := [(0, _)]) rfl rfl rfl ⟨.inl rfl, trivial⟩ rfl (fun hg => OpQ.g (q_move rfl)) ?_
  refine .guardG (b := decide (v0n ≥ v1lo)) (x := .d (cI v2hi)) (env' := [(2, _)]) rfl rfl rfl ⟨.inl rfl, trivial⟩ rfl (fun hg => OpQ.g (q_move rfl)) ?_
  refine .guardG (b := decide (v0n ≥ v1lo)) (x := .d (cB (decide (v0n ≤ v2hi)))) (env' := [(11, _), (12, _)]) rfl rfl rfl ⟨.inr (.inl rfl), ⟨.inr (.inl rfl), trivial⟩⟩ rfl (fun hg => OpQ.g (q_leq rfl rfl)) ?_
  refine .q (x := .d (cB ((decide (v0n ≥ v1lo)) && (decide (v0n ≤ v2hi))))) (q_pickAndB rfl rfl rfl) rfl ?_
  refine .q (x := .d (cB ((decide (v0n ≥ v1lo)) && (decide (v0n ≤ v2hi))))) (q_assign rfl) rfl ?_
  refine .nil ?_
  refine .retN [.tmp 6] [.d (cB ((decide (v0n ≥ v1lo)) && (decide (v0n ≤ v2hi))))] Tryd.func48 Tryd.results48 ⟨rfl, trivial⟩ ?_
  cases H
  exact ⟨_, .rfl' _, rfl⟩

set_option maxRecDepth 100000 in
set_option maxHeartbeats 1000000 in
theorem c_f_digits_digit {v0c : UInt8} {r : Bool} (H : f_digits_digit v0c = some r) : ACall Tryd.prog 53 [cU8 v0c] (· = cB r) := by
  refine ACall.enter' Tryd.func53 rfl Tryd.ntmps53 rfl fun S hS => ?_
  unfold f_digits_digit at H
  change ARun _ _ _ _ _ _ [(0, .d (cU8 v0c))] _
  refine .seq ?_
  refine .region ?_
  refine .q (x := .d (cB false)) (q_assign rfl) rfl ?_
  refine .nil ?_
  refine .seq ?_
  refine .region ?_
  refine .q (x := .d (cU8 v0c)) (q_move rfl) rfl ?_
  refine .q (x := .d (cB (decide (v0c ≥ 48)))) (q8_geq (a := v0c) (b := 48) rfl rfl) rfl ?_
  refine .q (x := .d (cB (decide (v0c ≥ 48)))) (q_move rfl) rfl ?_
  refine .guardG (b := decide (v0c ≥ 48)) (x := .d (cU8 v0c)) (env' := [(0, _)]) rfl rfl rfl ⟨.inl rfl, trivial⟩ rfl (fun hg => OpQ.g (q_move rfl)) ?_
  refine .guardG (b := decide (v0c ≥ 48)) (x := .d (cB (decide (v0c ≤ 57)))) (env' := [(6, _)]) rfl rfl rfl ⟨.inr (.inl rfl), trivial⟩ rfl (fun hg => OpQ.g (q8_leq (a := v0c) (b := 57) rfl rfl)) ?_
  refine .q (x := .d (cB ((decide (v0c ≥ 48)) && (decide (v0c ≤ 57))))) (q_pickAndB rfl rfl rfl) rfl ?_
  refine .q (x := .d (cB ((decide (v0c ≥ 48)) && (decide (v0c ≤ 57))))) (q_assign rfl) rfl ?_
  refine .nil ?_
  refine .retN [.tmp 2] [.d (cB ((decide (v0c ≥ 48)) && (decide (v0c ≤ 57))))] Tryd.func53 Tryd.results53 ⟨rfl, trivial⟩ ?_
  cases H
  exact ⟨_, .rfl' _, rfl⟩

set_option maxRecDepth 100000 in
set_option maxHeartbeats 1000000 in
theorem c_f_digits_Valid {v0s : List UInt8} {r : Bool} (H : f_digits_Valid v0s = some r) : ACall Tryd.prog 41 [cS v0s] (· = cB r) := by
  refine ACall.enter' Tryd.func41 rfl Tryd.ntmps41 rfl fun S hS => ?_
  unfold f_digits_Valid at H
  change ARun _ _ _ _ _ _ [(0, .d (cS v0s))] _
  refine .seq ?_
  refine .region ?_
  refine .q (x := .d (cB false)) (q_assign rfl) rfl ?_
  refine .nil ?_
  refine .seq ?_
  refine .seq ?_
  refine .region ?_
  refine .q (x := .d (cS v0s)) (q_move rfl) rfl ?_
  refine .q (x := .d (cI (v0s.length : Int))) (q_lenS Tryd.underlying9 rfl) rfl ?_
  refine .q (x := .d (cI 0)) (q_move rfl) rfl ?_
  refine .nil ?_
  refine .blockJoin2 (ι := Unit) (fun s => [(0, .d (cS v0s))]) (fun s => ⟨[], []⟩) (fun s => f_digits_Valid_j1 v0s = some r) ?_ ?_
  · rintro _ H
    replace H : f_digits_Valid_j1 v0s = some r := H
    unfold f_digits_Valid_j1 at H
    change ARun _ _ _ _ _ _ [(0, .d (cS v0s))] ⟨[], []⟩
    refine .seq ?_
    refine .region ?_
    refine .q (x := .d (cS v0s)) (q_move rfl) rfl ?_
    refine .q (x := .d (cI (v0s.length : Int))) (q_lenS Tryd.underlying9 rfl) rfl ?_
    refine .q (x := .d (cB (decide ((v0s.length : Int) ≥ 1)))) (q_geq rfl rfl) rfl ?_
    refine .q (x := .d (cB (decide ((v0s.length : Int) ≥ 1)))) (q_move rfl) rfl ?_
    refine .guardG (b := decide ((v0s.length : Int) ≥ 1)) (x := .d (cS v0s)) (env' := [(0, _)]) rfl rfl rfl ⟨.inl rfl, trivial⟩ rfl (fun hg => OpQ.g (q_move rfl)) ?_
    refine .guardG (b := decide ((v0s.length : Int) ≥ 1)) (x := .d (cI (v0s.length : Int))) (env' := [(19, _)]) rfl rfl rfl ⟨.inr (.inl rfl), trivial⟩ rfl (fun hg => OpQ.g (q_lenS Tryd.underlying9 rfl)) ?_
    refine .guardG (b := decide ((v0s.length : Int) ≥ 1)) (x := .d (cB (decide ((v0s.length : Int) ≤ 15)))) (env' := [(20, _)]) rfl rfl rfl ⟨.inr (.inl rfl), trivial⟩ rfl (fun hg => OpQ.g (q_leq rfl rfl)) ?_
    refine .q (x := .d (cB ((decide ((v0s.length : Int) ≥ 1)) && (decide ((v0s.length : Int) ≤ 15))))) (q_pickAndB rfl rfl rfl) rfl ?_
    refine .q (x := .d (cB ((decide ((v0s.length : Int) ≥ 1)) && (decide ((v0s.length : Int) ≤ 15))))) (q_assign rfl) rfl ?_
    refine .nil ?_
    refine .retN [.tmp 2] [.d (cB ((decide ((v0s.length : Int) ≥ 1)) && (decide ((v0s.length : Int) ≤ 15))))] Tryd.func41 Tryd.results41 ⟨rfl, trivial⟩ ?_
    cases H
    exact ⟨_, .rfl' _, rfl⟩
  · intro hj1 hj1x
    obtain ⟨n1, H⟩ := loop_some H
    refine .loop (ι := Nat × (Int)) (fun p => [(0, .d (cS v0s)), (5, .d (cI (v0s.length : Int))), (6, .d (cI p.2))]) (fun p => ⟨[], []⟩) (fun p => iter (fun s => f_digits_Valid_l1 v0s s) p.1 p.2 = some r) (·.1) (n1, 0) H (.cons rfl (.rfl' _) (.cons rfl (.rfl' _) (.cons rfl (.rfl' _) (.nil)))) rfl ?_
    rintro ⟨m1, v6l1⟩ HI ih1
    obtain ⟨n1, q1, hm1, H, HK1⟩ := iter_succ HI
    clear HI
    replace H : f_digits_Valid_l1 v0s v6l1 = some q1 := H
    unfold f_digits_Valid_l1 at H
    change ARun _ _ _ _ _ _ [(0, .d (cS v0s)), (5, .d (cI (v0s.length : Int))), (6, .d (cI v6l1))] ⟨[], []⟩
    refine .seq ?_
    refine .region ?_
    refine .q (x := .d (cB (decide (v6l1 < (v0s.length : Int))))) (q_lss rfl rfl) rfl ?_
    refine .nil ?_
    refine .seq ?_
    refine .cond rfl (fun hc => ?_) (fun hc => ?_)
    · replace H := ifT hc H; clear hc
      refine .skip ?_
      refine .seq ?_
      refine .block ?_
      refine .seq ?_
      refine .region ?_
      refine .q (x := .d (cI v6l1)) (q_move rfl) rfl ?_
      refine .q (x := .d (cI v6l1)) (q_assign rfl) rfl ?_
      refine .nil ?_
      refine .seq ?_
      refine .region ?_
      refine .q (x := .d (cS v0s)) (q_move rfl) rfl ?_
      refine .q (x := .d (cI v6l1)) (q_move rfl) rfl ?_
      obtain ⟨hk1, H⟩ := ck_some H
      refine .q (x := .d (cU8 (nth v0s (Int.toNat (v6l1))))) (q_indexL (i := v6l1) Tryd.underlying9 rfl rfl hk1) rfl ?_
      obtain ⟨y1, hy1, H⟩ := bind_some' H
      refine .g (x := .d (cB y1)) (g_call en_53 rfl rfl (c_f_digits_digit (hy1))) rfl ?_
      refine .q (x := .d (cB (!y1))) (q_not rfl) rfl ?_
      refine .nil ?_
      refine .cond rfl (fun hc => ?_) (fun hc => ?_)
      · replace H := ifT hc H; clear hc
        refine .seq ?_
        refine .region ?_
        refine .q (x := .d (cB false)) (q_assign rfl) rfl ?_
        refine .nil ?_
        refine .retN [.tmp 2] [.d (cB false)] Tryd.func41 Tryd.results41 ⟨rfl, trivial⟩ ?_
        cases H
        cases HK1
        exact ⟨_, .rfl' _, rfl⟩
      · replace H := ifF hc H; clear hc
        refine .skip ?_
        refine .inBlock ?_
        refine .region ?_
        obtain ⟨hk2, H⟩ := ck_some H
        refine .q (x := .d (cI (v6l1 + 1))) (q_addI rfl rfl hk2.1 hk2.2) rfl ?_
        refine .q (x := .d (cI (v6l1 + 1))) (q_move rfl) rfl ?_
        refine .nil ?_
        cases H
        exact .sub (.cons rfl (.rfl' _) (.cons rfl (.rfl' _) (.cons rfl (.rfl' _) (.nil)))) (ih1 (n1, (v6l1 + 1)) HK1 hm1)
    · replace H := ifF hc H; clear hc
      refine .exit rfl ?_
      obtain ⟨q0, H9, hq0⟩ := map_some' H; clear H; cases hq0
      cases HK1
      have H := H9
      exact .sub (.cons rfl (.rfl' _) (.nil)) (hj1x () H)

set_option maxRecDepth 100000 in
set_option maxHeartbeats 1000000 in
theorem c_f_textual_check {v0 : Record} {r : Int} (H : f_textual_check v0 = some r) : ACall Tryd.prog 38 [.agg (Record.row v0)] (· = cI r) := by
  refine ACall.enter' Tryd.func38 rfl Tryd.ntmps38 rfl fun S hS => ?_
  unfold f_textual_check at H
  change ARun _ _ _ _ _ _ [(0, .d (.agg (Record.row v0)))] _
  refine .seq ?_
  refine .region ?_
  refine .v (x := .ref 0 0) (v_box rfl rfl) rfl ?_
  refine .withSt (st' := ⟨[.row 34 [.d (cI v0.source), .d (cI v0.serial), .d (cI v0.kind), .d (cS v0.a), .d (cS v0.b), .d (cI v0.start), .d (cI v0.units), .d (cI v0.call), .d (cI v0.part), .d (cB v0.last), .d (cI v0.trunk), .d (cB v0.inbound)]], []⟩) rfl ?_
  refine .q (x := .d (cI 0)) (q_assign rfl) rfl ?_
  refine .nil ?_
  refine .seq ?_
  refine .region ?_
  refine .q (x := .ref 0 2) (q_fieldRef fo_34_2 rfl) rfl ?_
  refine .q (x := .d (cI v0.kind)) (q_loadO one_3 rfl rfl rfl) rfl ?_
  refine .q (x := .d (cB (v0.kind == 3))) (q_eql rfl rfl) rfl ?_
  refine .q (x := .d (cB (v0.kind == 3))) (q_move rfl) rfl ?_
  refine .guardG (b := (!(v0.kind == 3))) (x := .ref 0 2) (env' := [(1, _)]) rfl rfl rfl ⟨.inl rfl, trivial⟩ rfl (fun hg => OpQ.g (q_fieldRef fo_34_2 rfl)) ?_
  refine .guardG (b := (!(v0.kind == 3))) (x := .d (cI v0.kind)) (env' := [(9, _)]) rfl rfl rfl ⟨.inr (.inl rfl), trivial⟩ rfl (fun hg => OpQ.g (q_loadO one_3 rfl rfl rfl)) ?_
  refine .guardG (b := (!(v0.kind == 3))) (x := .d (cB (v0.kind == 4))) (env' := [(10, _)]) rfl rfl rfl ⟨.inr (.inl rfl), trivial⟩ rfl (fun hg => OpQ.g (q_eql rfl rfl)) ?_
  refine .q (x := .d (cB ((v0.kind == 3) || (v0.kind == 4)))) (q_pickOrB rfl rfl rfl) rfl ?_
  refine .q (x := .d (cB ((v0.kind == 3) || (v0.kind == 4)))) (q_assign rfl) rfl ?_
  refine .nil ?_
  refine .seq ?_
  refine .region ?_
  refine .q (x := .d (cI 1099511627776)) (q_assign rfl) rfl ?_
  refine .nil ?_
  refine .seqJoin (ι := Int) (fun s => [(1, .ref 0 0), (3, .d (cB ((v0.kind == 3) || (v0.kind == 4)))), (4, .d (cI s))]) (fun s => ⟨[.row 34 [.d (cI v0.source), .d (cI v0.serial), .d (cI v0.kind), .d (cS v0.a), .d (cS v0.b), .d (cI v0.start), .d (cI v0.units), .d (cI v0.call), .d (cI v0.part), .d (cB v0.last), .d (cI v0.trunk), .d (cB v0.inbound)]], []⟩) (fun s => f_textual_check_j1 v0 s = some r) ?_ ?_
  · rintro v4j1 H
    replace H : f_textual_check_j1 v0 v4j1 = some r := H
    unfold f_textual_check_j1 at H
    change ARun _ _ _ _ _ _ [(1, .ref 0 0), (3, .d (cB ((v0.kind == 3) || (v0.kind == 4)))), (4, .d (cI v4j1))] ⟨[.row 34 [.d (cI v0.source), .d (cI v0.serial), .d (cI v0.kind), .d (cS v0.a), .d (cS v0.b), .d (cI v0.start), .d (cI v0.units), .d (cI v0.call), .d (cI v0.part), .d (cB v0.last), .d (cI v0.trunk), .d (cB v0.inbound)]], []⟩
    refine .seq ?_
    refine .block ?_
    refine .seq ?_
    refine .region ?_
    refine .q (x := .ref 0 0) (q_fieldRef fo_34_0 rfl) rfl ?_
    refine .q (x := .d (cI v0.source)) (q_loadO one_3 rfl rfl rfl) rfl ?_
    obtain ⟨y1, hy1, H⟩ := bind_some' H
    refine .g (x := .d (cB y1)) (g_call en_48 rfl rfl (c_f_textual_within (hy1))) rfl ?_
    refine .q (x := .d (cB (!y1))) (q_not rfl) rfl ?_
    refine .q (x := .d (cB (!y1))) (q_move rfl) rfl ?_
    refine .guardG (b := (!(!y1))) (x := .ref 0 1) (env' := [(1, _)]) rfl rfl rfl ⟨.inl rfl, trivial⟩ rfl (fun hg => OpQ.g (q_fieldRef fo_34_1 rfl)) ?_
    refine .guardG (b := (!(!y1))) (x := .d (cI v0.serial)) (env' := [(22, _)]) rfl rfl rfl ⟨.inr (.inl rfl), trivial⟩ rfl (fun hg => OpQ.g (q_loadO one_3 rfl rfl rfl)) ?_
    obtain ⟨y2, hy2, H⟩ := bind_some' H
    refine .guardG (b := (!(!y1))) (x := .d (cB y2)) (env' := [(23, _)]) rfl rfl rfl ⟨.inr (.inl rfl), trivial⟩ rfl (fun hg => (g_call en_48 rfl rfl (c_f_textual_within (gcall_some hy2 hg)))) ?_
    refine .guardG (b := (!(!y1))) (x := .d (cB (!y2))) (env' := [(24, _)]) rfl rfl rfl ⟨.inr (.inl rfl), trivial⟩ rfl (fun hg => OpQ.g (q_not rfl)) ?_
    refine .q (x := .d (cB ((!y1) || (!y2)))) (q_pickOrB rfl rfl rfl) rfl ?_
    refine .q (x := .d (cB ((!y1) || (!y2)))) (q_assign rfl) rfl ?_
    refine .nil ?_
    refine .cond rfl (fun hc => ?_) (fun hc => ?_)
    · replace H := ifT hc H; clear hc
      refine .seq ?_
      refine .region ?_
      refine .q (x := .d (cI 6)) (q_assign rfl) rfl ?_
      refine .nil ?_
      refine .retN [.tmp 2] [.d (cI 6)] Tryd.func38 Tryd.results38 ⟨rfl, trivial⟩ ?_
      cases H
      exact ⟨_, .rfl' _, rfl⟩
    · replace H := ifF hc H; clear hc
      refine .seq ?_
      refine .region ?_
      refine .q (x := .ref 0 2) (q_fieldRef fo_34_2 rfl) rfl ?_
      refine .q (x := .d (cI v0.kind)) (q_loadO one_3 rfl rfl rfl) rfl ?_
      obtain ⟨y3, hy3, H⟩ := bind_some' H
      refine .g (x := .d (cB y3)) (g_call en_48 rfl rfl (c_f_textual_within (hy3))) rfl ?_
      refine .q (x := .d (cB (!y3))) (q_not rfl) rfl ?_
      refine .q (x := .d (cB (!y3))) (q_assign rfl) rfl ?_
      refine .nil ?_
      refine .cond rfl (fun hc => ?_) (fun hc => ?_)
      · replace H := ifT hc H; clear hc
        refine .seq ?_
        refine .region ?_
        refine .q (x := .d (cI 7)) (q_assign rfl) rfl ?_
        refine .nil ?_
        refine .retN [.tmp 2] [.d (cI 7)] Tryd.func38 Tryd.results38 ⟨rfl, trivial⟩ ?_
        cases H
        exact ⟨_, .rfl' _, rfl⟩
      · replace H := ifF hc H; clear hc
        refine .seq ?_
        refine .region ?_
        refine .q (x := .ref 0 3) (q_fieldRef fo_34_3 rfl) rfl ?_
        refine .q (x := .d (cS v0.a)) (q_loadO one_9 rfl rfl rfl) rfl ?_
        obtain ⟨y4, hy4, H⟩ := bind_some' H
        refine .g (x := .d (cB y4)) (g_call en_41 rfl rfl (c_f_digits_Valid (hy4))) rfl ?_
        refine .q (x := .d (cB (!y4))) (q_not rfl) rfl ?_
        refine .q (x := .d (cB (!y4))) (q_move rfl) rfl ?_
        refine .guardG (b := (!(!y4))) (x := .ref 0 4) (env' := [(1, _)]) rfl rfl rfl ⟨.inl rfl, trivial⟩ rfl (fun hg => OpQ.g (q_fieldRef fo_34_4 rfl)) ?_
        refine .guardG (b := (!(!y4))) (x := .d (cS v0.b)) (env' := [(38, _)]) rfl rfl rfl ⟨.inr (.inl rfl), trivial⟩ rfl (fun hg => OpQ.g (q_loadO one_9 rfl rfl rfl)) ?_
        obtain ⟨y5, hy5, H⟩ := bind_some' H
        refine .guardG (b := (!(!y4))) (x := .d (cB y5)) (env' := [(39, _)]) rfl rfl rfl ⟨.inr (.inl rfl), trivial⟩ rfl (fun hg => (g_call en_41 rfl rfl (c_f_digits_Valid (gcall_some hy5 hg)))) ?_
        refine .guardG (b := (!(!y4))) (x := .d (cB (!y5))) (env' := [(40, _)]) rfl rfl rfl ⟨.inr (.inl rfl), trivial⟩ rfl (fun hg => OpQ.g (q_not rfl)) ?_
        refine .guardG (b := (!(!y4))) (x := .d (cB (!y5))) (env' := [(41, _)]) rfl rfl rfl ⟨.inr (.inl rfl), trivial⟩ rfl (fun hg => OpQ.g (q_move rfl)) ?_
        refine .guardG (b := ((!(!y4)) && (!y5))) (x := .d (cB ((v0.kind == 3) || (v0.kind == 4)))) (env' := [(3, _)]) rfl rfl rfl ⟨.inl rfl, trivial⟩ rfl (fun hg => OpQ.g (q_move rfl)) ?_
        refine .guardG (b := ((!(!y4)) && (!y5))) (x := .d (cB ((v0.kind == 3) || (v0.kind == 4)))) (env' := [(43, _)]) rfl rfl rfl ⟨.inr (.inl rfl), trivial⟩ rfl (fun hg => OpQ.g (q_move rfl)) ?_
        refine .guardG (b := (((!(!y4)) && (!y5)) && ((v0.kind == 3) || (v0.kind == 4)))) (x := .ref 0 4) (env' := [(1, _)]) rfl rfl rfl ⟨.inl rfl, trivial⟩ rfl (fun hg => OpQ.g (q_fieldRef fo_34_4 rfl)) ?_
        refine .guardG (b := (((!(!y4)) && (!y5)) && ((v0.kind == 3) || (v0.kind == 4)))) (x := .d (cS v0.b)) (env' := [(45, _)]) rfl rfl rfl ⟨.inr (.inl rfl), trivial⟩ rfl (fun hg => OpQ.g (q_loadO one_9 rfl rfl rfl)) ?_
        refine .guardG (b := (((!(!y4)) && (!y5)) && ((v0.kind == 3) || (v0.kind == 4)))) (x := .d (cB (v0.b == ([] : List UInt8)))) (env' := [(46, _)]) rfl rfl rfl ⟨.inr (.inl rfl), trivial⟩ rfl (fun hg => OpQ.g (q_seql rfl rfl)) ?_
        refine .guardG (b := ((!(!y4)) && (!y5))) (x := .d (cB (((v0.kind == 3) || (v0.kind == 4)) && (v0.b == ([] : List UInt8))))) (env' := [(44, _), (47, _)]) rfl rfl rfl ⟨.inr (.inl rfl), ⟨.inr (.inr ⟨_, _, rfl, rfl⟩), trivial⟩⟩ rfl (fun hg => OpQ.g (q_pickAndB rfl rfl rfl)) ?_
        refine .guardG (b := ((!(!y4)) && (!y5))) (x := .d (cB (!(((v0.kind == 3) || (v0.kind == 4)) && (v0.b == ([] : List UInt8)))))) (env' := [(48, _)]) rfl rfl rfl ⟨.inr (.inl rfl), trivial⟩ rfl (fun hg => OpQ.g (q_not rfl)) ?_
        refine .guardG (b := (!(!y4))) (x := .d (cB ((!y5) && (!(((v0.kind == 3) || (v0.kind == 4)) && (v0.b == ([] : List UInt8))))))) (env' := [(42, _), (49, _)]) rfl rfl rfl ⟨.inr (.inl rfl), ⟨.inr (.inr ⟨_, _, rfl, rfl⟩), trivial⟩⟩ rfl (fun hg => OpQ.g (q_pickAndB rfl rfl rfl)) ?_
        refine .q (x := .d (cB ((!y4) || ((!y5) && (!(((v0.kind == 3) || (v0.kind == 4)) && (v0.b == ([] : List UInt8)))))))) (q_pickOrB rfl rfl rfl) rfl ?_
        refine .q (x := .d (cB ((!y4) || ((!y5) && (!(((v0.kind == 3) || (v0.kind == 4)) && (v0.b == ([] : List UInt8)))))))) (q_assign rfl) rfl ?_
        refine .nil ?_
        refine .cond rfl (fun hc => ?_) (fun hc => ?_)
        · replace H := ifT hc H; clear hc
          refine .seq ?_
          refine .region ?_
          refine .q (x := .d (cI 12)) (q_assign rfl) rfl ?_
          refine .nil ?_
          refine .retN [.tmp 2] [.d (cI 12)] Tryd.func38 Tryd.results38 ⟨rfl, trivial⟩ ?_
          cases H
          exact ⟨_, .rfl' _, rfl⟩
        · replace H := ifF hc H; clear hc
          refine .seq ?_
          refine .region ?_
          refine .q (x := .ref 0 5) (q_fieldRef fo_34_5 rfl) rfl ?_
          refine .q (x := .d (cI v0.start)) (q_loadO one_3 rfl rfl rfl) rfl ?_
          obtain ⟨y6, hy6, H⟩ := bind_some' H
          refine .g (x := .d (cB y6)) (g_call en_48 rfl rfl (c_f_textual_within (hy6))) rfl ?_
          refine .q (x := .d (cB (!y6))) (q_not rfl) rfl ?_
          refine .q (x := .d (cB (!y6))) (q_assign rfl) rfl ?_
          refine .nil ?_
          refine .cond rfl (fun hc => ?_) (fun hc => ?_)
          · replace H := ifT hc H; clear hc
            refine .seq ?_
            refine .region ?_
            refine .q (x := .d (cI 15)) (q_assign rfl) rfl ?_
            refine .nil ?_
            refine .retN [.tmp 2] [.d (cI 15)] Tryd.func38 Tryd.results38 ⟨rfl, trivial⟩ ?_
            cases H
            exact ⟨_, .rfl' _, rfl⟩
          · replace H := ifF hc H; clear hc
            refine .seq ?_
            refine .region ?_
            refine .q (x := .ref 0 6) (q_fieldRef fo_34_6 rfl) rfl ?_
            refine .q (x := .d (cI v0.units)) (q_loadO one_3 rfl rfl rfl) rfl ?_
            refine .q (x := .d (cI v4j1)) (q_move rfl) rfl ?_
            obtain ⟨y7, hy7, H⟩ := bind_some' H
            refine .g (x := .d (cB y7)) (g_call en_48 rfl rfl (c_f_textual_within (hy7))) rfl ?_
            refine .q (x := .d (cB (!y7))) (q_not rfl) rfl ?_
            refine .q (x := .d (cB (!y7))) (q_assign rfl) rfl ?_
            refine .nil ?_
            refine .cond rfl (fun hc => ?_) (fun hc => ?_)
            · replace H := ifT hc H; clear hc
              refine .seq ?_
              refine .region ?_
              refine .q (x := .d (cI 6)) (q_assign rfl) rfl ?_
              refine .nil ?_
              refine .retN [.tmp 2] [.d (cI 6)] Tryd.func38 Tryd.results38 ⟨rfl, trivial⟩ ?_
              cases H
              exact ⟨_, .rfl' _, rfl⟩
            · replace H := ifF hc H; clear hc
              refine .seq ?_
              refine .region ?_
              refine .q (x := .ref 0 2) (q_fieldRef fo_34_2 rfl) rfl ?_
              refine .q (x := .d (cI v0.kind)) (q_loadO one_3 rfl rfl rfl) rfl ?_
              refine .q (x := .d (cB (v0.kind == 1))) (q_eql rfl rfl) rfl ?_
              refine .q (x := .d (cB (v0.kind == 1))) (q_move rfl) rfl ?_
              refine .guardG (b := (v0.kind == 1)) (x := .ref 0 5) (env' := [(1, _)]) rfl rfl rfl ⟨.inl rfl, trivial⟩ rfl (fun hg => OpQ.g (q_fieldRef fo_34_5 rfl)) ?_
              refine .guardG (b := (v0.kind == 1)) (x := .d (cI v0.start)) (env' := [(68, _)]) rfl rfl rfl ⟨.inr (.inl rfl), trivial⟩ rfl (fun hg => OpQ.g (q_loadO one_3 rfl rfl rfl)) ?_
              refine .guardG (b := (v0.kind == 1)) (x := .ref 0 6) (env' := [(1, _)]) rfl rfl rfl ⟨.inl rfl, trivial⟩ rfl (fun hg => OpQ.g (q_fieldRef fo_34_6 rfl)) ?_
              refine .guardG (b := (v0.kind == 1)) (x := .d (cI v0.units)) (env' := [(70, _)]) rfl rfl rfl ⟨.inr (.inl rfl), trivial⟩ rfl (fun hg => OpQ.g (q_loadO one_3 rfl rfl rfl)) ?_
              obtain ⟨hk1, H⟩ := ck_some H
              refine .guardG (b := (v0.kind == 1)) (x := .d (cI (v0.start + v0.units))) (env' := [(69, _), (71, _)]) rfl rfl rfl ⟨.inr (.inl rfl), ⟨.inr (.inl rfl), trivial⟩⟩ rfl (fun hg => OpQ.g (q_addI rfl rfl (hk1 hg).1 (hk1 hg).2)) ?_
              refine .guardG (b := (v0.kind == 1)) (x := .d (cB (decide ((v0.start + v0.units) > 12622780800)))) (env' := [(72, _)]) rfl rfl rfl ⟨.inr (.inl rfl), trivial⟩ rfl (fun hg => OpQ.g (q_gtr rfl rfl)) ?_
              refine .q (x := .d (cB ((v0.kind == 1) && (decide ((v0.start + v0.units) > 12622780800))))) (q_pickAndB rfl rfl rfl) rfl ?_
              refine .q (x := .d (cB ((v0.kind == 1) && (decide ((v0.start + v0.units) > 12622780800))))) (q_assign rfl) rfl ?_
              refine .nil ?_
              refine .cond rfl (fun hc => ?_) (fun hc => ?_)
              · replace H := ifT hc H; clear hc
                refine .seq ?_
                refine .region ?_
                refine .q (x := .d (cI 15)) (q_assign rfl) rfl ?_
                refine .nil ?_
                refine .retN [.tmp 2] [.d (cI 15)] Tryd.func38 Tryd.results38 ⟨rfl, trivial⟩ ?_
                cases H
                exact ⟨_, .rfl' _, rfl⟩
              · replace H := ifF hc H; clear hc
                refine .seq ?_
                refine .region ?_
                refine .q (x := .ref 0 7) (q_fieldRef fo_34_7 rfl) rfl ?_
                refine .q (x := .d (cI v0.call)) (q_loadO one_3 rfl rfl rfl) rfl ?_
                obtain ⟨y8, hy8, H⟩ := bind_some' H
                refine .g (x := .d (cB y8)) (g_call en_48 rfl rfl (c_f_textual_within (hy8))) rfl ?_
                refine .q (x := .d (cB (!y8))) (q_not rfl) rfl ?_
                refine .q (x := .d (cB (!y8))) (q_move rfl) rfl ?_
                refine .guardG (b := (!(!y8))) (x := .ref 0 8) (env' := [(1, _)]) rfl rfl rfl ⟨.inl rfl, trivial⟩ rfl (fun hg => OpQ.g (q_fieldRef fo_34_8 rfl)) ?_
                refine .guardG (b := (!(!y8))) (x := .d (cI v0.part)) (env' := [(81, _)]) rfl rfl rfl ⟨.inr (.inl rfl), trivial⟩ rfl (fun hg => OpQ.g (q_loadO one_3 rfl rfl rfl)) ?_
                obtain ⟨y9, hy9, H⟩ := bind_some' H
                refine .guardG (b := (!(!y8))) (x := .d (cB y9)) (env' := [(82, _)]) rfl rfl rfl ⟨.inr (.inl rfl), trivial⟩ rfl (fun hg => (g_call en_48 rfl rfl (c_f_textual_within (gcall_some hy9 hg)))) ?_
                refine .guardG (b := (!(!y8))) (x := .d (cB (!y9))) (env' := [(83, _)]) rfl rfl rfl ⟨.inr (.inl rfl), trivial⟩ rfl (fun hg => OpQ.g (q_not rfl)) ?_
                refine .q (x := .d (cB ((!y8) || (!y9)))) (q_pickOrB rfl rfl rfl) rfl ?_
                refine .q (x := .d (cB ((!y8) || (!y9)))) (q_assign rfl) rfl ?_
                refine .nil ?_
                refine .cond rfl (fun hc => ?_) (fun hc => ?_)
                · replace H := ifT hc H; clear hc
                  refine .seq ?_
                  refine .region ?_
                  refine .q (x := .d (cI 6)) (q_assign rfl) rfl ?_
                  refine .nil ?_
                  refine .retN [.tmp 2] [.d (cI 6)] Tryd.func38 Tryd.results38 ⟨rfl, trivial⟩ ?_
                  cases H
                  exact ⟨_, .rfl' _, rfl⟩
                · replace H := ifF hc H; clear hc
                  refine .seq ?_
                  refine .region ?_
                  refine .q (x := .ref 0 8) (q_fieldRef fo_34_8 rfl) rfl ?_
                  refine .q (x := .d (cI v0.part)) (q_loadO one_3 rfl rfl rfl) rfl ?_
                  refine .q (x := .d (cB (v0.part == 0))) (q_eql rfl rfl) rfl ?_
                  refine .q (x := .ref 0 7) (q_fieldRef fo_34_7 rfl) rfl ?_
                  refine .q (x := .d (cI v0.call)) (q_loadO one_3 rfl rfl rfl) rfl ?_
                  refine .q (x := .d (cB (v0.call == 0))) (q_eql rfl rfl) rfl ?_
                  refine .q (x := .d (cB ((v0.part == 0) != (v0.call == 0)))) (q_bneq rfl Tryd.underlying4 rfl) rfl ?_
                  refine .q (x := .d (cB ((v0.part == 0) != (v0.call == 0)))) (q_move rfl) rfl ?_
                  refine .guardG (b := (!((v0.part == 0) != (v0.call == 0)))) (x := .ref 0 9) (env' := [(1, _)]) rfl rfl rfl ⟨.inl rfl, trivial⟩ rfl (fun hg => OpQ.g (q_fieldRef fo_34_9 rfl)) ?_
                  refine .guardG (b := (!((v0.part == 0) != (v0.call == 0)))) (x := .d (cB v0.last)) (env' := [(95, _)]) rfl rfl rfl ⟨.inr (.inl rfl), trivial⟩ rfl (fun hg => OpQ.g (q_loadO one_4 rfl rfl rfl)) ?_
                  refine .guardG (b := (!((v0.part == 0) != (v0.call == 0)))) (x := .d (cB v0.last)) (env' := [(96, _)]) rfl rfl rfl ⟨.inr (.inl rfl), trivial⟩ rfl (fun hg => OpQ.g (q_move rfl)) ?_
                  refine .guardG (b := ((!((v0.part == 0) != (v0.call == 0))) && v0.last)) (x := .ref 0 8) (env' := [(1, _)]) rfl rfl rfl ⟨.inl rfl, trivial⟩ rfl (fun hg => OpQ.g (q_fieldRef fo_34_8 rfl)) ?_
                  refine .guardG (b := ((!((v0.part == 0) != (v0.call == 0))) && v0.last)) (x := .d (cI v0.part)) (env' := [(98, _)]) rfl rfl rfl ⟨.inr (.inl rfl), trivial⟩ rfl (fun hg => OpQ.g (q_loadO one_3 rfl rfl rfl)) ?_
                  refine .guardG (b := ((!((v0.part == 0) != (v0.call == 0))) && v0.last)) (x := .d (cB (v0.part == 0))) (env' := [(99, _)]) rfl rfl rfl ⟨.inr (.inl rfl), trivial⟩ rfl (fun hg => OpQ.g (q_eql rfl rfl)) ?_
                  refine .guardG (b := (!((v0.part == 0) != (v0.call == 0)))) (x := .d (cB (v0.last && (v0.part == 0)))) (env' := [(97, _), (100, _)]) rfl rfl rfl ⟨.inr (.inl rfl), ⟨.inr (.inr ⟨_, _, rfl, rfl⟩), trivial⟩⟩ rfl (fun hg => OpQ.g (q_pickAndB rfl rfl rfl)) ?_
                  refine .q (x := .d (cB (((v0.part == 0) != (v0.call == 0)) || (v0.last && (v0.part == 0))))) (q_pickOrB rfl rfl rfl) rfl ?_
                  refine .q (x := .d (cB (((v0.part == 0) != (v0.call == 0)) || (v0.last && (v0.part == 0))))) (q_assign rfl) rfl ?_
                  refine .nil ?_
                  refine .cond rfl (fun hc => ?_) (fun hc => ?_)
                  · replace H := ifT hc H; clear hc
                    refine .seq ?_
                    refine .region ?_
                    refine .q (x := .d (cI 8)) (q_assign rfl) rfl ?_
                    refine .nil ?_
                    refine .retN [.tmp 2] [.d (cI 8)] Tryd.func38 Tryd.results38 ⟨rfl, trivial⟩ ?_
                    cases H
                    exact ⟨_, .rfl' _, rfl⟩
                  · replace H := ifF hc H; clear hc
                    refine .seq ?_
                    refine .region ?_
                    refine .q (x := .ref 0 10) (q_fieldRef fo_34_10 rfl) rfl ?_
                    refine .q (x := .d (cI v0.trunk)) (q_loadO one_3 rfl rfl rfl) rfl ?_
                    obtain ⟨y10, hy10, H⟩ := bind_some' H
                    refine .g (x := .d (cB y10)) (g_call en_48 rfl rfl (c_f_textual_within (hy10))) rfl ?_
                    refine .q (x := .d (cB (!y10))) (q_not rfl) rfl ?_
                    refine .q (x := .d (cB (!y10))) (q_assign rfl) rfl ?_
                    refine .nil ?_
                    refine .cond rfl (fun hc => ?_) (fun hc => ?_)
                    · replace H := ifT hc H; clear hc
                      refine .seq ?_
                      refine .region ?_
                      refine .q (x := .d (cI 6)) (q_assign rfl) rfl ?_
                      refine .nil ?_
                      refine .retN [.tmp 2] [.d (cI 6)] Tryd.func38 Tryd.results38 ⟨rfl, trivial⟩ ?_
                      cases H
                      exact ⟨_, .rfl' _, rfl⟩
                    · replace H := ifF hc H; clear hc
                      refine .seq ?_
                      refine .region ?_
                      refine .q (x := .ref 0 11) (q_fieldRef fo_34_11 rfl) rfl ?_
                      refine .q (x := .d (cB v0.inbound)) (q_loadO one_4 rfl rfl rfl) rfl ?_
                      refine .q (x := .d (cB v0.inbound)) (q_move rfl) rfl ?_
                      refine .guardG (b := v0.inbound) (x := .ref 0 10) (env' := [(1, _)]) rfl rfl rfl ⟨.inl rfl, trivial⟩ rfl (fun hg => OpQ.g (q_fieldRef fo_34_10 rfl)) ?_
                      refine .guardG (b := v0.inbound) (x := .d (cI v0.trunk)) (env' := [(112, _)]) rfl rfl rfl ⟨.inr (.inl rfl), trivial⟩ rfl (fun hg => OpQ.g (q_loadO one_3 rfl rfl rfl)) ?_
                      refine .guardG (b := v0.inbound) (x := .d (cB (v0.trunk == 0))) (env' := [(113, _)]) rfl rfl rfl ⟨.inr (.inl rfl), trivial⟩ rfl (fun hg => OpQ.g (q_eql rfl rfl)) ?_
                      refine .q (x := .d (cB (v0.inbound && (v0.trunk == 0)))) (q_pickAndB rfl rfl rfl) rfl ?_
                      refine .q (x := .d (cB (v0.inbound && (v0.trunk == 0)))) (q_assign rfl) rfl ?_
                      refine .nil ?_
                      refine .cond rfl (fun hc => ?_) (fun hc => ?_)
                      · replace H := ifT hc H; clear hc
                        refine .seq ?_
                        refine .region ?_
                        refine .q (x := .d (cI 8)) (q_assign rfl) rfl ?_
                        refine .nil ?_
                        refine .retN [.tmp 2] [.d (cI 8)] Tryd.func38 Tryd.results38 ⟨rfl, trivial⟩ ?_
                        cases H
                        exact ⟨_, .rfl' _, rfl⟩
                      · replace H := ifF hc H; clear hc
                        refine .skip ?_
                        refine .inBlock ?_
                        refine .seq ?_
                        refine .region ?_
                        refine .q (x := .d (cI 0)) (q_assign rfl) rfl ?_
                        refine .nil ?_
                        refine .retN [.tmp 2] [.d (cI 0)] Tryd.func38 Tryd.results38 ⟨rfl, trivial⟩ ?_
                        cases H
                        exact ⟨_, .rfl' _, rfl⟩
  · intro hj1
    refine .seq ?_
    refine .region ?_
    refine .q (x := .ref 0 2) (q_fieldRef fo_34_2 rfl) rfl ?_
    refine .q (x := .d (cI v0.kind)) (q_loadO one_3 rfl rfl rfl) rfl ?_
    refine .q (x := .d (cB (v0.kind == 1))) (q_eql rfl rfl) rfl ?_
    refine .nil ?_
    refine .cond rfl (fun hc => ?_) (fun hc => ?_)
    · replace H := ifT hc H; clear hc
      refine .region ?_
      refine .q (x := .d (cI 604800)) (q_assign rfl) rfl ?_
      refine .nil ?_
      exact .sub (.cons rfl (.rfl' _) (.cons rfl (.rfl' _) (.cons rfl (.rfl' _) (.nil)))) (hj1 604800 H)
    · replace H := ifF hc H; clear hc
      refine .skip ?_
      exact .sub (.cons rfl (.rfl' _) (.cons rfl (.rfl' _) (.cons rfl (.rfl' _) (.nil)))) (hj1 1099511627776 H)

set_option maxRecDepth 100000 in
set_option maxHeartbeats 1000000 in
theorem c_f_textual_Encode {v0 : Record} {r : (List UInt8) × Int} (H : f_textual_Encode v0 = some r) : ACall Tryd.prog 26 [.agg (Record.row v0)] (· = .tup [cS r.1, cI r.2]) := by
  obtain ⟨i9, hi9, hz9, hs9, hb9⟩ := in_9
  refine ACall.enter' Tryd.func26 rfl Tryd.ntmps26 rfl fun S hS => ?_
  unfold f_textual_Encode at H
  change ARun _ _ _ _ _ _ [(0, .d (.agg (Record.row v0)))] _
  refine .seq ?_
  refine .region ?_
  refine .v (x := .ref 0 0) (v_box rfl rfl) rfl ?_
  refine .withSt (st' := ⟨[.row 34 [.d (cI v0.source), .d (cI v0.serial), .d (cI v0.kind), .d (cS v0.a), .d (cS v0.b), .d (cI v0.start), .d (cI v0.units), .d (cI v0.call), .d (cI v0.part), .d (cB v0.last), .d (cI v0.trunk), .d (cB v0.inbound)]], []⟩) rfl ?_
  refine .q (x := .d (cS ([] : List UInt8))) (q_assign rfl) rfl ?_
  refine .q (x := .d (cI 0)) (q_assign rfl) rfl ?_
  refine .nil ?_
  refine .seq ?_
  refine .seq ?_
  refine .region ?_
  refine .q (x := .d (.agg (Record.row v0))) (q_loadOA one_34 sz_34 rfl rfl (Nat.le_of_ble_eq_true rfl) rfl) rfl ?_
  obtain ⟨y1, hy1, H⟩ := bind_some' H
  refine .g (x := .d (cI y1)) (g_call en_38 rfl rfl (c_f_textual_check (hy1))) rfl ?_
  refine .q (x := .d (cI y1)) (q_assign rfl) rfl ?_
  refine .nil ?_
  refine .seq ?_
  refine .region ?_
  refine .q (x := .d (cI y1)) (q_move rfl) rfl ?_
  refine .q (x := .d (cB (y1 != 0))) (q_neq rfl rfl) rfl ?_
  refine .nil ?_
  refine .cond rfl (fun hc => ?_) (fun hc => ?_)
  · replace H := ifT hc H; clear hc
    refine .seq ?_
    refine .region ?_
    refine .q (x := .d (cI y1)) (q_move rfl) rfl ?_
    refine .q (x := .d (cS ([] : List UInt8))) (q_assign rfl) rfl ?_
    refine .q (x := .d (cI y1)) (q_assign rfl) rfl ?_
    refine .nil ?_
    refine .retN [.tmp 2, .tmp 3] [.d (cS ([] : List UInt8)), .d (cI y1)] Tryd.func26 Tryd.results26 ⟨rfl, rfl, trivial⟩ ?_
    cases H
    exact ⟨_, EVle.tupL (ds := [cS ([] : List UInt8), cI y1]) ⟨.rfl' _, .rfl' _, trivial⟩, rfl⟩
  · replace H := ifF hc H; clear hc
    refine .skip ?_
    refine .seq ?_
    refine .region ?_
    refine .q (x := .d (.ex (.func (.func 39) #[] #[]))) (q_assign rfl) rfl ?_
    refine .nil ?_
    refine .seq ?_
    refine .region ?_
    refine .q (x := .ref 0 4) (q_fieldRef fo_34_4 rfl) rfl ?_
    refine .q (x := .d (cS v0.b)) (q_loadO one_9 rfl rfl rfl) rfl ?_
    refine .q (x := .d (cS v0.b)) (q_assign rfl) rfl ?_
    refine .nil ?_
    refine .seqJoin (ι := List UInt8) (fun s => [(1, .ref 0 0), (5, .d (.ex (.func (.func 39) #[] #[]))), (6, .d (cS s))]) (fun s => ⟨[.row 34 [.d (cI v0.source), .d (cI v0.serial), .d (cI v0.kind), .d (cS v0.a), .d (cS v0.b), .d (cI v0.start), .d (cI v0.units), .d (cI v0.call), .d (cI v0.part), .d (cB v0.last), .d (cI v0.trunk), .d (cB v0.inbound)]], []⟩) (fun s => f_textual_Encode_j1 v0 s = some r) ?_ ?_
    · rintro v6j1 H
      replace H : f_textual_Encode_j1 v0 v6j1 = some r := H
      unfold f_textual_Encode_j1 at H
      change ARun _ _ _ _ _ _ [(1, .ref 0 0), (5, .d (.ex (.func (.func 39) #[] #[]))), (6, .d (cS v6j1))] ⟨[.row 34 [.d (cI v0.source), .d (cI v0.serial), .d (cI v0.kind), .d (cS v0.a), .d (cS v0.b), .d (cI v0.start), .d (cI v0.units), .d (cI v0.call), .d (cI v0.part), .d (cB v0.last), .d (cI v0.trunk), .d (cB v0.inbound)]], []⟩
      refine .seq ?_
      refine .drawn 25 hMix (by kernel_rfl) ?_
      show DOps _ _ _ _ _ _ _ (_ :: _) _ _ _
      refine .q (x := .ref 0 2) (q_fieldRef fo_34_2 rfl) rfl ?_
      refine .q (x := .d (cI v0.kind)) (q_loadO one_3 rfl rfl rfl) rfl ?_
      obtain ⟨hk1, H⟩ := ck_some H
      refine .q (x := .d (cI (v0.kind - 1))) (q_subI rfl rfl hk1.1 hk1.2) rfl ?_
      refine .q (x := .ref 0 2) (q_fieldRef fo_34_2 rfl) rfl ?_
      refine .q (x := .d (cI v0.kind)) (q_loadO one_3 rfl rfl rfl) rfl ?_
      obtain ⟨hk2, H⟩ := ck_some H
      refine .q (x := .d (cS ((([118, 116, 100, 99] : List UInt8).take (Int.toNat (v0.kind))).drop (Int.toNat (v0.kind - 1))))) (q_strLHL Tryd.underlying9 rfl rfl rfl hk2) rfl ?_
      refine .q (x := .d (.ex (.func (.func 39) #[] #[]))) (q_move rfl) rfl ?_
      refine .q (x := .ref 0 0) (q_fieldRef fo_34_0 rfl) rfl ?_
      refine .q (x := .d (cI v0.source)) (q_loadO one_3 rfl rfl rfl) rfl ?_
      obtain ⟨y2, hy2, H⟩ := bind_some' H
      refine .g (x := .d (cS y2)) (g_callF en_39 rfl rfl rfl (c_x_Itoa (hy2))) rfl ?_
      refine .q (x := .d (.ex (.func (.func 39) #[] #[]))) (q_move rfl) rfl ?_
      refine .q (x := .ref 0 1) (q_fieldRef fo_34_1 rfl) rfl ?_
      refine .q (x := .d (cI v0.serial)) (q_loadO one_3 rfl rfl rfl) rfl ?_
      obtain ⟨y3, hy3, H⟩ := bind_some' H
      refine .g (x := .d (cS y3)) (g_callF en_39 rfl rfl rfl (c_x_Itoa (hy3))) rfl ?_
      refine .q (x := .ref 0 3) (q_fieldRef fo_34_3 rfl) rfl ?_
      refine .q (x := .d (cS v0.a)) (q_loadO one_9 rfl rfl rfl) rfl ?_
      refine .q (x := .d (cS v6j1)) (q_move rfl) rfl ?_
      refine .q (x := .d (.ex (.func (.func 39) #[] #[]))) (q_move rfl) rfl ?_
      refine .q (x := .ref 0 5) (q_fieldRef fo_34_5 rfl) rfl ?_
      refine .q (x := .d (cI v0.start)) (q_loadO one_3 rfl rfl rfl) rfl ?_
      obtain ⟨y4, hy4, H⟩ := bind_some' H
      refine .g (x := .d (cS y4)) (g_callF en_39 rfl rfl rfl (c_x_Itoa (hy4))) rfl ?_
      refine .q (x := .d (.ex (.func (.func 39) #[] #[]))) (q_move rfl) rfl ?_
      refine .q (x := .ref 0 6) (q_fieldRef fo_34_6 rfl) rfl ?_
      refine .q (x := .d (cI v0.units)) (q_loadO one_3 rfl rfl rfl) rfl ?_
      obtain ⟨y5, hy5, H⟩ := bind_some' H
      refine .g (x := .d (cS y5)) (g_callF en_39 rfl rfl rfl (c_x_Itoa (hy5))) rfl ?_
      refine .nil ?_
      show AOps _ _ _ _ _ _ (_ :: _) _ _ _
      refine .v (x := .tsl 1 (([(([118, 116, 100, 99] : List UInt8).take (Int.toNat (v0.kind))).drop (Int.toNat (v0.kind - 1)), y2, y3, v0.a, v6j1, y4, y5] : List (List UInt8)).map rS) 0) (v_buildSliceT (n := 7) Tryd.underlying68 hi9 hs9 hz9 rfl rfl rfl rfl rfl) rfl ?_
      refine .withSt (st' := ⟨[.row 34 [.d (cI v0.source), .d (cI v0.serial), .d (cI v0.kind), .d (cS v0.a), .d (cS v0.b), .d (cI v0.start), .d (cI v0.units), .d (cI v0.call), .d (cI v0.part), .d (cB v0.last), .d (cI v0.trunk), .d (cB v0.inbound)]], [⟨9, 1, ([(([118, 116, 100, 99] : List UInt8).take (Int.toNat (v0.kind))).drop (Int.toNat (v0.kind - 1)), y2, y3, v0.a, v6j1, y4, y5] : List (List UInt8)).length, none⟩]⟩) rfl ?_
      refine .q (x := .tsl 1 (([(([118, 116, 100, 99] : List UInt8).take (Int.toNat (v0.kind))).drop (Int.toNat (v0.kind - 1)), y2, y3, v0.a, v6j1, y4, y5] : List (List UInt8)).map rS) 0) (q_assign rfl) rfl ?_
      refine .nil ?_
      refine .seqJoin (ι := List (List UInt8)) (fun s => [(1, .ref 0 0), (5, .d (.ex (.func (.func 39) #[] #[]))), (7, .tsl 1 (s.map rS) 0)]) (fun s => ⟨[.row 34 [.d (cI v0.source), .d (cI v0.serial), .d (cI v0.kind), .d (cS v0.a), .d (cS v0.b), .d (cI v0.start), .d (cI v0.units), .d (cI v0.call), .d (cI v0.part), .d (cB v0.last), .d (cI v0.trunk), .d (cB v0.inbound)]], [⟨9, 1, s.length, none⟩]⟩) (fun s => f_textual_Encode_j2 v0 s = some r) ?_ ?_
      · rintro v7j2 H
        replace H : f_textual_Encode_j2 v0 v7j2 = some r := H
        unfold f_textual_Encode_j2 at H
        change ARun _ _ _ _ _ _ [(1, .ref 0 0), (5, .d (.ex (.func (.func 39) #[] #[]))), (7, .tsl 1 (v7j2.map rS) 0)] ⟨[.row 34 [.d (cI v0.source), .d (cI v0.serial), .d (cI v0.kind), .d (cS v0.a), .d (cS v0.b), .d (cI v0.start), .d (cI v0.units), .d (cI v0.call), .d (cI v0.part), .d (cB v0.last), .d (cI v0.trunk), .d (cB v0.inbound)]], [⟨9, 1, v7j2.length, none⟩]⟩
        refine .seqJoin (ι := List (List UInt8)) (fun s => [(7, .tsl 1 (s.map rS) 0)]) (fun s => ⟨[.row 34 [.d (cI v0.source), .d (cI v0.serial), .d (cI v0.kind), .d (cS v0.a), .d (cS v0.b), .d (cI v0.start), .d (cI v0.units), .d (cI v0.call), .d (cI v0.part), .d (cB v0.last), .d (cI v0.trunk), .d (cB v0.inbound)]], [⟨9, 1, s.length, none⟩]⟩) (fun s => f_textual_Encode_j3 s = some r) ?_ ?_
        · rintro v7j3 H
          replace H : f_textual_Encode_j3 v7j3 = some r := H
          unfold f_textual_Encode_j3 at H
          change ARun _ _ _ _ _ _ [(7, .tsl 1 (v7j3.map rS) 0)] ⟨[.row 34 [.d (cI v0.source), .d (cI v0.serial), .d (cI v0.kind), .d (cS v0.a), .d (cS v0.b), .d (cI v0.start), .d (cI v0.units), .d (cI v0.call), .d (cI v0.part), .d (cB v0.last), .d (cI v0.trunk), .d (cB v0.inbound)]], [⟨9, 1, v7j3.length, none⟩]⟩
          refine .seq ?_
          refine .region ?_
          refine .q (x := .tsl 1 (v7j3.map rS) 0) (q_move rfl) rfl ?_
          obtain ⟨y6, hy6, H⟩ := bind_some' H
          refine .g (x := .d (cS y6)) (g_call en_40 rfl rfl (c_x_Join (hy6))) rfl ?_
          refine .q (x := .d (cS y6)) (q_assign rfl) rfl ?_
          refine .q (x := .d (cI 0)) (q_assign rfl) rfl ?_
          refine .nil ?_
          refine .retN [.tmp 2, .tmp 3] [.d (cS y6), .d (cI 0)] Tryd.func26 Tryd.results26 ⟨rfl, rfl, trivial⟩ ?_
          cases H
          exact ⟨_, EVle.tupL (ds := [cS y6, cI 0]) ⟨.rfl' _, .rfl' _, trivial⟩, rfl⟩
        · intro hj3
          refine .seq ?_
          refine .region ?_
          refine .q (x := .ref 0 10) (q_fieldRef fo_34_10 rfl) rfl ?_
          refine .q (x := .d (cI v0.trunk)) (q_loadO one_3 rfl rfl rfl) rfl ?_
          refine .q (x := .d (cB (v0.trunk != 0))) (q_neq rfl rfl) rfl ?_
          refine .nil ?_
          refine .cond rfl (fun hc => ?_) (fun hc => ?_)
          · replace H := ifT hc H; clear hc
            refine .seq ?_
            refine .region ?_
            refine .q (x := .d (cS ([111, 117, 116] : List UInt8))) (q_assign rfl) rfl ?_
            refine .nil ?_
            refine .seqJoin (ι := List UInt8) (fun s => [(1, .ref 0 0), (5, .d (.ex (.func (.func 39) #[] #[]))), (7, .tsl 1 (v7j2.map rS) 0), (8, .d (cS s))]) (fun s => ⟨[.row 34 [.d (cI v0.source), .d (cI v0.serial), .d (cI v0.kind), .d (cS v0.a), .d (cS v0.b), .d (cI v0.start), .d (cI v0.units), .d (cI v0.call), .d (cI v0.part), .d (cB v0.last), .d (cI v0.trunk), .d (cB v0.inbound)]], [⟨9, 1, v7j2.length, none⟩]⟩) (fun s => f_textual_Encode_j4 v0 v7j2 s = some r) ?_ ?_
            · rintro v8j4 H
              replace H : f_textual_Encode_j4 v0 v7j2 v8j4 = some r := H
              unfold f_textual_Encode_j4 at H
              change ARun _ _ _ _ _ _ [(1, .ref 0 0), (5, .d (.ex (.func (.func 39) #[] #[]))), (7, .tsl 1 (v7j2.map rS) 0), (8, .d (cS v8j4))] ⟨[.row 34 [.d (cI v0.source), .d (cI v0.serial), .d (cI v0.kind), .d (cS v0.a), .d (cS v0.b), .d (cI v0.start), .d (cI v0.units), .d (cI v0.call), .d (cI v0.part), .d (cB v0.last), .d (cI v0.trunk), .d (cB v0.inbound)]], [⟨9, 1, v7j2.length, none⟩]⟩
              refine .region ?_
              refine .q (x := .tsl 1 (v7j2.map rS) 0) (q_move rfl) rfl ?_
              refine .q (x := .d (cS v8j4)) (q_move rfl) rfl ?_
              refine .q (x := .d (.ex (.func (.func 39) #[] #[]))) (q_move rfl) rfl ?_
              refine .q (x := .ref 0 10) (q_fieldRef fo_34_10 rfl) rfl ?_
              refine .q (x := .d (cI v0.trunk)) (q_loadO one_3 rfl rfl rfl) rfl ?_
              obtain ⟨y7, hy7, H⟩ := bind_some' H
              refine .g (x := .d (cS y7)) (g_callF en_39 rfl rfl rfl (c_x_Itoa (hy7))) rfl ?_
              refine .g (x := .d (slOf 1 rS ([v8j4, y7] : List (List UInt8)))) (g_buildSliceN (n := 2) (rows := ([v8j4, y7] : List (List UInt8)).map rS) Tryd.underlying68 hi9 hs9 hz9 rfl rfl rfl rfl rfl) rfl ?_
              obtain ⟨hk3, H⟩ := ck_some H
              refine .v (x := .tsl 1 ((v7j2 ++ ([v8j4, y7] : List (List UInt8))).map rS) 0) (v_appendL (l := v7j2) (l' := ([v8j4, y7] : List (List UInt8))) (row := rS) Tryd.underlying68 hi9 hz9 hs9 rfl (by rw [hb9]; decide) rfl rfl rfl rfl hk3) rfl ?_
              refine .withSt (st' := ⟨[.row 34 [.d (cI v0.source), .d (cI v0.serial), .d (cI v0.kind), .d (cS v0.a), .d (cS v0.b), .d (cI v0.start), .d (cI v0.units), .d (cI v0.call), .d (cI v0.part), .d (cB v0.last), .d (cI v0.trunk), .d (cB v0.inbound)]], [⟨9, 1, (v7j2 ++ ([v8j4, y7] : List (List UInt8))).length, none⟩]⟩) rfl ?_
              refine .q (x := .tsl 1 ((v7j2 ++ ([v8j4, y7] : List (List UInt8))).map rS) 0) (q_assign rfl) rfl ?_
              refine .nil ?_
              exact .withSt (st' := ⟨[.row 34 [.d (cI v0.source), .d (cI v0.serial), .d (cI v0.kind), .d (cS v0.a), .d (cS v0.b), .d (cI v0.start), .d (cI v0.units), .d (cI v0.call), .d (cI v0.part), .d (cB v0.last), .d (cI v0.trunk), .d (cB v0.inbound)]], [⟨9, 1, (v7j2 ++ ([v8j4, y7] : List (List UInt8))).length, none⟩]⟩) rfl <| .sub (.cons rfl (.rfl' _) (.nil)) (hj3 (v7j2 ++ ([v8j4, y7] : List (List UInt8))) H)
            · intro hj4
              refine .seq ?_
              refine .region ?_
              refine .q (x := .ref 0 11) (q_fieldRef fo_34_11 rfl) rfl ?_
              refine .q (x := .d (cB v0.inbound)) (q_loadO one_4 rfl rfl rfl) rfl ?_
              refine .nil ?_
              refine .cond rfl (fun hc => ?_) (fun hc => ?_)
              · replace H := ifT hc H; clear hc
                refine .region ?_
                refine .q (x := .d (cS ([105, 110] : List UInt8))) (q_assign rfl) rfl ?_
                refine .nil ?_
                exact .sub (.cons rfl (.rfl' _) (.cons rfl (.rfl' _) (.cons rfl (.rfl' _) (.cons rfl (.rfl' _) (.nil))))) (hj4 ([105, 110] : List UInt8) H)
              · replace H := ifF hc H; clear hc
                refine .skip ?_
                exact .sub (.cons rfl (.rfl' _) (.cons rfl (.rfl' _) (.cons rfl (.rfl' _) (.cons rfl (.rfl' _) (.nil))))) (hj4 ([111, 117, 116] : List UInt8) H)
          · replace H := ifF hc H; clear hc
            refine .skip ?_
            exact .withSt (st' := ⟨[.row 34 [.d (cI v0.source), .d (cI v0.serial), .d (cI v0.kind), .d (cS v0.a), .d (cS v0.b), .d (cI v0.start), .d (cI v0.units), .d (cI v0.call), .d (cI v0.part), .d (cB v0.last), .d (cI v0.trunk), .d (cB v0.inbound)]], [⟨9, 1, v7j2.length, none⟩]⟩) rfl <| .sub (.cons rfl (.rfl' _) (.nil)) (hj3 v7j2 H)
      · intro hj2
        refine .seq ?_
        refine .region ?_
        refine .q (x := .ref 0 8) (q_fieldRef fo_34_8 rfl) rfl ?_
        refine .q (x := .d (cI v0.part)) (q_loadO one_3 rfl rfl rfl) rfl ?_
        refine .q (x := .d (cB (v0.part != 0))) (q_neq rfl rfl) rfl ?_
        refine .nil ?_
        refine .cond rfl (fun hc => ?_) (fun hc => ?_)
        · replace H := ifT hc H; clear hc
          refine .seq ?_
          refine .drawn 10 hMix (by kernel_rfl) ?_
          show DOps _ _ _ _ _ _ _ (_ :: _) _ _ _
          refine .q (x := .tsl 1 (([(([118, 116, 100, 99] : List UInt8).take (Int.toNat (v0.kind))).drop (Int.toNat (v0.kind - 1)), y2, y3, v0.a, v6j1, y4, y5] : List (List UInt8)).map rS) 0) (q_move rfl) rfl ?_
          refine .q (x := .d (.ex (.func (.func 39) #[] #[]))) (q_move rfl) rfl ?_
          refine .q (x := .ref 0 7) (q_fieldRef fo_34_7 rfl) rfl ?_
          refine .q (x := .d (cI v0.call)) (q_loadO one_3 rfl rfl rfl) rfl ?_
          obtain ⟨y8, hy8, H⟩ := bind_some' H
          refine .g (x := .d (cS y8)) (g_callF en_39 rfl rfl rfl (c_x_Itoa (hy8))) rfl ?_
          refine .q (x := .d (.ex (.func (.func 39) #[] #[]))) (q_move rfl) rfl ?_
          refine .q (x := .ref 0 8) (q_fieldRef fo_34_8 rfl) rfl ?_
          refine .q (x := .d (cI v0.part)) (q_loadO one_3 rfl rfl rfl) rfl ?_
          obtain ⟨y9, hy9, H⟩ := bind_some' H
          refine .g (x := .d (cS y9)) (g_callF en_39 rfl rfl rfl (c_x_Itoa (hy9))) rfl ?_
          refine .g (x := .d (slOf 1 rS ([([112, 97, 114, 116] : List UInt8), y8, y9] : List (List UInt8)))) (g_buildSliceN (n := 3) (rows := ([([112, 97, 114, 116] : List UInt8), y8, y9] : List (List UInt8)).map rS) Tryd.underlying68 hi9 hs9 hz9 rfl rfl rfl rfl rfl) rfl ?_
          refine .nil ?_
          show AOps _ _ _ _ _ _ (_ :: _) _ _ _
          obtain ⟨hk4, H⟩ := ck_some H
          refine .v (x := .tsl 1 ((([(([118, 116, 100, 99] : List UInt8).take (Int.toNat (v0.kind))).drop (Int.toNat (v0.kind - 1)), y2, y3, v0.a, v6j1, y4, y5] : List (List UInt8)) ++ ([([112, 97, 114, 116] : List UInt8), y8, y9] : List (List UInt8))).map rS) 0) (v_appendL (l := ([(([118, 116, 100, 99] : List UInt8).take (Int.toNat (v0.kind))).drop (Int.toNat (v0.kind - 1)), y2, y3, v0.a, v6j1, y4, y5] : List (List UInt8))) (l' := ([([112, 97, 114, 116] : List UInt8), y8, y9] : List (List UInt8))) (row := rS) Tryd.underlying68 hi9 hz9 hs9 rfl (by rw [hb9]; decide) rfl rfl rfl rfl hk4) rfl ?_
          refine .withSt (st' := ⟨[.row 34 [.d (cI v0.source), .d (cI v0.serial), .d (cI v0.kind), .d (cS v0.a), .d (cS v0.b), .d (cI v0.start), .d (cI v0.units), .d (cI v0.call), .d (cI v0.part), .d (cB v0.last), .d (cI v0.trunk), .d (cB v0.inbound)]], [⟨9, 1, (([(([118, 116, 100, 99] : List UInt8).take (Int.toNat (v0.kind))).drop (Int.toNat (v0.kind - 1)), y2, y3, v0.a, v6j1, y4, y5] : List (List UInt8)) ++ ([([112, 97, 114, 116] : List UInt8), y8, y9] : List (List UInt8))).length, none⟩]⟩) rfl ?_
          refine .q (x := .tsl 1 ((([(([118, 116, 100, 99] : List UInt8).take (Int.toNat (v0.kind))).drop (Int.toNat (v0.kind - 1)), y2, y3, v0.a, v6j1, y4, y5] : List (List UInt8)) ++ ([([112, 97, 114, 116] : List UInt8), y8, y9] : List (List UInt8))).map rS) 0) (q_assign rfl) rfl ?_
          refine .nil ?_
          refine .seq ?_
          refine .region ?_
          refine .q (x := .ref 0 9) (q_fieldRef fo_34_9 rfl) rfl ?_
          refine .q (x := .d (cB v0.last)) (q_loadO one_4 rfl rfl rfl) rfl ?_
          refine .nil ?_
          refine .cond rfl (fun hc => ?_) (fun hc => ?_)
          · replace H := ifT hc H; clear hc
            refine .region ?_
            refine .q (x := .tsl 1 ((([(([118, 116, 100, 99] : List UInt8).take (Int.toNat (v0.kind))).drop (Int.toNat (v0.kind - 1)), y2, y3, v0.a, v6j1, y4, y5] : List (List UInt8)) ++ ([([112, 97, 114, 116] : List UInt8), y8, y9] : List (List UInt8))).map rS) 0) (q_move rfl) rfl ?_
            refine .g (x := .d (slOf 1 rS ([([108, 97, 115, 116] : List UInt8)] : List (List UInt8)))) (g_buildSlice1 Tryd.underlying68 hi9 hs9 hz9 rfl rfl rfl rfl rfl) rfl ?_
            obtain ⟨hk5, H⟩ := ck_some H
            refine .v (x := .tsl 1 (((([(([118, 116, 100, 99] : List UInt8).take (Int.toNat (v0.kind))).drop (Int.toNat (v0.kind - 1)), y2, y3, v0.a, v6j1, y4, y5] : List (List UInt8)) ++ ([([112, 97, 114, 116] : List UInt8), y8, y9] : List (List UInt8))) ++ ([([108, 97, 115, 116] : List UInt8)] : List (List UInt8))).map rS) 0) (v_appendL (l := ([(([118, 116, 100, 99] : List UInt8).take (Int.toNat (v0.kind))).drop (Int.toNat (v0.kind - 1)), y2, y3, v0.a, v6j1, y4, y5] : List (List UInt8)) ++ ([([112, 97, 114, 116] : List UInt8), y8, y9] : List (List UInt8))) (l' := ([([108, 97, 115, 116] : List UInt8)] : List (List UInt8))) (row := rS) Tryd.underlying68 hi9 hz9 hs9 rfl (by rw [hb9]; decide) rfl rfl rfl rfl hk5) rfl ?_
            refine .withSt (st' := ⟨[.row 34 [.d (cI v0.source), .d (cI v0.serial), .d (cI v0.kind), .d (cS v0.a), .d (cS v0.b), .d (cI v0.start), .d (cI v0.units), .d (cI v0.call), .d (cI v0.part), .d (cB v0.last), .d (cI v0.trunk), .d (cB v0.inbound)]], [⟨9, 1, ((([(([118, 116, 100, 99] : List UInt8).take (Int.toNat (v0.kind))).drop (Int.toNat (v0.kind - 1)), y2, y3, v0.a, v6j1, y4, y5] : List (List UInt8)) ++ ([([112, 97, 114, 116] : List UInt8), y8, y9] : List (List UInt8))) ++ ([([108, 97, 115, 116] : List UInt8)] : List (List UInt8))).length, none⟩]⟩) rfl ?_
            refine .q (x := .tsl 1 (((([(([118, 116, 100, 99] : List UInt8).take (Int.toNat (v0.kind))).drop (Int.toNat (v0.kind - 1)), y2, y3, v0.a, v6j1, y4, y5] : List (List UInt8)) ++ ([([112, 97, 114, 116] : List UInt8), y8, y9] : List (List UInt8))) ++ ([([108, 97, 115, 116] : List UInt8)] : List (List UInt8))).map rS) 0) (q_assign rfl) rfl ?_
            refine .nil ?_
            exact .withSt (st' := ⟨[.row 34 [.d (cI v0.source), .d (cI v0.serial), .d (cI v0.kind), .d (cS v0.a), .d (cS v0.b), .d (cI v0.start), .d (cI v0.units), .d (cI v0.call), .d (cI v0.part), .d (cB v0.last), .d (cI v0.trunk), .d (cB v0.inbound)]], [⟨9, 1, ((([(([118, 116, 100, 99] : List UInt8).take (Int.toNat (v0.kind))).drop (Int.toNat (v0.kind - 1)), y2, y3, v0.a, v6j1, y4, y5] : List (List UInt8)) ++ ([([112, 97, 114, 116] : List UInt8), y8, y9] : List (List UInt8))) ++ ([([108, 97, 115, 116] : List UInt8)] : List (List UInt8))).length, none⟩]⟩) rfl <| .sub (.cons rfl (.rfl' _) (.cons rfl (.rfl' _) (.cons rfl (.rfl' _) (.nil)))) (hj2 ((([(([118, 116, 100, 99] : List UInt8).take (Int.toNat (v0.kind))).drop (Int.toNat (v0.kind - 1)), y2, y3, v0.a, v6j1, y4, y5] : List (List UInt8)) ++ ([([112, 97, 114, 116] : List UInt8), y8, y9] : List (List UInt8))) ++ ([([108, 97, 115, 116] : List UInt8)] : List (List UInt8))) H)
          · replace H := ifF hc H; clear hc
            refine .skip ?_
            exact .withSt (st' := ⟨[.row 34 [.d (cI v0.source), .d (cI v0.serial), .d (cI v0.kind), .d (cS v0.a), .d (cS v0.b), .d (cI v0.start), .d (cI v0.units), .d (cI v0.call), .d (cI v0.part), .d (cB v0.last), .d (cI v0.trunk), .d (cB v0.inbound)]], [⟨9, 1, (([(([118, 116, 100, 99] : List UInt8).take (Int.toNat (v0.kind))).drop (Int.toNat (v0.kind - 1)), y2, y3, v0.a, v6j1, y4, y5] : List (List UInt8)) ++ ([([112, 97, 114, 116] : List UInt8), y8, y9] : List (List UInt8))).length, none⟩]⟩) rfl <| .sub (.cons rfl (.rfl' _) (.cons rfl (.rfl' _) (.cons rfl (.rfl' _) (.nil)))) (hj2 (([(([118, 116, 100, 99] : List UInt8).take (Int.toNat (v0.kind))).drop (Int.toNat (v0.kind - 1)), y2, y3, v0.a, v6j1, y4, y5] : List (List UInt8)) ++ ([([112, 97, 114, 116] : List UInt8), y8, y9] : List (List UInt8))) H)
        · replace H := ifF hc H; clear hc
          refine .skip ?_
          exact .withSt (st' := ⟨[.row 34 [.d (cI v0.source), .d (cI v0.serial), .d (cI v0.kind), .d (cS v0.a), .d (cS v0.b), .d (cI v0.start), .d (cI v0.units), .d (cI v0.call), .d (cI v0.part), .d (cB v0.last), .d (cI v0.trunk), .d (cB v0.inbound)]], [⟨9, 1, ([(([118, 116, 100, 99] : List UInt8).take (Int.toNat (v0.kind))).drop (Int.toNat (v0.kind - 1)), y2, y3, v0.a, v6j1, y4, y5] : List (List UInt8)).length, none⟩]⟩) rfl <| .sub (.cons rfl (.rfl' _) (.cons rfl (.rfl' _) (.cons rfl (.rfl' _) (.nil)))) (hj2 ([(([118, 116, 100, 99] : List UInt8).take (Int.toNat (v0.kind))).drop (Int.toNat (v0.kind - 1)), y2, y3, v0.a, v6j1, y4, y5] : List (List UInt8)) H)
    · intro hj1
      refine .seq ?_
      refine .region ?_
      refine .q (x := .d (cS v0.b)) (q_move rfl) rfl ?_
      refine .q (x := .d (cB (v0.b == ([] : List UInt8)))) (q_seql rfl rfl) rfl ?_
      refine .nil ?_
      refine .cond rfl (fun hc => ?_) (fun hc => ?_)
      · replace H := ifT hc H; clear hc
        refine .region ?_
        refine .q (x := .d (cS ([45] : List UInt8))) (q_assign rfl) rfl ?_
        refine .nil ?_
        exact .sub (.cons rfl (.rfl' _) (.cons rfl (.rfl' _) (.cons rfl (.rfl' _) (.nil)))) (hj1 ([45] : List UInt8) H)
      · replace H := ifF hc H; clear hc
        refine .skip ?_
        exact .sub (.cons rfl (.rfl' _) (.cons rfl (.rfl' _) (.cons rfl (.rfl' _) (.nil)))) (hj1 v0.b H)

end Go.Proofs.YtmdpmallgcekgaaDoor
