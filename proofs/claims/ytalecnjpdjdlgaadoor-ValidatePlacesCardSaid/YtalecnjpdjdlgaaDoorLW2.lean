import Derived.Test.YtalecnjpdjdlgaaDoorLW1
import Derived.Test.YtalecnjpdjdlgaaDoorLF
import Derived.Test.YtalecnjpdjdlgaaDoorLX
set_option linter.unusedSimpArgs false
set_option linter.unusedVariables false
namespace Go.Proofs.YtalecnjpdjdlgaaDoor
open Go.RowKit Go.Abs
set_option maxRecDepth 100000 in
set_option maxHeartbeats 1000000 in
theorem c_f_billingref09_Same {v0a : List Record} {v1b : List Record} {r : Bool} (H : f_billingref09_Same v0a v1b = some r) : ACall Tryd.prog 25 [slOf 12 Record.row v0a, slOf 12 Record.row v1b] (· = cB r) := by
  obtain ⟨i23, hi23, hz23, hs23, hb23⟩ := in_23
  refine ACall.enter' Tryd.func25 rfl Tryd.ntmps25 rfl fun S hS => ?_
  unfold f_billingref09_Same at H
  change ARun _ _ _ _ _ _ [(0, .d (slOf 12 Record.row v0a)), (1, .d (slOf 12 Record.row v1b))] _
  refine .seq ?_
  refine .region ?_
  refine .q (x := .d (cB false)) (q_assign rfl) rfl ?_
  refine .nil ?_
  refine .seq ?_
  refine .seq ?_
  refine .region ?_
  refine .q (x := .d (slOf 12 Record.row v0a)) (q_move rfl) rfl ?_
  refine .q (x := .d (cI (v0a.length : Int))) (q_lenL (l := v0a) (row := Record.row) Tryd.underlying32 rfl rfl) rfl ?_
  refine .q (x := .d (slOf 12 Record.row v1b)) (q_move rfl) rfl ?_
  refine .q (x := .d (cI (v1b.length : Int))) (q_lenL (l := v1b) (row := Record.row) Tryd.underlying32 rfl rfl) rfl ?_
  refine .q (x := .d (cB ((v0a.length : Int) != (v1b.length : Int)))) (q_neq rfl rfl) rfl ?_
  refine .nil ?_
  refine .cond rfl (fun hc => ?_) (fun hc => ?_)
  · replace H := ifT hc H; clear hc
    refine .seq ?_
    refine .region ?_
    refine .q (x := .d (cB false)) (q_assign rfl) rfl ?_
    refine .nil ?_
    refine .retN [.tmp 4] [.d (cB false)] Tryd.func25 Tryd.results25 ⟨rfl, trivial⟩ ?_
    cases H
    exact ⟨_, .rfl' _, rfl⟩
  · replace H := ifF hc H; clear hc
    refine .skip ?_
    refine .seq ?_
    refine .seq ?_
    refine .region ?_
    refine .q (x := .d (cI 0)) (q_assign rfl) rfl ?_
    refine .nil ?_
    refine .block ?_
    obtain ⟨n1, H⟩ := loop_some H
    refine .loop (ι := Nat × (Int)) (fun p => [(0, .d (slOf 12 Record.row v0a)), (1, .d (slOf 12 Record.row v1b)), (5, .d (cI p.2))]) (fun p => ⟨[], []⟩) (fun p => iter (fun s => f_billingref09_Same_l1 v0a v1b s) p.1 p.2 = some r) (·.1) (n1, 0) H (.cons rfl (.rfl' _) (.cons rfl (.rfl' _) (.cons rfl (.rfl' _) (.nil)))) rfl ?_
    rintro ⟨m1, v5il1⟩ HI ih1
    obtain ⟨n1, q1, hm1, H, HK1⟩ := iter_succ HI
    clear HI
    replace H : f_billingref09_Same_l1 v0a v1b v5il1 = some q1 := H
    unfold f_billingref09_Same_l1 at H
    change ARun _ _ _ _ _ _ [(0, .d (slOf 12 Record.row v0a)), (1, .d (slOf 12 Record.row v1b)), (5, .d (cI v5il1))] ⟨[], []⟩
    refine .seq ?_
    refine .seq ?_
    refine .region ?_
    refine .q (x := .d (cI v5il1)) (q_move rfl) rfl ?_
    refine .q (x := .d (slOf 12 Record.row v0a)) (q_move rfl) rfl ?_
    refine .q (x := .d (cI (v0a.length : Int))) (q_lenL (l := v0a) (row := Record.row) Tryd.underlying32 rfl rfl) rfl ?_
    refine .q (x := .d (cB (decide (v5il1 < (v0a.length : Int))))) (q_lss rfl rfl) rfl ?_
    refine .nil ?_
    refine .cond rfl (fun hc => ?_) (fun hc => ?_)
    · replace H := ifT hc H; clear hc
      refine .skip ?_
      refine .seq ?_
      refine .block ?_
      refine .seq ?_
      refine .drawn 9 hMix (by kernel_rfl) ?_
      show DOps _ _ _ _ _ _ _ (_ :: _) _ _ _
      refine .q (x := .d (slOf 12 Record.row v0a)) (q_move rfl) rfl ?_
      refine .q (x := .d (cI v5il1)) (q_move rfl) rfl ?_
      obtain ⟨hk1, H⟩ := ck_some H
      refine .q (x := .d (.ro (Record.row (nth v0a (Int.toNat (v5il1)))))) (q_idxL (row := Record.row) (l := v0a) (i := v5il1) Tryd.underlying32 hi23 hs23 rfl rfl rfl hk1) rfl ?_
      refine .q (x := .d (.agg (Record.row (nth v0a (Int.toNat (v5il1)))))) (q_loadAll one_23 sz_23 rfl rfl) rfl ?_
      refine .q (x := .d (slOf 12 Record.row v1b)) (q_move rfl) rfl ?_
      refine .q (x := .d (cI v5il1)) (q_move rfl) rfl ?_
      obtain ⟨hk2, H⟩ := ck_some H
      refine .q (x := .d (.ro (Record.row (nth v1b (Int.toNat (v5il1)))))) (q_idxL (row := Record.row) (l := v1b) (i := v5il1) Tryd.underlying32 hi23 hs23 rfl rfl rfl hk2) rfl ?_
      refine .q (x := .d (.agg (Record.row (nth v1b (Int.toNat (v5il1)))))) (q_loadAll one_23 sz_23 rfl rfl) rfl ?_
      refine .q (x := .d (cB (!(eqVs (Record.vals (nth v0a (Int.toNat (v5il1)))) (Record.vals (nth v1b (Int.toNat (v5il1)))))))) (q_stneq fk_23 rfl rfl (xs := Record.vals (nth v0a (Int.toNat (v5il1)))) (ys := Record.vals (nth v1b (Int.toNat (v5il1)))) rfl rfl rfl rfl) rfl ?_
      refine .nil ?_
      show AOps _ _ _ _ _ _ [] _ _ _
      refine .nil ?_
      refine .cond rfl (fun hc => ?_) (fun hc => ?_)
      · replace H := ifT hc H; clear hc
        refine .seq ?_
        refine .region ?_
        refine .q (x := .d (cB false)) (q_assign rfl) rfl ?_
        refine .nil ?_
        refine .retN [.tmp 4] [.d (cB false)] Tryd.func25 Tryd.results25 ⟨rfl, trivial⟩ ?_
        cases H
        cases HK1
        exact ⟨_, .rfl' _, rfl⟩
      · replace H := ifF hc H; clear hc
        refine .skip ?_
        refine .inBlock ?_
        refine .region ?_
        refine .q (x := .d (cI v5il1)) (q_move rfl) rfl ?_
        obtain ⟨hk3, H⟩ := ck_some H
        refine .q (x := .d (cI (v5il1 + 1))) (q_addI rfl rfl hk3.1 hk3.2) rfl ?_
        refine .q (x := .d (cI (v5il1 + 1))) (q_assign rfl) rfl ?_
        refine .nil ?_
        cases H
        exact .sub (.cons rfl (.rfl' _) (.cons rfl (.rfl' _) (.cons rfl (.rfl' _) (.nil)))) (ih1 (n1, (v5il1 + 1)) HK1 hm1)
    · replace H := ifF hc H; clear hc
      refine .exit rfl ?_
      refine .seq ?_
      refine .region ?_
      refine .q (x := .d (cB true)) (q_assign rfl) rfl ?_
      refine .nil ?_
      refine .retN [.tmp 4] [.d (cB true)] Tryd.func25 Tryd.results25 ⟨rfl, trivial⟩ ?_
      cases H
      cases HK1
      exact ⟨_, .rfl' _, rfl⟩

set_option maxRecDepth 100000 in
set_option maxHeartbeats 1000000 in
theorem c_f_billingref13_Same {v0a : List Record} {v1b : List Record} {r : Bool} (H : f_billingref13_Same v0a v1b = some r) : ACall Tryd.prog 17 [slOf 12 Record.row v0a, slOf 12 Record.row v1b] (· = cB r) := by
  refine ACall.enter' Tryd.func17 rfl Tryd.ntmps17 rfl fun S hS => ?_
  unfold f_billingref13_Same at H
  change ARun _ _ _ _ _ _ [(0, .d (slOf 12 Record.row v0a)), (1, .d (slOf 12 Record.row v1b))] _
  refine .seq ?_
  refine .region ?_
  refine .q (x := .d (cB false)) (q_assign rfl) rfl ?_
  refine .nil ?_
  refine .seq ?_
  refine .region ?_
  refine .q (x := .d (slOf 12 Record.row v0a)) (q_move rfl) rfl ?_
  refine .q (x := .d (slOf 12 Record.row v1b)) (q_move rfl) rfl ?_
  obtain ⟨y1, hy1, H⟩ := bind_some' H
  refine .g (x := .d (cB y1)) (g_call en_25 rfl rfl (c_f_billingref09_Same (hy1))) rfl ?_
  refine .q (x := .d (cB y1)) (q_assign rfl) rfl ?_
  refine .nil ?_
  refine .retN [.tmp 4] [.d (cB y1)] Tryd.func17 Tryd.results17 ⟨rfl, trivial⟩ ?_
  cases H
  exact ⟨_, .rfl' _, rfl⟩

set_option maxRecDepth 100000 in
set_option maxHeartbeats 1000000 in
theorem c_f_billingref09_SameRejects {v0a : List Reject} {v1b : List Reject} {r : Bool} (H : f_billingref09_SameRejects v0a v1b = some r) : ACall Tryd.prog 26 [slOf 4 Reject.row v0a, slOf 4 Reject.row v1b] (· = cB r) := by
  obtain ⟨i44, hi44, hz44, hs44, hb44⟩ := in_44
  refine ACall.enter' Tryd.func26 rfl Tryd.ntmps26 rfl fun S hS => ?_
  unfold f_billingref09_SameRejects at H
  change ARun _ _ _ _ _ _ [(0, .d (slOf 4 Reject.row v0a)), (1, .d (slOf 4 Reject.row v1b))] _
  refine .seq ?_
  refine .region ?_
  refine .q (x := .d (cB false)) (q_assign rfl) rfl ?_
  refine .nil ?_
  refine .seq ?_
  refine .seq ?_
  refine .region ?_
  refine .q (x := .d (slOf 4 Reject.row v0a)) (q_move rfl) rfl ?_
  refine .q (x := .d (cI (v0a.length : Int))) (q_lenL (l := v0a) (row := Reject.row) Tryd.underlying34 rfl rfl) rfl ?_
  refine .q (x := .d (slOf 4 Reject.row v1b)) (q_move rfl) rfl ?_
  refine .q (x := .d (cI (v1b.length : Int))) (q_lenL (l := v1b) (row := Reject.row) Tryd.underlying34 rfl rfl) rfl ?_
  refine .q (x := .d (cB ((v0a.length : Int) != (v1b.length : Int)))) (q_neq rfl rfl) rfl ?_
  refine .nil ?_
  refine .cond rfl (fun hc => ?_) (fun hc => ?_)
  · replace H := ifT hc H; clear hc
    refine .seq ?_
    refine .region ?_
    refine .q (x := .d (cB false)) (q_assign rfl) rfl ?_
    refine .nil ?_
    refine .retN [.tmp 4] [.d (cB false)] Tryd.func26 Tryd.results26 ⟨rfl, trivial⟩ ?_
    cases H
    exact ⟨_, .rfl' _, rfl⟩
  · replace H := ifF hc H; clear hc
    refine .skip ?_
    refine .seq ?_
    refine .seq ?_
    refine .region ?_
    refine .q (x := .d (cI 0)) (q_assign rfl) rfl ?_
    refine .nil ?_
    refine .block ?_
    obtain ⟨n1, H⟩ := loop_some H
    refine .loop (ι := Nat × (Int)) (fun p => [(0, .d (slOf 4 Reject.row v0a)), (1, .d (slOf 4 Reject.row v1b)), (5, .d (cI p.2))]) (fun p => ⟨[], []⟩) (fun p => iter (fun s => f_billingref09_SameRejects_l1 v0a v1b s) p.1 p.2 = some r) (·.1) (n1, 0) H (.cons rfl (.rfl' _) (.cons rfl (.rfl' _) (.cons rfl (.rfl' _) (.nil)))) rfl ?_
    rintro ⟨m1, v5il1⟩ HI ih1
    obtain ⟨n1, q1, hm1, H, HK1⟩ := iter_succ HI
    clear HI
    replace H : f_billingref09_SameRejects_l1 v0a v1b v5il1 = some q1 := H
    unfold f_billingref09_SameRejects_l1 at H
    change ARun _ _ _ _ _ _ [(0, .d (slOf 4 Reject.row v0a)), (1, .d (slOf 4 Reject.row v1b)), (5, .d (cI v5il1))] ⟨[], []⟩
    refine .seq ?_
    refine .seq ?_
    refine .region ?_
    refine .q (x := .d (cI v5il1)) (q_move rfl) rfl ?_
    refine .q (x := .d (slOf 4 Reject.row v0a)) (q_move rfl) rfl ?_
    refine .q (x := .d (cI (v0a.length : Int))) (q_lenL (l := v0a) (row := Reject.row) Tryd.underlying34 rfl rfl) rfl ?_
    refine .q (x := .d (cB (decide (v5il1 < (v0a.length : Int))))) (q_lss rfl rfl) rfl ?_
    refine .nil ?_
    refine .cond rfl (fun hc => ?_) (fun hc => ?_)
    · replace H := ifT hc H; clear hc
      refine .skip ?_
      refine .seq ?_
      refine .block ?_
      refine .seq ?_
      refine .drawn 9 hMix (by kernel_rfl) ?_
      show DOps _ _ _ _ _ _ _ (_ :: _) _ _ _
      refine .q (x := .d (slOf 4 Reject.row v0a)) (q_move rfl) rfl ?_
      refine .q (x := .d (cI v5il1)) (q_move rfl) rfl ?_
      obtain ⟨hk1, H⟩ := ck_some H
      refine .q (x := .d (.ro (Reject.row (nth v0a (Int.toNat (v5il1)))))) (q_idxL (row := Reject.row) (l := v0a) (i := v5il1) Tryd.underlying34 hi44 hs44 rfl rfl rfl hk1) rfl ?_
      refine .q (x := .d (.agg (Reject.row (nth v0a (Int.toNat (v5il1)))))) (q_loadAll one_44 sz_44 rfl rfl) rfl ?_
      refine .q (x := .d (slOf 4 Reject.row v1b)) (q_move rfl) rfl ?_
      refine .q (x := .d (cI v5il1)) (q_move rfl) rfl ?_
      obtain ⟨hk2, H⟩ := ck_some H
      refine .q (x := .d (.ro (Reject.row (nth v1b (Int.toNat (v5il1)))))) (q_idxL (row := Reject.row) (l := v1b) (i := v5il1) Tryd.underlying34 hi44 hs44 rfl rfl rfl hk2) rfl ?_
      refine .q (x := .d (.agg (Reject.row (nth v1b (Int.toNat (v5il1)))))) (q_loadAll one_44 sz_44 rfl rfl) rfl ?_
      refine .q (x := .d (cB (!(eqVs (Reject.vals (nth v0a (Int.toNat (v5il1)))) (Reject.vals (nth v1b (Int.toNat (v5il1)))))))) (q_stneq fk_44 rfl rfl (xs := Reject.vals (nth v0a (Int.toNat (v5il1)))) (ys := Reject.vals (nth v1b (Int.toNat (v5il1)))) rfl rfl rfl rfl) rfl ?_
      refine .nil ?_
      show AOps _ _ _ _ _ _ [] _ _ _
      refine .nil ?_
      refine .cond rfl (fun hc => ?_) (fun hc => ?_)
      · replace H := ifT hc H; clear hc
        refine .seq ?_
        refine .region ?_
        refine .q (x := .d (cB false)) (q_assign rfl) rfl ?_
        refine .nil ?_
        refine .retN [.tmp 4] [.d (cB false)] Tryd.func26 Tryd.results26 ⟨rfl, trivial⟩ ?_
        cases H
        cases HK1
        exact ⟨_, .rfl' _, rfl⟩
      · replace H := ifF hc H; clear hc
        refine .skip ?_
        refine .inBlock ?_
        refine .region ?_
        refine .q (x := .d (cI v5il1)) (q_move rfl) rfl ?_
        obtain ⟨hk3, H⟩ := ck_some H
        refine .q (x := .d (cI (v5il1 + 1))) (q_addI rfl rfl hk3.1 hk3.2) rfl ?_
        refine .q (x := .d (cI (v5il1 + 1))) (q_assign rfl) rfl ?_
        refine .nil ?_
        cases H
        exact .sub (.cons rfl (.rfl' _) (.cons rfl (.rfl' _) (.cons rfl (.rfl' _) (.nil)))) (ih1 (n1, (v5il1 + 1)) HK1 hm1)
    · replace H := ifF hc H; clear hc
      refine .exit rfl ?_
      refine .seq ?_
      refine .region ?_
      refine .q (x := .d (cB true)) (q_assign rfl) rfl ?_
      refine .nil ?_
      refine .retN [.tmp 4] [.d (cB true)] Tryd.func26 Tryd.results26 ⟨rfl, trivial⟩ ?_
      cases H
      cases HK1
      exact ⟨_, .rfl' _, rfl⟩

set_option maxRecDepth 100000 in
set_option maxHeartbeats 1000000 in
theorem c_f_billingref13_SameRejects {v0a : List Reject} {v1b : List Reject} {r : Bool} (H : f_billingref13_SameRejects v0a v1b = some r) : ACall Tryd.prog 18 [slOf 4 Reject.row v0a, slOf 4 Reject.row v1b] (· = cB r) := by
  refine ACall.enter' Tryd.func18 rfl Tryd.ntmps18 rfl fun S hS => ?_
  unfold f_billingref13_SameRejects at H
  change ARun _ _ _ _ _ _ [(0, .d (slOf 4 Reject.row v0a)), (1, .d (slOf 4 Reject.row v1b))] _
  refine .seq ?_
  refine .region ?_
  refine .q (x := .d (cB false)) (q_assign rfl) rfl ?_
  refine .nil ?_
  refine .seq ?_
  refine .region ?_
  refine .q (x := .d (slOf 4 Reject.row v0a)) (q_move rfl) rfl ?_
  refine .q (x := .d (slOf 4 Reject.row v1b)) (q_move rfl) rfl ?_
  obtain ⟨y1, hy1, H⟩ := bind_some' H
  refine .g (x := .d (cB y1)) (g_call en_26 rfl rfl (c_f_billingref09_SameRejects (hy1))) rfl ?_
  refine .q (x := .d (cB y1)) (q_assign rfl) rfl ?_
  refine .nil ?_
  refine .retN [.tmp 4] [.d (cB y1)] Tryd.func18 Tryd.results18 ⟨rfl, trivial⟩ ?_
  cases H
  exact ⟨_, .rfl' _, rfl⟩

set_option maxRecDepth 100000 in
set_option maxHeartbeats 1000000 in
theorem c_f_billinglaw13_ValidateAll {v0l : List Record} {v1w : Window} {r : Bool} (H : f_billinglaw13_ValidateAll v0l v1w = some r) : ACall Tryd.prog 4 [slOf 12 Record.row v0l, .agg (Window.row v1w)] (· = cB r) := by
  refine ACall.enter' Tryd.func4 rfl Tryd.ntmps4 rfl fun S hS => ?_
  unfold f_billinglaw13_ValidateAll at H
  change ARun _ _ _ _ _ _ [(0, .d (slOf 12 Record.row v0l)), (1, .d (.agg (Window.row v1w)))] _
  refine .seq ?_
  refine .region ?_
  refine .v (x := .ref 0 0) (v_box rfl rfl) rfl ?_
  refine .withSt (st' := ⟨[.row 25 [.d (cI v1w.earliest), .d (cI v1w.latest)]], []⟩) rfl ?_
  refine .q (x := .d (cB false)) (q_assign rfl) rfl ?_
  refine .nil ?_
  refine .seq ?_
  refine .seq ?_
  refine .region ?_
  refine .q (x := .d (slOf 12 Record.row v0l)) (q_move rfl) rfl ?_
  obtain ⟨y1, hy1, H⟩ := bind_some' H
  refine .g (x := .d (cB y1)) (g_call en_14 rfl rfl (c_f_billinglaw13_few (hy1))) rfl ?_
  refine .q (x := .d (cB (!y1))) (q_not rfl) rfl ?_
  refine .nil ?_
  refine .cond rfl (fun hc => ?_) (fun hc => ?_)
  · replace H := ifT hc H; clear hc
    refine .seq ?_
    refine .region ?_
    obtain ⟨y2, hy2, H⟩ := bind_some' H
    refine .g (x := .d (cB y2)) (g_call en_9 rfl rfl (c_f_billinglaw13_awake (hy2))) rfl ?_
    refine .q (x := .d (cB y2)) (q_assign rfl) rfl ?_
    refine .nil ?_
    refine .retN [.tmp 4] [.d (cB y2)] Tryd.func4 Tryd.results4 ⟨rfl, trivial⟩ ?_
    cases H
    exact ⟨_, .rfl' _, rfl⟩
  · replace H := ifF hc H; clear hc
    refine .skip ?_
    refine .seq ?_
    refine .region ?_
    refine .q (x := .d (slOf 12 Record.row v0l)) (q_move rfl) rfl ?_
    refine .q (x := .d (.agg (Window.row v1w))) (q_loadOA one_25 sz_25 rfl rfl (Nat.le_of_ble_eq_true rfl) rfl) rfl ?_
    obtain ⟨y3, hy3, H⟩ := bind_some' H
    refine .g (x := .d (.tup [slOf 12 Record.row y3.1, slOf 4 Reject.row y3.2])) (g_call en_15 rfl rfl (c_f_validate_All (hy3))) rfl ?_
    refine .q (x := .d (.tup [slOf 12 Record.row y3.1, slOf 4 Reject.row y3.2])) (q_move rfl) rfl ?_
    refine .q (x := .d (slOf 12 Record.row y3.1)) (q_extract rfl rfl) rfl ?_
    refine .q (x := .d (slOf 4 Reject.row y3.2)) (q_extract rfl rfl) rfl ?_
    refine .q (x := .d (slOf 12 Record.row y3.1)) (q_assign rfl) rfl ?_
    refine .q (x := .d (slOf 4 Reject.row y3.2)) (q_assign rfl) rfl ?_
    refine .nil ?_
    refine .seq ?_
    refine .region ?_
    refine .q (x := .d (slOf 12 Record.row v0l)) (q_move rfl) rfl ?_
    refine .q (x := .d (.agg (Window.row v1w))) (q_loadOA one_25 sz_25 rfl rfl (Nat.le_of_ble_eq_true rfl) rfl) rfl ?_
    obtain ⟨y4, hy4, H⟩ := bind_some' H
    refine .g (x := .d (.tup [slOf 12 Record.row y4.1, slOf 4 Reject.row y4.2])) (g_call en_16 rfl rfl (c_f_billingref13_All (hy4))) rfl ?_
    refine .q (x := .d (.tup [slOf 12 Record.row y4.1, slOf 4 Reject.row y4.2])) (q_move rfl) rfl ?_
    refine .q (x := .d (slOf 12 Record.row y4.1)) (q_extract rfl rfl) rfl ?_
    refine .q (x := .d (slOf 4 Reject.row y4.2)) (q_extract rfl rfl) rfl ?_
    refine .q (x := .d (slOf 12 Record.row y4.1)) (q_assign rfl) rfl ?_
    refine .q (x := .d (slOf 4 Reject.row y4.2)) (q_assign rfl) rfl ?_
    refine .nil ?_
    refine .seq ?_
    refine .region ?_
    refine .q (x := .d (slOf 12 Record.row y3.1)) (q_move rfl) rfl ?_
    refine .q (x := .d (slOf 12 Record.row y4.1)) (q_move rfl) rfl ?_
    obtain ⟨y5, hy5, H⟩ := bind_some' H
    refine .g (x := .d (cB y5)) (g_call en_17 rfl rfl (c_f_billingref13_Same (hy5))) rfl ?_
    refine .q (x := .d (cB y5)) (q_move rfl) rfl ?_
    refine .guardG (b := y5) (x := .d (slOf 4 Reject.row y3.2)) (env' := [(6, _)]) rfl rfl rfl ⟨.inl rfl, trivial⟩ rfl (fun hg => OpQ.g (q_move rfl)) ?_
    refine .guardG (b := y5) (x := .d (slOf 4 Reject.row y4.2)) (env' := [(8, _)]) rfl rfl rfl ⟨.inl rfl, trivial⟩ rfl (fun hg => OpQ.g (q_move rfl)) ?_
    obtain ⟨y6, hy6, H⟩ := bind_some' H
    refine .guardG (b := y5) (x := .d (cB y6)) (env' := [(29, _), (30, _)]) rfl rfl rfl ⟨.inr (.inl rfl), ⟨.inr (.inl rfl), trivial⟩⟩ rfl (fun hg => (g_call en_18 rfl rfl (c_f_billingref13_SameRejects (gcall_some hy6 hg)))) ?_
    refine .q (x := .d (cB (y5 && y6))) (q_pickAndB rfl rfl rfl) rfl ?_
    refine .q (x := .d (cB (y5 && y6))) (q_move rfl) rfl ?_
    obtain ⟨y7, hy7, H⟩ := bind_some' H
    refine .guardG (b := (y5 && y6)) (x := .d (cB y7)) (env' := []) rfl rfl rfl trivial rfl (fun hg => (g_call en_9 rfl rfl (c_f_billinglaw13_awake (gcall_some hy7 hg)))) ?_
    refine .q (x := .d (cB ((y5 && y6) && y7))) (q_pickAndB rfl rfl rfl) rfl ?_
    refine .q (x := .d (cB ((y5 && y6) && y7))) (q_assign rfl) rfl ?_
    refine .nil ?_
    refine .retN [.tmp 4] [.d (cB ((y5 && y6) && y7))] Tryd.func4 Tryd.results4 ⟨rfl, trivial⟩ ?_
    cases H
    exact ⟨_, .rfl' _, rfl⟩

set_option maxRecDepth 100000 in
set_option maxHeartbeats 1000000 in
theorem c_f_billingref13_Name {v0kind : Int} {r : (List UInt8)} (H : f_billingref13_Name v0kind = some r) : ACall Tryd.prog 20 [cI v0kind] (· = cS r) := by
  refine ACall.enter' Tryd.func20 rfl Tryd.ntmps20 rfl fun S hS => ?_
  unfold f_billingref13_Name at H
  change ARun _ _ _ _ _ _ [(0, .d (cI v0kind))] _
  refine .seq ?_
  refine .region ?_
  refine .q (x := .d (cS ([] : List UInt8))) (q_assign rfl) rfl ?_
  refine .nil ?_
  refine .seq ?_
  refine .seq ?_
  refine .region ?_
  refine .q (x := .d (cI v0kind)) (q_move rfl) rfl ?_
  refine .nil ?_
  refine .block ?_
  refine .seq ?_
  refine .region ?_
  refine .q (x := .d (cB (v0kind == 1))) (q_eql rfl rfl) rfl ?_
  refine .q (x := .d (cB (v0kind == 1))) (q_assign rfl) rfl ?_
  refine .nil ?_
  refine .cond rfl (fun hc => ?_) (fun hc => ?_)
  · replace H := ifT hc H; clear hc
    refine .seq ?_
    refine .region ?_
    refine .q (x := .d (cS ([118, 111, 105, 99, 101] : List UInt8))) (q_assign rfl) rfl ?_
    refine .nil ?_
    refine .retN [.tmp 2] [.d (cS ([118, 111, 105, 99, 101] : List UInt8))] Tryd.func20 Tryd.results20 ⟨rfl, trivial⟩ ?_
    cases H
    exact ⟨_, .rfl' _, rfl⟩
  · replace H := ifF hc H; clear hc
    refine .seq ?_
    refine .region ?_
    refine .q (x := .d (cB (v0kind == 2))) (q_eql rfl rfl) rfl ?_
    refine .q (x := .d (cB (v0kind == 2))) (q_assign rfl) rfl ?_
    refine .nil ?_
    refine .cond rfl (fun hc => ?_) (fun hc => ?_)
    · replace H := ifT hc H; clear hc
      refine .seq ?_
      refine .region ?_
      refine .q (x := .d (cS ([116, 101, 120, 116] : List UInt8))) (q_assign rfl) rfl ?_
      refine .nil ?_
      refine .retN [.tmp 2] [.d (cS ([116, 101, 120, 116] : List UInt8))] Tryd.func20 Tryd.results20 ⟨rfl, trivial⟩ ?_
      cases H
      exact ⟨_, .rfl' _, rfl⟩
    · replace H := ifF hc H; clear hc
      refine .seq ?_
      refine .region ?_
      refine .q (x := .d (cB (v0kind == 3))) (q_eql rfl rfl) rfl ?_
      refine .q (x := .d (cB (v0kind == 3))) (q_assign rfl) rfl ?_
      refine .nil ?_
      refine .cond rfl (fun hc => ?_) (fun hc => ?_)
      · replace H := ifT hc H; clear hc
        refine .seq ?_
        refine .region ?_
        refine .q (x := .d (cS ([100, 97, 116, 97] : List UInt8))) (q_assign rfl) rfl ?_
        refine .nil ?_
        refine .retN [.tmp 2] [.d (cS ([100, 97, 116, 97] : List UInt8))] Tryd.func20 Tryd.results20 ⟨rfl, trivial⟩ ?_
        cases H
        exact ⟨_, .rfl' _, rfl⟩
      · replace H := ifF hc H; clear hc
        refine .seq ?_
        refine .region ?_
        refine .q (x := .d (cB (v0kind == 4))) (q_eql rfl rfl) rfl ?_
        refine .q (x := .d (cB (v0kind == 4))) (q_assign rfl) rfl ?_
        refine .nil ?_
        refine .cond rfl (fun hc => ?_) (fun hc => ?_)
        · replace H := ifT hc H; clear hc
          refine .seq ?_
          refine .region ?_
          refine .q (x := .d (cS ([99, 111, 110, 116, 101, 110, 116] : List UInt8))) (q_assign rfl) rfl ?_
          refine .nil ?_
          refine .retN [.tmp 2] [.d (cS ([99, 111, 110, 116, 101, 110, 116] : List UInt8))] Tryd.func20 Tryd.results20 ⟨rfl, trivial⟩ ?_
          cases H
          exact ⟨_, .rfl' _, rfl⟩
        · replace H := ifF hc H; clear hc
          refine .skip ?_
          refine .inBlock ?_
          refine .seq ?_
          refine .region ?_
          refine .q (x := .d (cS ([] : List UInt8))) (q_assign rfl) rfl ?_
          refine .nil ?_
          refine .retN [.tmp 2] [.d (cS ([] : List UInt8))] Tryd.func20 Tryd.results20 ⟨rfl, trivial⟩ ?_
          cases H
          exact ⟨_, .rfl' _, rfl⟩

set_option maxRecDepth 100000 in
set_option maxHeartbeats 1000000 in
theorem c_f_billingref13_Kind {v0name : List UInt8} {r : Int} (H : f_billingref13_Kind v0name = some r) : ACall Tryd.prog 22 [cS v0name] (· = cI r) := by
  refine ACall.enter' Tryd.func22 rfl Tryd.ntmps22 rfl fun S hS => ?_
  unfold f_billingref13_Kind at H
  change ARun _ _ _ _ _ _ [(0, .d (cS v0name))] _
  refine .seq ?_
  refine .region ?_
  refine .q (x := .d (cI 0)) (q_assign rfl) rfl ?_
  refine .nil ?_
  refine .seq ?_
  refine .seq ?_
  refine .region ?_
  refine .q (x := .d (cI 1)) (q_assign rfl) rfl ?_
  refine .nil ?_
  refine .block ?_
  obtain ⟨n1, H⟩ := loop_some H
  refine .loop (ι := Nat × (Int)) (fun p => [(0, .d (cS v0name)), (3, .d (cI p.2))]) (fun p => ⟨[], []⟩) (fun p => iter (fun s => f_billingref13_Kind_l1 v0name s) p.1 p.2 = some r) (·.1) (n1, 1) H (.cons rfl (.rfl' _) (.cons rfl (.rfl' _) (.nil))) rfl ?_
  rintro ⟨m1, v3kl1⟩ HI ih1
  obtain ⟨n1, q1, hm1, H, HK1⟩ := iter_succ HI
  clear HI
  replace H : f_billingref13_Kind_l1 v0name v3kl1 = some q1 := H
  unfold f_billingref13_Kind_l1 at H
  change ARun _ _ _ _ _ _ [(0, .d (cS v0name)), (3, .d (cI v3kl1))] ⟨[], []⟩
  refine .seq ?_
  refine .seq ?_
  refine .region ?_
  refine .q (x := .d (cI v3kl1)) (q_move rfl) rfl ?_
  refine .q (x := .d (cB (decide (v3kl1 < 5)))) (q_lss rfl rfl) rfl ?_
  refine .nil ?_
  refine .cond rfl (fun hc => ?_) (fun hc => ?_)
  · replace H := ifT hc H; clear hc
    refine .skip ?_
    refine .seq ?_
    refine .block ?_
    refine .seq ?_
    refine .region ?_
    refine .q (x := .d (cI v3kl1)) (q_move rfl) rfl ?_
    obtain ⟨y1, hy1, H⟩ := bind_some' H
    refine .g (x := .d (cS y1)) (g_call en_20 rfl rfl (c_f_billingref13_Name (hy1))) rfl ?_
    refine .q (x := .d (cS v0name)) (q_move rfl) rfl ?_
    refine .q (x := .d (cB (y1 == v0name))) (q_seql rfl rfl) rfl ?_
    refine .nil ?_
    refine .cond rfl (fun hc => ?_) (fun hc => ?_)
    · replace H := ifT hc H; clear hc
      refine .seq ?_
      refine .region ?_
      refine .q (x := .d (cI v3kl1)) (q_move rfl) rfl ?_
      refine .q (x := .d (cI v3kl1)) (q_assign rfl) rfl ?_
      refine .nil ?_
      refine .retN [.tmp 2] [.d (cI v3kl1)] Tryd.func22 Tryd.results22 ⟨rfl, trivial⟩ ?_
      cases H
      cases HK1
      exact ⟨_, .rfl' _, rfl⟩
    · replace H := ifF hc H; clear hc
      refine .skip ?_
      refine .inBlock ?_
      refine .region ?_
      refine .q (x := .d (cI v3kl1)) (q_move rfl) rfl ?_
      obtain ⟨hk1, H⟩ := ck_some H
      refine .q (x := .d (cI (v3kl1 + 1))) (q_addI rfl rfl hk1.1 hk1.2) rfl ?_
      refine .q (x := .d (cI (v3kl1 + 1))) (q_assign rfl) rfl ?_
      refine .nil ?_
      cases H
      exact .sub (.cons rfl (.rfl' _) (.cons rfl (.rfl' _) (.nil))) (ih1 (n1, (v3kl1 + 1)) HK1 hm1)
  · replace H := ifF hc H; clear hc
    refine .exit rfl ?_
    refine .seq ?_
    refine .region ?_
    refine .q (x := .d (cI 0)) (q_assign rfl) rfl ?_
    refine .nil ?_
    refine .retN [.tmp 2] [.d (cI 0)] Tryd.func22 Tryd.results22 ⟨rfl, trivial⟩ ?_
    cases H
    cases HK1
    exact ⟨_, .rfl' _, rfl⟩

set_option maxRecDepth 100000 in
set_option maxHeartbeats 1000000 in
theorem c_f_billinglaw13_ValidateNames {v0kind : Int} {v1name : List UInt8} {r : Bool} (H : f_billinglaw13_ValidateNames v0kind v1name = some r) : ACall Tryd.prog 5 [cI v0kind, cS v1name] (· = cB r) := by
  refine ACall.enter' Tryd.func5 rfl Tryd.ntmps5 rfl fun S hS => ?_
  unfold f_billinglaw13_ValidateNames at H
  change ARun _ _ _ _ _ _ [(0, .d (cI v0kind)), (1, .d (cS v1name))] _
  refine .seq ?_
  refine .region ?_
  refine .q (x := .d (cB false)) (q_assign rfl) rfl ?_
  refine .nil ?_
  refine .seq ?_
  refine .region ?_
  refine .q (x := .d (cI v0kind)) (q_move rfl) rfl ?_
  obtain ⟨y1, hy1, H⟩ := bind_some' H
  refine .g (x := .d (cS y1)) (g_call en_19 rfl rfl (c_f_validate_Name (hy1))) rfl ?_
  refine .q (x := .d (cS y1)) (q_assign rfl) rfl ?_
  refine .nil ?_
  refine .seq ?_
  refine .seq ?_
  refine .region ?_
  refine .q (x := .d (cS y1)) (q_move rfl) rfl ?_
  refine .q (x := .d (cI v0kind)) (q_move rfl) rfl ?_
  obtain ⟨y2, hy2, H⟩ := bind_some' H
  refine .g (x := .d (cS y2)) (g_call en_20 rfl rfl (c_f_billingref13_Name (hy2))) rfl ?_
  refine .q (x := .d (cB (y1 != y2))) (q_sneq rfl rfl) rfl ?_
  refine .q (x := .d (cB (y1 != y2))) (q_move rfl) rfl ?_
  refine .guardG (b := (!(y1 != y2))) (x := .d (cS v1name)) (env' := [(1, _)]) rfl rfl rfl ⟨.inl rfl, trivial⟩ rfl (fun hg => OpQ.g (q_move rfl)) ?_
  obtain ⟨y3, hy3, H⟩ := bind_some' H
  refine .guardG (b := (!(y1 != y2))) (x := .d (cI y3)) (env' := [(13, _)]) rfl rfl rfl ⟨.inr (.inl rfl), trivial⟩ rfl (fun hg => (g_call en_21 rfl rfl (c_f_validate_Kind (gcall_some hy3 hg)))) ?_
  refine .guardG (b := (!(y1 != y2))) (x := .d (cS v1name)) (env' := [(1, _)]) rfl rfl rfl ⟨.inl rfl, trivial⟩ rfl (fun hg => OpQ.g (q_move rfl)) ?_
  obtain ⟨y4, hy4, H⟩ := bind_some' H
  refine .guardG (b := (!(y1 != y2))) (x := .d (cI y4)) (env' := [(15, _)]) rfl rfl rfl ⟨.inr (.inl rfl), trivial⟩ rfl (fun hg => (g_call en_22 rfl rfl (c_f_billingref13_Kind (gcall_some hy4 hg)))) ?_
  refine .guardG (b := (!(y1 != y2))) (x := .d (cB (y3 != y4))) (env' := [(14, _), (16, _)]) rfl rfl rfl ⟨.inr (.inl rfl), ⟨.inr (.inl rfl), trivial⟩⟩ rfl (fun hg => OpQ.g (q_neq rfl rfl)) ?_
  refine .q (x := .d (cB ((y1 != y2) || (y3 != y4)))) (q_pickOrB rfl rfl rfl) rfl ?_
  refine .nil ?_
  refine .cond rfl (fun hc => ?_) (fun hc => ?_)
  · replace H := ifT hc H; clear hc
    refine .seq ?_
    refine .region ?_
    refine .q (x := .d (cB false)) (q_assign rfl) rfl ?_
    refine .nil ?_
    refine .retN [.tmp 4] [.d (cB false)] Tryd.func5 Tryd.results5 ⟨rfl, trivial⟩ ?_
    cases H
    exact ⟨_, .rfl' _, rfl⟩
  · replace H := ifF hc H; clear hc
    refine .skip ?_
    refine .seq ?_
    refine .region ?_
    refine .q (x := .d (cS y1)) (q_move rfl) rfl ?_
    refine .q (x := .d (cB (y1 == ([] : List UInt8)))) (q_seql rfl rfl) rfl ?_
    refine .q (x := .d (cB (y1 == ([] : List UInt8)))) (q_move rfl) rfl ?_
    refine .guardG (b := (!(y1 == ([] : List UInt8)))) (x := .d (cS y1)) (env' := [(5, _)]) rfl rfl rfl ⟨.inl rfl, trivial⟩ rfl (fun hg => OpQ.g (q_move rfl)) ?_
    obtain ⟨y5, hy5, H⟩ := bind_some' H
    refine .guardG (b := (!(y1 == ([] : List UInt8)))) (x := .d (cI y5)) (env' := [(22, _)]) rfl rfl rfl ⟨.inr (.inl rfl), trivial⟩ rfl (fun hg => (g_call en_21 rfl rfl (c_f_validate_Kind (gcall_some hy5 hg)))) ?_
    refine .guardG (b := (!(y1 == ([] : List UInt8)))) (x := .d (cI v0kind)) (env' := [(0, _)]) rfl rfl rfl ⟨.inl rfl, trivial⟩ rfl (fun hg => OpQ.g (q_move rfl)) ?_
    refine .guardG (b := (!(y1 == ([] : List UInt8)))) (x := .d (cB (y5 == v0kind))) (env' := [(23, _), (24, _)]) rfl rfl rfl ⟨.inr (.inl rfl), ⟨.inr (.inl rfl), trivial⟩⟩ rfl (fun hg => OpQ.g (q_eql rfl rfl)) ?_
    refine .q (x := .d (cB ((y1 == ([] : List UInt8)) || (y5 == v0kind)))) (q_pickOrB rfl rfl rfl) rfl ?_
    refine .q (x := .d (cB ((y1 == ([] : List UInt8)) || (y5 == v0kind)))) (q_move rfl) rfl ?_
    refine .guardG (b := ((y1 == ([] : List UInt8)) || (y5 == v0kind))) (x := .d (cS v1name)) (env' := [(1, _)]) rfl rfl rfl ⟨.inl rfl, trivial⟩ rfl (fun hg => OpQ.g (q_move rfl)) ?_
    obtain ⟨y6, hy6, H⟩ := bind_some' H
    refine .guardG (b := ((y1 == ([] : List UInt8)) || (y5 == v0kind))) (x := .d (cI y6)) (env' := [(28, _)]) rfl rfl rfl ⟨.inr (.inl rfl), trivial⟩ rfl (fun hg => (g_call en_21 rfl rfl (c_f_validate_Kind (gcall_some hy6 hg)))) ?_
    refine .guardG (b := ((y1 == ([] : List UInt8)) || (y5 == v0kind))) (x := .d (cB (y6 == 0))) (env' := [(29, _)]) rfl rfl rfl ⟨.inr (.inl rfl), trivial⟩ rfl (fun hg => OpQ.g (q_eql rfl rfl)) ?_
    refine .guardG (b := ((y1 == ([] : List UInt8)) || (y5 == v0kind))) (x := .d (cB (y6 == 0))) (env' := [(30, _)]) rfl rfl rfl ⟨.inr (.inl rfl), trivial⟩ rfl (fun hg => OpQ.g (q_move rfl)) ?_
    refine .guardG (b := (((y1 == ([] : List UInt8)) || (y5 == v0kind)) && (!(y6 == 0)))) (x := .d (cS v1name)) (env' := [(1, _)]) rfl rfl rfl ⟨.inl rfl, trivial⟩ rfl (fun hg => OpQ.g (q_move rfl)) ?_
    obtain ⟨y7, hy7, H⟩ := bind_some' H
    refine .guardG (b := (((y1 == ([] : List UInt8)) || (y5 == v0kind)) && (!(y6 == 0)))) (x := .d (cI y7)) (env' := [(32, _)]) rfl rfl rfl ⟨.inr (.inl rfl), trivial⟩ rfl (fun hg => (g_call en_21 rfl rfl (c_f_validate_Kind (gcall_some hy7 hg)))) ?_
    obtain ⟨y8, hy8, H⟩ := bind_some' H
    refine .guardG (b := (((y1 == ([] : List UInt8)) || (y5 == v0kind)) && (!(y6 == 0)))) (x := .d (cS y8)) (env' := [(33, _)]) rfl rfl rfl ⟨.inr (.inl rfl), trivial⟩ rfl (fun hg => (g_call en_19 rfl rfl (c_f_validate_Name (gcall_some hy8 hg)))) ?_
    refine .guardG (b := (((y1 == ([] : List UInt8)) || (y5 == v0kind)) && (!(y6 == 0)))) (x := .d (cS v1name)) (env' := [(1, _)]) rfl rfl rfl ⟨.inl rfl, trivial⟩ rfl (fun hg => OpQ.g (q_move rfl)) ?_
    refine .guardG (b := (((y1 == ([] : List UInt8)) || (y5 == v0kind)) && (!(y6 == 0)))) (x := .d (cB (y8 == v1name))) (env' := [(34, _), (35, _)]) rfl rfl rfl ⟨.inr (.inl rfl), ⟨.inr (.inl rfl), trivial⟩⟩ rfl (fun hg => OpQ.g (q_seql rfl rfl)) ?_
    refine .guardG (b := ((y1 == ([] : List UInt8)) || (y5 == v0kind))) (x := .d (cB ((y6 == 0) || (y8 == v1name)))) (env' := [(31, _), (36, _)]) rfl rfl rfl ⟨.inr (.inl rfl), ⟨.inr (.inr ⟨_, _, rfl, rfl⟩), trivial⟩⟩ rfl (fun hg => OpQ.g (q_pickOrB rfl rfl rfl)) ?_
    refine .q (x := .d (cB (((y1 == ([] : List UInt8)) || (y5 == v0kind)) && ((y6 == 0) || (y8 == v1name))))) (q_pickAndB rfl rfl rfl) rfl ?_
    refine .q (x := .d (cB (((y1 == ([] : List UInt8)) || (y5 == v0kind)) && ((y6 == 0) || (y8 == v1name))))) (q_move rfl) rfl ?_
    obtain ⟨y9, hy9, H⟩ := bind_some' H
    refine .guardG (b := (((y1 == ([] : List UInt8)) || (y5 == v0kind)) && ((y6 == 0) || (y8 == v1name)))) (x := .d (cB y9)) (env' := []) rfl rfl rfl trivial rfl (fun hg => (g_call en_9 rfl rfl (c_f_billinglaw13_awake (gcall_some hy9 hg)))) ?_
    refine .q (x := .d (cB ((((y1 == ([] : List UInt8)) || (y5 == v0kind)) && ((y6 == 0) || (y8 == v1name))) && y9))) (q_pickAndB rfl rfl rfl) rfl ?_
    refine .q (x := .d (cB ((((y1 == ([] : List UInt8)) || (y5 == v0kind)) && ((y6 == 0) || (y8 == v1name))) && y9))) (q_assign rfl) rfl ?_
    refine .nil ?_
    refine .retN [.tmp 4] [.d (cB ((((y1 == ([] : List UInt8)) || (y5 == v0kind)) && ((y6 == 0) || (y8 == v1name))) && y9))] Tryd.func5 Tryd.results5 ⟨rfl, trivial⟩ ?_
    cases H
    exact ⟨_, .rfl' _, rfl⟩

set_option maxRecDepth 100000 in
set_option maxHeartbeats 1000000 in
theorem c_f_billinglaw13_ValidatePlaces {v0 : List Record} {v1 : Window} {r : Bool} (H : f_billinglaw13_ValidatePlaces v0 v1 = some r) : ACall Tryd.prog 6 [slOf 12 Record.row v0, .agg (Window.row v1)] (· = cB r) := by
  obtain ⟨i23, hi23, hz23, hs23, hb23⟩ := in_23
  obtain ⟨i44, hi44, hz44, hs44, hb44⟩ := in_44
  refine ACall.enter' Tryd.func6 rfl Tryd.ntmps6 rfl fun S hS => ?_
  unfold f_billinglaw13_ValidatePlaces at H
  change ARun _ _ _ _ _ _ [(0, .d (slOf 12 Record.row v0)), (1, .d (.agg (Window.row v1)))] _
  refine .seq ?_
  refine .region ?_
  refine .v (x := .ref 0 0) (v_box rfl rfl) rfl ?_
  refine .withSt (st' := ⟨[.row 25 [.d (cI v1.earliest), .d (cI v1.latest)]], []⟩) rfl ?_
  refine .q (x := .d (cB false)) (q_assign rfl) rfl ?_
  refine .nil ?_
  refine .seq ?_
  refine .seq ?_
  refine .region ?_
  refine .q (x := .d (slOf 12 Record.row v0)) (q_move rfl) rfl ?_
  obtain ⟨y1, hy1, H⟩ := bind_some' H
  refine .g (x := .d (cB y1)) (g_call en_14 rfl rfl (c_f_billinglaw13_few (hy1))) rfl ?_
  refine .q (x := .d (cB (!y1))) (q_not rfl) rfl ?_
  refine .nil ?_
  refine .cond rfl (fun hc => ?_) (fun hc => ?_)
  · replace H := ifT hc H; clear hc
    refine .seq ?_
    refine .region ?_
    obtain ⟨y2, hy2, H⟩ := bind_some' H
    refine .g (x := .d (cB y2)) (g_call en_9 rfl rfl (c_f_billinglaw13_awake (hy2))) rfl ?_
    refine .q (x := .d (cB y2)) (q_assign rfl) rfl ?_
    refine .nil ?_
    refine .retN [.tmp 4] [.d (cB y2)] Tryd.func6 Tryd.results6 ⟨rfl, trivial⟩ ?_
    cases H
    exact ⟨_, .rfl' _, rfl⟩
  · replace H := ifF hc H; clear hc
    refine .skip ?_
    refine .seq ?_
    refine .region ?_
    refine .q (x := .d (slOf 12 Record.row v0)) (q_move rfl) rfl ?_
    refine .q (x := .d (.agg (Window.row v1))) (q_loadOA one_25 sz_25 rfl rfl (Nat.le_of_ble_eq_true rfl) rfl) rfl ?_
    obtain ⟨y3, hy3, H⟩ := bind_some' H
    refine .g (x := .d (.tup [slOf 12 Record.row y3.1, slOf 4 Reject.row y3.2])) (g_call en_15 rfl rfl (c_f_validate_All (hy3))) rfl ?_
    refine .q (x := .d (.tup [slOf 12 Record.row y3.1, slOf 4 Reject.row y3.2])) (q_move rfl) rfl ?_
    refine .q (x := .d (slOf 12 Record.row y3.1)) (q_extract rfl rfl) rfl ?_
    refine .q (x := .d (slOf 4 Reject.row y3.2)) (q_extract rfl rfl) rfl ?_
    refine .q (x := .d (slOf 12 Record.row y3.1)) (q_assign rfl) rfl ?_
    refine .q (x := .d (slOf 4 Reject.row y3.2)) (q_assign rfl) rfl ?_
    refine .nil ?_
    refine .seq ?_
    refine .region ?_
    refine .q (x := .d (slOf 12 Record.row y3.1)) (q_move rfl) rfl ?_
    refine .q (x := .d (.agg (Window.row v1))) (q_loadOA one_25 sz_25 rfl rfl (Nat.le_of_ble_eq_true rfl) rfl) rfl ?_
    obtain ⟨y4, hy4, H⟩ := bind_some' H
    refine .g (x := .d (.tup [slOf 12 Record.row y4.1, slOf 4 Reject.row y4.2])) (g_call en_15 rfl rfl (c_f_validate_All (hy4))) rfl ?_
    refine .q (x := .d (.tup [slOf 12 Record.row y4.1, slOf 4 Reject.row y4.2])) (q_move rfl) rfl ?_
    refine .q (x := .d (slOf 12 Record.row y4.1)) (q_extract rfl rfl) rfl ?_
    refine .q (x := .d (slOf 4 Reject.row y4.2)) (q_extract rfl rfl) rfl ?_
    refine .q (x := .d (slOf 12 Record.row y4.1)) (q_assign rfl) rfl ?_
    refine .q (x := .d (slOf 4 Reject.row y4.2)) (q_assign rfl) rfl ?_
    refine .nil ?_
    refine .seq ?_
    refine .seq ?_
    refine .region ?_
    refine .q (x := .d (slOf 12 Record.row y3.1)) (q_move rfl) rfl ?_
    refine .q (x := .d (cI (y3.1.length : Int))) (q_lenL (l := y3.1) (row := Record.row) Tryd.underlying32 rfl rfl) rfl ?_
    refine .q (x := .d (slOf 4 Reject.row y3.2)) (q_move rfl) rfl ?_
    refine .q (x := .d (cI (y3.2.length : Int))) (q_lenL (l := y3.2) (row := Reject.row) Tryd.underlying34 rfl rfl) rfl ?_
    obtain ⟨hk1, H⟩ := ck_some H
    refine .q (x := .d (cI ((y3.1.length : Int) + (y3.2.length : Int)))) (q_addI rfl rfl hk1.1 hk1.2) rfl ?_
    refine .q (x := .d (slOf 12 Record.row v0)) (q_move rfl) rfl ?_
    refine .q (x := .d (cI (v0.length : Int))) (q_lenL (l := v0) (row := Record.row) Tryd.underlying32 rfl rfl) rfl ?_
    refine .q (x := .d (cB (((y3.1.length : Int) + (y3.2.length : Int)) != (v0.length : Int)))) (q_neq rfl rfl) rfl ?_
    refine .q (x := .d (cB (((y3.1.length : Int) + (y3.2.length : Int)) != (v0.length : Int)))) (q_move rfl) rfl ?_
    refine .guardG (b := (!(((y3.1.length : Int) + (y3.2.length : Int)) != (v0.length : Int)))) (x := .d (slOf 4 Reject.row y4.2)) (env' := [(8, _)]) rfl rfl rfl ⟨.inl rfl, trivial⟩ rfl (fun hg => OpQ.g (q_move rfl)) ?_
    refine .guardG (b := (!(((y3.1.length : Int) + (y3.2.length : Int)) != (v0.length : Int)))) (x := .d (cI (y4.2.length : Int))) (env' := [(37, _)]) rfl rfl rfl ⟨.inr (.inl rfl), trivial⟩ rfl (fun hg => OpQ.g (q_lenL (l := y4.2) (row := Reject.row) Tryd.underlying34 rfl rfl)) ?_
    refine .guardG (b := (!(((y3.1.length : Int) + (y3.2.length : Int)) != (v0.length : Int)))) (x := .d (cB ((y4.2.length : Int) != 0))) (env' := [(38, _)]) rfl rfl rfl ⟨.inr (.inl rfl), trivial⟩ rfl (fun hg => OpQ.g (q_neq rfl rfl)) ?_
    refine .q (x := .d (cB ((((y3.1.length : Int) + (y3.2.length : Int)) != (v0.length : Int)) || ((y4.2.length : Int) != 0)))) (q_pickOrB rfl rfl rfl) rfl ?_
    refine .q (x := .d (cB ((((y3.1.length : Int) + (y3.2.length : Int)) != (v0.length : Int)) || ((y4.2.length : Int) != 0)))) (q_move rfl) rfl ?_
    refine .guardG (b := (!((((y3.1.length : Int) + (y3.2.length : Int)) != (v0.length : Int)) || ((y4.2.length : Int) != 0)))) (x := .d (slOf 12 Record.row y3.1)) (env' := [(5, _)]) rfl rfl rfl ⟨.inl rfl, trivial⟩ rfl (fun hg => OpQ.g (q_move rfl)) ?_
    refine .guardG (b := (!((((y3.1.length : Int) + (y3.2.length : Int)) != (v0.length : Int)) || ((y4.2.length : Int) != 0)))) (x := .d (slOf 12 Record.row y4.1)) (env' := [(7, _)]) rfl rfl rfl ⟨.inl rfl, trivial⟩ rfl (fun hg => OpQ.g (q_move rfl)) ?_
    obtain ⟨y5, hy5, H⟩ := bind_some' H
    refine .guardG (b := (!((((y3.1.length : Int) + (y3.2.length : Int)) != (v0.length : Int)) || ((y4.2.length : Int) != 0)))) (x := .d (cB y5)) (env' := [(42, _), (43, _)]) rfl rfl rfl ⟨.inr (.inl rfl), ⟨.inr (.inl rfl), trivial⟩⟩ rfl (fun hg => (g_call en_17 rfl rfl (c_f_billingref13_Same (gcall_some hy5 hg)))) ?_
    refine .guardG (b := (!((((y3.1.length : Int) + (y3.2.length : Int)) != (v0.length : Int)) || ((y4.2.length : Int) != 0)))) (x := .d (cB (!y5))) (env' := [(44, _)]) rfl rfl rfl ⟨.inr (.inl rfl), trivial⟩ rfl (fun hg => OpQ.g (q_not rfl)) ?_
    refine .q (x := .d (cB (((((y3.1.length : Int) + (y3.2.length : Int)) != (v0.length : Int)) || ((y4.2.length : Int) != 0)) || (!y5)))) (q_pickOrB rfl rfl rfl) rfl ?_
    refine .nil ?_
    refine .cond rfl (fun hc => ?_) (fun hc => ?_)
    · replace H := ifT hc H; clear hc
      refine .seq ?_
      refine .region ?_
      refine .q (x := .d (cB false)) (q_assign rfl) rfl ?_
      refine .nil ?_
      refine .retN [.tmp 4] [.d (cB false)] Tryd.func6 Tryd.results6 ⟨rfl, trivial⟩ ?_
      cases H
      exact ⟨_, .rfl' _, rfl⟩
    · replace H := ifF hc H; clear hc
      refine .skip ?_
      refine .seq ?_
      refine .region ?_
      refine .q (x := .d (cI 0)) (q_assign rfl) rfl ?_
      refine .nil ?_
      refine .seq ?_
      refine .seq ?_
      refine .region ?_
      refine .q (x := .d (cI 0)) (q_assign rfl) rfl ?_
      refine .nil ?_
      refine .blockJoin2 (ι := Int) (fun s => [(6, .d (slOf 4 Reject.row y3.2)), (9, .d (cI s))]) (fun s => ⟨[.row 25 [.d (cI v1.earliest), .d (cI v1.latest)]], []⟩) (fun s => f_billinglaw13_ValidatePlaces_j1 y3 s = some r) ?_ ?_
      · rintro v9j1 H
        replace H : f_billinglaw13_ValidatePlaces_j1 y3 v9j1 = some r := H
        unfold f_billinglaw13_ValidatePlaces_j1 at H
        change ARun _ _ _ _ _ _ [(6, .d (slOf 4 Reject.row y3.2)), (9, .d (cI v9j1))] ⟨[.row 25 [.d (cI v1.earliest), .d (cI v1.latest)]], []⟩
        refine .seq ?_
        refine .region ?_
        refine .q (x := .d (cI v9j1)) (q_move rfl) rfl ?_
        refine .q (x := .d (slOf 4 Reject.row y3.2)) (q_move rfl) rfl ?_
        refine .q (x := .d (cI (y3.2.length : Int))) (q_lenL (l := y3.2) (row := Reject.row) Tryd.underlying34 rfl rfl) rfl ?_
        refine .q (x := .d (cB (v9j1 == (y3.2.length : Int)))) (q_eql rfl rfl) rfl ?_
        refine .q (x := .d (cB (v9j1 == (y3.2.length : Int)))) (q_move rfl) rfl ?_
        obtain ⟨y6, hy6, H⟩ := bind_some' H
        refine .guardG (b := (v9j1 == (y3.2.length : Int))) (x := .d (cB y6)) (env' := []) rfl rfl rfl trivial rfl (fun hg => (g_call en_9 rfl rfl (c_f_billinglaw13_awake (gcall_some hy6 hg)))) ?_
        refine .q (x := .d (cB ((v9j1 == (y3.2.length : Int)) && y6))) (q_pickAndB rfl rfl rfl) rfl ?_
        refine .q (x := .d (cB ((v9j1 == (y3.2.length : Int)) && y6))) (q_assign rfl) rfl ?_
        refine .nil ?_
        refine .retN [.tmp 4] [.d (cB ((v9j1 == (y3.2.length : Int)) && y6))] Tryd.func6 Tryd.results6 ⟨rfl, trivial⟩ ?_
        cases H
        exact ⟨_, .rfl' _, rfl⟩
      · intro hj1 hj1x
        obtain ⟨n1, H⟩ := loop_some H
        refine .loop (ι := Nat × (Int × Int)) (fun p => [(0, .d (slOf 12 Record.row v0)), (3, .ref 0 0), (6, .d (slOf 4 Reject.row y3.2)), (9, .d (cI p.2.1)), (10, .d (cI p.2.2))]) (fun p => ⟨[.row 25 [.d (cI v1.earliest), .d (cI v1.latest)]], []⟩) (fun p => iter (fun s => f_billinglaw13_ValidatePlaces_l1 v0 v1 y3 s.1 s.2) p.1 p.2 = some r) (·.1) (n1, (0, 0)) H (.cons rfl (.rfl' _) (.cons rfl (.rfl' _) (.cons rfl (.rfl' _) (.cons rfl (.rfl' _) (.cons rfl (.rfl' _) (.nil)))))) rfl ?_
        rintro ⟨m1, v9l1, v10l1⟩ HI ih1
        obtain ⟨n1, q1, hm1, H, HK1⟩ := iter_succ HI
        clear HI
        replace H : f_billinglaw13_ValidatePlaces_l1 v0 v1 y3 v9l1 v10l1 = some q1 := H
        unfold f_billinglaw13_ValidatePlaces_l1 at H
        change ARun _ _ _ _ _ _ [(0, .d (slOf 12 Record.row v0)), (3, .ref 0 0), (6, .d (slOf 4 Reject.row y3.2)), (9, .d (cI v9l1)), (10, .d (cI v10l1))] ⟨[.row 25 [.d (cI v1.earliest), .d (cI v1.latest)]], []⟩
        refine .seq ?_
        refine .seq ?_
        refine .region ?_
        refine .q (x := .d (cI v10l1)) (q_move rfl) rfl ?_
        refine .q (x := .d (slOf 12 Record.row v0)) (q_move rfl) rfl ?_
        refine .q (x := .d (cI (v0.length : Int))) (q_lenL (l := v0) (row := Record.row) Tryd.underlying32 rfl rfl) rfl ?_
        refine .q (x := .d (cB (decide (v10l1 < (v0.length : Int))))) (q_lss rfl rfl) rfl ?_
        refine .nil ?_
        refine .cond rfl (fun hc => ?_) (fun hc => ?_)
        · replace H := ifT hc H; clear hc
          refine .skip ?_
          refine .seq ?_
          refine .block ?_
          refine .seq ?_
          refine .region ?_
          refine .q (x := .d (slOf 12 Record.row v0)) (q_move rfl) rfl ?_
          refine .q (x := .d (cI v10l1)) (q_move rfl) rfl ?_
          obtain ⟨hk2, H⟩ := ck_some H
          refine .q (x := .d (.ro (Record.row (nth v0 (Int.toNat (v10l1)))))) (q_idxL (row := Record.row) (l := v0) (i := v10l1) Tryd.underlying32 hi23 hs23 rfl rfl rfl hk2) rfl ?_
          refine .q (x := .d (.agg (Record.row (nth v0 (Int.toNat (v10l1)))))) (q_loadAll one_23 sz_23 rfl rfl) rfl ?_
          obtain ⟨y7, hy7, H⟩ := bind_some' H
          refine .g (x := .d (cI y7)) (g_call en_10 rfl rfl (c_f_validate_Check (hy7))) rfl ?_
          refine .q (x := .d (cI y7)) (q_assign rfl) rfl ?_
          refine .nil ?_
          refine .seqJoin (ι := Int) (fun s => [(0, .d (slOf 12 Record.row v0)), (3, .ref 0 0), (6, .d (slOf 4 Reject.row y3.2)), (9, .d (cI v9l1)), (10, .d (cI v10l1)), (11, .d (cI s))]) (fun s => ⟨[.row 25 [.d (cI v1.earliest), .d (cI v1.latest)]], []⟩) (fun s => f_billinglaw13_ValidatePlaces_j2 v0 y3 v9l1 v10l1 s = some q1) ?_ ?_
          · rintro v11j2 H
            replace H : f_billinglaw13_ValidatePlaces_j2 v0 y3 v9l1 v10l1 v11j2 = some q1 := H
            unfold f_billinglaw13_ValidatePlaces_j2 at H
            change ARun _ _ _ _ _ _ [(0, .d (slOf 12 Record.row v0)), (3, .ref 0 0), (6, .d (slOf 4 Reject.row y3.2)), (9, .d (cI v9l1)), (10, .d (cI v10l1)), (11, .d (cI v11j2))] ⟨[.row 25 [.d (cI v1.earliest), .d (cI v1.latest)]], []⟩
            refine .seq ?_
            refine .seq ?_
            refine .region ?_
            refine .q (x := .d (cI v11j2)) (q_move rfl) rfl ?_
            refine .q (x := .d (cB (v11j2 == 0))) (q_eql rfl rfl) rfl ?_
            refine .nil ?_
            refine .cond rfl (fun hc => ?_) (fun hc => ?_)
            · replace H := ifT hc H; clear hc
              refine .exit rfl ?_
              refine .region ?_
              refine .q (x := .d (cI v10l1)) (q_move rfl) rfl ?_
              obtain ⟨hk3, H⟩ := ck_some H
              refine .q (x := .d (cI (v10l1 + 1))) (q_addI rfl rfl hk3.1 hk3.2) rfl ?_
              refine .q (x := .d (cI (v10l1 + 1))) (q_assign rfl) rfl ?_
              refine .nil ?_
              cases H
              exact .sub (.cons rfl (.rfl' _) (.cons rfl (.rfl' _) (.cons rfl (.rfl' _) (.cons rfl (.rfl' _) (.cons rfl (.rfl' _) (.nil)))))) (ih1 (n1, (v9l1, v10l1 + 1)) HK1 hm1)
            · replace H := ifF hc H; clear hc
              refine .skip ?_
              refine .seq ?_
              refine .seq ?_
              refine .drawn 23 hMix (by kernel_rfl) ?_
              show DOps _ _ _ _ _ _ _ (_ :: _) _ _ _
              refine .q (x := .d (cI v9l1)) (q_move rfl) rfl ?_
              refine .q (x := .d (slOf 4 Reject.row y3.2)) (q_move rfl) rfl ?_
              refine .q (x := .d (cI (y3.2.length : Int))) (q_lenL (l := y3.2) (row := Reject.row) Tryd.underlying34 rfl rfl) rfl ?_
              refine .q (x := .d (cB (decide (v9l1 ≥ (y3.2.length : Int))))) (q_geq rfl rfl) rfl ?_
              refine .q (x := .d (cB (decide (v9l1 ≥ (y3.2.length : Int))))) (q_move rfl) rfl ?_
              refine .guardG (b := (!(decide (v9l1 ≥ (y3.2.length : Int))))) (x := .d (slOf 4 Reject.row y3.2)) (env' := [(6, _)]) rfl rfl rfl ⟨.inl rfl, trivial⟩ rfl (fun hg => OpQ.g (q_move rfl)) ?_
              refine .guardG (b := (!(decide (v9l1 ≥ (y3.2.length : Int))))) (x := .d (cI v9l1)) (env' := [(9, _)]) rfl rfl rfl ⟨.inl rfl, trivial⟩ rfl (fun hg => OpQ.g (q_move rfl)) ?_
              obtain ⟨hk4, H⟩ := ck_some H
              refine .guardG (b := (!(decide (v9l1 ≥ (y3.2.length : Int))))) (x := .d (.ro (Reject.row (nth y3.2 (Int.toNat (v9l1)))))) (env' := [(73, _), (74, _)]) rfl rfl rfl ⟨.inr (.inl rfl), ⟨.inr (.inl rfl), trivial⟩⟩ rfl (fun hg => OpQ.g (q_idxL (row := Reject.row) (l := y3.2) (i := v9l1) Tryd.underlying34 hi44 hs44 rfl rfl rfl (hk4 hg))) ?_
              refine .guardG (b := (!(decide (v9l1 ≥ (y3.2.length : Int))))) (x := .d (.agg (Reject.row (nth y3.2 (Int.toNat (v9l1)))))) (env' := [(75, _)]) rfl rfl rfl ⟨.inr (.inl rfl), trivial⟩ rfl (fun hg => OpQ.g (q_loadAll one_44 sz_44 rfl rfl)) ?_
              refine .guardG (b := (!(decide (v9l1 ≥ (y3.2.length : Int))))) (x := .d (slOf 12 Record.row v0)) (env' := [(0, _)]) rfl rfl rfl ⟨.inl rfl, trivial⟩ rfl (fun hg => OpQ.g (q_move rfl)) ?_
              refine .guardG (b := (!(decide (v9l1 ≥ (y3.2.length : Int))))) (x := .d (cI v10l1)) (env' := [(10, _)]) rfl rfl rfl ⟨.inl rfl, trivial⟩ rfl (fun hg => OpQ.g (q_move rfl)) ?_
              obtain ⟨hk5, H⟩ := ck_some H
              refine .guardG (b := (!(decide (v9l1 ≥ (y3.2.length : Int))))) (x := .d (.ro (Record.row (nth v0 (Int.toNat (v10l1)))))) (env' := [(77, _), (78, _)]) rfl rfl rfl ⟨.inr (.inl rfl), ⟨.inr (.inl rfl), trivial⟩⟩ rfl (fun hg => OpQ.g (q_idxL (row := Record.row) (l := v0) (i := v10l1) Tryd.underlying32 hi23 hs23 rfl rfl rfl (hk5 hg))) ?_
              refine .guardG (b := (!(decide (v9l1 ≥ (y3.2.length : Int))))) (x := .d (.ro (Record.row (nth v0 (Int.toNat (v10l1)))))) (env' := [(79, _)]) rfl rfl rfl ⟨.inr (.inl rfl), trivial⟩ rfl (fun hg => OpQ.g (q_fieldRo fo_23_0 rfl)) ?_
              refine .guardG (b := (!(decide (v9l1 ≥ (y3.2.length : Int))))) (x := .d (cI ((nth v0 (Int.toNat (v10l1))).source))) (env' := [(80, _)]) rfl rfl rfl ⟨.inr (.inl rfl), trivial⟩ rfl (fun hg => OpQ.g (q_load one_3 rfl)) ?_
              refine .guardG (b := (!(decide (v9l1 ≥ (y3.2.length : Int))))) (x := .d (slOf 12 Record.row v0)) (env' := [(0, _)]) rfl rfl rfl ⟨.inl rfl, trivial⟩ rfl (fun hg => OpQ.g (q_move rfl)) ?_
              refine .guardG (b := (!(decide (v9l1 ≥ (y3.2.length : Int))))) (x := .d (cI v10l1)) (env' := [(10, _)]) rfl rfl rfl ⟨.inl rfl, trivial⟩ rfl (fun hg => OpQ.g (q_move rfl)) ?_
              obtain ⟨hk6, H⟩ := ck_some H
              refine .guardG (b := (!(decide (v9l1 ≥ (y3.2.length : Int))))) (x := .d (.ro (Record.row (nth v0 (Int.toNat (v10l1)))))) (env' := [(82, _), (83, _)]) rfl rfl rfl ⟨.inr (.inl rfl), ⟨.inr (.inl rfl), trivial⟩⟩ rfl (fun hg => OpQ.g (q_idxL (row := Record.row) (l := v0) (i := v10l1) Tryd.underlying32 hi23 hs23 rfl rfl rfl (hk6 hg))) ?_
              refine .guardG (b := (!(decide (v9l1 ≥ (y3.2.length : Int))))) (x := .d (.ro ((Record.row (nth v0 (Int.toNat (v10l1)))).drop 1))) (env' := [(84, _)]) rfl rfl rfl ⟨.inr (.inl rfl), trivial⟩ rfl (fun hg => OpQ.g (q_fieldRo fo_23_1 rfl)) ?_
              refine .guardG (b := (!(decide (v9l1 ≥ (y3.2.length : Int))))) (x := .d (cI ((nth v0 (Int.toNat (v10l1))).serial))) (env' := [(85, _)]) rfl rfl rfl ⟨.inr (.inl rfl), trivial⟩ rfl (fun hg => OpQ.g (q_load one_3 rfl)) ?_
              refine .guardG (b := (!(decide (v9l1 ≥ (y3.2.length : Int))))) (x := .d (cI v10l1)) (env' := [(10, _)]) rfl rfl rfl ⟨.inl rfl, trivial⟩ rfl (fun hg => OpQ.g (q_move rfl)) ?_
              refine .guardG (b := (!(decide (v9l1 ≥ (y3.2.length : Int))))) (x := .d (cI v11j2)) (env' := [(11, _)]) rfl rfl rfl ⟨.inl rfl, trivial⟩ rfl (fun hg => OpQ.g (q_move rfl)) ?_
              refine .guardG (b := (!(decide (v9l1 ≥ (y3.2.length : Int))))) (x := .d (.agg (Reject.row (⟨(nth v0 (Int.toNat (v10l1))).source, (nth v0 (Int.toNat (v10l1))).serial, v10l1, v11j2⟩ : Reject)))) (env' := [(81, _), (86, _), (87, _), (88, _)]) rfl rfl rfl ⟨.inr (.inl rfl), ⟨.inr (.inl rfl), ⟨.inr (.inl rfl), ⟨.inr (.inl rfl), trivial⟩⟩⟩⟩ rfl (fun hg => OpQ.g (q_buildP pl_44 hi44 hz44 rfl rfl)) ?_
              refine .guardG (b := (!(decide (v9l1 ≥ (y3.2.length : Int))))) (x := .d (cB (!(eqVs (Reject.vals (nth y3.2 (Int.toNat (v9l1)))) (Reject.vals (⟨(nth v0 (Int.toNat (v10l1))).source, (nth v0 (Int.toNat (v10l1))).serial, v10l1, v11j2⟩ : Reject)))))) (env' := [(76, _), (89, _)]) rfl rfl rfl ⟨.inr (.inl rfl), ⟨.inr (.inl rfl), trivial⟩⟩ rfl (fun hg => OpQ.g (q_stneq fk_44 rfl rfl (xs := Reject.vals (nth y3.2 (Int.toNat (v9l1)))) (ys := Reject.vals (⟨(nth v0 (Int.toNat (v10l1))).source, (nth v0 (Int.toNat (v10l1))).serial, v10l1, v11j2⟩ : Reject)) rfl rfl rfl rfl)) ?_
              refine .nil ?_
              show AOps _ _ _ _ _ _ (_ :: _) _ _ _
              refine .q (x := .d (cB ((decide (v9l1 ≥ (y3.2.length : Int))) || (!(eqVs (Reject.vals (nth y3.2 (Int.toNat (v9l1)))) (Reject.vals (⟨(nth v0 (Int.toNat (v10l1))).source, (nth v0 (Int.toNat (v10l1))).serial, v10l1, v11j2⟩ : Reject))))))) (q_pickOrB rfl rfl rfl) rfl ?_
              refine .nil ?_
              refine .cond rfl (fun hc => ?_) (fun hc => ?_)
              · replace H := ifT hc H; clear hc
                refine .seq ?_
                refine .region ?_
                refine .q (x := .d (cB false)) (q_assign rfl) rfl ?_
                refine .nil ?_
                refine .retN [.tmp 4] [.d (cB false)] Tryd.func6 Tryd.results6 ⟨rfl, trivial⟩ ?_
                cases H
                cases HK1
                exact ⟨_, .rfl' _, rfl⟩
              · replace H := ifF hc H; clear hc
                refine .skip ?_
                refine .region ?_
                refine .q (x := .d (cI v9l1)) (q_move rfl) rfl ?_
                obtain ⟨hk7, H⟩ := ck_some H
                refine .q (x := .d (cI (v9l1 + 1))) (q_addI rfl rfl hk7.1 hk7.2) rfl ?_
                refine .q (x := .d (cI (v9l1 + 1))) (q_assign rfl) rfl ?_
                refine .nil ?_
                refine .inBlock ?_
                refine .region ?_
                refine .q (x := .d (cI v10l1)) (q_move rfl) rfl ?_
                obtain ⟨hk8, H⟩ := ck_some H
                refine .q (x := .d (cI (v10l1 + 1))) (q_addI rfl rfl hk8.1 hk8.2) rfl ?_
                refine .q (x := .d (cI (v10l1 + 1))) (q_assign rfl) rfl ?_
                refine .nil ?_
                cases H
                exact .sub (.cons rfl (.rfl' _) (.cons rfl (.rfl' _) (.cons rfl (.rfl' _) (.cons rfl (.rfl' _) (.cons rfl (.rfl' _) (.nil)))))) (ih1 (n1, (v9l1 + 1, v10l1 + 1)) HK1 hm1)
          · intro hj2
            refine .seq ?_
            refine .region ?_
            refine .q (x := .d (cI y7)) (q_move rfl) rfl ?_
            refine .q (x := .d (cB (y7 == 0))) (q_eql rfl rfl) rfl ?_
            refine .nil ?_
            refine .cond rfl (fun hc => ?_) (fun hc => ?_)
            · replace H := ifT hc H; clear hc
              refine .drawn 7 hMix (by kernel_rfl) ?_
              show DOps _ _ _ _ _ _ _ (_ :: _) _ _ _
              refine .q (x := .d (slOf 12 Record.row v0)) (q_move rfl) rfl ?_
              refine .q (x := .d (cI v10l1)) (q_move rfl) rfl ?_
              obtain ⟨hk9, H⟩ := ck_some H
              refine .q (x := .d (.ro (Record.row (nth v0 (Int.toNat (v10l1)))))) (q_idxL (row := Record.row) (l := v0) (i := v10l1) Tryd.underlying32 hi23 hs23 rfl rfl rfl hk9) rfl ?_
              refine .q (x := .d (.agg (Record.row (nth v0 (Int.toNat (v10l1)))))) (q_loadAll one_23 sz_23 rfl rfl) rfl ?_
              refine .q (x := .d (.agg (Window.row v1))) (q_loadOA one_25 sz_25 rfl rfl (Nat.le_of_ble_eq_true rfl) rfl) rfl ?_
              obtain ⟨y8, hy8, H⟩ := bind_some' H
              refine .g (x := .d (cI y8)) (g_call en_12 rfl rfl (c_f_validate_Window (hy8))) rfl ?_
              refine .q (x := .d (cI y8)) (q_assign rfl) rfl ?_
              refine .nil ?_
              show AOps _ _ _ _ _ _ [] _ _ _
              refine .nil ?_
              exact .sub (.cons rfl (.rfl' _) (.cons rfl (.rfl' _) (.cons rfl (.rfl' _) (.cons rfl (.rfl' _) (.cons rfl (.rfl' _) (.cons rfl (.rfl' _) (.nil))))))) (hj2 y8 H)
            · replace H := ifF hc H; clear hc
              refine .skip ?_
              exact .sub (.cons rfl (.rfl' _) (.cons rfl (.rfl' _) (.cons rfl (.rfl' _) (.cons rfl (.rfl' _) (.cons rfl (.rfl' _) (.cons rfl (.rfl' _) (.nil))))))) (hj2 y7 H)
        · replace H := ifF hc H; clear hc
          refine .exit rfl ?_
          obtain ⟨q0, H9, hq0⟩ := map_some' H; clear H; cases hq0
          cases HK1
          have H := H9
          exact .sub (.cons rfl (.rfl' _) (.cons rfl (.rfl' _) (.nil))) (hj1x v9l1 H)

set_option maxRecDepth 100000 in
set_option maxHeartbeats 1000000 in
theorem c_f_billinglaw13_ValidateFewer {v0r : Record} {v1units : Int} {v2serial : Int} {r : Bool} (H : f_billinglaw13_ValidateFewer v0r v1units v2serial = some r) : ACall Tryd.prog 7 [.agg (Record.row v0r), cI v1units, cI v2serial] (· = cB r) := by
  refine ACall.enter' Tryd.func7 rfl Tryd.ntmps7 rfl fun S hS => ?_
  unfold f_billinglaw13_ValidateFewer at H
  change ARun _ _ _ _ _ _ [(0, .d (.agg (Record.row v0r))), (1, .d (cI v1units)), (2, .d (cI v2serial))] _
  refine .seq ?_
  refine .region ?_
  refine .v (x := .ref 0 0) (v_box rfl rfl) rfl ?_
  refine .withSt (st' := ⟨[.row 23 [.d (cI v0r.source), .d (cI v0r.serial), .d (cI v0r.kind), .d (cS v0r.a), .d (cS v0r.b), .d (cI v0r.start), .d (cI v0r.units), .d (cI v0r.call), .d (cI v0r.part), .d (cB v0r.last), .d (cI v0r.trunk), .d (cB v0r.inbound)]], []⟩) rfl ?_
  refine .q (x := .d (cB false)) (q_assign rfl) rfl ?_
  refine .nil ?_
  refine .seq ?_
  refine .seq ?_
  refine .region ?_
  refine .q (x := .d (.agg (Record.row v0r))) (q_loadOA one_23 sz_23 rfl rfl (Nat.le_of_ble_eq_true rfl) rfl) rfl ?_
  obtain ⟨y1, hy1, H⟩ := bind_some' H
  refine .g (x := .d (cB y1)) (g_call en_8 rfl rfl (c_f_billinglaw13_short (hy1))) rfl ?_
  refine .q (x := .d (cB (!y1))) (q_not rfl) rfl ?_
  refine .q (x := .d (cB (!y1))) (q_move rfl) rfl ?_
  refine .guardG (b := (!(!y1))) (x := .d (.agg (Record.row v0r))) (env' := [(3, _)]) rfl rfl rfl ⟨.inl rfl, trivial⟩ rfl (fun hg => OpQ.g (q_loadOA one_23 sz_23 rfl rfl (Nat.le_of_ble_eq_true rfl) rfl)) ?_
  obtain ⟨y2, hy2, H⟩ := bind_some' H
  refine .guardG (b := (!(!y1))) (x := .d (cI y2)) (env' := [(13, _)]) rfl rfl rfl ⟨.inr (.inl rfl), trivial⟩ rfl (fun hg => (g_call en_10 rfl rfl (c_f_validate_Check (gcall_some hy2 hg)))) ?_
  refine .guardG (b := (!(!y1))) (x := .d (cB (y2 != 0))) (env' := [(14, _)]) rfl rfl rfl ⟨.inr (.inl rfl), trivial⟩ rfl (fun hg => OpQ.g (q_neq rfl rfl)) ?_
  refine .q (x := .d (cB ((!y1) || (y2 != 0)))) (q_pickOrB rfl rfl rfl) rfl ?_
  refine .nil ?_
  refine .cond rfl (fun hc => ?_) (fun hc => ?_)
  · replace H := ifT hc H; clear hc
    refine .seq ?_
    refine .region ?_
    obtain ⟨y3, hy3, H⟩ := bind_some' H
    refine .g (x := .d (cB y3)) (g_call en_9 rfl rfl (c_f_billinglaw13_awake (hy3))) rfl ?_
    refine .q (x := .d (cB y3)) (q_assign rfl) rfl ?_
    refine .nil ?_
    refine .retN [.tmp 6] [.d (cB y3)] Tryd.func7 Tryd.results7 ⟨rfl, trivial⟩ ?_
    cases H
    exact ⟨_, .rfl' _, rfl⟩
  · replace H := ifF hc H; clear hc
    refine .skip ?_
    refine .seq ?_
    refine .copiesL 2 12 23 [18, 19] [7, 8] [(Record.row v0r), (Record.row v0r)] hMix (by kernel_rfl) rfl
      (fun k hk => match k, hk with | 0, _ => ⟨_, rfl, rfl, rfl, q_loadOA one_23 sz_23 rfl rfl (Nat.le_of_ble_eq_true rfl) rfl⟩ | 1, _ => ⟨_, rfl, rfl, rfl, q_loadOA one_23 sz_23 rfl rfl (Nat.le_of_ble_eq_true rfl) rfl⟩ | k + 2, hk => absurd hk (by omega))
      (fun k hk => match k, hk with | 0, _ => ⟨_, _, _, rfl⟩ | 1, _ => ⟨_, _, _, rfl⟩ | k + 2, hk => absurd hk (by omega))
      (fun k hk => match k, hk with | 0, _ => ⟨_, _, _, rfl, ⟨_, Array.mem_of_getElem? (i := 1) rfl, rfl, rfl⟩, ⟨_, Array.mem_of_getElem? (i := 0) rfl, rfl, rfl⟩⟩ | 1, _ => ⟨_, _, _, rfl, ⟨_, Array.mem_of_getElem? (i := 1) rfl, rfl, rfl⟩, ⟨_, Array.mem_of_getElem? (i := 0) rfl, rfl, rfl⟩⟩ | k + 2, hk => absurd hk (by omega))
      rfl rfl rfl zr_23 rfl sz_23 ?_
    refine .withSt (st' := ⟨[.row 23 [.d (cI v0r.source), .d (cI v0r.serial), .d (cI v0r.kind), .d (cS v0r.a), .d (cS v0r.b), .d (cI v0r.start), .d (cI v0r.units), .d (cI v0r.call), .d (cI v0r.part), .d (cB v0r.last), .d (cI v0r.trunk), .d (cB v0r.inbound)], .row 23 [.d (cI v0r.source), .d (cI v0r.serial), .d (cI v0r.kind), .d (cS v0r.a), .d (cS v0r.b), .d (cI v0r.start), .d (cI v0r.units), .d (cI v0r.call), .d (cI v0r.part), .d (cB v0r.last), .d (cI v0r.trunk), .d (cB v0r.inbound)], .row 23 [.d (cI v0r.source), .d (cI v0r.serial), .d (cI v0r.kind), .d (cS v0r.a), .d (cS v0r.b), .d (cI v0r.start), .d (cI v0r.units), .d (cI v0r.call), .d (cI v0r.part), .d (cB v0r.last), .d (cI v0r.trunk), .d (cB v0r.inbound)]], []⟩) rfl ?_
    refine .seq ?_
    refine .region ?_
    refine .q (x := .d (cI v1units)) (q_move rfl) rfl ?_
    refine .q (x := .ref 1 6) (q_fieldRef fo_23_6 rfl) rfl ?_
    refine .u (u_store rfl rfl rfl rfl (Nat.le_of_ble_eq_true rfl) sz_3) rfl ?_
    refine .withSt (st' := ⟨[.row 23 [.d (cI v0r.source), .d (cI v0r.serial), .d (cI v0r.kind), .d (cS v0r.a), .d (cS v0r.b), .d (cI v0r.start), .d (cI v0r.units), .d (cI v0r.call), .d (cI v0r.part), .d (cB v0r.last), .d (cI v0r.trunk), .d (cB v0r.inbound)], .row 23 [.d (cI v0r.source), .d (cI v0r.serial), .d (cI v0r.kind), .d (cS v0r.a), .d (cS v0r.b), .d (cI v0r.start), .d (cI v1units), .d (cI v0r.call), .d (cI v0r.part), .d (cB v0r.last), .d (cI v0r.trunk), .d (cB v0r.inbound)], .row 23 [.d (cI v0r.source), .d (cI v0r.serial), .d (cI v0r.kind), .d (cS v0r.a), .d (cS v0r.b), .d (cI v0r.start), .d (cI v0r.units), .d (cI v0r.call), .d (cI v0r.part), .d (cB v0r.last), .d (cI v0r.trunk), .d (cB v0r.inbound)]], []⟩) rfl ?_
    refine .nil ?_
    refine .seq ?_
    refine .region ?_
    refine .q (x := .d (cI v2serial)) (q_move rfl) rfl ?_
    refine .q (x := .ref 2 1) (q_fieldRef fo_23_1 rfl) rfl ?_
    refine .u (u_store rfl rfl rfl rfl (Nat.le_of_ble_eq_true rfl) sz_3) rfl ?_
    refine .withSt (st' := ⟨[.row 23 [.d (cI v0r.source), .d (cI v0r.serial), .d (cI v0r.kind), .d (cS v0r.a), .d (cS v0r.b), .d (cI v0r.start), .d (cI v0r.units), .d (cI v0r.call), .d (cI v0r.part), .d (cB v0r.last), .d (cI v0r.trunk), .d (cB v0r.inbound)], .row 23 [.d (cI v0r.source), .d (cI v0r.serial), .d (cI v0r.kind), .d (cS v0r.a), .d (cS v0r.b), .d (cI v0r.start), .d (cI v1units), .d (cI v0r.call), .d (cI v0r.part), .d (cB v0r.last), .d (cI v0r.trunk), .d (cB v0r.inbound)], .row 23 [.d (cI v0r.source), .d (cI v2serial), .d (cI v0r.kind), .d (cS v0r.a), .d (cS v0r.b), .d (cI v0r.start), .d (cI v0r.units), .d (cI v0r.call), .d (cI v0r.part), .d (cB v0r.last), .d (cI v0r.trunk), .d (cB v0r.inbound)]], []⟩) rfl ?_
    refine .nil ?_
    refine .seq ?_
    refine .seq ?_
    refine .region ?_
    refine .q (x := .d (cI v1units)) (q_move rfl) rfl ?_
    refine .q (x := .d (cB (decide (v1units ≥ 0)))) (q_geq rfl rfl) rfl ?_
    refine .q (x := .d (cB (decide (v1units ≥ 0)))) (q_move rfl) rfl ?_
    refine .guardG (b := decide (v1units ≥ 0)) (x := .d (cI v1units)) (env' := [(1, _)]) rfl rfl rfl ⟨.inl rfl, trivial⟩ rfl (fun hg => OpQ.g (q_move rfl)) ?_
    refine .guardG (b := decide (v1units ≥ 0)) (x := .ref 0 6) (env' := [(3, _)]) rfl rfl rfl ⟨.inl rfl, trivial⟩ rfl (fun hg => OpQ.g (q_fieldRef fo_23_6 rfl)) ?_
    refine .guardG (b := decide (v1units ≥ 0)) (x := .d (cI v0r.units)) (env' := [(28, _)]) rfl rfl rfl ⟨.inr (.inl rfl), trivial⟩ rfl (fun hg => OpQ.g (q_loadO one_3 rfl rfl rfl)) ?_
    refine .guardG (b := decide (v1units ≥ 0)) (x := .d (cB (decide (v1units ≤ v0r.units)))) (env' := [(27, _), (29, _)]) rfl rfl rfl ⟨.inr (.inl rfl), ⟨.inr (.inl rfl), trivial⟩⟩ rfl (fun hg => OpQ.g (q_leq rfl rfl)) ?_
    refine .q (x := .d (cB ((decide (v1units ≥ 0)) && (decide (v1units ≤ v0r.units))))) (q_pickAndB rfl rfl rfl) rfl ?_
    refine .q (x := .d (cB ((decide (v1units ≥ 0)) && (decide (v1units ≤ v0r.units))))) (q_move rfl) rfl ?_
    refine .guardG (b := ((decide (v1units ≥ 0)) && (decide (v1units ≤ v0r.units)))) (x := .d (.agg (Record.row (⟨v0r.source, v0r.serial, v0r.kind, v0r.a, v0r.b, v0r.start, v1units, v0r.call, v0r.part, v0r.last, v0r.trunk, v0r.inbound⟩ : Record)))) (env' := [(7, _)]) rfl rfl rfl ⟨.inl rfl, trivial⟩ rfl (fun hg => OpQ.g (q_loadOA one_23 sz_23 rfl rfl (Nat.le_of_ble_eq_true rfl) rfl)) ?_
    obtain ⟨y4, hy4, H⟩ := bind_some' H
    refine .guardG (b := ((decide (v1units ≥ 0)) && (decide (v1units ≤ v0r.units)))) (x := .d (cI y4)) (env' := [(33, _)]) rfl rfl rfl ⟨.inr (.inl rfl), trivial⟩ rfl (fun hg => (g_call en_10 rfl rfl (c_f_validate_Check (gcall_some hy4 hg)))) ?_
    refine .guardG (b := ((decide (v1units ≥ 0)) && (decide (v1units ≤ v0r.units)))) (x := .d (cB (y4 != 0))) (env' := [(34, _)]) rfl rfl rfl ⟨.inr (.inl rfl), trivial⟩ rfl (fun hg => OpQ.g (q_neq rfl rfl)) ?_
    refine .q (x := .d (cB (((decide (v1units ≥ 0)) && (decide (v1units ≤ v0r.units))) && (y4 != 0)))) (q_pickAndB rfl rfl rfl) rfl ?_
    refine .nil ?_
    refine .cond rfl (fun hc => ?_) (fun hc => ?_)
    · replace H := ifT hc H; clear hc
      refine .seq ?_
      refine .region ?_
      refine .q (x := .d (cB false)) (q_assign rfl) rfl ?_
      refine .nil ?_
      refine .retN [.tmp 6] [.d (cB false)] Tryd.func7 Tryd.results7 ⟨rfl, trivial⟩ ?_
      cases H
      exact ⟨_, .rfl' _, rfl⟩
    · replace H := ifF hc H; clear hc
      refine .skip ?_
      refine .seq ?_
      refine .region ?_
      refine .q (x := .d (cI v2serial)) (q_move rfl) rfl ?_
      refine .q (x := .d (cB (decide (v2serial < 1)))) (q_lss rfl rfl) rfl ?_
      refine .q (x := .d (cB (decide (v2serial < 1)))) (q_move rfl) rfl ?_
      refine .guardG (b := (!(decide (v2serial < 1)))) (x := .d (cI v2serial)) (env' := [(2, _)]) rfl rfl rfl ⟨.inl rfl, trivial⟩ rfl (fun hg => OpQ.g (q_move rfl)) ?_
      refine .guardG (b := (!(decide (v2serial < 1)))) (x := .d (cB (decide (v2serial > 999999999)))) (env' := [(40, _)]) rfl rfl rfl ⟨.inr (.inl rfl), trivial⟩ rfl (fun hg => OpQ.g (q_gtr rfl rfl)) ?_
      refine .q (x := .d (cB ((decide (v2serial < 1)) || (decide (v2serial > 999999999))))) (q_pickOrB rfl rfl rfl) rfl ?_
      refine .q (x := .d (.agg (Record.row (⟨v0r.source, v2serial, v0r.kind, v0r.a, v0r.b, v0r.start, v0r.units, v0r.call, v0r.part, v0r.last, v0r.trunk, v0r.inbound⟩ : Record)))) (q_loadOA one_23 sz_23 rfl rfl (Nat.le_of_ble_eq_true rfl) rfl) rfl ?_
      obtain ⟨y5, hy5, H⟩ := bind_some' H
      refine .g (x := .d (cI y5)) (g_call en_10 rfl rfl (c_f_validate_Check (hy5))) rfl ?_
      refine .q (x := .d (cB (y5 == 6))) (q_eql rfl rfl) rfl ?_
      refine .q (x := .d (cB (((decide (v2serial < 1)) || (decide (v2serial > 999999999))) == (y5 == 6)))) (q_beql rfl Tryd.underlying4 rfl) rfl ?_
      refine .q (x := .d (cB (((decide (v2serial < 1)) || (decide (v2serial > 999999999))) == (y5 == 6)))) (q_move rfl) rfl ?_
      refine .guardG (b := (((decide (v2serial < 1)) || (decide (v2serial > 999999999))) == (y5 == 6))) (x := .d (cI v2serial)) (env' := [(2, _)]) rfl rfl rfl ⟨.inl rfl, trivial⟩ rfl (fun hg => OpQ.g (q_move rfl)) ?_
      refine .guardG (b := (((decide (v2serial < 1)) || (decide (v2serial > 999999999))) == (y5 == 6))) (x := .d (cB (decide (v2serial < 1)))) (env' := [(48, _)]) rfl rfl rfl ⟨.inr (.inl rfl), trivial⟩ rfl (fun hg => OpQ.g (q_lss rfl rfl)) ?_
      refine .guardG (b := (((decide (v2serial < 1)) || (decide (v2serial > 999999999))) == (y5 == 6))) (x := .d (cB (decide (v2serial < 1)))) (env' := [(49, _)]) rfl rfl rfl ⟨.inr (.inl rfl), trivial⟩ rfl (fun hg => OpQ.g (q_move rfl)) ?_
      refine .guardG (b := ((((decide (v2serial < 1)) || (decide (v2serial > 999999999))) == (y5 == 6)) && (!(decide (v2serial < 1))))) (x := .d (cI v2serial)) (env' := [(2, _)]) rfl rfl rfl ⟨.inl rfl, trivial⟩ rfl (fun hg => OpQ.g (q_move rfl)) ?_
      refine .guardG (b := ((((decide (v2serial < 1)) || (decide (v2serial > 999999999))) == (y5 == 6)) && (!(decide (v2serial < 1))))) (x := .d (cB (decide (v2serial > 999999999)))) (env' := [(51, _)]) rfl rfl rfl ⟨.inr (.inl rfl), trivial⟩ rfl (fun hg => OpQ.g (q_gtr rfl rfl)) ?_
      refine .guardG (b := (((decide (v2serial < 1)) || (decide (v2serial > 999999999))) == (y5 == 6))) (x := .d (cB ((decide (v2serial < 1)) || (decide (v2serial > 999999999))))) (env' := [(50, _), (52, _)]) rfl rfl rfl ⟨.inr (.inl rfl), ⟨.inr (.inr ⟨_, _, rfl, rfl⟩), trivial⟩⟩ rfl (fun hg => OpQ.g (q_pickOrB rfl rfl rfl)) ?_
      refine .guardG (b := (((decide (v2serial < 1)) || (decide (v2serial > 999999999))) == (y5 == 6))) (x := .d (cB ((decide (v2serial < 1)) || (decide (v2serial > 999999999))))) (env' := [(53, _)]) rfl rfl rfl ⟨.inr (.inl rfl), trivial⟩ rfl (fun hg => OpQ.g (q_move rfl)) ?_
      refine .guardG (b := ((((decide (v2serial < 1)) || (decide (v2serial > 999999999))) == (y5 == 6)) && (!((decide (v2serial < 1)) || (decide (v2serial > 999999999)))))) (x := .d (.agg (Record.row (⟨v0r.source, v2serial, v0r.kind, v0r.a, v0r.b, v0r.start, v0r.units, v0r.call, v0r.part, v0r.last, v0r.trunk, v0r.inbound⟩ : Record)))) (env' := [(8, _)]) rfl rfl rfl ⟨.inl rfl, trivial⟩ rfl (fun hg => OpQ.g (q_loadOA one_23 sz_23 rfl rfl (Nat.le_of_ble_eq_true rfl) rfl)) ?_
      obtain ⟨y6, hy6, H⟩ := bind_some' H
      refine .guardG (b := ((((decide (v2serial < 1)) || (decide (v2serial > 999999999))) == (y5 == 6)) && (!((decide (v2serial < 1)) || (decide (v2serial > 999999999)))))) (x := .d (cI y6)) (env' := [(55, _)]) rfl rfl rfl ⟨.inr (.inl rfl), trivial⟩ rfl (fun hg => (g_call en_10 rfl rfl (c_f_validate_Check (gcall_some hy6 hg)))) ?_
      refine .guardG (b := ((((decide (v2serial < 1)) || (decide (v2serial > 999999999))) == (y5 == 6)) && (!((decide (v2serial < 1)) || (decide (v2serial > 999999999)))))) (x := .d (cB (y6 == 0))) (env' := [(56, _)]) rfl rfl rfl ⟨.inr (.inl rfl), trivial⟩ rfl (fun hg => OpQ.g (q_eql rfl rfl)) ?_
      refine .guardG (b := (((decide (v2serial < 1)) || (decide (v2serial > 999999999))) == (y5 == 6))) (x := .d (cB (((decide (v2serial < 1)) || (decide (v2serial > 999999999))) || (y6 == 0)))) (env' := [(54, _), (57, _)]) rfl rfl rfl ⟨.inr (.inl rfl), ⟨.inr (.inr ⟨_, _, rfl, rfl⟩), trivial⟩⟩ rfl (fun hg => OpQ.g (q_pickOrB rfl rfl rfl)) ?_
      refine .q (x := .d (cB ((((decide (v2serial < 1)) || (decide (v2serial > 999999999))) == (y5 == 6)) && (((decide (v2serial < 1)) || (decide (v2serial > 999999999))) || (y6 == 0))))) (q_pickAndB rfl rfl rfl) rfl ?_
      refine .q (x := .d (cB ((((decide (v2serial < 1)) || (decide (v2serial > 999999999))) == (y5 == 6)) && (((decide (v2serial < 1)) || (decide (v2serial > 999999999))) || (y6 == 0))))) (q_move rfl) rfl ?_
      obtain ⟨y7, hy7, H⟩ := bind_some' H
      refine .guardG (b := ((((decide (v2serial < 1)) || (decide (v2serial > 999999999))) == (y5 == 6)) && (((decide (v2serial < 1)) || (decide (v2serial > 999999999))) || (y6 == 0)))) (x := .d (cB y7)) (env' := []) rfl rfl rfl trivial rfl (fun hg => (g_call en_9 rfl rfl (c_f_billinglaw13_awake (gcall_some hy7 hg)))) ?_
      refine .q (x := .d (cB (((((decide (v2serial < 1)) || (decide (v2serial > 999999999))) == (y5 == 6)) && (((decide (v2serial < 1)) || (decide (v2serial > 999999999))) || (y6 == 0))) && y7))) (q_pickAndB rfl rfl rfl) rfl ?_
      refine .q (x := .d (cB (((((decide (v2serial < 1)) || (decide (v2serial > 999999999))) == (y5 == 6)) && (((decide (v2serial < 1)) || (decide (v2serial > 999999999))) || (y6 == 0))) && y7))) (q_assign rfl) rfl ?_
      refine .nil ?_
      refine .retN [.tmp 6] [.d (cB (((((decide (v2serial < 1)) || (decide (v2serial > 999999999))) == (y5 == 6)) && (((decide (v2serial < 1)) || (decide (v2serial > 999999999))) || (y6 == 0))) && y7))] Tryd.func7 Tryd.results7 ⟨rfl, trivial⟩ ?_
      cases H
      exact ⟨_, .rfl' _, rfl⟩

end Go.Proofs.YtalecnjpdjdlgaaDoor
