import Derived.Test.YtpdanklncjopoaaLW0
import Derived.Test.YtpdanklncjopoaaLF
set_option linter.unusedSimpArgs false
set_option linter.unusedVariables false
namespace Go.Proofs.Ytpdanklncjopoaa
open Go.RowKit Go.Abs
set_option maxRecDepth 100000 in
set_option maxHeartbeats 1000000 in
theorem c_f_mediation_Balance {v0m : Mediation} {r : Balance} (H : f_mediation_Balance v0m = some r) : ACall Try.prog 31 [.agg (Mediation.row v0m)] (· = .agg (Balance.row r)) := by
  obtain ⟨i39, hi39, hz39, hs39, hb39⟩ := in_39
  obtain ⟨i90, hi90, hz90, hs90, hb90⟩ := in_90
  refine ACall.enter' Try.func31 rfl Try.ntmps31 rfl fun S hS => ?_
  unfold f_mediation_Balance at H
  change ARun _ _ _ _ _ _ [(0, .d (.agg (Mediation.row v0m)))] _
  refine .seq ?_
  refine .region ?_
  refine .v (x := .ref 0 0) (v_box rfl rfl) rfl ?_
  refine .withSt (st' := ⟨[.row 34 [.d (slOf 3 Range.row v0m.intake.seen), .d (slOf 12 Record.row v0m.intake.open_), .d (slOf 4 Head.row v0m.intake.heads), .d (slOf 12 Usage.row v0m.usages), .d (slOf 12 Record.row v0m.suspense), .d (slOf 4 Reject.row v0m.rejects)]], []⟩) rfl ?_
  refine .v (x := .ref 1 0) (v_alloc zr_39 rfl) rfl ?_
  refine .withSt (st' := ⟨[.row 34 [.d (slOf 3 Range.row v0m.intake.seen), .d (slOf 12 Record.row v0m.intake.open_), .d (slOf 4 Head.row v0m.intake.heads), .d (slOf 12 Usage.row v0m.usages), .d (slOf 12 Record.row v0m.suspense), .d (slOf 4 Reject.row v0m.rejects)], .row 39 [.d (cI 0), .d (cI 0), .d (cI 0), .d (cI 0), .d (cI 0), .d (cI 0)]], []⟩) rfl ?_
  refine .nil ?_
  refine .seq ?_
  refine .region ?_
  refine .q (x := .ref 0 3) (q_fieldRef fo_34_1 rfl) rfl ?_
  refine .q (x := .d (slOf 12 Usage.row v0m.usages)) (q_loadO one_31 rfl rfl rfl) rfl ?_
  refine .q (x := .d (cI (v0m.usages.length : Int))) (q_lenL (l := v0m.usages) (row := Usage.row) Try.underlying31 rfl rfl) rfl ?_
  refine .q (x := .ref 0 5) (q_fieldRef fo_34_3 rfl) rfl ?_
  refine .q (x := .d (slOf 4 Reject.row v0m.rejects)) (q_loadO one_32 rfl rfl rfl) rfl ?_
  refine .q (x := .d (cI (v0m.rejects.length : Int))) (q_lenL (l := v0m.rejects) (row := Reject.row) Try.underlying32 rfl rfl) rfl ?_
  refine .q (x := .ref 0 4) (q_fieldRef fo_34_2 rfl) rfl ?_
  refine .q (x := .d (slOf 12 Record.row v0m.suspense)) (q_loadO one_27 rfl rfl rfl) rfl ?_
  refine .q (x := .d (cI (v0m.suspense.length : Int))) (q_lenL (l := v0m.suspense) (row := Record.row) Try.underlying27 rfl rfl) rfl ?_
  refine .q (x := .ref 0 0) (q_fieldRef fo_34_0 rfl) rfl ?_
  refine .q (x := .ref 0 1) (q_fieldRef fo_30_1 rfl) rfl ?_
  refine .q (x := .d (slOf 12 Record.row v0m.intake.open_)) (q_loadO one_27 rfl rfl rfl) rfl ?_
  refine .q (x := .d (cI (v0m.intake.open_.length : Int))) (q_lenL (l := v0m.intake.open_) (row := Record.row) Try.underlying27 rfl rfl) rfl ?_
  refine .q (x := .d (.agg (Balance.row (⟨0, (v0m.usages.length : Int), 0, (v0m.rejects.length : Int), (v0m.suspense.length : Int), (v0m.intake.open_.length : Int)⟩ : Balance)))) (q_buildP pl_39 hi39 hz39 rfl rfl) rfl ?_
  refine .v (x := .ref 2 0) (v_alloc zr_39 rfl) rfl ?_
  refine .withSt (st' := ⟨[.row 34 [.d (slOf 3 Range.row v0m.intake.seen), .d (slOf 12 Record.row v0m.intake.open_), .d (slOf 4 Head.row v0m.intake.heads), .d (slOf 12 Usage.row v0m.usages), .d (slOf 12 Record.row v0m.suspense), .d (slOf 4 Reject.row v0m.rejects)], .row 39 [.d (cI 0), .d (cI 0), .d (cI 0), .d (cI 0), .d (cI 0), .d (cI 0)], .row 39 [.d (cI 0), .d (cI 0), .d (cI 0), .d (cI 0), .d (cI 0), .d (cI 0)]], []⟩) rfl ?_
  refine .u (u_store rfl rfl rfl rfl (Nat.le_of_ble_eq_true rfl) sz_39) rfl ?_
  refine .withSt (st' := ⟨[.row 34 [.d (slOf 3 Range.row v0m.intake.seen), .d (slOf 12 Record.row v0m.intake.open_), .d (slOf 4 Head.row v0m.intake.heads), .d (slOf 12 Usage.row v0m.usages), .d (slOf 12 Record.row v0m.suspense), .d (slOf 4 Reject.row v0m.rejects)], .row 39 [.d (cI 0), .d (cI 0), .d (cI 0), .d (cI 0), .d (cI 0), .d (cI 0)], .row 39 [.d (cI 0), .d (cI (v0m.usages.length : Int)), .d (cI 0), .d (cI (v0m.rejects.length : Int)), .d (cI (v0m.suspense.length : Int)), .d (cI (v0m.intake.open_.length : Int))]], []⟩) rfl ?_
  refine .nil ?_
  refine .seq ?_
  refine .seq ?_
  refine .region ?_
  refine .q (x := .ref 0 0) (q_fieldRef fo_34_0 rfl) rfl ?_
  refine .q (x := .ref 0 2) (q_fieldRef fo_30_2 rfl) rfl ?_
  refine .q (x := .d (slOf 4 Head.row v0m.intake.heads)) (q_loadO one_28 rfl rfl rfl) rfl ?_
  refine .q (x := .d (cI (v0m.intake.heads.length : Int))) (q_lenL (l := v0m.intake.heads) (row := Head.row) Try.underlying28 rfl rfl) rfl ?_
  refine .q (x := .d (cI 0)) (q_move rfl) rfl ?_
  refine .nil ?_
  refine .blockJoin2 (ι := Int) (fun s => [(1, .ref 0 0), (2, .ref 1 0), (3, .ref 2 0)]) (fun s => ⟨[.row 34 [.d (slOf 3 Range.row v0m.intake.seen), .d (slOf 12 Record.row v0m.intake.open_), .d (slOf 4 Head.row v0m.intake.heads), .d (slOf 12 Usage.row v0m.usages), .d (slOf 12 Record.row v0m.suspense), .d (slOf 4 Reject.row v0m.rejects)], .row 39 [.d (cI 0), .d (cI 0), .d (cI 0), .d (cI 0), .d (cI 0), .d (cI 0)], .row 39 [.d (cI s), .d (cI (v0m.usages.length : Int)), .d (cI 0), .d (cI (v0m.rejects.length : Int)), .d (cI (v0m.suspense.length : Int)), .d (cI (v0m.intake.open_.length : Int))]], []⟩) (fun s => f_mediation_Balance_j1 v0m s = some r) ?_ ?_
  · rintro o2c0j1 H
    replace H : f_mediation_Balance_j1 v0m o2c0j1 = some r := H
    unfold f_mediation_Balance_j1 at H
    change ARun _ _ _ _ _ _ [(1, .ref 0 0), (2, .ref 1 0), (3, .ref 2 0)] ⟨[.row 34 [.d (slOf 3 Range.row v0m.intake.seen), .d (slOf 12 Record.row v0m.intake.open_), .d (slOf 4 Head.row v0m.intake.heads), .d (slOf 12 Usage.row v0m.usages), .d (slOf 12 Record.row v0m.suspense), .d (slOf 4 Reject.row v0m.rejects)], .row 39 [.d (cI 0), .d (cI 0), .d (cI 0), .d (cI 0), .d (cI 0), .d (cI 0)], .row 39 [.d (cI o2c0j1), .d (cI (v0m.usages.length : Int)), .d (cI 0), .d (cI (v0m.rejects.length : Int)), .d (cI (v0m.suspense.length : Int)), .d (cI (v0m.intake.open_.length : Int))]], []⟩
    refine .seq ?_
    refine .drawn 14 hMix (by kernel_rfl) ?_
    show DOps _ _ _ _ _ _ _ (_ :: _) _ _ _
    refine .q (x := .ref 0 0) (q_fieldRef fo_34_0 rfl) rfl ?_
    refine .q (x := .ref 0 0) (q_fieldRef fo_30_0 rfl) rfl ?_
    refine .q (x := .d (slOf 3 Range.row v0m.intake.seen)) (q_loadO one_26 rfl rfl rfl) rfl ?_
    obtain ⟨y1, hy1, H⟩ := bind_some' H
    refine .g (x := .d (cI y1)) (g_call en_49 rfl rfl (c_f_dedup_Count (hy1))) rfl ?_
    refine .q (x := .ref 2 1) (q_fieldRef fo_39_1 rfl) rfl ?_
    refine .q (x := .d (cI (v0m.usages.length : Int))) (q_loadO one_3 rfl rfl rfl) rfl ?_
    obtain ⟨hk1, H⟩ := ck_some H
    refine .q (x := .d (cI (y1 - (v0m.usages.length : Int)))) (q_subI rfl rfl hk1.1 hk1.2) rfl ?_
    refine .q (x := .ref 2 4) (q_fieldRef fo_39_4 rfl) rfl ?_
    refine .q (x := .d (cI (v0m.suspense.length : Int))) (q_loadO one_3 rfl rfl rfl) rfl ?_
    obtain ⟨hk2, H⟩ := ck_some H
    refine .q (x := .d (cI ((y1 - (v0m.usages.length : Int)) - (v0m.suspense.length : Int)))) (q_subI rfl rfl hk2.1 hk2.2) rfl ?_
    refine .q (x := .ref 2 5) (q_fieldRef fo_39_5 rfl) rfl ?_
    refine .q (x := .d (cI (v0m.intake.open_.length : Int))) (q_loadO one_3 rfl rfl rfl) rfl ?_
    obtain ⟨hk3, H⟩ := ck_some H
    refine .q (x := .d (cI (((y1 - (v0m.usages.length : Int)) - (v0m.suspense.length : Int)) - (v0m.intake.open_.length : Int)))) (q_subI rfl rfl hk3.1 hk3.2) rfl ?_
    refine .q (x := .ref 2 2) (q_fieldRef fo_39_2 rfl) rfl ?_
    refine .nil ?_
    show AOps _ _ _ _ _ _ (_ :: _) _ _ _
    refine .u (u_store rfl rfl rfl rfl (Nat.le_of_ble_eq_true rfl) sz_3) rfl ?_
    refine .withSt (st' := ⟨[.row 34 [.d (slOf 3 Range.row v0m.intake.seen), .d (slOf 12 Record.row v0m.intake.open_), .d (slOf 4 Head.row v0m.intake.heads), .d (slOf 12 Usage.row v0m.usages), .d (slOf 12 Record.row v0m.suspense), .d (slOf 4 Reject.row v0m.rejects)], .row 39 [.d (cI 0), .d (cI 0), .d (cI 0), .d (cI 0), .d (cI 0), .d (cI 0)], .row 39 [.d (cI o2c0j1), .d (cI (v0m.usages.length : Int)), .d (cI (((y1 - (v0m.usages.length : Int)) - (v0m.suspense.length : Int)) - (v0m.intake.open_.length : Int))), .d (cI (v0m.rejects.length : Int)), .d (cI (v0m.suspense.length : Int)), .d (cI (v0m.intake.open_.length : Int))]], []⟩) rfl ?_
    refine .nil ?_
    refine .seq ?_
    refine .region ?_
    refine .q (x := .d (.agg (Balance.row (⟨o2c0j1, (v0m.usages.length : Int), ((y1 - (v0m.usages.length : Int)) - (v0m.suspense.length : Int)) - (v0m.intake.open_.length : Int), (v0m.rejects.length : Int), (v0m.suspense.length : Int), (v0m.intake.open_.length : Int)⟩ : Balance)))) (q_loadOA one_39 sz_39 rfl rfl (Nat.le_of_ble_eq_true rfl) rfl) rfl ?_
    refine .u (u_store rfl rfl rfl rfl (Nat.le_of_ble_eq_true rfl) sz_39) rfl ?_
    refine .withSt (st' := ⟨[.row 34 [.d (slOf 3 Range.row v0m.intake.seen), .d (slOf 12 Record.row v0m.intake.open_), .d (slOf 4 Head.row v0m.intake.heads), .d (slOf 12 Usage.row v0m.usages), .d (slOf 12 Record.row v0m.suspense), .d (slOf 4 Reject.row v0m.rejects)], .row 39 [.d (cI o2c0j1), .d (cI (v0m.usages.length : Int)), .d (cI (((y1 - (v0m.usages.length : Int)) - (v0m.suspense.length : Int)) - (v0m.intake.open_.length : Int))), .d (cI (v0m.rejects.length : Int)), .d (cI (v0m.suspense.length : Int)), .d (cI (v0m.intake.open_.length : Int))], .row 39 [.d (cI o2c0j1), .d (cI (v0m.usages.length : Int)), .d (cI (((y1 - (v0m.usages.length : Int)) - (v0m.suspense.length : Int)) - (v0m.intake.open_.length : Int))), .d (cI (v0m.rejects.length : Int)), .d (cI (v0m.suspense.length : Int)), .d (cI (v0m.intake.open_.length : Int))]], []⟩) rfl ?_
    refine .nil ?_
    refine .retN [.cell 2 39] [.d (.agg (Balance.row (⟨o2c0j1, (v0m.usages.length : Int), ((y1 - (v0m.usages.length : Int)) - (v0m.suspense.length : Int)) - (v0m.intake.open_.length : Int), (v0m.rejects.length : Int), (v0m.suspense.length : Int), (v0m.intake.open_.length : Int)⟩ : Balance)))] Try.func31 Try.results31 ⟨⟨⟨_, _, rfl⟩, q_loadOA one_39 sz_39 rfl rfl (Nat.le_of_ble_eq_true rfl) rfl⟩, trivial⟩ ?_
    cases H
    exact ⟨_, .rfl' _, rfl⟩
  · intro hj1 hj1x
    obtain ⟨n1, H⟩ := loop_some H
    refine .withSt (st' := ⟨[.row 34 [.d (slOf 3 Range.row v0m.intake.seen), .d (slOf 12 Record.row v0m.intake.open_), .d (slOf 4 Head.row v0m.intake.heads), .d (slOf 12 Usage.row v0m.usages), .d (slOf 12 Record.row v0m.suspense), .d (slOf 4 Reject.row v0m.rejects)], .row 39 [.d (cI 0), .d (cI 0), .d (cI 0), .d (cI 0), .d (cI 0), .d (cI 0)], .row 39 [.d (cI 0), .d (cI (v0m.usages.length : Int)), .d (cI 0), .d (cI (v0m.rejects.length : Int)), .d (cI (v0m.suspense.length : Int)), .d (cI (v0m.intake.open_.length : Int))]], []⟩) rfl <| .loop (ι := Nat × (Int × Int)) (fun p => [(1, .ref 0 0), (2, .ref 1 0), (3, .ref 2 0), (22, .d (slOf 4 Head.row v0m.intake.heads)), (23, .d (cI (v0m.intake.heads.length : Int))), (24, .d (cI p.2.1))]) (fun p => ⟨[.row 34 [.d (slOf 3 Range.row v0m.intake.seen), .d (slOf 12 Record.row v0m.intake.open_), .d (slOf 4 Head.row v0m.intake.heads), .d (slOf 12 Usage.row v0m.usages), .d (slOf 12 Record.row v0m.suspense), .d (slOf 4 Reject.row v0m.rejects)], .row 39 [.d (cI 0), .d (cI 0), .d (cI 0), .d (cI 0), .d (cI 0), .d (cI 0)], .row 39 [.d (cI p.2.2), .d (cI (v0m.usages.length : Int)), .d (cI 0), .d (cI (v0m.rejects.length : Int)), .d (cI (v0m.suspense.length : Int)), .d (cI (v0m.intake.open_.length : Int))]], []⟩) (fun p => iter (fun s => f_mediation_Balance_l1 v0m s.1 s.2) p.1 p.2 = some r) (·.1) (n1, (0, 0)) H (.cons rfl (.rfl' _) (.cons rfl (.rfl' _) (.cons rfl (.rfl' _) (.cons rfl (.rfl' _) (.cons rfl (.rfl' _) (.cons rfl (.rfl' _) (.nil))))))) rfl ?_
    rintro ⟨m1, v24l1, o2c0l1⟩ HI ih1
    obtain ⟨n1, q1, hm1, H, HK1⟩ := iter_succ HI
    clear HI
    replace H : f_mediation_Balance_l1 v0m v24l1 o2c0l1 = some q1 := H
    unfold f_mediation_Balance_l1 at H
    change ARun _ _ _ _ _ _ [(1, .ref 0 0), (2, .ref 1 0), (3, .ref 2 0), (22, .d (slOf 4 Head.row v0m.intake.heads)), (23, .d (cI (v0m.intake.heads.length : Int))), (24, .d (cI v24l1))] ⟨[.row 34 [.d (slOf 3 Range.row v0m.intake.seen), .d (slOf 12 Record.row v0m.intake.open_), .d (slOf 4 Head.row v0m.intake.heads), .d (slOf 12 Usage.row v0m.usages), .d (slOf 12 Record.row v0m.suspense), .d (slOf 4 Reject.row v0m.rejects)], .row 39 [.d (cI 0), .d (cI 0), .d (cI 0), .d (cI 0), .d (cI 0), .d (cI 0)], .row 39 [.d (cI o2c0l1), .d (cI (v0m.usages.length : Int)), .d (cI 0), .d (cI (v0m.rejects.length : Int)), .d (cI (v0m.suspense.length : Int)), .d (cI (v0m.intake.open_.length : Int))]], []⟩
    refine .seq ?_
    refine .region ?_
    refine .q (x := .d (cB (decide (v24l1 < (v0m.intake.heads.length : Int))))) (q_lss rfl rfl) rfl ?_
    refine .nil ?_
    refine .seq ?_
    refine .cond rfl (fun hc => ?_) (fun hc => ?_)
    · replace H := ifT hc H; clear hc
      refine .skip ?_
      refine .seq ?_
      refine .block ?_
      refine .seq ?_
      refine .region ?_
      obtain ⟨hk4, H⟩ := ck_some H
      refine .q (x := .d (.ro (Head.row (nth v0m.intake.heads (Int.toNat (v24l1)))))) (q_idxL (row := Head.row) (l := v0m.intake.heads) (i := v24l1) Try.underlying28 hi90 hs90 rfl rfl rfl hk4) rfl ?_
      refine .q (x := .d (.agg (Head.row (nth v0m.intake.heads (Int.toNat (v24l1)))))) (q_loadAll one_90 sz_90 rfl rfl) rfl ?_
      refine .v (x := .ref 3 0) (v_alloc zr_90 rfl) rfl ?_
      refine .withSt (st' := ⟨[.row 34 [.d (slOf 3 Range.row v0m.intake.seen), .d (slOf 12 Record.row v0m.intake.open_), .d (slOf 4 Head.row v0m.intake.heads), .d (slOf 12 Usage.row v0m.usages), .d (slOf 12 Record.row v0m.suspense), .d (slOf 4 Reject.row v0m.rejects)], .row 39 [.d (cI 0), .d (cI 0), .d (cI 0), .d (cI 0), .d (cI 0), .d (cI 0)], .row 39 [.d (cI o2c0l1), .d (cI (v0m.usages.length : Int)), .d (cI 0), .d (cI (v0m.rejects.length : Int)), .d (cI (v0m.suspense.length : Int)), .d (cI (v0m.intake.open_.length : Int))], .row 90 [.d (cI 0), .d (cI 0), .d (cI 0), .d (cI 0)]], []⟩) rfl ?_
      refine .u (u_store rfl rfl rfl rfl (Nat.le_of_ble_eq_true rfl) sz_90) rfl ?_
      refine .withSt (st' := ⟨[.row 34 [.d (slOf 3 Range.row v0m.intake.seen), .d (slOf 12 Record.row v0m.intake.open_), .d (slOf 4 Head.row v0m.intake.heads), .d (slOf 12 Usage.row v0m.usages), .d (slOf 12 Record.row v0m.suspense), .d (slOf 4 Reject.row v0m.rejects)], .row 39 [.d (cI 0), .d (cI 0), .d (cI 0), .d (cI 0), .d (cI 0), .d (cI 0)], .row 39 [.d (cI o2c0l1), .d (cI (v0m.usages.length : Int)), .d (cI 0), .d (cI (v0m.rejects.length : Int)), .d (cI (v0m.suspense.length : Int)), .d (cI (v0m.intake.open_.length : Int))], .row 90 [.d (cI ((nth v0m.intake.heads (Int.toNat (v24l1))).source)), .d (cI ((nth v0m.intake.heads (Int.toNat (v24l1))).number)), .d (cI ((nth v0m.intake.heads (Int.toNat (v24l1))).format)), .d (cI ((nth v0m.intake.heads (Int.toNat (v24l1))).count))]], []⟩) rfl ?_
      refine .nil ?_
      refine .region ?_
      refine .q (x := .ref 2 0) (q_fieldRef fo_39_0 rfl) rfl ?_
      refine .q (x := .d (cI o2c0l1)) (q_loadO one_3 rfl rfl rfl) rfl ?_
      refine .q (x := .ref 3 3) (q_fieldRef fo_90_3 rfl) rfl ?_
      refine .q (x := .d (cI ((nth v0m.intake.heads (Int.toNat (v24l1))).count))) (q_loadO one_3 rfl rfl rfl) rfl ?_
      obtain ⟨hk5, H⟩ := ck_some H
      refine .q (x := .d (cI (o2c0l1 + ((nth v0m.intake.heads (Int.toNat (v24l1))).count)))) (q_addI rfl rfl hk5.1 hk5.2) rfl ?_
      refine .q (x := .ref 2 0) (q_fieldRef fo_39_0 rfl) rfl ?_
      refine .u (u_store rfl rfl rfl rfl (Nat.le_of_ble_eq_true rfl) sz_3) rfl ?_
      refine .withSt (st' := ⟨[.row 34 [.d (slOf 3 Range.row v0m.intake.seen), .d (slOf 12 Record.row v0m.intake.open_), .d (slOf 4 Head.row v0m.intake.heads), .d (slOf 12 Usage.row v0m.usages), .d (slOf 12 Record.row v0m.suspense), .d (slOf 4 Reject.row v0m.rejects)], .row 39 [.d (cI 0), .d (cI 0), .d (cI 0), .d (cI 0), .d (cI 0), .d (cI 0)], .row 39 [.d (cI (o2c0l1 + ((nth v0m.intake.heads (Int.toNat (v24l1))).count))), .d (cI (v0m.usages.length : Int)), .d (cI 0), .d (cI (v0m.rejects.length : Int)), .d (cI (v0m.suspense.length : Int)), .d (cI (v0m.intake.open_.length : Int))], .row 90 [.d (cI ((nth v0m.intake.heads (Int.toNat (v24l1))).source)), .d (cI ((nth v0m.intake.heads (Int.toNat (v24l1))).number)), .d (cI ((nth v0m.intake.heads (Int.toNat (v24l1))).format)), .d (cI ((nth v0m.intake.heads (Int.toNat (v24l1))).count))]], []⟩) rfl ?_
      refine .nil ?_
      refine .inBlock ?_
      refine .region ?_
      obtain ⟨hk6, H⟩ := ck_some H
      refine .q (x := .d (cI (v24l1 + 1))) (q_addI rfl rfl hk6.1 hk6.2) rfl ?_
      refine .q (x := .d (cI (v24l1 + 1))) (q_move rfl) rfl ?_
      refine .nil ?_
      cases H
      exact .to 3 0 (env' := [(1, .ref 0 0), (2, .ref 1 0), (3, .ref 2 0), (22, .d (slOf 4 Head.row v0m.intake.heads)), (23, .d (cI (v0m.intake.heads.length : Int))), (24, .d (cI (v24l1 + 1)))]) (st' := ⟨[.row 34 [.d (slOf 3 Range.row v0m.intake.seen), .d (slOf 12 Record.row v0m.intake.open_), .d (slOf 4 Head.row v0m.intake.heads), .d (slOf 12 Usage.row v0m.usages), .d (slOf 12 Record.row v0m.suspense), .d (slOf 4 Reject.row v0m.rejects)], .row 39 [.d (cI 0), .d (cI 0), .d (cI 0), .d (cI 0), .d (cI 0), .d (cI 0)], .row 39 [.d (cI (o2c0l1 + ((nth v0m.intake.heads (Int.toNat (v24l1))).count))), .d (cI (v0m.usages.length : Int)), .d (cI 0), .d (cI (v0m.rejects.length : Int)), .d (cI (v0m.suspense.length : Int)), .d (cI (v0m.intake.open_.length : Int))]], []⟩) (.cons rfl (.rfl' _) (.cons rfl (.rfl' _) (.cons rfl (.rfl' _) (.cons rfl (.rfl' _) (.cons rfl (.rfl' _) (.cons rfl (.rfl' _) (.nil))))))) rfl rfl rfl rfl rfl (by rw [hS]; exact Nat.le_of_ble_eq_true rfl) (by rw [hS]; exact Nat.le_of_ble_eq_true rfl) <| .sub (.cons rfl (.rfl' _) (.cons rfl (.rfl' _) (.cons rfl (.rfl' _) (.cons rfl (.rfl' _) (.cons rfl (.rfl' _) (.cons rfl (.rfl' _) (.nil))))))) (ih1 (n1, (v24l1 + 1, o2c0l1 + ((nth v0m.intake.heads (Int.toNat (v24l1))).count))) HK1 hm1)
    · replace H := ifF hc H; clear hc
      refine .exit rfl ?_
      obtain ⟨q0, H9, hq0⟩ := map_some' H; clear H; cases hq0
      cases HK1
      have H := H9
      exact .withSt (st' := ⟨[.row 34 [.d (slOf 3 Range.row v0m.intake.seen), .d (slOf 12 Record.row v0m.intake.open_), .d (slOf 4 Head.row v0m.intake.heads), .d (slOf 12 Usage.row v0m.usages), .d (slOf 12 Record.row v0m.suspense), .d (slOf 4 Reject.row v0m.rejects)], .row 39 [.d (cI 0), .d (cI 0), .d (cI 0), .d (cI 0), .d (cI 0), .d (cI 0)], .row 39 [.d (cI o2c0l1), .d (cI (v0m.usages.length : Int)), .d (cI 0), .d (cI (v0m.rejects.length : Int)), .d (cI (v0m.suspense.length : Int)), .d (cI (v0m.intake.open_.length : Int))]], []⟩) rfl <| .sub (.cons rfl (.rfl' _) (.cons rfl (.rfl' _) (.cons rfl (.rfl' _) (.nil)))) (hj1x o2c0l1 H)

set_option maxRecDepth 100000 in
set_option maxHeartbeats 1000000 in
theorem c_g_assure_Intake_1 {v0key : Int} {v1left : Int} {v2right : Int} {y0t0p : List Leak} {r : (List Leak)} (H : g_assure_Intake_1 v0key v1left v2right y0t0p = some r) : ACallS Try.prog 32 [.d (cI v0key), .d (cI v1left), .d (cI v2right), .ref 0 0] ⟨[.row 42 [.tsl 4 (y0t0p.map Leak.row) 0]], [⟨60, 4, y0t0p.length, none⟩]⟩ (QE (.d (.tup [])) ⟨[.row 42 [.tsl 4 (r.map Leak.row) 0]], [⟨60, 4, r.length, none⟩]⟩) := by
  obtain ⟨i60, hi60, hz60, hs60, hb60⟩ := in_60
  refine ACallS.keep ?_
  refine ACallS.enter Try.func32 rfl Try.ntmps32 rfl fun S hS => ?_
  unfold g_assure_Intake_1 at H
  change ARun _ _ _ _ _ _ [(0, .d (cI v0key)), (1, .d (cI v1left)), (2, .d (cI v2right)), (3, .ref 0 0)] _
  refine .seq ?_
  refine .region ?_
  refine .q (x := .d (cI v1left)) (q_move rfl) rfl ?_
  refine .q (x := .d (cI v2right)) (q_move rfl) rfl ?_
  refine .q (x := .d (cB (v1left != v2right))) (q_neq rfl rfl) rfl ?_
  refine .nil ?_
  refine .cond rfl (fun hc => ?_) (fun hc => ?_)
  · replace H := ifT hc H; clear hc
    refine .region ?_
    refine .q (x := .tsl 4 (y0t0p.map Leak.row) 0) (q_loadO one_42 rfl rfl rfl) rfl ?_
    refine .q (x := .d (cI v0key)) (q_move rfl) rfl ?_
    refine .q (x := .d (cI v1left)) (q_move rfl) rfl ?_
    refine .q (x := .d (cI v2right)) (q_move rfl) rfl ?_
    refine .q (x := .d (.agg (Leak.row (⟨1, v0key, v1left, v2right⟩ : Leak)))) (q_buildP pl_60 hi60 hz60 rfl rfl) rfl ?_
    refine .g (x := .d (slOf 4 Leak.row ([(⟨1, v0key, v1left, v2right⟩ : Leak)] : List Leak))) (g_buildSlice1 Try.underlying42 hi60 hs60 hz60 rfl rfl rfl rfl rfl) rfl ?_
    obtain ⟨hk1, H⟩ := ck_some H
    refine .v (x := .tsl 4 ((y0t0p ++ ([(⟨1, v0key, v1left, v2right⟩ : Leak)] : List Leak)).map Leak.row) 0) (v_appendL (l := y0t0p) (l' := ([(⟨1, v0key, v1left, v2right⟩ : Leak)] : List Leak)) (row := Leak.row) Try.underlying42 hi60 hz60 hs60 rfl (by rw [hb60]; decide) rfl rfl rfl rfl hk1) rfl ?_
    refine .withSt (st' := ⟨[.row 42 [.tsl 4 (y0t0p.map Leak.row) 0]], [⟨60, 4, (y0t0p ++ ([(⟨1, v0key, v1left, v2right⟩ : Leak)] : List Leak)).length, none⟩]⟩) rfl ?_
    refine .u (u_store rfl rfl rfl rfl (Nat.le_of_ble_eq_true rfl) sz_42) rfl ?_
    refine .withSt (st' := ⟨[.row 42 [.tsl 4 ((y0t0p ++ ([(⟨1, v0key, v1left, v2right⟩ : Leak)] : List Leak)).map Leak.row) 0]], [⟨60, 4, (y0t0p ++ ([(⟨1, v0key, v1left, v2right⟩ : Leak)] : List Leak)).length, none⟩]⟩) rfl ?_
    refine .nil ?_
    refine .fin0 Try.func32 Try.results32 ?_
    cases H
    exact ⟨[0], [0], rfl, rfl, rfl, rfl, rfl, rfl, rfl, rfl, EVle.tupL (ds := []) trivial⟩
  · replace H := ifF hc H; clear hc
    refine .skip ?_
    refine .fin0 Try.func32 Try.results32 ?_
    cases H
    exact ⟨[0], [0], rfl, rfl, rfl, rfl, rfl, rfl, rfl, rfl, EVle.tupL (ds := []) trivial⟩

set_option maxRecDepth 100000 in
set_option maxHeartbeats 1000000 in
theorem c_f_assure_Intake {v0m : Mediation} {v1read : Int} {r : (List Leak)} (H : f_assure_Intake v0m v1read = some r) : ACall Try.prog 14 [.agg (Mediation.row v0m), cI v1read] (· = slOf 4 Leak.row r) := by
  refine ACall.enter' Try.func14 rfl Try.ntmps14 rfl fun S hS => ?_
  unfold f_assure_Intake at H
  change ARun _ _ _ _ _ _ [(0, .d (.agg (Mediation.row v0m))), (1, .d (cI v1read))] _
  refine .seq ?_
  refine .region ?_
  refine .v (x := .ref 0 0) (v_box rfl rfl) rfl ?_
  refine .withSt (st' := ⟨[.row 34 [.d (slOf 3 Range.row v0m.intake.seen), .d (slOf 12 Record.row v0m.intake.open_), .d (slOf 4 Head.row v0m.intake.heads), .d (slOf 12 Usage.row v0m.usages), .d (slOf 12 Record.row v0m.suspense), .d (slOf 4 Reject.row v0m.rejects)]], []⟩) rfl ?_
  refine .q (x := .d (nilD)) (q_assign rfl) rfl ?_
  refine .nil ?_
  refine .seq ?_
  refine .region ?_
  refine .q (x := .d (.agg (Mediation.row v0m))) (q_loadOA one_34 sz_34 rfl rfl (Nat.le_of_ble_eq_true rfl) rfl) rfl ?_
  obtain ⟨y1, hy1, H⟩ := bind_some' H
  refine .g (x := .d (.agg (Balance.row y1))) (g_call en_31 rfl rfl (c_f_mediation_Balance (hy1))) rfl ?_
  refine .v (x := .ref 1 0) (v_alloc zr_39 rfl) rfl ?_
  refine .withSt (st' := ⟨[.row 34 [.d (slOf 3 Range.row v0m.intake.seen), .d (slOf 12 Record.row v0m.intake.open_), .d (slOf 4 Head.row v0m.intake.heads), .d (slOf 12 Usage.row v0m.usages), .d (slOf 12 Record.row v0m.suspense), .d (slOf 4 Reject.row v0m.rejects)], .row 39 [.d (cI 0), .d (cI 0), .d (cI 0), .d (cI 0), .d (cI 0), .d (cI 0)]], []⟩) rfl ?_
  refine .u (u_store rfl rfl rfl rfl (Nat.le_of_ble_eq_true rfl) sz_39) rfl ?_
  refine .withSt (st' := ⟨[.row 34 [.d (slOf 3 Range.row v0m.intake.seen), .d (slOf 12 Record.row v0m.intake.open_), .d (slOf 4 Head.row v0m.intake.heads), .d (slOf 12 Usage.row v0m.usages), .d (slOf 12 Record.row v0m.suspense), .d (slOf 4 Reject.row v0m.rejects)], .row 39 [.d (cI y1.read), .d (cI y1.accepted), .d (cI y1.merged), .d (cI y1.rejected), .d (cI y1.suspended), .d (cI y1.open_)]], []⟩) rfl ?_
  refine .nil ?_
  refine .seq ?_
  refine .region ?_
  refine .v (x := .ref 2 0) (v_alloc zr_42 rfl) rfl ?_
  refine .withSt (st' := ⟨[.row 34 [.d (slOf 3 Range.row v0m.intake.seen), .d (slOf 12 Record.row v0m.intake.open_), .d (slOf 4 Head.row v0m.intake.heads), .d (slOf 12 Usage.row v0m.usages), .d (slOf 12 Record.row v0m.suspense), .d (slOf 4 Reject.row v0m.rejects)], .row 39 [.d (cI y1.read), .d (cI y1.accepted), .d (cI y1.merged), .d (cI y1.rejected), .d (cI y1.suspended), .d (cI y1.open_)], .row 42 [.d (nilD)]], []⟩) rfl ?_
  refine .nil ?_
  refine .seq ?_
  refine .region ?_
  refine .q (x := .clo 32 [.ref 2 0]) (q_makeFunc rfl) rfl ?_
  refine .q (x := .clo 32 [.ref 2 0]) (q_assign rfl) rfl ?_
  refine .nil ?_
  refine .seq ?_
  refine .region ?_
  refine .q (x := .clo 32 [.ref 2 0]) (q_move rfl) rfl ?_
  refine .q (x := .d (cI v1read)) (q_move rfl) rfl ?_
  refine .q (x := .ref 1 0) (q_fieldRef fo_39_0 rfl) rfl ?_
  refine .q (x := .d (cI y1.read)) (q_loadO one_3 rfl rfl rfl) rfl ?_
  refine .tokCell (o := 2) (ci := 0) (e := 60) (sz := 4) rfl rfl ?_
  refine .withSt (st' := ⟨[.row 34 [.d (slOf 3 Range.row v0m.intake.seen), .d (slOf 12 Record.row v0m.intake.open_), .d (slOf 4 Head.row v0m.intake.heads), .d (slOf 12 Usage.row v0m.usages), .d (slOf 12 Record.row v0m.suspense), .d (slOf 4 Reject.row v0m.rejects)], .row 39 [.d (cI y1.read), .d (cI y1.accepted), .d (cI y1.merged), .d (cI y1.rejected), .d (cI y1.suspended), .d (cI y1.open_)], .row 42 [.tsl 4 (([] : List Leak).map Leak.row) 0]], [⟨60, 4, ([] : List Leak).length, none⟩]⟩) rfl ?_
  obtain ⟨y2, hy2, H⟩ := bind_some' H
  refine .callFC en_32 rfl rfl [2] [0] (x := .d (.tup [])) (st' := ⟨[.row 34 [.d (slOf 3 Range.row v0m.intake.seen), .d (slOf 12 Record.row v0m.intake.open_), .d (slOf 4 Head.row v0m.intake.heads), .d (slOf 12 Usage.row v0m.usages), .d (slOf 12 Record.row v0m.suspense), .d (slOf 4 Reject.row v0m.rejects)], .row 39 [.d (cI y1.read), .d (cI y1.accepted), .d (cI y1.merged), .d (cI y1.rejected), .d (cI y1.suspended), .d (cI y1.open_)], .row 42 [.tsl 4 (y2.map Leak.row) 0]], [⟨60, 4, y2.length, none⟩]⟩) rfl (c_g_assure_Intake_1 (hy2)) ⟨.rfl' _, .rfl' _, .rfl' _, .rfl' _, trivial⟩ rfl rfl rfl rfl rfl rfl ?_
  refine .withSt (st' := ⟨[.row 34 [.d (slOf 3 Range.row v0m.intake.seen), .d (slOf 12 Record.row v0m.intake.open_), .d (slOf 4 Head.row v0m.intake.heads), .d (slOf 12 Usage.row v0m.usages), .d (slOf 12 Record.row v0m.suspense), .d (slOf 4 Reject.row v0m.rejects)], .row 39 [.d (cI y1.read), .d (cI y1.accepted), .d (cI y1.merged), .d (cI y1.rejected), .d (cI y1.suspended), .d (cI y1.open_)], .row 42 [.tsl 4 (y2.map Leak.row) 0]], [⟨60, 4, y2.length, none⟩]⟩) rfl ?_
  refine .nil ?_
  refine .seq ?_
  refine .region ?_
  refine .q (x := .clo 32 [.ref 2 0]) (q_move rfl) rfl ?_
  refine .q (x := .ref 1 0) (q_fieldRef fo_39_0 rfl) rfl ?_
  refine .q (x := .d (cI y1.read)) (q_loadO one_3 rfl rfl rfl) rfl ?_
  refine .q (x := .ref 1 1) (q_fieldRef fo_39_1 rfl) rfl ?_
  refine .q (x := .d (cI y1.accepted)) (q_loadO one_3 rfl rfl rfl) rfl ?_
  refine .q (x := .ref 1 2) (q_fieldRef fo_39_2 rfl) rfl ?_
  refine .q (x := .d (cI y1.merged)) (q_loadO one_3 rfl rfl rfl) rfl ?_
  obtain ⟨hk1, H⟩ := ck_some H
  refine .q (x := .d (cI (y1.accepted + y1.merged))) (q_addI rfl rfl hk1.1 hk1.2) rfl ?_
  refine .q (x := .ref 1 3) (q_fieldRef fo_39_3 rfl) rfl ?_
  refine .q (x := .d (cI y1.rejected)) (q_loadO one_3 rfl rfl rfl) rfl ?_
  obtain ⟨hk2, H⟩ := ck_some H
  refine .q (x := .d (cI ((y1.accepted + y1.merged) + y1.rejected))) (q_addI rfl rfl hk2.1 hk2.2) rfl ?_
  refine .q (x := .ref 1 4) (q_fieldRef fo_39_4 rfl) rfl ?_
  refine .q (x := .d (cI y1.suspended)) (q_loadO one_3 rfl rfl rfl) rfl ?_
  obtain ⟨hk3, H⟩ := ck_some H
  refine .q (x := .d (cI (((y1.accepted + y1.merged) + y1.rejected) + y1.suspended))) (q_addI rfl rfl hk3.1 hk3.2) rfl ?_
  refine .q (x := .ref 1 5) (q_fieldRef fo_39_5 rfl) rfl ?_
  refine .q (x := .d (cI y1.open_)) (q_loadO one_3 rfl rfl rfl) rfl ?_
  obtain ⟨hk4, H⟩ := ck_some H
  refine .q (x := .d (cI ((((y1.accepted + y1.merged) + y1.rejected) + y1.suspended) + y1.open_))) (q_addI rfl rfl hk4.1 hk4.2) rfl ?_
  obtain ⟨y3, hy3, H⟩ := bind_some' H
  refine .callFC en_32 rfl rfl [2] [0] (x := .d (.tup [])) (st' := ⟨[.row 34 [.d (slOf 3 Range.row v0m.intake.seen), .d (slOf 12 Record.row v0m.intake.open_), .d (slOf 4 Head.row v0m.intake.heads), .d (slOf 12 Usage.row v0m.usages), .d (slOf 12 Record.row v0m.suspense), .d (slOf 4 Reject.row v0m.rejects)], .row 39 [.d (cI y1.read), .d (cI y1.accepted), .d (cI y1.merged), .d (cI y1.rejected), .d (cI y1.suspended), .d (cI y1.open_)], .row 42 [.tsl 4 (y3.map Leak.row) 0]], [⟨60, 4, y3.length, none⟩]⟩) rfl (c_g_assure_Intake_1 (hy3)) ⟨.rfl' _, .rfl' _, .rfl' _, .rfl' _, trivial⟩ rfl rfl rfl rfl rfl rfl ?_
  refine .withSt (st' := ⟨[.row 34 [.d (slOf 3 Range.row v0m.intake.seen), .d (slOf 12 Record.row v0m.intake.open_), .d (slOf 4 Head.row v0m.intake.heads), .d (slOf 12 Usage.row v0m.usages), .d (slOf 12 Record.row v0m.suspense), .d (slOf 4 Reject.row v0m.rejects)], .row 39 [.d (cI y1.read), .d (cI y1.accepted), .d (cI y1.merged), .d (cI y1.rejected), .d (cI y1.suspended), .d (cI y1.open_)], .row 42 [.tsl 4 (y3.map Leak.row) 0]], [⟨60, 4, y3.length, none⟩]⟩) rfl ?_
  refine .nil ?_
  refine .seq ?_
  refine .region ?_
  refine .q (x := .tsl 4 (y3.map Leak.row) 0) (q_loadO one_42 rfl rfl rfl) rfl ?_
  refine .q (x := .tsl 4 (y3.map Leak.row) 0) (q_assign rfl) rfl ?_
  refine .nil ?_
  refine .retN [.tmp 4] [.tsl 4 (y3.map Leak.row) 0] Try.func14 Try.results14 ⟨rfl, trivial⟩ ?_
  cases H
  exact ⟨_, .tsl _ _ _, rfl⟩

set_option maxRecDepth 100000 in
set_option maxHeartbeats 1000000 in
theorem c_f_billinglaw54_awake {r : Bool} (H : f_billinglaw54_awake = some r) : ACall Try.prog 10 [] (· = cB r) := by
  obtain ⟨i34, hi34, hz34, hs34, hb34⟩ := in_34
  obtain ⟨i52, hi52, hz52, hs52, hb52⟩ := in_52
  obtain ⟨i58, hi58, hz58, hs58, hb58⟩ := in_58
  obtain ⟨i60, hi60, hz60, hs60, hb60⟩ := in_60
  obtain ⟨i64, hi64, hz64, hs64, hb64⟩ := in_64
  refine ACall.enter' Try.func10 rfl Try.ntmps10 rfl fun S hS => ?_
  unfold f_billinglaw54_awake at H
  change ARun _ _ _ _ _ _ [] _
  refine .seq ?_
  refine .region ?_
  refine .q (x := .d (cB false)) (q_assign rfl) rfl ?_
  refine .nil ?_
  refine .seq ?_
  refine .region ?_
  refine .q (x := .d (.agg (Usage.row (⟨3, 0, 0, 0, ([] : List UInt8), ([] : List UInt8), 0, 0, 0, false, 0, 0⟩ : Usage)))) (q_buildP pl_52 hi52 hz52 rfl rfl) rfl ?_
  refine .g (x := .d (slOf 12 Usage.row ([(⟨3, 0, 0, 0, ([] : List UInt8), ([] : List UInt8), 0, 0, 0, false, 0, 0⟩ : Usage)] : List Usage))) (g_buildSlice1 Try.underlying31 hi52 hs52 hz52 rfl rfl rfl rfl rfl) rfl ?_
  obtain ⟨y1, hy1, H⟩ := bind_some' H
  refine .g (x := .d (slOf 4 Leak.row y1)) (g_call en_19 rfl rfl ((c_f_assure_Usages (hy1)).le ⟨.rfl' _, .nil 24, trivial⟩)) rfl ?_
  refine .q (x := .d (slOf 4 Leak.row y1)) (q_assign rfl) rfl ?_
  refine .nil ?_
  refine .seq ?_
  refine .region ?_
  refine .q (x := .d (.agg (Usage.row (⟨0, 0, 0, 2, ([] : List UInt8), ([] : List UInt8), 0, 0, 0, false, 0, 0⟩ : Usage)))) (q_buildP pl_52 hi52 hz52 rfl rfl) rfl ?_
  refine .q (x := .d (.agg (Rated.row (⟨(⟨0, 0, 0, 2, ([] : List UInt8), ([] : List UInt8), 0, 0, 0, false, 0, 0⟩ : Usage), 0, ([] : List UInt8), 0, ([] : List UInt8), ([] : List Take), ([] : List Segment), 0, 0, 0, ([] : List Given), 0, 700⟩ : Rated)))) (OpQ.le (q_buildP pl_58 hi58 hz58 rfl rfl) (EVle.d (.agg ⟨.rfl' _, .rfl' _, .rfl' _, .rfl' _, .rfl' _, .rfl' _, .rfl' _, .rfl' _, .rfl' _, .rfl' _, .rfl' _, .rfl' _, .rfl' _, .rfl' _, .rfl' _, .rfl' _, .nil 5, .nil 4, .rfl' _, .rfl' _, .rfl' _, .nil 2, .rfl' _, .rfl' _, trivial⟩))) rfl ?_
  refine .g (x := .d (slOf 24 Rated.row ([(⟨(⟨0, 0, 0, 2, ([] : List UInt8), ([] : List UInt8), 0, 0, 0, false, 0, 0⟩ : Usage), 0, ([] : List UInt8), 0, ([] : List UInt8), ([] : List Take), ([] : List Segment), 0, 0, 0, ([] : List Given), 0, 700⟩ : Rated)] : List Rated))) (g_buildSlice1 Try.underlying46 hi58 hs58 hz58 rfl rfl rfl rfl rfl) rfl ?_
  refine .q (x := .d (.agg (Line.row (⟨3, 2, ([] : List UInt8), ([] : List UInt8), 0, 0, 500, 0⟩ : Line)))) (q_buildP pl_64 hi64 hz64 rfl rfl) rfl ?_
  refine .g (x := .d (slOf 8 Line.row ([(⟨3, 2, ([] : List UInt8), ([] : List UInt8), 0, 0, 500, 0⟩ : Line)] : List Line))) (g_buildSlice1 Try.underlying62 hi64 hs64 hz64 rfl rfl rfl rfl rfl) rfl ?_
  obtain ⟨y2, hy2, H⟩ := bind_some' H
  refine .g (x := .d (slOf 4 Leak.row y2)) (g_call en_21 rfl rfl (c_f_assure_Invoices (hy2))) rfl ?_
  refine .q (x := .d (slOf 4 Leak.row y2)) (q_assign rfl) rfl ?_
  refine .nil ?_
  refine .seq ?_
  refine .region ?_
  refine .q (x := .d (slOf 4 Leak.row y1)) (q_move rfl) rfl ?_
  refine .q (x := .d (.agg (Leak.row (⟨2, 3, 1, 0⟩ : Leak)))) (q_buildP pl_60 hi60 hz60 rfl rfl) rfl ?_
  refine .g (x := .d (slOf 4 Leak.row ([(⟨2, 3, 1, 0⟩ : Leak)] : List Leak))) (g_buildSlice1 Try.underlying42 hi60 hs60 hz60 rfl rfl rfl rfl rfl) rfl ?_
  obtain ⟨y3, hy3, H⟩ := bind_some' H
  refine .g (x := .d (cB y3)) (g_call en_13 rfl rfl (c_f_billingref54_Same (hy3))) rfl ?_
  refine .q (x := .d (cB y3)) (q_move rfl) rfl ?_
  refine .guardG (b := y3) (x := .d (slOf 4 Leak.row y2)) (env' := [(2, _)]) rfl rfl rfl ⟨.inl rfl, trivial⟩ rfl (fun hg => OpQ.g (q_move rfl)) ?_
  obtain ⟨y4, hy4, H⟩ := bind_some' H
  refine .guardG (b := y3) (x := .d (cS y4)) (env' := [(17, _)]) rfl rfl rfl ⟨.inr (.inl rfl), trivial⟩ rfl (fun hg => (g_call en_23 rfl rfl (c_f_assure_Text (gcall_some hy4 hg)))) ?_
  refine .guardG (b := y3) (x := .d (cB (y4 == ([105, 110, 118, 111, 105, 99, 101, 32, 50, 32, 55, 48, 48, 32, 53, 48, 48, 10] : List UInt8)))) (env' := [(18, _)]) rfl rfl rfl ⟨.inr (.inl rfl), trivial⟩ rfl (fun hg => OpQ.g (q_seql rfl rfl)) ?_
  refine .q (x := .d (cB (y3 && (y4 == ([105, 110, 118, 111, 105, 99, 101, 32, 50, 32, 55, 48, 48, 32, 53, 48, 48, 10] : List UInt8))))) (q_pickAndB rfl rfl rfl) rfl ?_
  refine .q (x := .d (cB (y3 && (y4 == ([105, 110, 118, 111, 105, 99, 101, 32, 50, 32, 55, 48, 48, 32, 53, 48, 48, 10] : List UInt8))))) (q_move rfl) rfl ?_
  refine .guardG (b := (y3 && (y4 == ([105, 110, 118, 111, 105, 99, 101, 32, 50, 32, 55, 48, 48, 32, 53, 48, 48, 10] : List UInt8)))) (x := .d (slOf 4 Leak.row y1)) (env' := [(1, _)]) rfl rfl rfl ⟨.inl rfl, trivial⟩ rfl (fun hg => OpQ.g (q_move rfl)) ?_
  obtain ⟨y5, hy5, H⟩ := bind_some' H
  refine .guardG (b := (y3 && (y4 == ([105, 110, 118, 111, 105, 99, 101, 32, 50, 32, 55, 48, 48, 32, 53, 48, 48, 10] : List UInt8)))) (x := .d (cS y5)) (env' := [(22, _)]) rfl rfl rfl ⟨.inr (.inl rfl), trivial⟩ rfl (fun hg => (g_call en_23 rfl rfl (c_f_assure_Text (gcall_some hy5 hg)))) ?_
  refine .guardG (b := (y3 && (y4 == ([105, 110, 118, 111, 105, 99, 101, 32, 50, 32, 55, 48, 48, 32, 53, 48, 48, 10] : List UInt8)))) (x := .d (cB (y5 == ([117, 115, 97, 103, 101, 32, 51, 32, 49, 32, 48, 10] : List UInt8)))) (env' := [(23, _)]) rfl rfl rfl ⟨.inr (.inl rfl), trivial⟩ rfl (fun hg => OpQ.g (q_seql rfl rfl)) ?_
  refine .q (x := .d (cB ((y3 && (y4 == ([105, 110, 118, 111, 105, 99, 101, 32, 50, 32, 55, 48, 48, 32, 53, 48, 48, 10] : List UInt8))) && (y5 == ([117, 115, 97, 103, 101, 32, 51, 32, 49, 32, 48, 10] : List UInt8))))) (q_pickAndB rfl rfl rfl) rfl ?_
  refine .q (x := .d (cB ((y3 && (y4 == ([105, 110, 118, 111, 105, 99, 101, 32, 50, 32, 55, 48, 48, 32, 53, 48, 48, 10] : List UInt8))) && (y5 == ([117, 115, 97, 103, 101, 32, 51, 32, 49, 32, 48, 10] : List UInt8))))) (q_move rfl) rfl ?_
  refine .guardG (b := ((y3 && (y4 == ([105, 110, 118, 111, 105, 99, 101, 32, 50, 32, 55, 48, 48, 32, 53, 48, 48, 10] : List UInt8))) && (y5 == ([117, 115, 97, 103, 101, 32, 51, 32, 49, 32, 48, 10] : List UInt8)))) (x := .d (.agg (Mediation.row (⟨(⟨([] : List Range), ([] : List Record), ([] : List Head)⟩ : Intake), ([] : List Usage), ([] : List Record), ([] : List Reject)⟩ : Mediation)))) (env' := []) rfl rfl rfl trivial rfl (fun hg => OpQ.g (OpQ.le (q_buildP pl_34 hi34 hz34 rfl rfl) (EVle.d (.agg ⟨.nil 3, .nil 12, .nil 4, .nil 12, .nil 12, .nil 4, trivial⟩)))) ?_
  obtain ⟨y6, hy6, H⟩ := bind_some' H
  refine .guardG (b := ((y3 && (y4 == ([105, 110, 118, 111, 105, 99, 101, 32, 50, 32, 55, 48, 48, 32, 53, 48, 48, 10] : List UInt8))) && (y5 == ([117, 115, 97, 103, 101, 32, 51, 32, 49, 32, 48, 10] : List UInt8)))) (x := .d (slOf 4 Leak.row y6)) (env' := [(27, _)]) rfl rfl rfl ⟨.inr (.inl rfl), trivial⟩ rfl (fun hg => (g_call en_14 rfl rfl (c_f_assure_Intake (gcall_some hy6 hg)))) ?_
  refine .guardG (b := ((y3 && (y4 == ([105, 110, 118, 111, 105, 99, 101, 32, 50, 32, 55, 48, 48, 32, 53, 48, 48, 10] : List UInt8))) && (y5 == ([117, 115, 97, 103, 101, 32, 51, 32, 49, 32, 48, 10] : List UInt8)))) (x := .d (cI (y6.length : Int))) (env' := [(28, _)]) rfl rfl rfl ⟨.inr (.inl rfl), trivial⟩ rfl (fun hg => OpQ.g (q_lenL (l := y6) (row := Leak.row) Try.underlying42 rfl rfl)) ?_
  refine .guardG (b := ((y3 && (y4 == ([105, 110, 118, 111, 105, 99, 101, 32, 50, 32, 55, 48, 48, 32, 53, 48, 48, 10] : List UInt8))) && (y5 == ([117, 115, 97, 103, 101, 32, 51, 32, 49, 32, 48, 10] : List UInt8)))) (x := .d (cB ((y6.length : Int) == 0))) (env' := [(29, _)]) rfl rfl rfl ⟨.inr (.inl rfl), trivial⟩ rfl (fun hg => OpQ.g (q_eql rfl rfl)) ?_
  refine .q (x := .d (cB (((y3 && (y4 == ([105, 110, 118, 111, 105, 99, 101, 32, 50, 32, 55, 48, 48, 32, 53, 48, 48, 10] : List UInt8))) && (y5 == ([117, 115, 97, 103, 101, 32, 51, 32, 49, 32, 48, 10] : List UInt8))) && ((y6.length : Int) == 0)))) (q_pickAndB rfl rfl rfl) rfl ?_
  refine .q (x := .d (cB (((y3 && (y4 == ([105, 110, 118, 111, 105, 99, 101, 32, 50, 32, 55, 48, 48, 32, 53, 48, 48, 10] : List UInt8))) && (y5 == ([117, 115, 97, 103, 101, 32, 51, 32, 49, 32, 48, 10] : List UInt8))) && ((y6.length : Int) == 0)))) (q_move rfl) rfl ?_
  refine .guardG (b := (((y3 && (y4 == ([105, 110, 118, 111, 105, 99, 101, 32, 50, 32, 55, 48, 48, 32, 53, 48, 48, 10] : List UInt8))) && (y5 == ([117, 115, 97, 103, 101, 32, 51, 32, 49, 32, 48, 10] : List UInt8))) && ((y6.length : Int) == 0))) (x := .d (.agg (Mediation.row (⟨(⟨([] : List Range), ([] : List Record), ([] : List Head)⟩ : Intake), ([] : List Usage), ([] : List Record), ([] : List Reject)⟩ : Mediation)))) (env' := []) rfl rfl rfl trivial rfl (fun hg => OpQ.g (OpQ.le (q_buildP pl_34 hi34 hz34 rfl rfl) (EVle.d (.agg ⟨.nil 3, .nil 12, .nil 4, .nil 12, .nil 12, .nil 4, trivial⟩)))) ?_
  obtain ⟨y7, hy7, H⟩ := bind_some' H
  refine .guardG (b := (((y3 && (y4 == ([105, 110, 118, 111, 105, 99, 101, 32, 50, 32, 55, 48, 48, 32, 53, 48, 48, 10] : List UInt8))) && (y5 == ([117, 115, 97, 103, 101, 32, 51, 32, 49, 32, 48, 10] : List UInt8))) && ((y6.length : Int) == 0))) (x := .d (slOf 4 Leak.row y7)) (env' := [(33, _)]) rfl rfl rfl ⟨.inr (.inl rfl), trivial⟩ rfl (fun hg => (g_call en_14 rfl rfl (c_f_assure_Intake (gcall_some hy7 hg)))) ?_
  refine .guardG (b := (((y3 && (y4 == ([105, 110, 118, 111, 105, 99, 101, 32, 50, 32, 55, 48, 48, 32, 53, 48, 48, 10] : List UInt8))) && (y5 == ([117, 115, 97, 103, 101, 32, 51, 32, 49, 32, 48, 10] : List UInt8))) && ((y6.length : Int) == 0))) (x := .d (cI (y7.length : Int))) (env' := [(34, _)]) rfl rfl rfl ⟨.inr (.inl rfl), trivial⟩ rfl (fun hg => OpQ.g (q_lenL (l := y7) (row := Leak.row) Try.underlying42 rfl rfl)) ?_
  refine .guardG (b := (((y3 && (y4 == ([105, 110, 118, 111, 105, 99, 101, 32, 50, 32, 55, 48, 48, 32, 53, 48, 48, 10] : List UInt8))) && (y5 == ([117, 115, 97, 103, 101, 32, 51, 32, 49, 32, 48, 10] : List UInt8))) && ((y6.length : Int) == 0))) (x := .d (cB ((y7.length : Int) == 1))) (env' := [(35, _)]) rfl rfl rfl ⟨.inr (.inl rfl), trivial⟩ rfl (fun hg => OpQ.g (q_eql rfl rfl)) ?_
  refine .q (x := .d (cB ((((y3 && (y4 == ([105, 110, 118, 111, 105, 99, 101, 32, 50, 32, 55, 48, 48, 32, 53, 48, 48, 10] : List UInt8))) && (y5 == ([117, 115, 97, 103, 101, 32, 51, 32, 49, 32, 48, 10] : List UInt8))) && ((y6.length : Int) == 0)) && ((y7.length : Int) == 1)))) (q_pickAndB rfl rfl rfl) rfl ?_
  refine .q (x := .d (cB ((((y3 && (y4 == ([105, 110, 118, 111, 105, 99, 101, 32, 50, 32, 55, 48, 48, 32, 53, 48, 48, 10] : List UInt8))) && (y5 == ([117, 115, 97, 103, 101, 32, 51, 32, 49, 32, 48, 10] : List UInt8))) && ((y6.length : Int) == 0)) && ((y7.length : Int) == 1)))) (q_assign rfl) rfl ?_
  refine .nil ?_
  refine .retN [.tmp 0] [.d (cB ((((y3 && (y4 == ([105, 110, 118, 111, 105, 99, 101, 32, 50, 32, 55, 48, 48, 32, 53, 48, 48, 10] : List UInt8))) && (y5 == ([117, 115, 97, 103, 101, 32, 51, 32, 49, 32, 48, 10] : List UInt8))) && ((y6.length : Int) == 0)) && ((y7.length : Int) == 1)))] Try.func10 Try.results10 ⟨rfl, trivial⟩ ?_
  cases H
  exact ⟨_, .rfl' _, rfl⟩

set_option maxRecDepth 100000 in
set_option maxHeartbeats 1000000 in
theorem c_f_billingref47_Clone {v0e : Entry} {r : Entry} (H : f_billingref47_Clone v0e = some r) : ACall Try.prog 42 [.agg (Entry.row v0e)] (· = .agg (Entry.row r)) := by
  obtain ⟨i78, hi78, hz78, hs78, hb78⟩ := in_78
  obtain ⟨i80, hi80, hz80, hs80, hb80⟩ := in_80
  refine ACall.enter' Try.func42 rfl Try.ntmps42 rfl fun S hS => ?_
  unfold f_billingref47_Clone at H
  change ARun _ _ _ _ _ _ [(0, .d (.agg (Entry.row v0e)))] _
  refine .seq ?_
  refine .region ?_
  refine .v (x := .ref 0 0) (v_box rfl rfl) rfl ?_
  refine .withSt (st' := ⟨[.row 78 [.d (cI v0e.at_), .d (cS v0e.text), .d (slOf 2 Post.row v0e.posts)]], []⟩) rfl ?_
  refine .v (x := .ref 1 0) (v_alloc zr_78 rfl) rfl ?_
  refine .withSt (st' := ⟨[.row 78 [.d (cI v0e.at_), .d (cS v0e.text), .d (slOf 2 Post.row v0e.posts)], .row 78 [.d (cI 0), .d (cS ([] : List UInt8)), .d (nilD)]], []⟩) rfl ?_
  refine .nil ?_
  refine .seq ?_
  refine .drawn 9 hMix (by kernel_rfl) ?_
  show DOps _ _ _ _ _ _ _ (_ :: _) _ _ _
  refine .q (x := .ref 0 0) (q_fieldRef fo_78_0 rfl) rfl ?_
  refine .q (x := .d (cI v0e.at_)) (q_loadO one_3 rfl rfl rfl) rfl ?_
  refine .q (x := .ref 0 1) (q_fieldRef fo_78_1 rfl) rfl ?_
  refine .q (x := .d (cS v0e.text)) (q_loadO one_9 rfl rfl rfl) rfl ?_
  refine .g (x := .d (.e0 2)) ((hs80 ▸ g_buildSlice0 Try.underlying76 hi80)) rfl ?_
  refine .q (x := .ref 0 2) (q_fieldRef fo_78_2 rfl) rfl ?_
  refine .q (x := .d (slOf 2 Post.row v0e.posts)) (q_loadO one_76 rfl rfl rfl) rfl ?_
  obtain ⟨hk1, H⟩ := ck_some H
  refine .g (x := .d (slOf 2 Post.row v0e.posts)) (g_append0L (l' := v0e.posts) (row := Post.row) Try.underlying76 hi80 hz80 hs80 rfl (by rw [hb80]; decide) rfl (.inl rfl) rfl rfl hk1) rfl ?_
  refine .q (x := .d (.agg (Entry.row v0e))) (q_buildP pl_78 hi78 hz78 rfl rfl) rfl ?_
  refine .nil ?_
  show AOps _ _ _ _ _ _ (_ :: _) _ _ _
  refine .u (u_store rfl rfl rfl rfl (Nat.le_of_ble_eq_true rfl) sz_78) rfl ?_
  refine .withSt (st' := ⟨[.row 78 [.d (cI v0e.at_), .d (cS v0e.text), .d (slOf 2 Post.row v0e.posts)], .row 78 [.d (cI v0e.at_), .d (cS v0e.text), .d (slOf 2 Post.row v0e.posts)]], []⟩) rfl ?_
  refine .nil ?_
  refine .retN [.cell 2 78] [.d (.agg (Entry.row v0e))] Try.func42 Try.results42 ⟨⟨⟨_, _, rfl⟩, q_loadOA one_78 sz_78 rfl rfl (Nat.le_of_ble_eq_true rfl) rfl⟩, trivial⟩ ?_
  cases H
  exact ⟨_, .rfl' _, rfl⟩

set_option maxRecDepth 100000 in
set_option maxHeartbeats 1000000 in
theorem c_f_billingref47_CloneAll {v0list : List Entry} {r : (List Entry)} (H : f_billingref47_CloneAll v0list = some r) : ACall Try.prog 26 [slOf 3 Entry.row v0list] (· = slOf 3 Entry.row r) := by
  obtain ⟨i78, hi78, hz78, hs78, hb78⟩ := in_78
  refine ACall.enter' Try.func26 rfl Try.ntmps26 rfl fun S hS => ?_
  unfold f_billingref47_CloneAll at H
  change ARun _ _ _ _ _ _ [(0, .d (slOf 3 Entry.row v0list))] _
  refine .seq ?_
  refine .region ?_
  refine .q (x := .d (nilD)) (q_assign rfl) rfl ?_
  refine .nil ?_
  refine .seq ?_
  refine .region ?_
  refine .v (x := .tsl 3 (([] : List Entry).map Entry.row) 0) (v_build0T Try.underlying70 hi78 hs78) rfl ?_
  refine .withSt (st' := ⟨[], [⟨78, 3, ([] : List Entry).length, none⟩]⟩) rfl ?_
  refine .q (x := .tsl 3 (([] : List Entry).map Entry.row) 0) (q_assign rfl) rfl ?_
  refine .nil ?_
  refine .seq ?_
  refine .seq ?_
  refine .region ?_
  refine .q (x := .d (cI 0)) (q_assign rfl) rfl ?_
  refine .nil ?_
  refine .block ?_
  obtain ⟨n1, H⟩ := loop_some H
  refine .withSt (st' := ⟨[], [⟨78, 3, ([] : List Entry).length, none⟩]⟩) rfl <| .loop (ι := Nat × (List Entry × Int)) (fun p => [(0, .d (slOf 3 Entry.row v0list)), (3, .tsl 3 (p.2.1.map Entry.row) 0), (4, .d (cI p.2.2))]) (fun p => ⟨[], [⟨78, 3, p.2.1.length, none⟩]⟩) (fun p => iter (fun s => f_billingref47_CloneAll_l1 v0list s.1 s.2) p.1 p.2 = some r) (·.1) (n1, (([] : List Entry), 0)) H (.cons rfl (.rfl' _) (.cons rfl (.rfl' _) (.cons rfl (.rfl' _) (.nil)))) rfl ?_
  rintro ⟨m1, v3outl1, v4il1⟩ HI ih1
  obtain ⟨n1, q1, hm1, H, HK1⟩ := iter_succ HI
  clear HI
  replace H : f_billingref47_CloneAll_l1 v0list v3outl1 v4il1 = some q1 := H
  unfold f_billingref47_CloneAll_l1 at H
  change ARun _ _ _ _ _ _ [(0, .d (slOf 3 Entry.row v0list)), (3, .tsl 3 (v3outl1.map Entry.row) 0), (4, .d (cI v4il1))] ⟨[], [⟨78, 3, v3outl1.length, none⟩]⟩
  refine .seq ?_
  refine .seq ?_
  refine .region ?_
  refine .q (x := .d (cI v4il1)) (q_move rfl) rfl ?_
  refine .q (x := .d (slOf 3 Entry.row v0list)) (q_move rfl) rfl ?_
  refine .q (x := .d (cI (v0list.length : Int))) (q_lenL (l := v0list) (row := Entry.row) Try.underlying70 rfl rfl) rfl ?_
  refine .q (x := .d (cB (decide (v4il1 < (v0list.length : Int))))) (q_lss rfl rfl) rfl ?_
  refine .nil ?_
  refine .cond rfl (fun hc => ?_) (fun hc => ?_)
  · replace H := ifT hc H; clear hc
    refine .skip ?_
    refine .seq ?_
    refine .block ?_
    refine .region ?_
    refine .q (x := .tsl 3 (v3outl1.map Entry.row) 0) (q_move rfl) rfl ?_
    refine .q (x := .d (slOf 3 Entry.row v0list)) (q_move rfl) rfl ?_
    refine .q (x := .d (cI v4il1)) (q_move rfl) rfl ?_
    obtain ⟨hk1, H⟩ := ck_some H
    refine .q (x := .d (.ro (Entry.row (nth v0list (Int.toNat (v4il1)))))) (q_idxL (row := Entry.row) (l := v0list) (i := v4il1) Try.underlying70 hi78 hs78 rfl rfl rfl hk1) rfl ?_
    refine .q (x := .d (.agg (Entry.row (nth v0list (Int.toNat (v4il1)))))) (q_loadAll one_78 sz_78 rfl rfl) rfl ?_
    obtain ⟨y1, hy1, H⟩ := bind_some' H
    refine .g (x := .d (.agg (Entry.row y1))) (g_call en_42 rfl rfl (c_f_billingref47_Clone (hy1))) rfl ?_
    refine .g (x := .d (slOf 3 Entry.row ([y1] : List Entry))) (g_buildSlice1 Try.underlying70 hi78 hs78 hz78 rfl rfl rfl rfl rfl) rfl ?_
    obtain ⟨hk2, H⟩ := ck_some H
    refine .v (x := .tsl 3 ((v3outl1 ++ ([y1] : List Entry)).map Entry.row) 0) (v_appendL (l := v3outl1) (l' := ([y1] : List Entry)) (row := Entry.row) Try.underlying70 hi78 hz78 hs78 rfl (by rw [hb78]; decide) rfl rfl rfl rfl hk2) rfl ?_
    refine .withSt (st' := ⟨[], [⟨78, 3, (v3outl1 ++ ([y1] : List Entry)).length, none⟩]⟩) rfl ?_
    refine .q (x := .tsl 3 ((v3outl1 ++ ([y1] : List Entry)).map Entry.row) 0) (q_assign rfl) rfl ?_
    refine .nil ?_
    refine .inBlock ?_
    refine .region ?_
    refine .q (x := .d (cI v4il1)) (q_move rfl) rfl ?_
    obtain ⟨hk3, H⟩ := ck_some H
    refine .q (x := .d (cI (v4il1 + 1))) (q_addI rfl rfl hk3.1 hk3.2) rfl ?_
    refine .q (x := .d (cI (v4il1 + 1))) (q_assign rfl) rfl ?_
    refine .nil ?_
    cases H
    exact .withSt (st' := ⟨[], [⟨78, 3, (v3outl1 ++ ([y1] : List Entry)).length, none⟩]⟩) rfl <| .sub (.cons rfl (.rfl' _) (.cons rfl (.rfl' _) (.cons rfl (.rfl' _) (.nil)))) (ih1 (n1, (v3outl1 ++ ([y1] : List Entry), v4il1 + 1)) HK1 hm1)
  · replace H := ifF hc H; clear hc
    refine .exit rfl ?_
    refine .seq ?_
    refine .region ?_
    refine .q (x := .tsl 3 (v3outl1.map Entry.row) 0) (q_move rfl) rfl ?_
    refine .q (x := .tsl 3 (v3outl1.map Entry.row) 0) (q_assign rfl) rfl ?_
    refine .nil ?_
    refine .retN [.tmp 2] [.tsl 3 (v3outl1.map Entry.row) 0] Try.func26 Try.results26 ⟨rfl, trivial⟩ ?_
    cases H
    cases HK1
    exact ⟨_, .tsl _ _ _, rfl⟩

set_option maxRecDepth 100000 in
set_option maxHeartbeats 1000000 in
theorem c_f_assure_Books {v0 : List Invoice} {v1 : List Entry} {r : (List Leak)} (H : f_assure_Books v0 v1 = some r) : ACall Try.prog 25 [slOf 8 Invoice.row v0, slOf 3 Entry.row v1] (· = slOf 4 Leak.row r) := by
  obtain ⟨i3, hi3, hz3, hs3, hb3⟩ := in_3
  obtain ⟨i60, hi60, hz60, hs60, hb60⟩ := in_60
  obtain ⟨i75, hi75, hz75, hs75, hb75⟩ := in_75
  obtain ⟨i78, hi78, hz78, hs78, hb78⟩ := in_78
  obtain ⟨i80, hi80, hz80, hs80, hb80⟩ := in_80
  refine ACall.enter' Try.func25 rfl Try.ntmps25 rfl fun S hS => ?_
  unfold f_assure_Books at H
  change ARun _ _ _ _ _ _ [(0, .d (slOf 8 Invoice.row v0)), (1, .d (slOf 3 Entry.row v1))] _
  refine .seq ?_
  refine .region ?_
  refine .q (x := .d (nilD)) (q_assign rfl) rfl ?_
  refine .nil ?_
  refine .seq ?_
  refine .region ?_
  refine .q (x := .d (nilD)) (q_assign rfl) rfl ?_
  refine .nil ?_
  refine .seq ?_
  refine .region ?_
  refine .v (x := .mp 0) (v_makeMap) rfl ?_
  refine .withSt (st' := ⟨[.map (mEnc (fun n => Value.int .i64 n) (fun x => cI x) ([] : List (Int × Int)))], []⟩) rfl ?_
  refine .v (x := .mp 1) (v_makeMap) rfl ?_
  refine .withSt (st' := ⟨[.map (mEnc (fun n => Value.int .i64 n) (fun x => cI x) ([] : List (Int × Int))), .map (mEnc (fun n => Value.int .i64 n) (fun x => cI x) ([] : List (Int × Int)))], []⟩) rfl ?_
  refine .q (x := .mp 0) (q_assign rfl) rfl ?_
  refine .q (x := .mp 1) (q_assign rfl) rfl ?_
  refine .nil ?_
  refine .seq ?_
  refine .region ?_
  refine .v (x := .mp 2) (v_makeMap) rfl ?_
  refine .withSt (st' := ⟨[.map (mEnc (fun n => Value.int .i64 n) (fun x => cI x) ([] : List (Int × Int))), .map (mEnc (fun n => Value.int .i64 n) (fun x => cI x) ([] : List (Int × Int))), .map (mEnc (fun s => Value.string ⟨s.toArray⟩) (fun x => cI x) ([] : List ((List UInt8) × Int)))], []⟩) rfl ?_
  refine .q (x := .mp 2) (q_assign rfl) rfl ?_
  refine .nil ?_
  refine .seq ?_
  refine .seq ?_
  refine .region ?_
  refine .q (x := .d (slOf 8 Invoice.row v0)) (q_move rfl) rfl ?_
  refine .q (x := .d (cI (v0.length : Int))) (q_lenL (l := v0) (row := Invoice.row) Try.underlying69 rfl rfl) rfl ?_
  refine .q (x := .d (cI 0)) (q_move rfl) rfl ?_
  refine .nil ?_
  refine .blockJoin2 (ι := List Int × (List (Int × Int)) × (List ((List UInt8) × Int))) (fun s => [(1, .d (slOf 3 Entry.row v1)), (5, .d (slOf 1 rI s.1)), (6, .mp 0), (7, .mp 1), (8, .mp 2)]) (fun s => ⟨[.map (mEnc (fun n => Value.int .i64 n) (fun x => cI x) s.2.1), .map (mEnc (fun n => Value.int .i64 n) (fun x => cI x) ([] : List (Int × Int))), .map (mEnc (fun s => Value.string ⟨s.toArray⟩) (fun x => cI x) s.2.2)], []⟩) (fun s => f_assure_Books_j1 v1 s.1 s.2.1 s.2.2 = some r) ?_ ?_
  · rintro ⟨v5j1, o0c0j1, o2c0j1⟩ H
    replace H : f_assure_Books_j1 v1 v5j1 o0c0j1 o2c0j1 = some r := H
    unfold f_assure_Books_j1 at H
    change ARun _ _ _ _ _ _ [(1, .d (slOf 3 Entry.row v1)), (5, .d (slOf 1 rI v5j1)), (6, .mp 0), (7, .mp 1), (8, .mp 2)] ⟨[.map (mEnc (fun n => Value.int .i64 n) (fun x => cI x) o0c0j1), .map (mEnc (fun n => Value.int .i64 n) (fun x => cI x) ([] : List (Int × Int))), .map (mEnc (fun s => Value.string ⟨s.toArray⟩) (fun x => cI x) o2c0j1)], []⟩
    refine .seq ?_
    refine .region ?_
    refine .q (x := .d (cI 0)) (q_assign rfl) rfl ?_
    refine .nil ?_
    refine .seq ?_
    refine .seq ?_
    refine .region ?_
    refine .q (x := .d (slOf 3 Entry.row v1)) (q_move rfl) rfl ?_
    refine .q (x := .d (cI (v1.length : Int))) (q_lenL (l := v1) (row := Entry.row) Try.underlying70 rfl rfl) rfl ?_
    refine .q (x := .d (cI 0)) (q_move rfl) rfl ?_
    refine .nil ?_
    refine .blockJoin2 (ι := Int × (List (Int × Int))) (fun s => [(5, .d (slOf 1 rI v5j1)), (6, .mp 0), (7, .mp 1), (11, .d (cI s.1))]) (fun s => ⟨[.map (mEnc (fun n => Value.int .i64 n) (fun x => cI x) o0c0j1), .map (mEnc (fun n => Value.int .i64 n) (fun x => cI x) s.2), .map (mEnc (fun s => Value.string ⟨s.toArray⟩) (fun x => cI x) o2c0j1)], []⟩) (fun s => f_assure_Books_j2 v5j1 o0c0j1 s.1 s.2 = some r) ?_ ?_
    · rintro ⟨v11j2, o1c0j2⟩ H
      replace H : f_assure_Books_j2 v5j1 o0c0j1 v11j2 o1c0j2 = some r := H
      unfold f_assure_Books_j2 at H
      change ARun _ _ _ _ _ _ [(5, .d (slOf 1 rI v5j1)), (6, .mp 0), (7, .mp 1), (11, .d (cI v11j2))] ⟨[.map (mEnc (fun n => Value.int .i64 n) (fun x => cI x) o0c0j1), .map (mEnc (fun n => Value.int .i64 n) (fun x => cI x) o1c0j2), .map (mEnc (fun s => Value.string ⟨s.toArray⟩) (fun x => cI x) o2c0j1)], []⟩
      refine .seq ?_
      refine .region ?_
      refine .q (x := .d (nilD)) (q_assign rfl) rfl ?_
      refine .nil ?_
      refine .tok (i := 18) (e := 60) (sz := 4) rfl ?_
      refine .withSt (st' := ⟨[.map (mEnc (fun n => Value.int .i64 n) (fun x => cI x) o0c0j1), .map (mEnc (fun n => Value.int .i64 n) (fun x => cI x) o1c0j2), .map (mEnc (fun s => Value.string ⟨s.toArray⟩) (fun x => cI x) o2c0j1)], [⟨60, 4, ([] : List Leak).length, none⟩]⟩) rfl ?_
      refine .seqJoin (ι := List Leak) (fun s => [(5, .d (slOf 1 rI v5j1)), (6, .mp 0), (7, .mp 1), (18, .tsl 4 (s.map Leak.row) 0)]) (fun s => ⟨[.map (mEnc (fun n => Value.int .i64 n) (fun x => cI x) o0c0j1), .map (mEnc (fun n => Value.int .i64 n) (fun x => cI x) o1c0j2), .map (mEnc (fun s => Value.string ⟨s.toArray⟩) (fun x => cI x) o2c0j1)], [⟨60, 4, s.length, none⟩]⟩) (fun s => f_assure_Books_j3 v5j1 o0c0j1 o1c0j2 s = some r) ?_ ?_
      · rintro v18j3 H
        replace H : f_assure_Books_j3 v5j1 o0c0j1 o1c0j2 v18j3 = some r := H
        unfold f_assure_Books_j3 at H
        change ARun _ _ _ _ _ _ [(5, .d (slOf 1 rI v5j1)), (6, .mp 0), (7, .mp 1), (18, .tsl 4 (v18j3.map Leak.row) 0)] ⟨[.map (mEnc (fun n => Value.int .i64 n) (fun x => cI x) o0c0j1), .map (mEnc (fun n => Value.int .i64 n) (fun x => cI x) o1c0j2), .map (mEnc (fun s => Value.string ⟨s.toArray⟩) (fun x => cI x) o2c0j1)], [⟨60, 4, v18j3.length, none⟩]⟩
        refine .seq ?_
        refine .region ?_
        refine .q (x := .tsl 4 (v18j3.map Leak.row) 0) (q_move rfl) rfl ?_
        refine .q (x := .d (slOf 1 rI v5j1)) (q_move rfl) rfl ?_
        refine .q (x := .mp 0) (q_move rfl) rfl ?_
        refine .q (x := .mp 1) (q_move rfl) rfl ?_
        obtain ⟨y1, hy1, H⟩ := bind_some' H
        refine .callF en_36 rfl [0, 1] [] (x := .d (slOf 4 Leak.row y1)) (st' := ⟨[.map (mEnc (fun n => Value.int .i64 n) (fun x => cI x) o0c0j1), .map (mEnc (fun n => Value.int .i64 n) (fun x => cI x) o1c0j2), .map (mEnc (fun s => Value.string ⟨s.toArray⟩) (fun x => cI x) o2c0j1)], [⟨60, 4, v18j3.length, none⟩]⟩) rfl (c_g_assure_differing (hy1)) ⟨.rfl' _, .rfl' _, .rfl' _, .rfl' _, trivial⟩ rfl (okCons okMap (okCons okMap rfl)) (by first | rfl | (simp only [List.map_cons, List.map_nil, renMap, renArr, mergeSt]; rfl)) rfl rfl (by first | rfl | (simp only [List.map_cons, List.map_nil, renMap, renArr, mergeSt]; rfl)) ?_
        refine .withSt (st' := ⟨[.map (mEnc (fun n => Value.int .i64 n) (fun x => cI x) o0c0j1), .map (mEnc (fun n => Value.int .i64 n) (fun x => cI x) o1c0j2), .map (mEnc (fun s => Value.string ⟨s.toArray⟩) (fun x => cI x) o2c0j1)], [⟨60, 4, v18j3.length, none⟩]⟩) rfl ?_
        obtain ⟨hk1, H⟩ := ck_some H
        refine .v (x := .tsl 4 ((v18j3 ++ y1).map Leak.row) 0) (v_appendL (l := v18j3) (l' := y1) (row := Leak.row) Try.underlying42 hi60 hz60 hs60 rfl (by rw [hb60]; decide) rfl rfl rfl rfl hk1) rfl ?_
        refine .withSt (st' := ⟨[.map (mEnc (fun n => Value.int .i64 n) (fun x => cI x) o0c0j1), .map (mEnc (fun n => Value.int .i64 n) (fun x => cI x) o1c0j2), .map (mEnc (fun s => Value.string ⟨s.toArray⟩) (fun x => cI x) o2c0j1)], [⟨60, 4, (v18j3 ++ y1).length, none⟩]⟩) rfl ?_
        refine .q (x := .tsl 4 ((v18j3 ++ y1).map Leak.row) 0) (q_assign rfl) rfl ?_
        refine .nil ?_
        refine .retN [.tmp 4] [.tsl 4 ((v18j3 ++ y1).map Leak.row) 0] Try.func25 Try.results25 ⟨rfl, trivial⟩ ?_
        cases H
        exact ⟨_, .tsl _ _ _, rfl⟩
      · intro hj3
        refine .seq ?_
        refine .region ?_
        refine .q (x := .d (cI v11j2)) (q_move rfl) rfl ?_
        refine .q (x := .d (cB (v11j2 != 0))) (q_neq rfl rfl) rfl ?_
        refine .nil ?_
        refine .cond rfl (fun hc => ?_) (fun hc => ?_)
        · replace H := ifT hc H; clear hc
          refine .region ?_
          refine .q (x := .tsl 4 (([] : List Leak).map Leak.row) 0) (q_move rfl) rfl ?_
          refine .q (x := .d (cI v11j2)) (q_move rfl) rfl ?_
          refine .q (x := .d (.agg (Leak.row (⟨6, 0, v11j2, 0⟩ : Leak)))) (q_buildP pl_60 hi60 hz60 rfl rfl) rfl ?_
          refine .g (x := .d (slOf 4 Leak.row ([(⟨6, 0, v11j2, 0⟩ : Leak)] : List Leak))) (g_buildSlice1 Try.underlying42 hi60 hs60 hz60 rfl rfl rfl rfl rfl) rfl ?_
          obtain ⟨hk2, H⟩ := ck_some H
          refine .v (x := .tsl 4 ((([] : List Leak) ++ ([(⟨6, 0, v11j2, 0⟩ : Leak)] : List Leak)).map Leak.row) 0) (v_appendL (l := ([] : List Leak)) (l' := ([(⟨6, 0, v11j2, 0⟩ : Leak)] : List Leak)) (row := Leak.row) Try.underlying42 hi60 hz60 hs60 rfl (by rw [hb60]; decide) rfl rfl rfl rfl hk2) rfl ?_
          refine .withSt (st' := ⟨[.map (mEnc (fun n => Value.int .i64 n) (fun x => cI x) o0c0j1), .map (mEnc (fun n => Value.int .i64 n) (fun x => cI x) o1c0j2), .map (mEnc (fun s => Value.string ⟨s.toArray⟩) (fun x => cI x) o2c0j1)], [⟨60, 4, (([] : List Leak) ++ ([(⟨6, 0, v11j2, 0⟩ : Leak)] : List Leak)).length, none⟩]⟩) rfl ?_
          refine .q (x := .tsl 4 ((([] : List Leak) ++ ([(⟨6, 0, v11j2, 0⟩ : Leak)] : List Leak)).map Leak.row) 0) (q_assign rfl) rfl ?_
          refine .nil ?_
          exact .withSt (st' := ⟨[.map (mEnc (fun n => Value.int .i64 n) (fun x => cI x) o0c0j1), .map (mEnc (fun n => Value.int .i64 n) (fun x => cI x) o1c0j2), .map (mEnc (fun s => Value.string ⟨s.toArray⟩) (fun x => cI x) o2c0j1)], [⟨60, 4, (([] : List Leak) ++ ([(⟨6, 0, v11j2, 0⟩ : Leak)] : List Leak)).length, none⟩]⟩) rfl <| .sub (.cons rfl (.rfl' _) (.cons rfl (.rfl' _) (.cons rfl (.rfl' _) (.cons rfl (.rfl' _) (.nil))))) (hj3 (([] : List Leak) ++ ([(⟨6, 0, v11j2, 0⟩ : Leak)] : List Leak)) H)
        · replace H := ifF hc H; clear hc
          refine .skip ?_
          exact .withSt (st' := ⟨[.map (mEnc (fun n => Value.int .i64 n) (fun x => cI x) o0c0j1), .map (mEnc (fun n => Value.int .i64 n) (fun x => cI x) o1c0j2), .map (mEnc (fun s => Value.string ⟨s.toArray⟩) (fun x => cI x) o2c0j1)], [⟨60, 4, ([] : List Leak).length, none⟩]⟩) rfl <| .sub (.cons rfl (.rfl' _) (.cons rfl (.rfl' _) (.cons rfl (.rfl' _) (.cons rfl (.rfl' _) (.nil))))) (hj3 ([] : List Leak) H)
    · intro hj2 hj2x
      obtain ⟨n1, H⟩ := loop_some H
      refine .withSt (st' := ⟨[.map (mEnc (fun n => Value.int .i64 n) (fun x => cI x) o0c0j1), .map (mEnc (fun n => Value.int .i64 n) (fun x => cI x) ([] : List (Int × Int))), .map (mEnc (fun s => Value.string ⟨s.toArray⟩) (fun x => cI x) o2c0j1)], []⟩) rfl <| .loop (ι := Nat × (Int × Int × (List (Int × Int)))) (fun p => [(5, .d (slOf 1 rI v5j1)), (6, .mp 0), (7, .mp 1), (8, .mp 2), (11, .d (cI p.2.1)), (47, .d (slOf 3 Entry.row v1)), (48, .d (cI (v1.length : Int))), (49, .d (cI p.2.2.1))]) (fun p => ⟨[.map (mEnc (fun n => Value.int .i64 n) (fun x => cI x) o0c0j1), .map (mEnc (fun n => Value.int .i64 n) (fun x => cI x) p.2.2.2), .map (mEnc (fun s => Value.string ⟨s.toArray⟩) (fun x => cI x) o2c0j1)], []⟩) (fun p => iter (fun s => f_assure_Books_l1 v1 v5j1 o0c0j1 o2c0j1 s.1 s.2.1 s.2.2) p.1 p.2 = some r) (·.1) (n1, (0, 0, ([] : List (Int × Int)))) H (.cons rfl (.rfl' _) (.cons rfl (.rfl' _) (.cons rfl (.rfl' _) (.cons rfl (.rfl' _) (.cons rfl (.rfl' _) (.cons rfl (.rfl' _) (.cons rfl (.rfl' _) (.cons rfl (.rfl' _) (.nil))))))))) rfl ?_
      rintro ⟨m1, v11l1, v49l1, o1c0l1⟩ HI ih1
      obtain ⟨n1, q1, hm1, H, HK1⟩ := iter_succ HI
      clear HI
      replace H : f_assure_Books_l1 v1 v5j1 o0c0j1 o2c0j1 v11l1 v49l1 o1c0l1 = some q1 := H
      unfold f_assure_Books_l1 at H
      change ARun _ _ _ _ _ _ [(5, .d (slOf 1 rI v5j1)), (6, .mp 0), (7, .mp 1), (8, .mp 2), (11, .d (cI v11l1)), (47, .d (slOf 3 Entry.row v1)), (48, .d (cI (v1.length : Int))), (49, .d (cI v49l1))] ⟨[.map (mEnc (fun n => Value.int .i64 n) (fun x => cI x) o0c0j1), .map (mEnc (fun n => Value.int .i64 n) (fun x => cI x) o1c0l1), .map (mEnc (fun s => Value.string ⟨s.toArray⟩) (fun x => cI x) o2c0j1)], []⟩
      refine .seq ?_
      refine .region ?_
      refine .q (x := .d (cB (decide (v49l1 < (v1.length : Int))))) (q_lss rfl rfl) rfl ?_
      refine .nil ?_
      refine .seq ?_
      refine .cond rfl (fun hc => ?_) (fun hc => ?_)
      · replace H := ifT hc H; clear hc
        refine .skip ?_
        refine .seq ?_
        refine .block ?_
        refine .seq ?_
        refine .region ?_
        obtain ⟨hk3, H⟩ := ck_some H
        refine .q (x := .d (.ro (Entry.row (nth v1 (Int.toNat (v49l1)))))) (q_idxL (row := Entry.row) (l := v1) (i := v49l1) Try.underlying70 hi78 hs78 rfl rfl rfl hk3) rfl ?_
        refine .q (x := .d (.agg (Entry.row (nth v1 (Int.toNat (v49l1)))))) (q_loadAll one_78 sz_78 rfl rfl) rfl ?_
        refine .v (x := .ref 3 0) (v_alloc zr_78 rfl) rfl ?_
        refine .withSt (st' := ⟨[.map (mEnc (fun n => Value.int .i64 n) (fun x => cI x) o0c0j1), .map (mEnc (fun n => Value.int .i64 n) (fun x => cI x) o1c0l1), .map (mEnc (fun s => Value.string ⟨s.toArray⟩) (fun x => cI x) o2c0j1), .row 78 [.d (cI 0), .d (cS ([] : List UInt8)), .d (nilD)]], []⟩) rfl ?_
        refine .u (u_store rfl rfl rfl rfl (Nat.le_of_ble_eq_true rfl) sz_78) rfl ?_
        refine .withSt (st' := ⟨[.map (mEnc (fun n => Value.int .i64 n) (fun x => cI x) o0c0j1), .map (mEnc (fun n => Value.int .i64 n) (fun x => cI x) o1c0l1), .map (mEnc (fun s => Value.string ⟨s.toArray⟩) (fun x => cI x) o2c0j1), .row 78 [.d (cI ((nth v1 (Int.toNat (v49l1))).at_)), .d (cS ((nth v1 (Int.toNat (v49l1))).text)), .d (slOf 2 Post.row ((nth v1 (Int.toNat (v49l1))).posts))]], []⟩) rfl ?_
        refine .nil ?_
        refine .seq ?_
        refine .region ?_
        refine .q (x := .ref 3 2) (q_fieldRef fo_78_2 rfl) rfl ?_
        refine .q (x := .d (slOf 2 Post.row ((nth v1 (Int.toNat (v49l1))).posts))) (q_loadO one_76 rfl rfl rfl) rfl ?_
        refine .q (x := .d (cI (((nth v1 (Int.toNat (v49l1))).posts).length : Int))) (q_lenL (l := (nth v1 (Int.toNat (v49l1))).posts) (row := Post.row) Try.underlying76 rfl rfl) rfl ?_
        refine .q (x := .d (cI 0)) (q_move rfl) rfl ?_
        refine .nil ?_
        refine .block ?_
        obtain ⟨n2, H⟩ := loop_some H
        refine .withSt (st' := ⟨[.map (mEnc (fun n => Value.int .i64 n) (fun x => cI x) o0c0j1), .map (mEnc (fun n => Value.int .i64 n) (fun x => cI x) o1c0l1), .map (mEnc (fun s => Value.string ⟨s.toArray⟩) (fun x => cI x) o2c0j1), .row 78 [.d (cI ((nth v1 (Int.toNat (v49l1))).at_)), .d (cS ((nth v1 (Int.toNat (v49l1))).text)), .d (slOf 2 Post.row ((nth v1 (Int.toNat (v49l1))).posts))]], []⟩) rfl <| .loop (ι := Nat × (Int × Int × (List (Int × Int)))) (fun p => [(5, .d (slOf 1 rI v5j1)), (6, .mp 0), (7, .mp 1), (8, .mp 2), (11, .d (cI p.2.1)), (13, .ref 3 0), (47, .d (slOf 3 Entry.row v1)), (48, .d (cI (v1.length : Int))), (49, .d (cI v49l1)), (54, .d (slOf 2 Post.row ((nth v1 (Int.toNat (v49l1))).posts))), (55, .d (cI (((nth v1 (Int.toNat (v49l1))).posts).length : Int))), (56, .d (cI p.2.2.1))]) (fun p => ⟨[.map (mEnc (fun n => Value.int .i64 n) (fun x => cI x) o0c0j1), .map (mEnc (fun n => Value.int .i64 n) (fun x => cI x) p.2.2.2), .map (mEnc (fun s => Value.string ⟨s.toArray⟩) (fun x => cI x) o2c0j1), .row 78 [.d (cI ((nth v1 (Int.toNat (v49l1))).at_)), .d (cS ((nth v1 (Int.toNat (v49l1))).text)), .d (slOf 2 Post.row ((nth v1 (Int.toNat (v49l1))).posts))]], []⟩) (fun p => iter (fun s => f_assure_Books_l2 v1 o2c0j1 v49l1 s.1 s.2.1 s.2.2) p.1 p.2 = some q1) (·.1) (n2, (v11l1, 0, o1c0l1)) H (.cons rfl (.rfl' _) (.cons rfl (.rfl' _) (.cons rfl (.rfl' _) (.cons rfl (.rfl' _) (.cons rfl (.rfl' _) (.cons rfl (.rfl' _) (.cons rfl (.rfl' _) (.cons rfl (.rfl' _) (.cons rfl (.rfl' _) (.cons rfl (.rfl' _) (.cons rfl (.rfl' _) (.cons rfl (.rfl' _) (.nil))))))))))))) rfl ?_
        rintro ⟨m2, v11l2, v56l2, o1c0l2⟩ HI ih2
        obtain ⟨n2, q2, hm2, H, HK2⟩ := iter_succ HI
        clear HI
        replace H : f_assure_Books_l2 v1 o2c0j1 v49l1 v11l2 v56l2 o1c0l2 = some q2 := H
        unfold f_assure_Books_l2 at H
        change ARun _ _ _ _ _ _ [(5, .d (slOf 1 rI v5j1)), (6, .mp 0), (7, .mp 1), (8, .mp 2), (11, .d (cI v11l2)), (13, .ref 3 0), (47, .d (slOf 3 Entry.row v1)), (48, .d (cI (v1.length : Int))), (49, .d (cI v49l1)), (54, .d (slOf 2 Post.row ((nth v1 (Int.toNat (v49l1))).posts))), (55, .d (cI (((nth v1 (Int.toNat (v49l1))).posts).length : Int))), (56, .d (cI v56l2))] ⟨[.map (mEnc (fun n => Value.int .i64 n) (fun x => cI x) o0c0j1), .map (mEnc (fun n => Value.int .i64 n) (fun x => cI x) o1c0l2), .map (mEnc (fun s => Value.string ⟨s.toArray⟩) (fun x => cI x) o2c0j1), .row 78 [.d (cI ((nth v1 (Int.toNat (v49l1))).at_)), .d (cS ((nth v1 (Int.toNat (v49l1))).text)), .d (slOf 2 Post.row ((nth v1 (Int.toNat (v49l1))).posts))]], []⟩
        refine .seq ?_
        refine .region ?_
        refine .q (x := .d (cB (decide (v56l2 < (((nth v1 (Int.toNat (v49l1))).posts).length : Int))))) (q_lss rfl rfl) rfl ?_
        refine .nil ?_
        refine .seq ?_
        refine .cond rfl (fun hc => ?_) (fun hc => ?_)
        · replace H := ifT hc H; clear hc
          refine .skip ?_
          refine .seq ?_
          refine .block ?_
          refine .seq ?_
          refine .region ?_
          obtain ⟨hk4, H⟩ := ck_some H
          refine .q (x := .d (.ro (Post.row (nth ((nth v1 (Int.toNat (v49l1))).posts) (Int.toNat (v56l2)))))) (q_idxL (row := Post.row) (l := (nth v1 (Int.toNat (v49l1))).posts) (i := v56l2) Try.underlying76 hi80 hs80 rfl rfl rfl hk4) rfl ?_
          refine .q (x := .d (.agg (Post.row (nth ((nth v1 (Int.toNat (v49l1))).posts) (Int.toNat (v56l2)))))) (q_loadAll one_80 sz_80 rfl rfl) rfl ?_
          refine .v (x := .ref 4 0) (v_alloc zr_80 rfl) rfl ?_
          refine .withSt (st' := ⟨[.map (mEnc (fun n => Value.int .i64 n) (fun x => cI x) o0c0j1), .map (mEnc (fun n => Value.int .i64 n) (fun x => cI x) o1c0l2), .map (mEnc (fun s => Value.string ⟨s.toArray⟩) (fun x => cI x) o2c0j1), .row 78 [.d (cI ((nth v1 (Int.toNat (v49l1))).at_)), .d (cS ((nth v1 (Int.toNat (v49l1))).text)), .d (slOf 2 Post.row ((nth v1 (Int.toNat (v49l1))).posts))], .row 80 [.d (cS ([] : List UInt8)), .d (cI 0)]], []⟩) rfl ?_
          refine .u (u_store rfl rfl rfl rfl (Nat.le_of_ble_eq_true rfl) sz_80) rfl ?_
          refine .withSt (st' := ⟨[.map (mEnc (fun n => Value.int .i64 n) (fun x => cI x) o0c0j1), .map (mEnc (fun n => Value.int .i64 n) (fun x => cI x) o1c0l2), .map (mEnc (fun s => Value.string ⟨s.toArray⟩) (fun x => cI x) o2c0j1), .row 78 [.d (cI ((nth v1 (Int.toNat (v49l1))).at_)), .d (cS ((nth v1 (Int.toNat (v49l1))).text)), .d (slOf 2 Post.row ((nth v1 (Int.toNat (v49l1))).posts))], .row 80 [.d (cS ((nth ((nth v1 (Int.toNat (v49l1))).posts) (Int.toNat (v56l2))).account)), .d (cI ((nth ((nth v1 (Int.toNat (v49l1))).posts) (Int.toNat (v56l2))).amount))]], []⟩) rfl ?_
          refine .nil ?_
          refine .seq ?_
          refine .region ?_
          refine .q (x := .d (cI v11l2)) (q_move rfl) rfl ?_
          refine .q (x := .ref 4 1) (q_fieldRef fo_80_1 rfl) rfl ?_
          refine .q (x := .d (cI ((nth ((nth v1 (Int.toNat (v49l1))).posts) (Int.toNat (v56l2))).amount))) (q_loadO one_3 rfl rfl rfl) rfl ?_
          obtain ⟨hk5, H⟩ := ck_some H
          refine .q (x := .d (cI (v11l2 + ((nth ((nth v1 (Int.toNat (v49l1))).posts) (Int.toNat (v56l2))).amount)))) (q_addI rfl rfl hk5.1 hk5.2) rfl ?_
          refine .q (x := .d (cI (v11l2 + ((nth ((nth v1 (Int.toNat (v49l1))).posts) (Int.toNat (v56l2))).amount)))) (q_assign rfl) rfl ?_
          refine .nil ?_
          refine .seq ?_
          refine .region ?_
          refine .q (x := .mp 2) (q_move rfl) rfl ?_
          refine .q (x := .ref 4 0) (q_fieldRef fo_80_0 rfl) rfl ?_
          refine .q (x := .d (cS ((nth ((nth v1 (Int.toNat (v49l1))).posts) (Int.toNat (v56l2))).account))) (q_loadO one_9 rfl rfl rfl) rfl ?_
          refine .q (x := .d (.tup [cI ((alook o2c0j1 ((nth ((nth v1 (Int.toNat (v49l1))).posts) (Int.toNat (v56l2))).account)).getD 0), cB ((alook o2c0j1 ((nth ((nth v1 (Int.toNat (v49l1))).posts) (Int.toNat (v56l2))).account)).isSome)])) (q_lookupOk (strKeys Try.underlying9) (l := o2c0j1) (val := (fun x => cI x)) (k := (nth ((nth v1 (Int.toNat (v49l1))).posts) (Int.toNat (v56l2))).account) (a0 := 0) Try.underlying108 hi3 hz3 rfl rfl rfl rfl) rfl ?_
          refine .q (x := .d (.tup [cI ((alook o2c0j1 ((nth ((nth v1 (Int.toNat (v49l1))).posts) (Int.toNat (v56l2))).account)).getD 0), cB ((alook o2c0j1 ((nth ((nth v1 (Int.toNat (v49l1))).posts) (Int.toNat (v56l2))).account)).isSome)])) (q_move rfl) rfl ?_
          refine .q (x := .d (cI ((alook o2c0j1 ((nth ((nth v1 (Int.toNat (v49l1))).posts) (Int.toNat (v56l2))).account)).getD 0))) (q_extract rfl rfl) rfl ?_
          refine .q (x := .d (cB ((alook o2c0j1 ((nth ((nth v1 (Int.toNat (v49l1))).posts) (Int.toNat (v56l2))).account)).isSome))) (q_extract rfl rfl) rfl ?_
          refine .q (x := .d (cI ((alook o2c0j1 ((nth ((nth v1 (Int.toNat (v49l1))).posts) (Int.toNat (v56l2))).account)).getD 0))) (q_assign rfl) rfl ?_
          refine .q (x := .d (cB ((alook o2c0j1 ((nth ((nth v1 (Int.toNat (v49l1))).posts) (Int.toNat (v56l2))).account)).isSome))) (q_assign rfl) rfl ?_
          refine .nil ?_
          refine .seq ?_
          refine .region ?_
          refine .q (x := .d (cB ((alook o2c0j1 ((nth ((nth v1 (Int.toNat (v49l1))).posts) (Int.toNat (v56l2))).account)).isSome))) (q_move rfl) rfl ?_
          refine .q (x := .d (cB ((alook o2c0j1 ((nth ((nth v1 (Int.toNat (v49l1))).posts) (Int.toNat (v56l2))).account)).isSome))) (q_move rfl) rfl ?_
          refine .guardG (b := (alook o2c0j1 ((nth ((nth v1 (Int.toNat (v49l1))).posts) (Int.toNat (v56l2))).account)).isSome) (x := .ref 3 1) (env' := [(13, _)]) rfl rfl rfl ⟨.inl rfl, trivial⟩ rfl (fun hg => OpQ.g (q_fieldRef fo_78_1 rfl)) ?_
          refine .guardG (b := (alook o2c0j1 ((nth ((nth v1 (Int.toNat (v49l1))).posts) (Int.toNat (v56l2))).account)).isSome) (x := .d (cS ((nth v1 (Int.toNat (v49l1))).text))) (env' := [(73, _)]) rfl rfl rfl ⟨.inr (.inl rfl), trivial⟩ rfl (fun hg => OpQ.g (q_loadO one_9 rfl rfl rfl)) ?_
          refine .guardG (b := (alook o2c0j1 ((nth ((nth v1 (Int.toNat (v49l1))).posts) (Int.toNat (v56l2))).account)).isSome) (x := .d (cB (((nth v1 (Int.toNat (v49l1))).text) == ([105, 110, 118, 111, 105, 99, 101] : List UInt8)))) (env' := [(74, _)]) rfl rfl rfl ⟨.inr (.inl rfl), trivial⟩ rfl (fun hg => OpQ.g (q_seql rfl rfl)) ?_
          refine .q (x := .d (cB (((alook o2c0j1 ((nth ((nth v1 (Int.toNat (v49l1))).posts) (Int.toNat (v56l2))).account)).isSome) && (((nth v1 (Int.toNat (v49l1))).text) == ([105, 110, 118, 111, 105, 99, 101] : List UInt8))))) (q_pickAndB rfl rfl rfl) rfl ?_
          refine .nil ?_
          refine .cond rfl (fun hc => ?_) (fun hc => ?_)
          · replace H := ifT hc H; clear hc
            refine .region ?_
            refine .q (x := .mp 1) (q_move rfl) rfl ?_
            refine .q (x := .d (cI ((alook o2c0j1 ((nth ((nth v1 (Int.toNat (v49l1))).posts) (Int.toNat (v56l2))).account)).getD 0))) (q_move rfl) rfl ?_
            refine .q (x := .d (cI ((alook o1c0l2 ((alook o2c0j1 ((nth ((nth v1 (Int.toNat (v49l1))).posts) (Int.toNat (v56l2))).account)).getD 0)).getD 0))) (q_lookup (intKeys Try.underlying3) (l := o1c0l2) (val := (fun x => cI x)) (k := (alook o2c0j1 ((nth ((nth v1 (Int.toNat (v49l1))).posts) (Int.toNat (v56l2))).account)).getD 0) (a0 := 0) Try.underlying101 hi3 hz3 rfl rfl rfl rfl) rfl ?_
            refine .q (x := .ref 4 1) (q_fieldRef fo_80_1 rfl) rfl ?_
            refine .q (x := .d (cI ((nth ((nth v1 (Int.toNat (v49l1))).posts) (Int.toNat (v56l2))).amount))) (q_loadO one_3 rfl rfl rfl) rfl ?_
            obtain ⟨hk6, H⟩ := ck_some H
            refine .q (x := .d (cI (((alook o1c0l2 ((alook o2c0j1 ((nth ((nth v1 (Int.toNat (v49l1))).posts) (Int.toNat (v56l2))).account)).getD 0)).getD 0) + ((nth ((nth v1 (Int.toNat (v49l1))).posts) (Int.toNat (v56l2))).amount)))) (q_addI rfl rfl hk6.1 hk6.2) rfl ?_
            refine .u (u_mapUpdate (intKeys Try.underlying3) (l := o1c0l2) (val := (fun x => cI x)) (k := (alook o2c0j1 ((nth ((nth v1 (Int.toNat (v49l1))).posts) (Int.toNat (v56l2))).account)).getD 0) (a := ((alook o1c0l2 ((alook o2c0j1 ((nth ((nth v1 (Int.toNat (v49l1))).posts) (Int.toNat (v56l2))).account)).getD 0)).getD 0) + ((nth ((nth v1 (Int.toNat (v49l1))).posts) (Int.toNat (v56l2))).amount)) Try.underlying101 rfl rfl rfl rfl rfl) rfl ?_
            refine .withSt (st' := ⟨[.map (mEnc (fun n => Value.int .i64 n) (fun x => cI x) o0c0j1), .map (mEnc (fun n => Value.int .i64 n) (fun x => cI x) (aset o1c0l2 ((alook o2c0j1 ((nth ((nth v1 (Int.toNat (v49l1))).posts) (Int.toNat (v56l2))).account)).getD 0) (((alook o1c0l2 ((alook o2c0j1 ((nth ((nth v1 (Int.toNat (v49l1))).posts) (Int.toNat (v56l2))).account)).getD 0)).getD 0) + ((nth ((nth v1 (Int.toNat (v49l1))).posts) (Int.toNat (v56l2))).amount)))), .map (mEnc (fun s => Value.string ⟨s.toArray⟩) (fun x => cI x) o2c0j1), .row 78 [.d (cI ((nth v1 (Int.toNat (v49l1))).at_)), .d (cS ((nth v1 (Int.toNat (v49l1))).text)), .d (slOf 2 Post.row ((nth v1 (Int.toNat (v49l1))).posts))], .row 80 [.d (cS ((nth ((nth v1 (Int.toNat (v49l1))).posts) (Int.toNat (v56l2))).account)), .d (cI ((nth ((nth v1 (Int.toNat (v49l1))).posts) (Int.toNat (v56l2))).amount))]], []⟩) rfl ?_
            refine .nil ?_
            refine .inBlock ?_
            refine .region ?_
            obtain ⟨hk7, H⟩ := ck_some H
            refine .q (x := .d (cI (v56l2 + 1))) (q_addI rfl rfl hk7.1 hk7.2) rfl ?_
            refine .q (x := .d (cI (v56l2 + 1))) (q_move rfl) rfl ?_
            refine .nil ?_
            cases H
            exact .to 4 0 (env' := [(5, .d (slOf 1 rI v5j1)), (6, .mp 0), (7, .mp 1), (8, .mp 2), (11, .d (cI (v11l2 + ((nth ((nth v1 (Int.toNat (v49l1))).posts) (Int.toNat (v56l2))).amount)))), (13, .ref 3 0), (47, .d (slOf 3 Entry.row v1)), (48, .d (cI (v1.length : Int))), (49, .d (cI v49l1)), (54, .d (slOf 2 Post.row ((nth v1 (Int.toNat (v49l1))).posts))), (55, .d (cI (((nth v1 (Int.toNat (v49l1))).posts).length : Int))), (56, .d (cI (v56l2 + 1)))]) (st' := ⟨[.map (mEnc (fun n => Value.int .i64 n) (fun x => cI x) o0c0j1), .map (mEnc (fun n => Value.int .i64 n) (fun x => cI x) (aset o1c0l2 ((alook o2c0j1 ((nth ((nth v1 (Int.toNat (v49l1))).posts) (Int.toNat (v56l2))).account)).getD 0) (((alook o1c0l2 ((alook o2c0j1 ((nth ((nth v1 (Int.toNat (v49l1))).posts) (Int.toNat (v56l2))).account)).getD 0)).getD 0) + ((nth ((nth v1 (Int.toNat (v49l1))).posts) (Int.toNat (v56l2))).amount)))), .map (mEnc (fun s => Value.string ⟨s.toArray⟩) (fun x => cI x) o2c0j1), .row 78 [.d (cI ((nth v1 (Int.toNat (v49l1))).at_)), .d (cS ((nth v1 (Int.toNat (v49l1))).text)), .d (slOf 2 Post.row ((nth v1 (Int.toNat (v49l1))).posts))]], []⟩) (.cons rfl (.rfl' _) (.cons rfl (.rfl' _) (.cons rfl (.rfl' _) (.cons rfl (.rfl' _) (.cons rfl (.rfl' _) (.cons rfl (.rfl' _) (.cons rfl (.rfl' _) (.cons rfl (.rfl' _) (.cons rfl (.rfl' _) (.cons rfl (.rfl' _) (.cons rfl (.rfl' _) (.cons rfl (.rfl' _) (.nil))))))))))))) rfl rfl rfl rfl (okBoth rfl (okCons okMap (okCons okMap (okCons okMap (okCons rfl rfl))))) (by rw [hS]; exact Nat.le_of_ble_eq_true rfl) (by rw [hS]; exact Nat.le_of_ble_eq_true rfl) <| .sub (.cons rfl (.rfl' _) (.cons rfl (.rfl' _) (.cons rfl (.rfl' _) (.cons rfl (.rfl' _) (.cons rfl (.rfl' _) (.cons rfl (.rfl' _) (.cons rfl (.rfl' _) (.cons rfl (.rfl' _) (.cons rfl (.rfl' _) (.cons rfl (.rfl' _) (.cons rfl (.rfl' _) (.cons rfl (.rfl' _) (.nil))))))))))))) (ih2 (n2, (v11l2 + ((nth ((nth v1 (Int.toNat (v49l1))).posts) (Int.toNat (v56l2))).amount), v56l2 + 1, aset o1c0l2 ((alook o2c0j1 ((nth ((nth v1 (Int.toNat (v49l1))).posts) (Int.toNat (v56l2))).account)).getD 0) (((alook o1c0l2 ((alook o2c0j1 ((nth ((nth v1 (Int.toNat (v49l1))).posts) (Int.toNat (v56l2))).account)).getD 0)).getD 0) + ((nth ((nth v1 (Int.toNat (v49l1))).posts) (Int.toNat (v56l2))).amount)))) HK2 hm2)
          · replace H := ifF hc H; clear hc
            refine .skip ?_
            refine .inBlock ?_
            refine .region ?_
            obtain ⟨hk8, H⟩ := ck_some H
            refine .q (x := .d (cI (v56l2 + 1))) (q_addI rfl rfl hk8.1 hk8.2) rfl ?_
            refine .q (x := .d (cI (v56l2 + 1))) (q_move rfl) rfl ?_
            refine .nil ?_
            cases H
            exact .to 4 0 (env' := [(5, .d (slOf 1 rI v5j1)), (6, .mp 0), (7, .mp 1), (8, .mp 2), (11, .d (cI (v11l2 + ((nth ((nth v1 (Int.toNat (v49l1))).posts) (Int.toNat (v56l2))).amount)))), (13, .ref 3 0), (47, .d (slOf 3 Entry.row v1)), (48, .d (cI (v1.length : Int))), (49, .d (cI v49l1)), (54, .d (slOf 2 Post.row ((nth v1 (Int.toNat (v49l1))).posts))), (55, .d (cI (((nth v1 (Int.toNat (v49l1))).posts).length : Int))), (56, .d (cI (v56l2 + 1)))]) (st' := ⟨[.map (mEnc (fun n => Value.int .i64 n) (fun x => cI x) o0c0j1), .map (mEnc (fun n => Value.int .i64 n) (fun x => cI x) o1c0l2), .map (mEnc (fun s => Value.string ⟨s.toArray⟩) (fun x => cI x) o2c0j1), .row 78 [.d (cI ((nth v1 (Int.toNat (v49l1))).at_)), .d (cS ((nth v1 (Int.toNat (v49l1))).text)), .d (slOf 2 Post.row ((nth v1 (Int.toNat (v49l1))).posts))]], []⟩) (.cons rfl (.rfl' _) (.cons rfl (.rfl' _) (.cons rfl (.rfl' _) (.cons rfl (.rfl' _) (.cons rfl (.rfl' _) (.cons rfl (.rfl' _) (.cons rfl (.rfl' _) (.cons rfl (.rfl' _) (.cons rfl (.rfl' _) (.cons rfl (.rfl' _) (.cons rfl (.rfl' _) (.cons rfl (.rfl' _) (.nil))))))))))))) rfl rfl rfl rfl (okBoth rfl (okCons okMap (okCons okMap (okCons okMap (okCons rfl rfl))))) (by rw [hS]; exact Nat.le_of_ble_eq_true rfl) (by rw [hS]; exact Nat.le_of_ble_eq_true rfl) <| .sub (.cons rfl (.rfl' _) (.cons rfl (.rfl' _) (.cons rfl (.rfl' _) (.cons rfl (.rfl' _) (.cons rfl (.rfl' _) (.cons rfl (.rfl' _) (.cons rfl (.rfl' _) (.cons rfl (.rfl' _) (.cons rfl (.rfl' _) (.cons rfl (.rfl' _) (.cons rfl (.rfl' _) (.cons rfl (.rfl' _) (.nil))))))))))))) (ih2 (n2, (v11l2 + ((nth ((nth v1 (Int.toNat (v49l1))).posts) (Int.toNat (v56l2))).amount), v56l2 + 1, o1c0l2)) HK2 hm2)
        · replace H := ifF hc H; clear hc
          refine .exit rfl ?_
          refine .inBlock ?_
          refine .region ?_
          obtain ⟨hk9, H⟩ := ck_some H
          refine .q (x := .d (cI (v49l1 + 1))) (q_addI rfl rfl hk9.1 hk9.2) rfl ?_
          refine .q (x := .d (cI (v49l1 + 1))) (q_move rfl) rfl ?_
          refine .nil ?_
          cases H
          cases HK2
          exact .to 3 0 (env' := [(5, .d (slOf 1 rI v5j1)), (6, .mp 0), (7, .mp 1), (8, .mp 2), (11, .d (cI v11l2)), (47, .d (slOf 3 Entry.row v1)), (48, .d (cI (v1.length : Int))), (49, .d (cI (v49l1 + 1)))]) (st' := ⟨[.map (mEnc (fun n => Value.int .i64 n) (fun x => cI x) o0c0j1), .map (mEnc (fun n => Value.int .i64 n) (fun x => cI x) o1c0l2), .map (mEnc (fun s => Value.string ⟨s.toArray⟩) (fun x => cI x) o2c0j1)], []⟩) (.cons rfl (.rfl' _) (.cons rfl (.rfl' _) (.cons rfl (.rfl' _) (.cons rfl (.rfl' _) (.cons rfl (.rfl' _) (.cons rfl (.rfl' _) (.cons rfl (.rfl' _) (.cons rfl (.rfl' _) (.nil))))))))) rfl rfl rfl rfl (okBoth rfl (okCons okMap (okCons okMap (okCons okMap rfl)))) (by rw [hS]; exact Nat.le_of_ble_eq_true rfl) (by rw [hS]; exact Nat.le_of_ble_eq_true rfl) <| .sub (.cons rfl (.rfl' _) (.cons rfl (.rfl' _) (.cons rfl (.rfl' _) (.cons rfl (.rfl' _) (.cons rfl (.rfl' _) (.cons rfl (.rfl' _) (.cons rfl (.rfl' _) (.cons rfl (.rfl' _) (.nil))))))))) (ih1 (n1, (v11l2, v49l1 + 1, o1c0l2)) HK1 hm1)
      · replace H := ifF hc H; clear hc
        refine .exit rfl ?_
        obtain ⟨q0, H9, hq0⟩ := map_some' H; clear H; cases hq0
        cases HK1
        have H := H9
        exact .withSt (st' := ⟨[.map (mEnc (fun n => Value.int .i64 n) (fun x => cI x) o0c0j1), .map (mEnc (fun n => Value.int .i64 n) (fun x => cI x) o1c0l1), .map (mEnc (fun s => Value.string ⟨s.toArray⟩) (fun x => cI x) o2c0j1)], []⟩) rfl <| .sub (.cons rfl (.rfl' _) (.cons rfl (.rfl' _) (.cons rfl (.rfl' _) (.cons rfl (.rfl' _) (.nil))))) (hj2x (v11l1, o1c0l1) H)
  · intro hj1 hj1x
    obtain ⟨n3, H⟩ := loop_some H
    refine .withSt (st' := ⟨[.map (mEnc (fun n => Value.int .i64 n) (fun x => cI x) ([] : List (Int × Int))), .map (mEnc (fun n => Value.int .i64 n) (fun x => cI x) ([] : List (Int × Int))), .map (mEnc (fun s => Value.string ⟨s.toArray⟩) (fun x => cI x) ([] : List ((List UInt8) × Int)))], []⟩) rfl <| .loop (ι := Nat × (List Int × Int × (List (Int × Int)) × (List ((List UInt8) × Int)))) (fun p => [(1, .d (slOf 3 Entry.row v1)), (5, .d (slOf 1 rI p.2.1)), (6, .mp 0), (7, .mp 1), (8, .mp 2), (22, .d (slOf 8 Invoice.row v0)), (23, .d (cI (v0.length : Int))), (24, .d (cI p.2.2.1))]) (fun p => ⟨[.map (mEnc (fun n => Value.int .i64 n) (fun x => cI x) p.2.2.2.1), .map (mEnc (fun n => Value.int .i64 n) (fun x => cI x) ([] : List (Int × Int))), .map (mEnc (fun s => Value.string ⟨s.toArray⟩) (fun x => cI x) p.2.2.2.2)], []⟩) (fun p => iter (fun s => f_assure_Books_l3 v0 v1 s.1 s.2.1 s.2.2.1 s.2.2.2) p.1 p.2 = some r) (·.1) (n3, ([], 0, ([] : List (Int × Int)), ([] : List ((List UInt8) × Int)))) H (.cons rfl (.rfl' _) (.cons rfl (.nil 1) (.cons rfl (.rfl' _) (.cons rfl (.rfl' _) (.cons rfl (.rfl' _) (.cons rfl (.rfl' _) (.cons rfl (.rfl' _) (.cons rfl (.rfl' _) (.nil))))))))) rfl ?_
    rintro ⟨m1, v5l3, v24l3, o0c0l3, o2c0l3⟩ HI ih1
    obtain ⟨n1, q1, hm1, H, HK1⟩ := iter_succ HI
    clear HI
    replace H : f_assure_Books_l3 v0 v1 v5l3 v24l3 o0c0l3 o2c0l3 = some q1 := H
    unfold f_assure_Books_l3 at H
    change ARun _ _ _ _ _ _ [(1, .d (slOf 3 Entry.row v1)), (5, .d (slOf 1 rI v5l3)), (6, .mp 0), (7, .mp 1), (8, .mp 2), (22, .d (slOf 8 Invoice.row v0)), (23, .d (cI (v0.length : Int))), (24, .d (cI v24l3))] ⟨[.map (mEnc (fun n => Value.int .i64 n) (fun x => cI x) o0c0l3), .map (mEnc (fun n => Value.int .i64 n) (fun x => cI x) ([] : List (Int × Int))), .map (mEnc (fun s => Value.string ⟨s.toArray⟩) (fun x => cI x) o2c0l3)], []⟩
    refine .seq ?_
    refine .region ?_
    refine .q (x := .d (cB (decide (v24l3 < (v0.length : Int))))) (q_lss rfl rfl) rfl ?_
    refine .nil ?_
    refine .seq ?_
    refine .cond rfl (fun hc => ?_) (fun hc => ?_)
    · replace H := ifT hc H; clear hc
      refine .skip ?_
      refine .seq ?_
      refine .block ?_
      refine .seq ?_
      refine .region ?_
      obtain ⟨hk10, H⟩ := ck_some H
      refine .q (x := .d (.ro (Invoice.row (nth v0 (Int.toNat (v24l3)))))) (q_idxL (row := Invoice.row) (l := v0) (i := v24l3) Try.underlying69 hi75 hs75 rfl rfl rfl hk10) rfl ?_
      refine .q (x := .d (.agg (Invoice.row (nth v0 (Int.toNat (v24l3)))))) (q_loadAll one_75 sz_75 rfl rfl) rfl ?_
      refine .v (x := .ref 3 0) (v_alloc zr_75 rfl) rfl ?_
      refine .withSt (st' := ⟨[.map (mEnc (fun n => Value.int .i64 n) (fun x => cI x) o0c0l3), .map (mEnc (fun n => Value.int .i64 n) (fun x => cI x) ([] : List (Int × Int))), .map (mEnc (fun s => Value.string ⟨s.toArray⟩) (fun x => cI x) o2c0l3), .row 75 [.d (cI 0), .d (cI 0), .d (cI 0), .d (nilD), .d (nilD), .d (cI 0), .d (cI 0), .d (cI 0)]], []⟩) rfl ?_
      refine .u (u_store rfl rfl rfl rfl (Nat.le_of_ble_eq_true rfl) sz_75) rfl ?_
      refine .withSt (st' := ⟨[.map (mEnc (fun n => Value.int .i64 n) (fun x => cI x) o0c0l3), .map (mEnc (fun n => Value.int .i64 n) (fun x => cI x) ([] : List (Int × Int))), .map (mEnc (fun s => Value.string ⟨s.toArray⟩) (fun x => cI x) o2c0l3), .row 75 [.d (cI ((nth v0 (Int.toNat (v24l3))).account)), .d (cI (((nth v0 (Int.toNat (v24l3))).period).from_)), .d (cI (((nth v0 (Int.toNat (v24l3))).period).to_)), .d (slOf 8 Line.row ((nth v0 (Int.toNat (v24l3))).lines)), .d (slOf 4 TaxLine.row ((nth v0 (Int.toNat (v24l3))).taxes)), .d (cI ((nth v0 (Int.toNat (v24l3))).net)), .d (cI ((nth v0 (Int.toNat (v24l3))).tax)), .d (cI ((nth v0 (Int.toNat (v24l3))).total))]], []⟩) rfl ?_
      refine .nil ?_
      refine .seq ?_
      refine .region ?_
      refine .q (x := .d (slOf 1 rI v5l3)) (q_move rfl) rfl ?_
      refine .q (x := .ref 3 0) (q_fieldRef fo_75_0 rfl) rfl ?_
      refine .q (x := .d (cI ((nth v0 (Int.toNat (v24l3))).account))) (q_loadO one_3 rfl rfl rfl) rfl ?_
      obtain ⟨y2, hy2, H⟩ := bind_some' H
      refine .g (x := .d (slOf 1 rI y2)) (g_call en_34 rfl rfl (c_f_assure_keys (hy2))) rfl ?_
      refine .q (x := .d (slOf 1 rI y2)) (q_assign rfl) rfl ?_
      refine .nil ?_
      refine .seq ?_
      refine .drawn 7 hMix (by kernel_rfl) ?_
      show DOps _ _ _ _ _ _ _ (_ :: _) _ _ _
      refine .q (x := .mp 2) (q_move rfl) rfl ?_
      refine .q (x := .ref 3 0) (q_fieldRef fo_75_0 rfl) rfl ?_
      refine .q (x := .d (cI ((nth v0 (Int.toNat (v24l3))).account))) (q_loadO one_3 rfl rfl rfl) rfl ?_
      obtain ⟨y3, hy3, H⟩ := bind_some' H
      refine .g (x := .d (cS y3)) (g_call en_39 rfl rfl (c_f_assure_decimal (hy3))) rfl ?_
      obtain ⟨hk11, H⟩ := ck_some H
      refine .q (x := .d (cS (([114, 101, 99, 101, 105, 118, 97, 98, 108, 101, 58] : List UInt8) ++ y3))) (q_sadd rfl rfl hk11) rfl ?_
      refine .q (x := .ref 3 0) (q_fieldRef fo_75_0 rfl) rfl ?_
      refine .q (x := .d (cI ((nth v0 (Int.toNat (v24l3))).account))) (q_loadO one_3 rfl rfl rfl) rfl ?_
      refine .nil ?_
      show AOps _ _ _ _ _ _ (_ :: _) _ _ _
      refine .u (u_mapUpdate (strKeys Try.underlying9) (l := o2c0l3) (val := (fun x => cI x)) (k := ([114, 101, 99, 101, 105, 118, 97, 98, 108, 101, 58] : List UInt8) ++ y3) (a := (nth v0 (Int.toNat (v24l3))).account) Try.underlying108 rfl rfl rfl rfl rfl) rfl ?_
      refine .withSt (st' := ⟨[.map (mEnc (fun n => Value.int .i64 n) (fun x => cI x) o0c0l3), .map (mEnc (fun n => Value.int .i64 n) (fun x => cI x) ([] : List (Int × Int))), .map (mEnc (fun s => Value.string ⟨s.toArray⟩) (fun x => cI x) (aset o2c0l3 (([114, 101, 99, 101, 105, 118, 97, 98, 108, 101, 58] : List UInt8) ++ y3) ((nth v0 (Int.toNat (v24l3))).account))), .row 75 [.d (cI ((nth v0 (Int.toNat (v24l3))).account)), .d (cI (((nth v0 (Int.toNat (v24l3))).period).from_)), .d (cI (((nth v0 (Int.toNat (v24l3))).period).to_)), .d (slOf 8 Line.row ((nth v0 (Int.toNat (v24l3))).lines)), .d (slOf 4 TaxLine.row ((nth v0 (Int.toNat (v24l3))).taxes)), .d (cI ((nth v0 (Int.toNat (v24l3))).net)), .d (cI ((nth v0 (Int.toNat (v24l3))).tax)), .d (cI ((nth v0 (Int.toNat (v24l3))).total))]], []⟩) rfl ?_
      refine .nil ?_
      refine .region ?_
      refine .q (x := .mp 0) (q_move rfl) rfl ?_
      refine .q (x := .ref 3 0) (q_fieldRef fo_75_0 rfl) rfl ?_
      refine .q (x := .d (cI ((nth v0 (Int.toNat (v24l3))).account))) (q_loadO one_3 rfl rfl rfl) rfl ?_
      refine .q (x := .d (cI ((alook o0c0l3 ((nth v0 (Int.toNat (v24l3))).account)).getD 0))) (q_lookup (intKeys Try.underlying3) (l := o0c0l3) (val := (fun x => cI x)) (k := (nth v0 (Int.toNat (v24l3))).account) (a0 := 0) Try.underlying101 hi3 hz3 rfl rfl rfl rfl) rfl ?_
      refine .q (x := .ref 3 7) (q_fieldRef fo_75_6 rfl) rfl ?_
      refine .q (x := .d (cI ((nth v0 (Int.toNat (v24l3))).total))) (q_loadO one_3 rfl rfl rfl) rfl ?_
      obtain ⟨hk12, H⟩ := ck_some H
      refine .q (x := .d (cI (((alook o0c0l3 ((nth v0 (Int.toNat (v24l3))).account)).getD 0) + ((nth v0 (Int.toNat (v24l3))).total)))) (q_addI rfl rfl hk12.1 hk12.2) rfl ?_
      refine .u (u_mapUpdate (intKeys Try.underlying3) (l := o0c0l3) (val := (fun x => cI x)) (k := (nth v0 (Int.toNat (v24l3))).account) (a := ((alook o0c0l3 ((nth v0 (Int.toNat (v24l3))).account)).getD 0) + ((nth v0 (Int.toNat (v24l3))).total)) Try.underlying101 rfl rfl rfl rfl rfl) rfl ?_
      refine .withSt (st' := ⟨[.map (mEnc (fun n => Value.int .i64 n) (fun x => cI x) (aset o0c0l3 ((nth v0 (Int.toNat (v24l3))).account) (((alook o0c0l3 ((nth v0 (Int.toNat (v24l3))).account)).getD 0) + ((nth v0 (Int.toNat (v24l3))).total)))), .map (mEnc (fun n => Value.int .i64 n) (fun x => cI x) ([] : List (Int × Int))), .map (mEnc (fun s => Value.string ⟨s.toArray⟩) (fun x => cI x) (aset o2c0l3 (([114, 101, 99, 101, 105, 118, 97, 98, 108, 101, 58] : List UInt8) ++ y3) ((nth v0 (Int.toNat (v24l3))).account))), .row 75 [.d (cI ((nth v0 (Int.toNat (v24l3))).account)), .d (cI (((nth v0 (Int.toNat (v24l3))).period).from_)), .d (cI (((nth v0 (Int.toNat (v24l3))).period).to_)), .d (slOf 8 Line.row ((nth v0 (Int.toNat (v24l3))).lines)), .d (slOf 4 TaxLine.row ((nth v0 (Int.toNat (v24l3))).taxes)), .d (cI ((nth v0 (Int.toNat (v24l3))).net)), .d (cI ((nth v0 (Int.toNat (v24l3))).tax)), .d (cI ((nth v0 (Int.toNat (v24l3))).total))]], []⟩) rfl ?_
      refine .nil ?_
      refine .inBlock ?_
      refine .region ?_
      obtain ⟨hk13, H⟩ := ck_some H
      refine .q (x := .d (cI (v24l3 + 1))) (q_addI rfl rfl hk13.1 hk13.2) rfl ?_
      refine .q (x := .d (cI (v24l3 + 1))) (q_move rfl) rfl ?_
      refine .nil ?_
      cases H
      exact .to 3 0 (env' := [(1, .d (slOf 3 Entry.row v1)), (5, .d (slOf 1 rI y2)), (6, .mp 0), (7, .mp 1), (8, .mp 2), (22, .d (slOf 8 Invoice.row v0)), (23, .d (cI (v0.length : Int))), (24, .d (cI (v24l3 + 1)))]) (st' := ⟨[.map (mEnc (fun n => Value.int .i64 n) (fun x => cI x) (aset o0c0l3 ((nth v0 (Int.toNat (v24l3))).account) (((alook o0c0l3 ((nth v0 (Int.toNat (v24l3))).account)).getD 0) + ((nth v0 (Int.toNat (v24l3))).total)))), .map (mEnc (fun n => Value.int .i64 n) (fun x => cI x) ([] : List (Int × Int))), .map (mEnc (fun s => Value.string ⟨s.toArray⟩) (fun x => cI x) (aset o2c0l3 (([114, 101, 99, 101, 105, 118, 97, 98, 108, 101, 58] : List UInt8) ++ y3) ((nth v0 (Int.toNat (v24l3))).account)))], []⟩) (.cons rfl (.rfl' _) (.cons rfl (.rfl' _) (.cons rfl (.rfl' _) (.cons rfl (.rfl' _) (.cons rfl (.rfl' _) (.cons rfl (.rfl' _) (.cons rfl (.rfl' _) (.cons rfl (.rfl' _) (.nil))))))))) rfl rfl rfl rfl (okBoth rfl (okCons okMap (okCons okMap (okCons okMap rfl)))) (by rw [hS]; exact Nat.le_of_ble_eq_true rfl) (by rw [hS]; exact Nat.le_of_ble_eq_true rfl) <| .sub (.cons rfl (.rfl' _) (.cons rfl (.rfl' _) (.cons rfl (.rfl' _) (.cons rfl (.rfl' _) (.cons rfl (.rfl' _) (.cons rfl (.rfl' _) (.cons rfl (.rfl' _) (.cons rfl (.rfl' _) (.nil))))))))) (ih1 (n1, (y2, v24l3 + 1, aset o0c0l3 ((nth v0 (Int.toNat (v24l3))).account) (((alook o0c0l3 ((nth v0 (Int.toNat (v24l3))).account)).getD 0) + ((nth v0 (Int.toNat (v24l3))).total)), aset o2c0l3 (([114, 101, 99, 101, 105, 118, 97, 98, 108, 101, 58] : List UInt8) ++ y3) ((nth v0 (Int.toNat (v24l3))).account))) HK1 hm1)
    · replace H := ifF hc H; clear hc
      refine .exit rfl ?_
      obtain ⟨q0, H9, hq0⟩ := map_some' H; clear H; cases hq0
      cases HK1
      have H := H9
      exact .withSt (st' := ⟨[.map (mEnc (fun n => Value.int .i64 n) (fun x => cI x) o0c0l3), .map (mEnc (fun n => Value.int .i64 n) (fun x => cI x) ([] : List (Int × Int))), .map (mEnc (fun s => Value.string ⟨s.toArray⟩) (fun x => cI x) o2c0l3)], []⟩) rfl <| .sub (.cons rfl (.rfl' _) (.cons rfl (.rfl' _) (.cons rfl (.rfl' _) (.cons rfl (.rfl' _) (.cons rfl (.rfl' _) (.nil)))))) (hj1x (v5l3, o0c0l3, o2c0l3) H)

set_option maxRecDepth 100000 in
set_option maxHeartbeats 1000000 in
theorem c_f_billingref54_Keys {v0list : List Int} {v1n : Int} {r : (List Int)} (H : f_billingref54_Keys v0list v1n = some r) : ACall Try.prog 35 [slOf 1 rI v0list, cI v1n] (· = slOf 1 rI r) := by
  obtain ⟨i3, hi3, hz3, hs3, hb3⟩ := in_3
  refine ACall.enter' Try.func35 rfl Try.ntmps35 rfl fun S hS => ?_
  unfold f_billingref54_Keys at H
  change ARun _ _ _ _ _ _ [(0, .d (slOf 1 rI v0list)), (1, .d (cI v1n))] _
  refine .seq ?_
  refine .region ?_
  refine .q (x := .d (nilD)) (q_assign rfl) rfl ?_
  refine .nil ?_
  refine .seq ?_
  refine .region ?_
  refine .q (x := .d (cI 0)) (q_assign rfl) rfl ?_
  refine .nil ?_
  refine .seq ?_
  refine .blockJoin2 (ι := Int) (fun s => [(0, .d (slOf 1 rI v0list)), (1, .d (cI v1n)), (5, .d (cI s))]) (fun s => ⟨[], []⟩) (fun s => f_billingref54_Keys_j1 v0list v1n s = some r) ?_ ?_
  · rintro v5atj1 H
    replace H : f_billingref54_Keys_j1 v0list v1n v5atj1 = some r := H
    unfold f_billingref54_Keys_j1 at H
    change ARun _ _ _ _ _ _ [(0, .d (slOf 1 rI v0list)), (1, .d (cI v1n)), (5, .d (cI v5atj1))] ⟨[], []⟩
    refine .seq ?_
    refine .seq ?_
    refine .region ?_
    refine .q (x := .d (cI v5atj1)) (q_move rfl) rfl ?_
    refine .q (x := .d (slOf 1 rI v0list)) (q_move rfl) rfl ?_
    refine .q (x := .d (cI (v0list.length : Int))) (q_lenL (l := v0list) (row := rI) Try.underlying100 rfl rfl) rfl ?_
    refine .q (x := .d (cB (decide (v5atj1 < (v0list.length : Int))))) (q_lss rfl rfl) rfl ?_
    refine .q (x := .d (cB (decide (v5atj1 < (v0list.length : Int))))) (q_move rfl) rfl ?_
    refine .guardG (b := decide (v5atj1 < (v0list.length : Int))) (x := .d (slOf 1 rI v0list)) (env' := [(0, _)]) rfl rfl rfl ⟨.inl rfl, trivial⟩ rfl (fun hg => OpQ.g (q_move rfl)) ?_
    refine .guardG (b := decide (v5atj1 < (v0list.length : Int))) (x := .d (cI v5atj1)) (env' := [(5, _)]) rfl rfl rfl ⟨.inl rfl, trivial⟩ rfl (fun hg => OpQ.g (q_move rfl)) ?_
    obtain ⟨hk1, H⟩ := ck_some H
    refine .guardG (b := decide (v5atj1 < (v0list.length : Int))) (x := .d (.ro (rI (nth v0list (Int.toNat (v5atj1)))))) (env' := [(26, _), (27, _)]) rfl rfl rfl ⟨.inr (.inl rfl), ⟨.inr (.inl rfl), trivial⟩⟩ rfl (fun hg => OpQ.g (q_idxL (row := rI) (l := v0list) (i := v5atj1) Try.underlying100 hi3 hs3 rfl rfl rfl (hk1 hg))) ?_
    refine .guardG (b := decide (v5atj1 < (v0list.length : Int))) (x := .d (cI (nth v0list (Int.toNat (v5atj1))))) (env' := [(28, _)]) rfl rfl rfl ⟨.inr (.inl rfl), trivial⟩ rfl (fun hg => OpQ.g (q_load one_3 rfl)) ?_
    refine .guardG (b := decide (v5atj1 < (v0list.length : Int))) (x := .d (cI v1n)) (env' := [(1, _)]) rfl rfl rfl ⟨.inl rfl, trivial⟩ rfl (fun hg => OpQ.g (q_move rfl)) ?_
    refine .guardG (b := decide (v5atj1 < (v0list.length : Int))) (x := .d (cB ((nth v0list (Int.toNat (v5atj1))) == v1n))) (env' := [(29, _), (30, _)]) rfl rfl rfl ⟨.inr (.inl rfl), ⟨.inr (.inl rfl), trivial⟩⟩ rfl (fun hg => OpQ.g (q_eql rfl rfl)) ?_
    refine .q (x := .d (cB ((decide (v5atj1 < (v0list.length : Int))) && ((nth v0list (Int.toNat (v5atj1))) == v1n)))) (q_pickAndB rfl rfl rfl) rfl ?_
    refine .nil ?_
    refine .cond rfl (fun hc => ?_) (fun hc => ?_)
    · replace H := ifT hc H; clear hc
      refine .seq ?_
      refine .region ?_
      refine .q (x := .d (slOf 1 rI v0list)) (q_move rfl) rfl ?_
      refine .q (x := .d (slOf 1 rI v0list)) (q_assign rfl) rfl ?_
      refine .nil ?_
      refine .retN [.tmp 4] [.d (slOf 1 rI v0list)] Try.func35 Try.results35 ⟨rfl, trivial⟩ ?_
      cases H
      exact ⟨_, .rfl' _, rfl⟩
    · replace H := ifF hc H; clear hc
      refine .skip ?_
      refine .seq ?_
      refine .region ?_
      refine .v (x := .tsl 1 (([] : List Int).map rI) 0) (v_build0T Try.underlying100 hi3 hs3) rfl ?_
      refine .withSt (st' := ⟨[], [⟨3, 1, ([] : List Int).length, none⟩]⟩) rfl ?_
      refine .q (x := .d (slOf 1 rI v0list)) (q_move rfl) rfl ?_
      refine .q (x := .d (cI v5atj1)) (q_move rfl) rfl ?_
      obtain ⟨hk2, H⟩ := ck_some H
      refine .q (x := .d (slOf 1 rI (v0list.take (Int.toNat (v5atj1))))) (q_slHL (l := v0list) (row := rI) Try.underlying100 hi3 hs3 rfl rfl rfl hk2) rfl ?_
      obtain ⟨hk3, H⟩ := ck_some H
      refine .v (x := .tsl 1 ((([] : List Int) ++ (v0list.take (Int.toNat (v5atj1)))).map rI) 0) (v_appendL (l := ([] : List Int)) (l' := v0list.take (Int.toNat (v5atj1))) (row := rI) Try.underlying100 hi3 hz3 hs3 rfl (by rw [hb3]; decide) rfl rfl rfl rfl hk3) rfl ?_
      refine .withSt (st' := ⟨[], [⟨3, 1, (([] : List Int) ++ (v0list.take (Int.toNat (v5atj1)))).length, none⟩]⟩) rfl ?_
      refine .q (x := .tsl 1 ((([] : List Int) ++ (v0list.take (Int.toNat (v5atj1)))).map rI) 0) (q_assign rfl) rfl ?_
      refine .nil ?_
      refine .seq ?_
      refine .region ?_
      refine .q (x := .tsl 1 ((([] : List Int) ++ (v0list.take (Int.toNat (v5atj1)))).map rI) 0) (q_move rfl) rfl ?_
      refine .q (x := .d (cI v1n)) (q_move rfl) rfl ?_
      refine .g (x := .d (slOf 1 rI ([v1n] : List Int))) (g_buildSlice1 Try.underlying100 hi3 hs3 hz3 rfl rfl rfl rfl rfl) rfl ?_
      obtain ⟨hk4, H⟩ := ck_some H
      refine .v (x := .tsl 1 (((([] : List Int) ++ (v0list.take (Int.toNat (v5atj1)))) ++ ([v1n] : List Int)).map rI) 0) (v_appendL (l := ([] : List Int) ++ (v0list.take (Int.toNat (v5atj1)))) (l' := ([v1n] : List Int)) (row := rI) Try.underlying100 hi3 hz3 hs3 rfl (by rw [hb3]; decide) rfl rfl rfl rfl hk4) rfl ?_
      refine .withSt (st' := ⟨[], [⟨3, 1, ((([] : List Int) ++ (v0list.take (Int.toNat (v5atj1)))) ++ ([v1n] : List Int)).length, none⟩]⟩) rfl ?_
      refine .q (x := .tsl 1 (((([] : List Int) ++ (v0list.take (Int.toNat (v5atj1)))) ++ ([v1n] : List Int)).map rI) 0) (q_assign rfl) rfl ?_
      refine .nil ?_
      refine .seq ?_
      refine .region ?_
      refine .q (x := .tsl 1 (((([] : List Int) ++ (v0list.take (Int.toNat (v5atj1)))) ++ ([v1n] : List Int)).map rI) 0) (q_move rfl) rfl ?_
      refine .q (x := .d (slOf 1 rI v0list)) (q_move rfl) rfl ?_
      refine .q (x := .d (cI v5atj1)) (q_move rfl) rfl ?_
      obtain ⟨hk5, H⟩ := ck_some H
      refine .q (x := .d (slOf 1 rI (v0list.drop (Int.toNat (v5atj1))))) (q_slLL (l := v0list) (row := rI) Try.underlying100 hi3 hs3 rfl rfl rfl hk5) rfl ?_
      obtain ⟨hk6, H⟩ := ck_some H
      refine .v (x := .tsl 1 ((((([] : List Int) ++ (v0list.take (Int.toNat (v5atj1)))) ++ ([v1n] : List Int)) ++ (v0list.drop (Int.toNat (v5atj1)))).map rI) 0) (v_appendL (l := (([] : List Int) ++ (v0list.take (Int.toNat (v5atj1)))) ++ ([v1n] : List Int)) (l' := v0list.drop (Int.toNat (v5atj1))) (row := rI) Try.underlying100 hi3 hz3 hs3 rfl (by rw [hb3]; decide) rfl rfl rfl rfl hk6) rfl ?_
      refine .withSt (st' := ⟨[], [⟨3, 1, (((([] : List Int) ++ (v0list.take (Int.toNat (v5atj1)))) ++ ([v1n] : List Int)) ++ (v0list.drop (Int.toNat (v5atj1)))).length, none⟩]⟩) rfl ?_
      refine .q (x := .tsl 1 ((((([] : List Int) ++ (v0list.take (Int.toNat (v5atj1)))) ++ ([v1n] : List Int)) ++ (v0list.drop (Int.toNat (v5atj1)))).map rI) 0) (q_assign rfl) rfl ?_
      refine .nil ?_
      refine .retN [.tmp 4] [.tsl 1 ((((([] : List Int) ++ (v0list.take (Int.toNat (v5atj1)))) ++ ([v1n] : List Int)) ++ (v0list.drop (Int.toNat (v5atj1)))).map rI) 0] Try.func35 Try.results35 ⟨rfl, trivial⟩ ?_
      cases H
      exact ⟨_, .tsl _ _ _, rfl⟩
  · intro hj1 hj1x
    obtain ⟨n1, H⟩ := loop_some H
    refine .loop (ι := Nat × (Int)) (fun p => [(0, .d (slOf 1 rI v0list)), (1, .d (cI v1n)), (5, .d (cI p.2))]) (fun p => ⟨[], []⟩) (fun p => iter (fun s => f_billingref54_Keys_l1 v0list v1n s) p.1 p.2 = some r) (·.1) (n1, 0) H (.cons rfl (.rfl' _) (.cons rfl (.rfl' _) (.cons rfl (.rfl' _) (.nil)))) rfl ?_
    rintro ⟨m1, v5atl1⟩ HI ih1
    obtain ⟨n1, q1, hm1, H, HK1⟩ := iter_succ HI
    clear HI
    replace H : f_billingref54_Keys_l1 v0list v1n v5atl1 = some q1 := H
    unfold f_billingref54_Keys_l1 at H
    change ARun _ _ _ _ _ _ [(0, .d (slOf 1 rI v0list)), (1, .d (cI v1n)), (5, .d (cI v5atl1))] ⟨[], []⟩
    refine .seq ?_
    refine .seq ?_
    refine .region ?_
    refine .q (x := .d (cI v5atl1)) (q_move rfl) rfl ?_
    refine .q (x := .d (slOf 1 rI v0list)) (q_move rfl) rfl ?_
    refine .q (x := .d (cI (v0list.length : Int))) (q_lenL (l := v0list) (row := rI) Try.underlying100 rfl rfl) rfl ?_
    refine .q (x := .d (cB (decide (v5atl1 < (v0list.length : Int))))) (q_lss rfl rfl) rfl ?_
    refine .q (x := .d (cB (decide (v5atl1 < (v0list.length : Int))))) (q_move rfl) rfl ?_
    refine .guardG (b := decide (v5atl1 < (v0list.length : Int))) (x := .d (slOf 1 rI v0list)) (env' := [(0, _)]) rfl rfl rfl ⟨.inl rfl, trivial⟩ rfl (fun hg => OpQ.g (q_move rfl)) ?_
    refine .guardG (b := decide (v5atl1 < (v0list.length : Int))) (x := .d (cI v5atl1)) (env' := [(5, _)]) rfl rfl rfl ⟨.inl rfl, trivial⟩ rfl (fun hg => OpQ.g (q_move rfl)) ?_
    obtain ⟨hk7, H⟩ := ck_some H
    refine .guardG (b := decide (v5atl1 < (v0list.length : Int))) (x := .d (.ro (rI (nth v0list (Int.toNat (v5atl1)))))) (env' := [(12, _), (13, _)]) rfl rfl rfl ⟨.inr (.inl rfl), ⟨.inr (.inl rfl), trivial⟩⟩ rfl (fun hg => OpQ.g (q_idxL (row := rI) (l := v0list) (i := v5atl1) Try.underlying100 hi3 hs3 rfl rfl rfl (hk7 hg))) ?_
    refine .guardG (b := decide (v5atl1 < (v0list.length : Int))) (x := .d (cI (nth v0list (Int.toNat (v5atl1))))) (env' := [(14, _)]) rfl rfl rfl ⟨.inr (.inl rfl), trivial⟩ rfl (fun hg => OpQ.g (q_load one_3 rfl)) ?_
    refine .guardG (b := decide (v5atl1 < (v0list.length : Int))) (x := .d (cI v1n)) (env' := [(1, _)]) rfl rfl rfl ⟨.inl rfl, trivial⟩ rfl (fun hg => OpQ.g (q_move rfl)) ?_
    refine .guardG (b := decide (v5atl1 < (v0list.length : Int))) (x := .d (cB (decide ((nth v0list (Int.toNat (v5atl1))) < v1n)))) (env' := [(15, _), (16, _)]) rfl rfl rfl ⟨.inr (.inl rfl), ⟨.inr (.inl rfl), trivial⟩⟩ rfl (fun hg => OpQ.g (q_lss rfl rfl)) ?_
    refine .q (x := .d (cB ((decide (v5atl1 < (v0list.length : Int))) && (decide ((nth v0list (Int.toNat (v5atl1))) < v1n))))) (q_pickAndB rfl rfl rfl) rfl ?_
    refine .nil ?_
    refine .cond rfl (fun hc => ?_) (fun hc => ?_)
    · replace H := ifT hc H; clear hc
      refine .skip ?_
      refine .block ?_
      refine .region ?_
      refine .q (x := .d (cI v5atl1)) (q_move rfl) rfl ?_
      obtain ⟨hk8, H⟩ := ck_some H
      refine .q (x := .d (cI (v5atl1 + 1))) (q_addI rfl rfl hk8.1 hk8.2) rfl ?_
      refine .q (x := .d (cI (v5atl1 + 1))) (q_assign rfl) rfl ?_
      refine .nil ?_
      refine .inBlock ?_
      cases H
      exact .sub (.cons rfl (.rfl' _) (.cons rfl (.rfl' _) (.cons rfl (.rfl' _) (.nil)))) (ih1 (n1, (v5atl1 + 1)) HK1 hm1)
    · replace H := ifF hc H; clear hc
      refine .exit rfl ?_
      obtain ⟨q0, H9, hq0⟩ := map_some' H; clear H; cases hq0
      cases HK1
      have H := H9
      exact .sub (.cons rfl (.rfl' _) (.cons rfl (.rfl' _) (.cons rfl (.rfl' _) (.nil)))) (hj1x v5atl1 H)

set_option maxRecDepth 100000 in
set_option maxHeartbeats 1000000 in
theorem c_f_billingref01_Number {v0n : Int} {r : (List UInt8)} (H : f_billingref01_Number v0n = some r) : ACall Try.prog 51 [cI v0n] (· = cS r) := by
  obtain ⟨i5, hi5, hz5, hs5, hb5⟩ := in_5
  refine ACall.enter' Try.func51 rfl Try.ntmps51 rfl fun S hS => ?_
  unfold f_billingref01_Number at H
  change ARun _ _ _ _ _ _ [(0, .d (cI v0n))] _
  refine .seq ?_
  refine .region ?_
  refine .q (x := .d (cS ([] : List UInt8))) (q_assign rfl) rfl ?_
  refine .nil ?_
  refine .seq ?_
  refine .region ?_
  refine .q (x := .d (cI v0n)) (q_move rfl) rfl ?_
  obtain ⟨hk1, H⟩ := ck_some H
  refine .q (x := .d (cI (Int.tmod v0n 10))) (q_remT rfl rfl hk1) rfl ?_
  obtain ⟨hk2, H⟩ := ck_some H
  refine .q (x := .d (cI (48 + (Int.tmod v0n 10)))) (q_addI rfl rfl hk2.1 hk2.2) rfl ?_
  refine .q (x := .d (cU8 (UInt8.ofInt (48 + (Int.tmod v0n 10))))) (q_conv8 Try.underlying3 Try.underlying5 rfl) rfl ?_
  refine .g (x := .d (slOf 1 rB8 ([UInt8.ofInt (48 + (Int.tmod v0n 10))] : List UInt8))) (g_buildSlice1 Try.underlying84 hi5 hs5 hz5 rfl rfl rfl rfl rfl) rfl ?_
  refine .q (x := .d (cS ([UInt8.ofInt (48 + (Int.tmod v0n 10))] : List UInt8))) (q_bytesStrL (a := ([UInt8.ofInt (48 + (Int.tmod v0n 10))] : List UInt8)) Try.underlying84 Try.underlying5 Try.underlying9 rfl rfl) rfl ?_
  refine .q (x := .d (cS ([UInt8.ofInt (48 + (Int.tmod v0n 10))] : List UInt8))) (q_assign rfl) rfl ?_
  refine .nil ?_
  refine .seq ?_
  refine .seq ?_
  refine .region ?_
  refine .q (x := .d (cI v0n)) (q_move rfl) rfl ?_
  obtain ⟨hk3, H⟩ := ck_some H
  refine .q (x := .d (cI (Int.tdiv v0n 10))) (q_quoT rfl rfl hk3) rfl ?_
  refine .q (x := .d (cI (Int.tdiv v0n 10))) (q_assign rfl) rfl ?_
  refine .nil ?_
  refine .block ?_
  obtain ⟨n1, H⟩ := loop_some H
  refine .loop (ι := Nat × (Int × List UInt8)) (fun p => [(0, .d (cI p.2.1)), (3, .d (cS p.2.2))]) (fun p => ⟨[], []⟩) (fun p => iter (fun s => f_billingref01_Number_l1 s.1 s.2) p.1 p.2 = some r) (·.1) (n1, (Int.tdiv v0n 10, ([UInt8.ofInt (48 + (Int.tmod v0n 10))] : List UInt8))) H (.cons rfl (.rfl' _) (.cons rfl (.rfl' _) (.nil))) rfl ?_
  rintro ⟨m1, v0nl1, v3sl1⟩ HI ih1
  obtain ⟨n1, q1, hm1, H, HK1⟩ := iter_succ HI
  clear HI
  replace H : f_billingref01_Number_l1 v0nl1 v3sl1 = some q1 := H
  unfold f_billingref01_Number_l1 at H
  change ARun _ _ _ _ _ _ [(0, .d (cI v0nl1)), (3, .d (cS v3sl1))] ⟨[], []⟩
  refine .seq ?_
  refine .seq ?_
  refine .region ?_
  refine .q (x := .d (cI v0nl1)) (q_move rfl) rfl ?_
  refine .q (x := .d (cB (decide (v0nl1 > 0)))) (q_gtr rfl rfl) rfl ?_
  refine .nil ?_
  refine .cond rfl (fun hc => ?_) (fun hc => ?_)
  · replace H := ifT hc H; clear hc
    refine .skip ?_
    refine .seq ?_
    refine .block ?_
    refine .region ?_
    refine .q (x := .d (cI v0nl1)) (q_move rfl) rfl ?_
    obtain ⟨hk4, H⟩ := ck_some H
    refine .q (x := .d (cI (Int.tmod v0nl1 10))) (q_remT rfl rfl hk4) rfl ?_
    obtain ⟨hk5, H⟩ := ck_some H
    refine .q (x := .d (cI (48 + (Int.tmod v0nl1 10)))) (q_addI rfl rfl hk5.1 hk5.2) rfl ?_
    refine .q (x := .d (cU8 (UInt8.ofInt (48 + (Int.tmod v0nl1 10))))) (q_conv8 Try.underlying3 Try.underlying5 rfl) rfl ?_
    refine .g (x := .d (slOf 1 rB8 ([UInt8.ofInt (48 + (Int.tmod v0nl1 10))] : List UInt8))) (g_buildSlice1 Try.underlying84 hi5 hs5 hz5 rfl rfl rfl rfl rfl) rfl ?_
    refine .q (x := .d (cS ([UInt8.ofInt (48 + (Int.tmod v0nl1 10))] : List UInt8))) (q_bytesStrL (a := ([UInt8.ofInt (48 + (Int.tmod v0nl1 10))] : List UInt8)) Try.underlying84 Try.underlying5 Try.underlying9 rfl rfl) rfl ?_
    refine .q (x := .d (cS v3sl1)) (q_move rfl) rfl ?_
    obtain ⟨hk6, H⟩ := ck_some H
    refine .q (x := .d (cS (([UInt8.ofInt (48 + (Int.tmod v0nl1 10))] : List UInt8) ++ v3sl1))) (q_sadd rfl rfl hk6) rfl ?_
    refine .q (x := .d (cS (([UInt8.ofInt (48 + (Int.tmod v0nl1 10))] : List UInt8) ++ v3sl1))) (q_assign rfl) rfl ?_
    refine .nil ?_
    refine .inBlock ?_
    refine .region ?_
    refine .q (x := .d (cI v0nl1)) (q_move rfl) rfl ?_
    obtain ⟨hk7, H⟩ := ck_some H
    refine .q (x := .d (cI (Int.tdiv v0nl1 10))) (q_quoT rfl rfl hk7) rfl ?_
    refine .q (x := .d (cI (Int.tdiv v0nl1 10))) (q_assign rfl) rfl ?_
    refine .nil ?_
    cases H
    exact .sub (.cons rfl (.rfl' _) (.cons rfl (.rfl' _) (.nil))) (ih1 (n1, (Int.tdiv v0nl1 10, ([UInt8.ofInt (48 + (Int.tmod v0nl1 10))] : List UInt8) ++ v3sl1)) HK1 hm1)
  · replace H := ifF hc H; clear hc
    refine .exit rfl ?_
    refine .seq ?_
    refine .region ?_
    refine .q (x := .d (cS v3sl1)) (q_move rfl) rfl ?_
    refine .q (x := .d (cS v3sl1)) (q_assign rfl) rfl ?_
    refine .nil ?_
    refine .retN [.tmp 2] [.d (cS v3sl1)] Try.func51 Try.results51 ⟨rfl, trivial⟩ ?_
    cases H
    cases HK1
    exact ⟨_, .rfl' _, rfl⟩

set_option maxRecDepth 100000 in
set_option maxHeartbeats 1000000 in
theorem c_f_billingref01_Int {v0n : Int} {r : (List UInt8)} (H : f_billingref01_Int v0n = some r) : ACall Try.prog 41 [cI v0n] (· = cS r) := by
  refine ACall.enter' Try.func41 rfl Try.ntmps41 rfl fun S hS => ?_
  unfold f_billingref01_Int at H
  change ARun _ _ _ _ _ _ [(0, .d (cI v0n))] _
  refine .seq ?_
  refine .region ?_
  refine .q (x := .d (cS ([] : List UInt8))) (q_assign rfl) rfl ?_
  refine .nil ?_
  refine .seq ?_
  refine .seq ?_
  refine .region ?_
  refine .q (x := .d (cI v0n)) (q_move rfl) rfl ?_
  refine .q (x := .d (cB (decide (v0n ≥ 0)))) (q_geq rfl rfl) rfl ?_
  refine .nil ?_
  refine .cond rfl (fun hc => ?_) (fun hc => ?_)
  · replace H := ifT hc H; clear hc
    refine .seq ?_
    refine .region ?_
    refine .q (x := .d (cI v0n)) (q_move rfl) rfl ?_
    obtain ⟨y1, hy1, H⟩ := bind_some' H
    refine .g (x := .d (cS y1)) (g_call en_51 rfl rfl (c_f_billingref01_Number (hy1))) rfl ?_
    refine .q (x := .d (cS y1)) (q_assign rfl) rfl ?_
    refine .nil ?_
    refine .retN [.tmp 2] [.d (cS y1)] Try.func41 Try.results41 ⟨rfl, trivial⟩ ?_
    cases H
    exact ⟨_, .rfl' _, rfl⟩
  · replace H := ifF hc H; clear hc
    refine .skip ?_
    refine .seq ?_
    refine .seq ?_
    refine .region ?_
    refine .q (x := .d (cI v0n)) (q_move rfl) rfl ?_
    refine .q (x := .d (cB (decide (v0n > (-10))))) (q_gtr rfl rfl) rfl ?_
    refine .nil ?_
    refine .cond rfl (fun hc => ?_) (fun hc => ?_)
    · replace H := ifT hc H; clear hc
      refine .seq ?_
      refine .region ?_
      refine .q (x := .d (cI v0n)) (q_move rfl) rfl ?_
      obtain ⟨hk1, H⟩ := ck_some H
      refine .q (x := .d (cI (-v0n))) (q_negI rfl hk1.1 hk1.2) rfl ?_
      obtain ⟨y2, hy2, H⟩ := bind_some' H
      refine .g (x := .d (cS y2)) (g_call en_51 rfl rfl (c_f_billingref01_Number (hy2))) rfl ?_
      obtain ⟨hk2, H⟩ := ck_some H
      refine .q (x := .d (cS (([45] : List UInt8) ++ y2))) (q_sadd rfl rfl hk2) rfl ?_
      refine .q (x := .d (cS (([45] : List UInt8) ++ y2))) (q_assign rfl) rfl ?_
      refine .nil ?_
      refine .retN [.tmp 2] [.d (cS (([45] : List UInt8) ++ y2))] Try.func41 Try.results41 ⟨rfl, trivial⟩ ?_
      cases H
      exact ⟨_, .rfl' _, rfl⟩
    · replace H := ifF hc H; clear hc
      refine .skip ?_
      refine .seq ?_
      refine .region ?_
      refine .q (x := .d (cI v0n)) (q_move rfl) rfl ?_
      obtain ⟨hk3, H⟩ := ck_some H
      refine .q (x := .d (cI (Int.tdiv v0n 10))) (q_quoT rfl rfl hk3) rfl ?_
      obtain ⟨hk4, H⟩ := ck_some H
      refine .q (x := .d (cI (-(Int.tdiv v0n 10)))) (q_negI rfl hk4.1 hk4.2) rfl ?_
      obtain ⟨y3, hy3, H⟩ := bind_some' H
      refine .g (x := .d (cS y3)) (g_call en_51 rfl rfl (c_f_billingref01_Number (hy3))) rfl ?_
      obtain ⟨hk5, H⟩ := ck_some H
      refine .q (x := .d (cS (([45] : List UInt8) ++ y3))) (q_sadd rfl rfl hk5) rfl ?_
      refine .q (x := .d (cI v0n)) (q_move rfl) rfl ?_
      obtain ⟨hk6, H⟩ := ck_some H
      refine .q (x := .d (cI (Int.tmod v0n 10))) (q_remT rfl rfl hk6) rfl ?_
      obtain ⟨hk7, H⟩ := ck_some H
      refine .q (x := .d (cI (-(Int.tmod v0n 10)))) (q_negI rfl hk7.1 hk7.2) rfl ?_
      obtain ⟨y4, hy4, H⟩ := bind_some' H
      refine .g (x := .d (cS y4)) (g_call en_51 rfl rfl (c_f_billingref01_Number (hy4))) rfl ?_
      obtain ⟨hk8, H⟩ := ck_some H
      refine .q (x := .d (cS ((([45] : List UInt8) ++ y3) ++ y4))) (q_sadd rfl rfl hk8) rfl ?_
      refine .q (x := .d (cS ((([45] : List UInt8) ++ y3) ++ y4))) (q_assign rfl) rfl ?_
      refine .nil ?_
      refine .retN [.tmp 2] [.d (cS ((([45] : List UInt8) ++ y3) ++ y4))] Try.func41 Try.results41 ⟨rfl, trivial⟩ ?_
      cases H
      exact ⟨_, .rfl' _, rfl⟩

end Go.Proofs.Ytpdanklncjopoaa
