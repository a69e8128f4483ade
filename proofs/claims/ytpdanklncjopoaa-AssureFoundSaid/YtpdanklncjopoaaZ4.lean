/- Our own texts LW1 LW2 F1 F2 F3 F4 F5 F6 F7 of this seat in one. -/
import Derived.Test.YtpdanklncjopoaaZ3
set_option linter.unusedSimpArgs false
set_option linter.unusedVariables false
namespace Go.Proofs.Ytpdanklncjopoaa
open Go.RowKit Go.Abs
set_option maxRecDepth 100000 in
set_option maxHeartbeats 1000000 in
theorem c_f_mediation_Balance {v0m : Mediation} {r : Balance} (H : f_mediation_Balance v0m = some r) : ACall Try.prog 31 [.agg (Mediation.row v0m)] (· = .agg (Balance.row r)) := by
  obtain ⟨i39, hi39, hz39, hs39, hb39⟩ := in_39
  obtain ⟨i90, hi90, hz90, hs90, hb90⟩ := in_90
  refine ACall.enter' Try.func31 rfl Try.ntmps31 rfl fun S hS => ?_
  unfold f_mediation_Balance at H
  change ARun _ _ _ _ _ _ [(0, .d (.agg (Mediation.row v0m)))] _
  refine .seq ?_
  refine .region ?_
  refine .v (x := .ref 0 0) (v_box rfl rfl) rfl ?_
  refine .withSt (st' := ⟨[.row 34 [.d (slOf 3 Range.row v0m.intake.seen), .d (slOf 12 Record.row v0m.intake.open_), .d (slOf 4 Head.row v0m.intake.heads), .d (slOf 12 Usage.row v0m.usages), .d (slOf 12 Record.row v0m.suspense), .d (slOf 4 Reject.row v0m.rejects)]], []⟩) rfl ?_
  refine .v (x := .ref 1 0) (v_alloc zr_39 rfl) rfl ?_
  refine .withSt (st' := ⟨[.row 34 [.d (slOf 3 Range.row v0m.intake.seen), .d (slOf 12 Record.row v0m.intake.open_), .d (slOf 4 Head.row v0m.intake.heads), .d (slOf 12 Usage.row v0m.usages), .d (slOf 12 Record.row v0m.suspense), .d (slOf 4 Reject.row v0m.rejects)], .row 39 [.d (cI 0), .d (cI 0), .d (cI 0), .d (cI 0), .d (cI 0), .d (cI 0)]], []⟩) rfl ?_
  refine .nil ?_
  refine .seq ?_
  refine .region ?_
  refine .q (q_fieldRef fo_34_1 rfl) rfl ?_
  refine .q (x := .d (slOf 12 Usage.row v0m.usages)) (q_loadO one_31 rfl rfl rfl) rfl ?_
  refine .q (q_lenL (l := v0m.usages) (row := Usage.row) Try.underlying31 rfl rfl) rfl ?_
  refine .q (q_fieldRef fo_34_3 rfl) rfl ?_
  refine .q (x := .d (slOf 4 Reject.row v0m.rejects)) (q_loadO one_32 rfl rfl rfl) rfl ?_
  refine .q (q_lenL (l := v0m.rejects) (row := Reject.row) Try.underlying32 rfl rfl) rfl ?_
  refine .q (q_fieldRef fo_34_2 rfl) rfl ?_
  refine .q (x := .d (slOf 12 Record.row v0m.suspense)) (q_loadO one_27 rfl rfl rfl) rfl ?_
  refine .q (q_lenL (l := v0m.suspense) (row := Record.row) Try.underlying27 rfl rfl) rfl ?_
  refine .q (q_fieldRef fo_34_0 rfl) rfl ?_
  refine .q (q_fieldRef fo_30_1 rfl) rfl ?_
  refine .q (x := .d (slOf 12 Record.row v0m.intake.open_)) (q_loadO one_27 rfl rfl rfl) rfl ?_
  refine .q (q_lenL (l := v0m.intake.open_) (row := Record.row) Try.underlying27 rfl rfl) rfl ?_
  refine .q (x := .d (.agg (Balance.row (⟨0, (v0m.usages.length : Int), 0, (v0m.rejects.length : Int), (v0m.suspense.length : Int), (v0m.intake.open_.length : Int)⟩ : Balance)))) (q_buildP pl_39 hi39 hz39 rfl rfl) rfl ?_
  refine .v (x := .ref 2 0) (v_alloc zr_39 rfl) rfl ?_
  refine .withSt (st' := ⟨[.row 34 [.d (slOf 3 Range.row v0m.intake.seen), .d (slOf 12 Record.row v0m.intake.open_), .d (slOf 4 Head.row v0m.intake.heads), .d (slOf 12 Usage.row v0m.usages), .d (slOf 12 Record.row v0m.suspense), .d (slOf 4 Reject.row v0m.rejects)], .row 39 [.d (cI 0), .d (cI 0), .d (cI 0), .d (cI 0), .d (cI 0), .d (cI 0)], .row 39 [.d (cI 0), .d (cI 0), .d (cI 0), .d (cI 0), .d (cI 0), .d (cI 0)]], []⟩) rfl ?_
  refine .u (u_store rfl rfl rfl rfl (Nat.le_of_ble_eq_true rfl) sz_39) rfl ?_
  refine .withSt (st' := ⟨[.row 34 [.d (slOf 3 Range.row v0m.intake.seen), .d (slOf 12 Record.row v0m.intake.open_), .d (slOf 4 Head.row v0m.intake.heads), .d (slOf 12 Usage.row v0m.usages), .d (slOf 12 Record.row v0m.suspense), .d (slOf 4 Reject.row v0m.rejects)], .row 39 [.d (cI 0), .d (cI 0), .d (cI 0), .d (cI 0), .d (cI 0), .d (cI 0)], .row 39 [.d (cI 0), .d (cI (v0m.usages.length : Int)), .d (cI 0), .d (cI (v0m.rejects.length : Int)), .d (cI (v0m.suspense.length : Int)), .d (cI (v0m.intake.open_.length : Int))]], []⟩) rfl ?_
  refine .nil ?_
  refine .seq ?_
  refine .seq ?_
  refine .region ?_
  refine .q (q_fieldRef fo_34_0 rfl) rfl ?_
  refine .q (q_fieldRef fo_30_2 rfl) rfl ?_
  refine .q (x := .d (slOf 4 Head.row v0m.intake.heads)) (q_loadO one_28 rfl rfl rfl) rfl ?_
  refine .q (q_lenL (l := v0m.intake.heads) (row := Head.row) Try.underlying28 rfl rfl) rfl ?_
  refine .q (q_move rfl) rfl ?_
  refine .nil ?_
  refine .blockJoin2 (ι := Int) (fun s => [(1, .ref 0 0), (2, .ref 1 0), (3, .ref 2 0)]) (fun s => ⟨[.row 34 [.d (slOf 3 Range.row v0m.intake.seen), .d (slOf 12 Record.row v0m.intake.open_), .d (slOf 4 Head.row v0m.intake.heads), .d (slOf 12 Usage.row v0m.usages), .d (slOf 12 Record.row v0m.suspense), .d (slOf 4 Reject.row v0m.rejects)], .row 39 [.d (cI 0), .d (cI 0), .d (cI 0), .d (cI 0), .d (cI 0), .d (cI 0)], .row 39 [.d (cI s), .d (cI (v0m.usages.length : Int)), .d (cI 0), .d (cI (v0m.rejects.length : Int)), .d (cI (v0m.suspense.length : Int)), .d (cI (v0m.intake.open_.length : Int))]], []⟩) (fun s => f_mediation_Balance_j1 v0m s = some r) ?_ ?_
  · rintro o2c0j1 H
    replace H : f_mediation_Balance_j1 v0m o2c0j1 = some r := H
    unfold f_mediation_Balance_j1 at H
    change ARun _ _ _ _ _ _ [(1, .ref 0 0), (2, .ref 1 0), (3, .ref 2 0)] ⟨[.row 34 [.d (slOf 3 Range.row v0m.intake.seen), .d (slOf 12 Record.row v0m.intake.open_), .d (slOf 4 Head.row v0m.intake.heads), .d (slOf 12 Usage.row v0m.usages), .d (slOf 12 Record.row v0m.suspense), .d (slOf 4 Reject.row v0m.rejects)], .row 39 [.d (cI 0), .d (cI 0), .d (cI 0), .d (cI 0), .d (cI 0), .d (cI 0)], .row 39 [.d (cI o2c0j1), .d (cI (v0m.usages.length : Int)), .d (cI 0), .d (cI (v0m.rejects.length : Int)), .d (cI (v0m.suspense.length : Int)), .d (cI (v0m.intake.open_.length : Int))]], []⟩
    refine .seq ?_
    refine .drawn 14 hMix (by kernel_rfl) ?_
    show DOps _ _ _ _ _ _ _ (_ :: _) _ _ _
    refine .q (q_fieldRef fo_34_0 rfl) rfl ?_
    refine .q (q_fieldRef fo_30_0 rfl) rfl ?_
    refine .q (x := .d (slOf 3 Range.row v0m.intake.seen)) (q_loadO one_26 rfl rfl rfl) rfl ?_
    obtain ⟨y1, hy1, H⟩ := bind_some' H
    refine .g (x := .d (cI y1)) (g_call en_49 rfl rfl (c_f_dedup_Count (hy1))) rfl ?_
    refine .q (q_fieldRef fo_39_1 rfl) rfl ?_
    refine .q (x := .d (cI (v0m.usages.length : Int))) (q_loadO one_3 rfl rfl rfl) rfl ?_
    obtain ⟨hk1, H⟩ := ck_some H
    refine .q (q_subI rfl rfl hk1.1 hk1.2) rfl ?_
    refine .q (q_fieldRef fo_39_4 rfl) rfl ?_
    refine .q (x := .d (cI (v0m.suspense.length : Int))) (q_loadO one_3 rfl rfl rfl) rfl ?_
    obtain ⟨hk2, H⟩ := ck_some H
    refine .q (q_subI rfl rfl hk2.1 hk2.2) rfl ?_
    refine .q (q_fieldRef fo_39_5 rfl) rfl ?_
    refine .q (x := .d (cI (v0m.intake.open_.length : Int))) (q_loadO one_3 rfl rfl rfl) rfl ?_
    obtain ⟨hk3, H⟩ := ck_some H
    refine .q (q_subI rfl rfl hk3.1 hk3.2) rfl ?_
    refine .q (q_fieldRef fo_39_2 rfl) rfl ?_
    refine .nil ?_
    show AOps _ _ _ _ _ _ (_ :: _) _ _ _
    refine .u (u_store rfl rfl rfl rfl (Nat.le_of_ble_eq_true rfl) sz_3) rfl ?_
    refine .withSt (st' := ⟨[.row 34 [.d (slOf 3 Range.row v0m.intake.seen), .d (slOf 12 Record.row v0m.intake.open_), .d (slOf 4 Head.row v0m.intake.heads), .d (slOf 12 Usage.row v0m.usages), .d (slOf 12 Record.row v0m.suspense), .d (slOf 4 Reject.row v0m.rejects)], .row 39 [.d (cI 0), .d (cI 0), .d (cI 0), .d (cI 0), .d (cI 0), .d (cI 0)], .row 39 [.d (cI o2c0j1), .d (cI (v0m.usages.length : Int)), .d (cI (((y1 - (v0m.usages.length : Int)) - (v0m.suspense.length : Int)) - (v0m.intake.open_.length : Int))), .d (cI (v0m.rejects.length : Int)), .d (cI (v0m.suspense.length : Int)), .d (cI (v0m.intake.open_.length : Int))]], []⟩) rfl ?_
    refine .nil ?_
    refine .seq ?_
    refine .region ?_
    refine .q (x := .d (.agg (Balance.row (⟨o2c0j1, (v0m.usages.length : Int), ((y1 - (v0m.usages.length : Int)) - (v0m.suspense.length : Int)) - (v0m.intake.open_.length : Int), (v0m.rejects.length : Int), (v0m.suspense.length : Int), (v0m.intake.open_.length : Int)⟩ : Balance)))) (q_loadOA one_39 sz_39 rfl rfl (Nat.le_of_ble_eq_true rfl) rfl) rfl ?_
    refine .u (u_store rfl rfl rfl rfl (Nat.le_of_ble_eq_true rfl) sz_39) rfl ?_
    refine .withSt (st' := ⟨[.row 34 [.d (slOf 3 Range.row v0m.intake.seen), .d (slOf 12 Record.row v0m.intake.open_), .d (slOf 4 Head.row v0m.intake.heads), .d (slOf 12 Usage.row v0m.usages), .d (slOf 12 Record.row v0m.suspense), .d (slOf 4 Reject.row v0m.rejects)], .row 39 [.d (cI o2c0j1), .d (cI (v0m.usages.length : Int)), .d (cI (((y1 - (v0m.usages.length : Int)) - (v0m.suspense.length : Int)) - (v0m.intake.open_.length : Int))), .d (cI (v0m.rejects.length : Int)), .d (cI (v0m.suspense.length : Int)), .d (cI (v0m.intake.open_.length : Int))], .row 39 [.d (cI o2c0j1), .d (cI (v0m.usages.length : Int)), .d (cI (((y1 - (v0m.usages.length : Int)) - (v0m.suspense.length : Int)) - (v0m.intake.open_.length : Int))), .d (cI (v0m.rejects.length : Int)), .d (cI (v0m.suspense.length : Int)), .d (cI (v0m.intake.open_.length : Int))]], []⟩) rfl ?_
    refine .nil ?_
    refine .retN [.cell 2 39] [.d (.agg (Balance.row (⟨o2c0j1, (v0m.usages.length : Int), ((y1 - (v0m.usages.length : Int)) - (v0m.suspense.length : Int)) - (v0m.intake.open_.length : Int), (v0m.rejects.length : Int), (v0m.suspense.length : Int), (v0m.intake.open_.length : Int)⟩ : Balance)))] Try.func31 Try.results31 ⟨⟨⟨_, _, rfl⟩, q_loadOA one_39 sz_39 rfl rfl (Nat.le_of_ble_eq_true rfl) rfl⟩, trivial⟩ ?_
    cases H
    exact ⟨_, .rfl' _, rfl⟩
  · intro hj1 hj1x
    obtain ⟨n1, H⟩ := loop_some H
    refine .withSt (st' := ⟨[.row 34 [.d (slOf 3 Range.row v0m.intake.seen), .d (slOf 12 Record.row v0m.intake.open_), .d (slOf 4 Head.row v0m.intake.heads), .d (slOf 12 Usage.row v0m.usages), .d (slOf 12 Record.row v0m.suspense), .d (slOf 4 Reject.row v0m.rejects)], .row 39 [.d (cI 0), .d (cI 0), .d (cI 0), .d (cI 0), .d (cI 0), .d (cI 0)], .row 39 [.d (cI 0), .d (cI (v0m.usages.length : Int)), .d (cI 0), .d (cI (v0m.rejects.length : Int)), .d (cI (v0m.suspense.length : Int)), .d (cI (v0m.intake.open_.length : Int))]], []⟩) rfl <| .loop (ι := Nat × (Int × Int)) (fun p => [(1, .ref 0 0), (2, .ref 1 0), (3, .ref 2 0), (22, .d (slOf 4 Head.row v0m.intake.heads)), (23, .d (cI (v0m.intake.heads.length : Int))), (24, .d (cI p.2.1))]) (fun p => ⟨[.row 34 [.d (slOf 3 Range.row v0m.intake.seen), .d (slOf 12 Record.row v0m.intake.open_), .d (slOf 4 Head.row v0m.intake.heads), .d (slOf 12 Usage.row v0m.usages), .d (slOf 12 Record.row v0m.suspense), .d (slOf 4 Reject.row v0m.rejects)], .row 39 [.d (cI 0), .d (cI 0), .d (cI 0), .d (cI 0), .d (cI 0), .d (cI 0)], .row 39 [.d (cI p.2.2), .d (cI (v0m.usages.length : Int)), .d (cI 0), .d (cI (v0m.rejects.length : Int)), .d (cI (v0m.suspense.length : Int)), .d (cI (v0m.intake.open_.length : Int))]], []⟩) (fun p => iter (fun s => f_mediation_Balance_l1 v0m s.1 s.2) p.1 p.2 = some r) (·.1) (n1, (0, 0)) H (.cons rfl (.rfl' _) (.cons rfl (.rfl' _) (.cons rfl (.rfl' _) (.cons rfl (.rfl' _) (.cons rfl (.rfl' _) (.cons rfl (.rfl' _) (.nil))))))) rfl ?_
    rintro ⟨m1, v24l1, o2c0l1⟩ HI ih1
    obtain ⟨n1, q1, hm1, H, HK1⟩ := iter_succ HI
    clear HI
    replace H : f_mediation_Balance_l1 v0m v24l1 o2c0l1 = some q1 := H
    unfold f_mediation_Balance_l1 at H
    change ARun _ _ _ _ _ _ [(1, .ref 0 0), (2, .ref 1 0), (3, .ref 2 0), (22, .d (slOf 4 Head.row v0m.intake.heads)), (23, .d (cI (v0m.intake.heads.length : Int))), (24, .d (cI v24l1))] ⟨[.row 34 [.d (slOf 3 Range.row v0m.intake.seen), .d (slOf 12 Record.row v0m.intake.open_), .d (slOf 4 Head.row v0m.intake.heads), .d (slOf 12 Usage.row v0m.usages), .d (slOf 12 Record.row v0m.suspense), .d (slOf 4 Reject.row v0m.rejects)], .row 39 [.d (cI 0), .d (cI 0), .d (cI 0), .d (cI 0), .d (cI 0), .d (cI 0)], .row 39 [.d (cI o2c0l1), .d (cI (v0m.usages.length : Int)), .d (cI 0), .d (cI (v0m.rejects.length : Int)), .d (cI (v0m.suspense.length : Int)), .d (cI (v0m.intake.open_.length : Int))]], []⟩
    refine .seq ?_
    refine .region ?_
    refine .q (q_lss rfl rfl) rfl ?_
    refine .nil ?_
    refine .seq ?_
    refine .cond rfl (fun hc => ?_) (fun hc => ?_)
    · replace H := ifT hc H; clear hc
      refine .skip ?_
      refine .seq ?_
      refine .block ?_
      refine .seq ?_
      refine .region ?_
      obtain ⟨hk4, H⟩ := ck_some H
      refine .q (x := .d (.ro (Head.row (nth v0m.intake.heads (Int.toNat (v24l1)))))) (q_idxL (row := Head.row) (l := v0m.intake.heads) (i := v24l1) Try.underlying28 hi90 hs90 rfl rfl rfl hk4) rfl ?_
      refine .q (x := .d (.agg (Head.row (nth v0m.intake.heads (Int.toNat (v24l1)))))) (q_loadAll one_90 sz_90 rfl rfl) rfl ?_
      refine .v (x := .ref 3 0) (v_alloc zr_90 rfl) rfl ?_
      refine .withSt (st' := ⟨[.row 34 [.d (slOf 3 Range.row v0m.intake.seen), .d (slOf 12 Record.row v0m.intake.open_), .d (slOf 4 Head.row v0m.intake.heads), .d (slOf 12 Usage.row v0m.usages), .d (slOf 12 Record.row v0m.suspense), .d (slOf 4 Reject.row v0m.rejects)], .row 39 [.d (cI 0), .d (cI 0), .d (cI 0), .d (cI 0), .d (cI 0), .d (cI 0)], .row 39 [.d (cI o2c0l1), .d (cI (v0m.usages.length : Int)), .d (cI 0), .d (cI (v0m.rejects.length : Int)), .d (cI (v0m.suspense.length : Int)), .d (cI (v0m.intake.open_.length : Int))], .row 90 [.d (cI 0), .d (cI 0), .d (cI 0), .d (cI 0)]], []⟩) rfl ?_
      refine .u (u_store rfl rfl rfl rfl (Nat.le_of_ble_eq_true rfl) sz_90) rfl ?_
      refine .withSt (st' := ⟨[.row 34 [.d (slOf 3 Range.row v0m.intake.seen), .d (slOf 12 Record.row v0m.intake.open_), .d (slOf 4 Head.row v0m.intake.heads), .d (slOf 12 Usage.row v0m.usages), .d (slOf 12 Record.row v0m.suspense), .d (slOf 4 Reject.row v0m.rejects)], .row 39 [.d (cI 0), .d (cI 0), .d (cI 0), .d (cI 0), .d (cI 0), .d (cI 0)], .row 39 [.d (cI o2c0l1), .d (cI (v0m.usages.length : Int)), .d (cI 0), .d (cI (v0m.rejects.length : Int)), .d (cI (v0m.suspense.length : Int)), .d (cI (v0m.intake.open_.length : Int))], .row 90 [.d (cI ((nth v0m.intake.heads (Int.toNat (v24l1))).source)), .d (cI ((nth v0m.intake.heads (Int.toNat (v24l1))).number)), .d (cI ((nth v0m.intake.heads (Int.toNat (v24l1))).format)), .d (cI ((nth v0m.intake.heads (Int.toNat (v24l1))).count))]], []⟩) rfl ?_
      refine .nil ?_
      refine .region ?_
      refine .q (q_fieldRef fo_39_0 rfl) rfl ?_
      refine .q (x := .d (cI o2c0l1)) (q_loadO one_3 rfl rfl rfl) rfl ?_
      refine .q (q_fieldRef fo_90_3 rfl) rfl ?_
      refine .q (x := .d (cI ((nth v0m.intake.heads (Int.toNat (v24l1))).count))) (q_loadO one_3 rfl rfl rfl) rfl ?_
      obtain ⟨hk5, H⟩ := ck_some H
      refine .q (q_addI rfl rfl hk5.1 hk5.2) rfl ?_
      refine .q (q_fieldRef fo_39_0 rfl) rfl ?_
      refine .u (u_store rfl rfl rfl rfl (Nat.le_of_ble_eq_true rfl) sz_3) rfl ?_
      refine .withSt (st' := ⟨[.row 34 [.d (slOf 3 Range.row v0m.intake.seen), .d (slOf 12 Record.row v0m.intake.open_), .d (slOf 4 Head.row v0m.intake.heads), .d (slOf 12 Usage.row v0m.usages), .d (slOf 12 Record.row v0m.suspense), .d (slOf 4 Reject.row v0m.rejects)], .row 39 [.d (cI 0), .d (cI 0), .d (cI 0), .d (cI 0), .d (cI 0), .d (cI 0)], .row 39 [.d (cI (o2c0l1 + ((nth v0m.intake.heads (Int.toNat (v24l1))).count))), .d (cI (v0m.usages.length : Int)), .d (cI 0), .d (cI (v0m.rejects.length : Int)), .d (cI (v0m.suspense.length : Int)), .d (cI (v0m.intake.open_.length : Int))], .row 90 [.d (cI ((nth v0m.intake.heads (Int.toNat (v24l1))).source)), .d (cI ((nth v0m.intake.heads (Int.toNat (v24l1))).number)), .d (cI ((nth v0m.intake.heads (Int.toNat (v24l1))).format)), .d (cI ((nth v0m.intake.heads (Int.toNat (v24l1))).count))]], []⟩) rfl ?_
      refine .nil ?_
      refine .inBlock ?_
      refine .region ?_
      obtain ⟨hk6, H⟩ := ck_some H
      refine .q (q_addI rfl rfl hk6.1 hk6.2) rfl ?_
      refine .q (q_move rfl) rfl ?_
      refine .nil ?_
      cases H
      exact .to 3 0 (env' := [(1, .ref 0 0), (2, .ref 1 0), (3, .ref 2 0), (22, .d (slOf 4 Head.row v0m.intake.heads)), (23, .d (cI (v0m.intake.heads.length : Int))), (24, .d (cI (v24l1 + 1)))]) (st' := ⟨[.row 34 [.d (slOf 3 Range.row v0m.intake.seen), .d (slOf 12 Record.row v0m.intake.open_), .d (slOf 4 Head.row v0m.intake.heads), .d (slOf 12 Usage.row v0m.usages), .d (slOf 12 Record.row v0m.suspense), .d (slOf 4 Reject.row v0m.rejects)], .row 39 [.d (cI 0), .d (cI 0), .d (cI 0), .d (cI 0), .d (cI 0), .d (cI 0)], .row 39 [.d (cI (o2c0l1 + ((nth v0m.intake.heads (Int.toNat (v24l1))).count))), .d (cI (v0m.usages.length : Int)), .d (cI 0), .d (cI (v0m.rejects.length : Int)), .d (cI (v0m.suspense.length : Int)), .d (cI (v0m.intake.open_.length : Int))]], []⟩) (.cons rfl (.rfl' _) (.cons rfl (.rfl' _) (.cons rfl (.rfl' _) (.cons rfl (.rfl' _) (.cons rfl (.rfl' _) (.cons rfl (.rfl' _) (.nil))))))) rfl rfl rfl rfl rfl (by rw [hS]; exact Nat.le_of_ble_eq_true rfl) (by rw [hS]; exact Nat.le_of_ble_eq_true rfl) <| .sub (.cons rfl (.rfl' _) (.cons rfl (.rfl' _) (.cons rfl (.rfl' _) (.cons rfl (.rfl' _) (.cons rfl (.rfl' _) (.cons rfl (.rfl' _) (.nil))))))) (ih1 (n1, (v24l1 + 1, o2c0l1 + ((nth v0m.intake.heads (Int.toNat (v24l1))).count))) HK1 hm1)
    · replace H := ifF hc H; clear hc
      refine .exit rfl ?_
      obtain ⟨q0, H9, hq0⟩ := map_some' H; clear H; cases hq0
      cases HK1
      have H := H9
      exact .withSt (st' := ⟨[.row 34 [.d (slOf 3 Range.row v0m.intake.seen), .d (slOf 12 Record.row v0m.intake.open_), .d (slOf 4 Head.row v0m.intake.heads), .d (slOf 12 Usage.row v0m.usages), .d (slOf 12 Record.row v0m.suspense), .d (slOf 4 Reject.row v0m.rejects)], .row 39 [.d (cI 0), .d (cI 0), .d (cI 0), .d (cI 0), .d (cI 0), .d (cI 0)], .row 39 [.d (cI o2c0l1), .d (cI (v0m.usages.length : Int)), .d (cI 0), .d (cI (v0m.rejects.length : Int)), .d (cI (v0m.suspense.length : Int)), .d (cI (v0m.intake.open_.length : Int))]], []⟩) rfl <| .sub (.cons rfl (.rfl' _) (.cons rfl (.rfl' _) (.cons rfl (.rfl' _) (.nil)))) (hj1x o2c0l1 H)

set_option maxRecDepth 100000 in
set_option maxHeartbeats 1000000 in
theorem c_g_assure_Intake_1 {v0key : Int} {v1left : Int} {v2right : Int} {y0t0p : List Leak} {r : (List Leak)} (H : g_assure_Intake_1 v0key v1left v2right y0t0p = some r) : ACallS Try.prog 32 [.d (cI v0key), .d (cI v1left), .d (cI v2right), .ref 0 0] ⟨[.row 42 [.tsl 4 (y0t0p.map Leak.row) 0]], [⟨60, 4, y0t0p.length, none⟩]⟩ (QE (.d (.tup [])) ⟨[.row 42 [.tsl 4 (r.map Leak.row) 0]], [⟨60, 4, r.length, none⟩]⟩) := by
  obtain ⟨i60, hi60, hz60, hs60, hb60⟩ := in_60
  refine ACallS.keep ?_
  refine ACallS.enter Try.func32 rfl Try.ntmps32 rfl fun S hS => ?_
  unfold g_assure_Intake_1 at H
  change ARun _ _ _ _ _ _ [(0, .d (cI v0key)), (1, .d (cI v1left)), (2, .d (cI v2right)), (3, .ref 0 0)] _
  refine .seq ?_
  refine .region ?_
  refine .q (q_move rfl) rfl ?_
  refine .q (q_move rfl) rfl ?_
  refine .q (q_neq rfl rfl) rfl ?_
  refine .nil ?_
  refine .cond rfl (fun hc => ?_) (fun hc => ?_)
  · replace H := ifT hc H; clear hc
    refine .region ?_
    refine .q (x := .tsl 4 (y0t0p.map Leak.row) 0) (q_loadO one_42 rfl rfl rfl) rfl ?_
    refine .q (q_move rfl) rfl ?_
    refine .q (q_move rfl) rfl ?_
    refine .q (q_move rfl) rfl ?_
    refine .q (x := .d (.agg (Leak.row (⟨1, v0key, v1left, v2right⟩ : Leak)))) (q_buildP pl_60 hi60 hz60 rfl rfl) rfl ?_
    refine .g (x := .d (slOf 4 Leak.row ([(⟨1, v0key, v1left, v2right⟩ : Leak)] : List Leak))) (g_buildSlice1 Try.underlying42 hi60 hs60 hz60 rfl rfl rfl rfl rfl) rfl ?_
    obtain ⟨hk1, H⟩ := ck_some H
    refine .v (x := .tsl 4 ((y0t0p ++ ([(⟨1, v0key, v1left, v2right⟩ : Leak)] : List Leak)).map Leak.row) 0) (v_appendL (l := y0t0p) (l' := ([(⟨1, v0key, v1left, v2right⟩ : Leak)] : List Leak)) (row := Leak.row) Try.underlying42 hi60 hz60 hs60 rfl (by rw [hb60]; decide) rfl rfl rfl rfl hk1) rfl ?_
    refine .withSt (st' := ⟨[.row 42 [.tsl 4 (y0t0p.map Leak.row) 0]], [⟨60, 4, (y0t0p ++ ([(⟨1, v0key, v1left, v2right⟩ : Leak)] : List Leak)).length, none⟩]⟩) rfl ?_
    refine .u (u_store rfl rfl rfl rfl (Nat.le_of_ble_eq_true rfl) sz_42) rfl ?_
    refine .withSt (st' := ⟨[.row 42 [.tsl 4 ((y0t0p ++ ([(⟨1, v0key, v1left, v2right⟩ : Leak)] : List Leak)).map Leak.row) 0]], [⟨60, 4, (y0t0p ++ ([(⟨1, v0key, v1left, v2right⟩ : Leak)] : List Leak)).length, none⟩]⟩) rfl ?_
    refine .nil ?_
    refine .fin0 Try.func32 Try.results32 ?_
    cases H
    exact ⟨[0], [0], rfl, rfl, rfl, rfl, rfl, rfl, rfl, rfl, EVle.tupL (ds := []) trivial⟩
  · replace H := ifF hc H; clear hc
    refine .skip ?_
    refine .fin0 Try.func32 Try.results32 ?_
    cases H
    exact ⟨[0], [0], rfl, rfl, rfl, rfl, rfl, rfl, rfl, rfl, EVle.tupL (ds := []) trivial⟩

set_option maxRecDepth 100000 in
set_option maxHeartbeats 1000000 in
theorem c_f_assure_Intake {v0m : Mediation} {v1read : Int} {r : (List Leak)} (H : f_assure_Intake v0m v1read = some r) : ACall Try.prog 14 [.agg (Mediation.row v0m), cI v1read] (· = slOf 4 Leak.row r) := by
  refine ACall.enter' Try.func14 rfl Try.ntmps14 rfl fun S hS => ?_
  unfold f_assure_Intake at H
  change ARun _ _ _ _ _ _ [(0, .d (.agg (Mediation.row v0m))), (1, .d (cI v1read))] _
  refine .seq ?_
  refine .region ?_
  refine .v (x := .ref 0 0) (v_box rfl rfl) rfl ?_
  refine .withSt (st' := ⟨[.row 34 [.d (slOf 3 Range.row v0m.intake.seen), .d (slOf 12 Record.row v0m.intake.open_), .d (slOf 4 Head.row v0m.intake.heads), .d (slOf 12 Usage.row v0m.usages), .d (slOf 12 Record.row v0m.suspense), .d (slOf 4 Reject.row v0m.rejects)]], []⟩) rfl ?_
  refine .q (q_assign rfl) rfl ?_
  refine .nil ?_
  refine .seq ?_
  refine .region ?_
  refine .q (x := .d (.agg (Mediation.row v0m))) (q_loadOA one_34 sz_34 rfl rfl (Nat.le_of_ble_eq_true rfl) rfl) rfl ?_
  obtain ⟨y1, hy1, H⟩ := bind_some' H
  refine .g (x := .d (.agg (Balance.row y1))) (g_call en_31 rfl rfl (c_f_mediation_Balance (hy1))) rfl ?_
  refine .v (x := .ref 1 0) (v_alloc zr_39 rfl) rfl ?_
  refine .withSt (st' := ⟨[.row 34 [.d (slOf 3 Range.row v0m.intake.seen), .d (slOf 12 Record.row v0m.intake.open_), .d (slOf 4 Head.row v0m.intake.heads), .d (slOf 12 Usage.row v0m.usages), .d (slOf 12 Record.row v0m.suspense), .d (slOf 4 Reject.row v0m.rejects)], .row 39 [.d (cI 0), .d (cI 0), .d (cI 0), .d (cI 0), .d (cI 0), .d (cI 0)]], []⟩) rfl ?_
  refine .u (u_store rfl rfl rfl rfl (Nat.le_of_ble_eq_true rfl) sz_39) rfl ?_
  refine .withSt (st' := ⟨[.row 34 [.d (slOf 3 Range.row v0m.intake.seen), .d (slOf 12 Record.row v0m.intake.open_), .d (slOf 4 Head.row v0m.intake.heads), .d (slOf 12 Usage.row v0m.usages), .d (slOf 12 Record.row v0m.suspense), .d (slOf 4 Reject.row v0m.rejects)], .row 39 [.d (cI y1.read), .d (cI y1.accepted), .d (cI y1.merged), .d (cI y1.rejected), .d (cI y1.suspended), .d (cI y1.open_)]], []⟩) rfl ?_
  refine .nil ?_
  refine .seq ?_
  refine .region ?_
  refine .v (x := .ref 2 0) (v_alloc zr_42 rfl) rfl ?_
  refine .withSt (st' := ⟨[.row 34 [.d (slOf 3 Range.row v0m.intake.seen), .d (slOf 12 Record.row v0m.intake.open_), .d (slOf 4 Head.row v0m.intake.heads), .d (slOf 12 Usage.row v0m.usages), .d (slOf 12 Record.row v0m.suspense), .d (slOf 4 Reject.row v0m.rejects)], .row 39 [.d (cI y1.read), .d (cI y1.accepted), .d (cI y1.merged), .d (cI y1.rejected), .d (cI y1.suspended), .d (cI y1.open_)], .row 42 [.d (nilD)]], []⟩) rfl ?_
  refine .nil ?_
  refine .seq ?_
  refine .region ?_
  refine .q (x := .clo 32 [.ref 2 0]) (q_makeFunc rfl) rfl ?_
  refine .q (q_assign rfl) rfl ?_
  refine .nil ?_
  refine .seq ?_
  refine .region ?_
  refine .q (q_move rfl) rfl ?_
  refine .q (q_move rfl) rfl ?_
  refine .q (q_fieldRef fo_39_0 rfl) rfl ?_
  refine .q (x := .d (cI y1.read)) (q_loadO one_3 rfl rfl rfl) rfl ?_
  refine .tokCell (o := 2) (ci := 0) (e := 60) (sz := 4) rfl rfl ?_
  refine .withSt (st' := ⟨[.row 34 [.d (slOf 3 Range.row v0m.intake.seen), .d (slOf 12 Record.row v0m.intake.open_), .d (slOf 4 Head.row v0m.intake.heads), .d (slOf 12 Usage.row v0m.usages), .d (slOf 12 Record.row v0m.suspense), .d (slOf 4 Reject.row v0m.rejects)], .row 39 [.d (cI y1.read), .d (cI y1.accepted), .d (cI y1.merged), .d (cI y1.rejected), .d (cI y1.suspended), .d (cI y1.open_)], .row 42 [.tsl 4 (([] : List Leak).map Leak.row) 0]], [⟨60, 4, ([] : List Leak).length, none⟩]⟩) rfl ?_
  obtain ⟨y2, hy2, H⟩ := bind_some' H
  refine .callFC en_32 rfl rfl [2] [0] (x := .d (.tup [])) (st' := ⟨[.row 34 [.d (slOf 3 Range.row v0m.intake.seen), .d (slOf 12 Record.row v0m.intake.open_), .d (slOf 4 Head.row v0m.intake.heads), .d (slOf 12 Usage.row v0m.usages), .d (slOf 12 Record.row v0m.suspense), .d (slOf 4 Reject.row v0m.rejects)], .row 39 [.d (cI y1.read), .d (cI y1.accepted), .d (cI y1.merged), .d (cI y1.rejected), .d (cI y1.suspended), .d (cI y1.open_)], .row 42 [.tsl 4 (y2.map Leak.row) 0]], [⟨60, 4, y2.length, none⟩]⟩) rfl (c_g_assure_Intake_1 (hy2)) ⟨.rfl' _, .rfl' _, .rfl' _, .rfl' _, trivial⟩ rfl rfl rfl rfl rfl rfl ?_
  refine .withSt (st' := ⟨[.row 34 [.d (slOf 3 Range.row v0m.intake.seen), .d (slOf 12 Record.row v0m.intake.open_), .d (slOf 4 Head.row v0m.intake.heads), .d (slOf 12 Usage.row v0m.usages), .d (slOf 12 Record.row v0m.suspense), .d (slOf 4 Reject.row v0m.rejects)], .row 39 [.d (cI y1.read), .d (cI y1.accepted), .d (cI y1.merged), .d (cI y1.rejected), .d (cI y1.suspended), .d (cI y1.open_)], .row 42 [.tsl 4 (y2.map Leak.row) 0]], [⟨60, 4, y2.length, none⟩]⟩) rfl ?_
  refine .nil ?_
  refine .seq ?_
  refine .region ?_
  refine .q (q_move rfl) rfl ?_
  refine .q (q_fieldRef fo_39_0 rfl) rfl ?_
  refine .q (x := .d (cI y1.read)) (q_loadO one_3 rfl rfl rfl) rfl ?_
  refine .q (q_fieldRef fo_39_1 rfl) rfl ?_
  refine .q (x := .d (cI y1.accepted)) (q_loadO one_3 rfl rfl rfl) rfl ?_
  refine .q (q_fieldRef fo_39_2 rfl) rfl ?_
  refine .q (x := .d (cI y1.merged)) (q_loadO one_3 rfl rfl rfl) rfl ?_
  obtain ⟨hk1, H⟩ := ck_some H
  refine .q (q_addI rfl rfl hk1.1 hk1.2) rfl ?_
  refine .q (q_fieldRef fo_39_3 rfl) rfl ?_
  refine .q (x := .d (cI y1.rejected)) (q_loadO one_3 rfl rfl rfl) rfl ?_
  obtain ⟨hk2, H⟩ := ck_some H
  refine .q (q_addI rfl rfl hk2.1 hk2.2) rfl ?_
  refine .q (q_fieldRef fo_39_4 rfl) rfl ?_
  refine .q (x := .d (cI y1.suspended)) (q_loadO one_3 rfl rfl rfl) rfl ?_
  obtain ⟨hk3, H⟩ := ck_some H
  refine .q (q_addI rfl rfl hk3.1 hk3.2) rfl ?_
  refine .q (q_fieldRef fo_39_5 rfl) rfl ?_
  refine .q (x := .d (cI y1.open_)) (q_loadO one_3 rfl rfl rfl) rfl ?_
  obtain ⟨hk4, H⟩ := ck_some H
  refine .q (q_addI rfl rfl hk4.1 hk4.2) rfl ?_
  obtain ⟨y3, hy3, H⟩ := bind_some' H
  refine .callFC en_32 rfl rfl [2] [0] (x := .d (.tup [])) (st' := ⟨[.row 34 [.d (slOf 3 Range.row v0m.intake.seen), .d (slOf 12 Record.row v0m.intake.open_), .d (slOf 4 Head.row v0m.intake.heads), .d (slOf 12 Usage.row v0m.usages), .d (slOf 12 Record.row v0m.suspense), .d (slOf 4 Reject.row v0m.rejects)], .row 39 [.d (cI y1.read), .d (cI y1.accepted), .d (cI y1.merged), .d (cI y1.rejected), .d (cI y1.suspended), .d (cI y1.open_)], .row 42 [.tsl 4 (y3.map Leak.row) 0]], [⟨60, 4, y3.length, none⟩]⟩) rfl (c_g_assure_Intake_1 (hy3)) ⟨.rfl' _, .rfl' _, .rfl' _, .rfl' _, trivial⟩ rfl rfl rfl rfl rfl rfl ?_
  refine .withSt (st' := ⟨[.row 34 [.d (slOf 3 Range.row v0m.intake.seen), .d (slOf 12 Record.row v0m.intake.open_), .d (slOf 4 Head.row v0m.intake.heads), .d (slOf 12 Usage.row v0m.usages), .d (slOf 12 Record.row v0m.suspense), .d (slOf 4 Reject.row v0m.rejects)], .row 39 [.d (cI y1.read), .d (cI y1.accepted), .d (cI y1.merged), .d (cI y1.rejected), .d (cI y1.suspended), .d (cI y1.open_)], .row 42 [.tsl 4 (y3.map Leak.row) 0]], [⟨60, 4, y3.length, none⟩]⟩) rfl ?_
  refine .nil ?_
  refine .seq ?_
  refine .region ?_
  refine .q (x := .tsl 4 (y3.map Leak.row) 0) (q_loadO one_42 rfl rfl rfl) rfl ?_
  refine .q (q_assign rfl) rfl ?_
  refine .nil ?_
  refine .retN [.tmp 4] [.tsl 4 (y3.map Leak.row) 0] Try.func14 Try.results14 ⟨rfl, trivial⟩ ?_
  cases H
  exact ⟨_, .tsl _ _ _, rfl⟩

set_option maxRecDepth 100000 in
set_option maxHeartbeats 1000000 in
theorem c_f_billinglaw54_awake {r : Bool} (H : f_billinglaw54_awake = some r) : ACall Try.prog 10 [] (· = cB r) := by
  obtain ⟨i34, hi34, hz34, hs34, hb34⟩ := in_34
  obtain ⟨i52, hi52, hz52, hs52, hb52⟩ := in_52
  obtain ⟨i58, hi58, hz58, hs58, hb58⟩ := in_58
  obtain ⟨i60, hi60, hz60, hs60, hb60⟩ := in_60
  obtain ⟨i64, hi64, hz64, hs64, hb64⟩ := in_64
  refine ACall.enter' Try.func10 rfl Try.ntmps10 rfl fun S hS => ?_
  unfold f_billinglaw54_awake at H
  change ARun _ _ _ _ _ _ [] _
  refine .seq ?_
  refine .region ?_
  refine .q (q_assign rfl) rfl ?_
  refine .nil ?_
  refine .seq ?_
  refine .region ?_
  refine .q (x := .d (.agg (Usage.row (⟨3, 0, 0, 0, ([] : List UInt8), ([] : List UInt8), 0, 0, 0, false, 0, 0⟩ : Usage)))) (q_buildP pl_52 hi52 hz52 rfl rfl) rfl ?_
  refine .g (x := .d (slOf 12 Usage.row ([(⟨3, 0, 0, 0, ([] : List UInt8), ([] : List UInt8), 0, 0, 0, false, 0, 0⟩ : Usage)] : List Usage))) (g_buildSlice1 Try.underlying31 hi52 hs52 hz52 rfl rfl rfl rfl rfl) rfl ?_
  obtain ⟨y1, hy1, H⟩ := bind_some' H
  refine .g (x := .d (slOf 4 Leak.row y1)) (g_call en_19 rfl rfl ((c_f_assure_Usages (hy1)).le ⟨.rfl' _, .nil 24, trivial⟩)) rfl ?_
  refine .q (q_assign rfl) rfl ?_
  refine .nil ?_
  refine .seq ?_
  refine .region ?_
  refine .q (x := .d (.agg (Usage.row (⟨0, 0, 0, 2, ([] : List UInt8), ([] : List UInt8), 0, 0, 0, false, 0, 0⟩ : Usage)))) (q_buildP pl_52 hi52 hz52 rfl rfl) rfl ?_
  refine .q (x := .d (.agg (Rated.row (⟨(⟨0, 0, 0, 2, ([] : List UInt8), ([] : List UInt8), 0, 0, 0, false, 0, 0⟩ : Usage), 0, ([] : List UInt8), 0, ([] : List UInt8), ([] : List Take), ([] : List Segment), 0, 0, 0, ([] : List Given), 0, 700⟩ : Rated)))) (OpQ.le (q_buildP pl_58 hi58 hz58 rfl rfl) (EVle.d (.agg ⟨.rfl' _, .rfl' _, .rfl' _, .rfl' _, .rfl' _, .rfl' _, .rfl' _, .rfl' _, .rfl' _, .rfl' _, .rfl' _, .rfl' _, .rfl' _, .rfl' _, .rfl' _, .rfl' _, .nil 5, .nil 4, .rfl' _, .rfl' _, .rfl' _, .nil 2, .rfl' _, .rfl' _, trivial⟩))) rfl ?_
  refine .g (x := .d (slOf 24 Rated.row ([(⟨(⟨0, 0, 0, 2, ([] : List UInt8), ([] : List UInt8), 0, 0, 0, false, 0, 0⟩ : Usage), 0, ([] : List UInt8), 0, ([] : List UInt8), ([] : List Take), ([] : List Segment), 0, 0, 0, ([] : List Given), 0, 700⟩ : Rated)] : List Rated))) (g_buildSlice1 Try.underlying46 hi58 hs58 hz58 rfl rfl rfl rfl rfl) rfl ?_
  refine .q (x := .d (.agg (Line.row (⟨3, 2, ([] : List UInt8), ([] : List UInt8), 0, 0, 500, 0⟩ : Line)))) (q_buildP pl_64 hi64 hz64 rfl rfl) rfl ?_
  refine .g (x := .d (slOf 8 Line.row ([(⟨3, 2, ([] : List UInt8), ([] : List UInt8), 0, 0, 500, 0⟩ : Line)] : List Line))) (g_buildSlice1 Try.underlying62 hi64 hs64 hz64 rfl rfl rfl rfl rfl) rfl ?_
  obtain ⟨y2, hy2, H⟩ := bind_some' H
  refine .g (x := .d (slOf 4 Leak.row y2)) (g_call en_21 rfl rfl (c_f_assure_Invoices (hy2))) rfl ?_
  refine .q (q_assign rfl) rfl ?_
  refine .nil ?_
  refine .seq ?_
  refine .region ?_
  refine .q (q_move rfl) rfl ?_
  refine .q (x := .d (.agg (Leak.row (⟨2, 3, 1, 0⟩ : Leak)))) (q_buildP pl_60 hi60 hz60 rfl rfl) rfl ?_
  refine .g (x := .d (slOf 4 Leak.row ([(⟨2, 3, 1, 0⟩ : Leak)] : List Leak))) (g_buildSlice1 Try.underlying42 hi60 hs60 hz60 rfl rfl rfl rfl rfl) rfl ?_
  obtain ⟨y3, hy3, H⟩ := bind_some' H
  refine .g (x := .d (cB y3)) (g_call en_13 rfl rfl (c_f_billingref54_Same (hy3))) rfl ?_
  refine .q (q_move rfl) rfl ?_
  refine .guardG (env' := [(2, _)]) rfl rfl rfl ⟨.inl rfl, trivial⟩ rfl (fun hg => OpQ.g (q_move rfl)) ?_
  obtain ⟨y4, hy4, H⟩ := bind_some' H
  refine .guardG (b := y3) (x := .d (cS y4)) (env' := [(17, _)]) rfl rfl rfl ⟨.inr (.inl rfl), trivial⟩ rfl (fun hg => (g_call en_23 rfl rfl (c_f_assure_Text (gcall_some hy4 hg)))) ?_
  refine .guardG (env' := [(18, _)]) rfl rfl rfl ⟨.inr (.inl rfl), trivial⟩ rfl (fun hg => OpQ.g (q_seql rfl rfl)) ?_
  refine .q (q_pickAndB rfl rfl rfl) rfl ?_
  refine .q (q_move rfl) rfl ?_
  refine .guardG (env' := [(1, _)]) rfl rfl rfl ⟨.inl rfl, trivial⟩ rfl (fun hg => OpQ.g (q_move rfl)) ?_
  obtain ⟨y5, hy5, H⟩ := bind_some' H
  refine .guardG (b := (y3 && (y4 == ([105, 110, 118, 111, 105, 99, 101, 32, 50, 32, 55, 48, 48, 32, 53, 48, 48, 10] : List UInt8)))) (x := .d (cS y5)) (env' := [(22, _)]) rfl rfl rfl ⟨.inr (.inl rfl), trivial⟩ rfl (fun hg => (g_call en_23 rfl rfl (c_f_assure_Text (gcall_some hy5 hg)))) ?_
  refine .guardG (env' := [(23, _)]) rfl rfl rfl ⟨.inr (.inl rfl), trivial⟩ rfl (fun hg => OpQ.g (q_seql rfl rfl)) ?_
  refine .q (q_pickAndB rfl rfl rfl) rfl ?_
  refine .q (q_move rfl) rfl ?_
  refine .guardG (b := ((y3 && (y4 == ([105, 110, 118, 111, 105, 99, 101, 32, 50, 32, 55, 48, 48, 32, 53, 48, 48, 10] : List UInt8))) && (y5 == ([117, 115, 97, 103, 101, 32, 51, 32, 49, 32, 48, 10] : List UInt8)))) (x := .d (.agg (Mediation.row (⟨(⟨([] : List Range), ([] : List Record), ([] : List Head)⟩ : Intake), ([] : List Usage), ([] : List Record), ([] : List Reject)⟩ : Mediation)))) (env' := []) rfl rfl rfl trivial rfl (fun hg => OpQ.g (OpQ.le (q_buildP pl_34 hi34 hz34 rfl rfl) (EVle.d (.agg ⟨.nil 3, .nil 12, .nil 4, .nil 12, .nil 12, .nil 4, trivial⟩)))) ?_
  obtain ⟨y6, hy6, H⟩ := bind_some' H
  refine .guardG (b := ((y3 && (y4 == ([105, 110, 118, 111, 105, 99, 101, 32, 50, 32, 55, 48, 48, 32, 53, 48, 48, 10] : List UInt8))) && (y5 == ([117, 115, 97, 103, 101, 32, 51, 32, 49, 32, 48, 10] : List UInt8)))) (x := .d (slOf 4 Leak.row y6)) (env' := [(27, _)]) rfl rfl rfl ⟨.inr (.inl rfl), trivial⟩ rfl (fun hg => (g_call en_14 rfl rfl (c_f_assure_Intake (gcall_some hy6 hg)))) ?_
  refine .guardG (env' := [(28, _)]) rfl rfl rfl ⟨.inr (.inl rfl), trivial⟩ rfl (fun hg => OpQ.g (q_lenL (l := y6) (row := Leak.row) Try.underlying42 rfl rfl)) ?_
  refine .guardG (env' := [(29, _)]) rfl rfl rfl ⟨.inr (.inl rfl), trivial⟩ rfl (fun hg => OpQ.g (q_eql rfl rfl)) ?_
  refine .q (q_pickAndB rfl rfl rfl) rfl ?_
  refine .q (q_move rfl) rfl ?_
  refine .guardG (b := (((y3 && (y4 == ([105, 110, 118, 111, 105, 99, 101, 32, 50, 32, 55, 48, 48, 32, 53, 48, 48, 10] : List UInt8))) && (y5 == ([117, 115, 97, 103, 101, 32, 51, 32, 49, 32, 48, 10] : List UInt8))) && ((y6.length : Int) == 0))) (x := .d (.agg (Mediation.row (⟨(⟨([] : List Range), ([] : List Record), ([] : List Head)⟩ : Intake), ([] : List Usage), ([] : List Record), ([] : List Reject)⟩ : Mediation)))) (env' := []) rfl rfl rfl trivial rfl (fun hg => OpQ.g (OpQ.le (q_buildP pl_34 hi34 hz34 rfl rfl) (EVle.d (.agg ⟨.nil 3, .nil 12, .nil 4, .nil 12, .nil 12, .nil 4, trivial⟩)))) ?_
  obtain ⟨y7, hy7, H⟩ := bind_some' H
  refine .guardG (b := (((y3 && (y4 == ([105, 110, 118, 111, 105, 99, 101, 32, 50, 32, 55, 48, 48, 32, 53, 48, 48, 10] : List UInt8))) && (y5 == ([117, 115, 97, 103, 101, 32, 51, 32, 49, 32, 48, 10] : List UInt8))) && ((y6.length : Int) == 0))) (x := .d (slOf 4 Leak.row y7)) (env' := [(33, _)]) rfl rfl rfl ⟨.inr (.inl rfl), trivial⟩ rfl (fun hg => (g_call en_14 rfl rfl (c_f_assure_Intake (gcall_some hy7 hg)))) ?_
  refine .guardG (env' := [(34, _)]) rfl rfl rfl ⟨.inr (.inl rfl), trivial⟩ rfl (fun hg => OpQ.g (q_lenL (l := y7) (row := Leak.row) Try.underlying42 rfl rfl)) ?_
  refine .guardG (env' := [(35, _)]) rfl rfl rfl ⟨.inr (.inl rfl), trivial⟩ rfl (fun hg => OpQ.g (q_eql rfl rfl)) ?_
  refine .q (q_pickAndB rfl rfl rfl) rfl ?_
  refine .q (q_assign rfl) rfl ?_
  refine .nil ?_
  refine .retN [.tmp 0] [.d (cB ((((y3 && (y4 == ([105, 110, 118, 111, 105, 99, 101, 32, 50, 32, 55, 48, 48, 32, 53, 48, 48, 10] : List UInt8))) && (y5 == ([117, 115, 97, 103, 101, 32, 51, 32, 49, 32, 48, 10] : List UInt8))) && ((y6.length : Int) == 0)) && ((y7.length : Int) == 1)))] Try.func10 Try.results10 ⟨rfl, trivial⟩ ?_
  cases H
  exact ⟨_, .rfl' _, rfl⟩

set_option maxRecDepth 100000 in
set_option maxHeartbeats 1000000 in
theorem c_f_billinglaw54_AssureFound {v0 : List Usage} {v1 : Int} {v2 : Int} {r : Bool} (H : f_billinglaw54_AssureFound v0 v1 v2 = some r) : ACall Try.prog 5 [slOf 12 Usage.row v0, cI v1, cI v2] (· = cB r) := by
  obtain ⟨i52, hi52, hz52, hs52, hb52⟩ := in_52
  obtain ⟨i58, hi58, hz58, hs58, hb58⟩ := in_58
  obtain ⟨i60, hi60, hz60, hs60, hb60⟩ := in_60
  refine ACall.enter' Try.func5 rfl Try.ntmps5 rfl fun S hS => ?_
  unfold f_billinglaw54_AssureFound at H
  change ARun _ _ _ _ _ _ [(0, .d (slOf 12 Usage.row v0)), (1, .d (cI v1)), (2, .d (cI v2))] _
  refine .seq ?_
  refine .region ?_
  refine .q (q_assign rfl) rfl ?_
  refine .nil ?_
  refine .seq ?_
  refine .seq ?_
  refine .region ?_
  refine .q (q_move rfl) rfl ?_
  obtain ⟨y1, hy1, H⟩ := bind_some' H
  refine .g (x := .d (cB y1)) (g_call en_17 rfl rfl (c_f_billinglaw54_usages (hy1))) rfl ?_
  refine .q (q_not rfl) rfl ?_
  refine .q (q_move rfl) rfl ?_
  refine .guardG (env' := [(1, _)]) rfl rfl rfl ⟨.inl rfl, trivial⟩ rfl (fun hg => OpQ.g (q_move rfl)) ?_
  refine .guardG (env' := [(16, _)]) rfl rfl rfl ⟨.inr (.inl rfl), trivial⟩ rfl (fun hg => OpQ.g (q_lss rfl rfl)) ?_
  refine .q (q_pickOrB rfl rfl rfl) rfl ?_
  refine .q (q_move rfl) rfl ?_
  refine .guardG (env' := [(1, _)]) rfl rfl rfl ⟨.inl rfl, trivial⟩ rfl (fun hg => OpQ.g (q_move rfl)) ?_
  refine .guardG (env' := [(0, _)]) rfl rfl rfl ⟨.inl rfl, trivial⟩ rfl (fun hg => OpQ.g (q_move rfl)) ?_
  refine .guardG (env' := [(21, _)]) rfl rfl rfl ⟨.inr (.inl rfl), trivial⟩ rfl (fun hg => OpQ.g (q_lenL (l := v0) (row := Usage.row) Try.underlying31 rfl rfl)) ?_
  refine .guardG (env' := [(20, _), (22, _)]) rfl rfl rfl ⟨.inr (.inl rfl), ⟨.inr (.inl rfl), trivial⟩⟩ rfl (fun hg => OpQ.g (q_geq rfl rfl)) ?_
  refine .q (q_pickOrB rfl rfl rfl) rfl ?_
  refine .q (q_move rfl) rfl ?_
  refine .guardG (env' := [(2, _)]) rfl rfl rfl ⟨.inl rfl, trivial⟩ rfl (fun hg => OpQ.g (q_move rfl)) ?_
  refine .guardG (env' := [(26, _)]) rfl rfl rfl ⟨.inr (.inl rfl), trivial⟩ rfl (fun hg => OpQ.g (q_lss rfl rfl)) ?_
  refine .q (q_pickOrB rfl rfl rfl) rfl ?_
  refine .q (q_move rfl) rfl ?_
  refine .guardG (env' := [(2, _)]) rfl rfl rfl ⟨.inl rfl, trivial⟩ rfl (fun hg => OpQ.g (q_move rfl)) ?_
  refine .guardG (env' := [(30, _)]) rfl rfl rfl ⟨.inr (.inl rfl), trivial⟩ rfl (fun hg => OpQ.g (q_gtr rfl rfl)) ?_
  refine .q (q_pickOrB rfl rfl rfl) rfl ?_
  refine .nil ?_
  refine .cond rfl (fun hc => ?_) (fun hc => ?_)
  · replace H := ifT hc H; clear hc
    refine .seq ?_
    refine .region ?_
    obtain ⟨y2, hy2, H⟩ := bind_some' H
    refine .g (x := .d (cB y2)) (g_call en_10 rfl rfl (c_f_billinglaw54_awake (hy2))) rfl ?_
    refine .q (q_assign rfl) rfl ?_
    refine .nil ?_
    refine .retN [.tmp 6] [.d (cB y2)] Try.func5 Try.results5 ⟨rfl, trivial⟩ ?_
    cases H
    exact ⟨_, .rfl' _, rfl⟩
  · replace H := ifF hc H; clear hc
    refine .skip ?_
    refine .seq ?_
    refine .region ?_
    refine .v (x := .vc 0 ((([] : List Rated)).length)) (v_build0V Rated.row Try.underlying46 hi58 hs58) rfl ?_
    refine .withSt (st' := ⟨[], [⟨58, 24, ((([] : List Rated)).length), some (([] : List Rated).map Rated.row)⟩]⟩) rfl ?_
    refine .v (x := .tsl 24 (([] : List Rated).map Rated.row) 1) (v_build0T Try.underlying46 hi58 hs58) rfl ?_
    refine .withSt (st' := ⟨[], [⟨58, 24, ((([] : List Rated)).length), some (([] : List Rated).map Rated.row)⟩, ⟨58, 24, ([] : List Rated).length, none⟩]⟩) rfl ?_
    refine .q (q_assign rfl) rfl ?_
    refine .q (q_assign rfl) rfl ?_
    refine .nil ?_
    refine .seq ?_
    refine .seq ?_
    refine .region ?_
    refine .q (q_assign rfl) rfl ?_
    refine .nil ?_
    refine .blockJoin2 (ι := List Rated × List Rated) (fun s => [(0, .d (slOf 12 Usage.row v0)), (1, .d (cI v1)), (2, .d (cI v2)), (7, .vc 0 s.1.length), (8, .tsl 24 (s.2.map Rated.row) 1)]) (fun s => ⟨[], [⟨58, 24, s.1.length, some (s.1.map Rated.row)⟩, ⟨58, 24, s.2.length, none⟩]⟩) (fun s => f_billinglaw54_AssureFound_j1 v0 v1 v2 s.1 s.2 = some r) ?_ ?_
    · rintro ⟨y0tj1, v8j1⟩ H
      replace H : f_billinglaw54_AssureFound_j1 v0 v1 v2 y0tj1 v8j1 = some r := H
      unfold f_billinglaw54_AssureFound_j1 at H
      change ARun _ _ _ _ _ _ [(0, .d (slOf 12 Usage.row v0)), (1, .d (cI v1)), (2, .d (cI v2)), (7, .vc 0 y0tj1.length), (8, .tsl 24 (v8j1.map Rated.row) 1)] ⟨[], [⟨58, 24, y0tj1.length, some (y0tj1.map Rated.row)⟩, ⟨58, 24, v8j1.length, none⟩]⟩
      refine .seq ?_
      refine .seq ?_
      refine .region ?_
      refine .g (x := .d (.e0 12)) ((hs52 ▸ g_buildSlice0 Try.underlying31 hi52)) rfl ?_
      refine .q (q_move rfl) rfl ?_
      obtain ⟨hk1, H⟩ := ck_some H
      refine .g (x := .d (slOf 12 Usage.row v0)) (g_append0L (l' := v0) (row := Usage.row) Try.underlying31 hi52 hz52 hs52 rfl (by rw [hb52]; decide) rfl (.inl rfl) rfl rfl hk1) rfl ?_
      refine .g (x := .d (.e0 24)) ((hs58 ▸ g_buildSlice0 Try.underlying46 hi58)) rfl ?_
      refine .q (q_move rfl) rfl ?_
      obtain ⟨hk2, H⟩ := ck_some H
      refine .g (x := .d (slOf 24 Rated.row y0tj1)) (g_append0V (l' := y0tj1) (row := Rated.row) Try.underlying46 hi58 hz58 hs58 rfl (by rw [hb58]; decide) rfl (.inl rfl) rfl rfl hk2) rfl ?_
      obtain ⟨y3, hy3, H⟩ := bind_some' H
      refine .g (x := .d (slOf 4 Leak.row y3)) (g_call en_19 rfl rfl (c_f_assure_Usages (hy3))) rfl ?_
      refine .q (q_lenL (l := y3) (row := Leak.row) Try.underlying42 rfl rfl) rfl ?_
      refine .q (q_neq rfl rfl) rfl ?_
      refine .nil ?_
      refine .cond rfl (fun hc => ?_) (fun hc => ?_)
      · replace H := ifT hc H; clear hc
        refine .seq ?_
        refine .region ?_
        refine .q (q_assign rfl) rfl ?_
        refine .nil ?_
        refine .retN [.tmp 6] [.d (cB false)] Try.func5 Try.results5 ⟨rfl, trivial⟩ ?_
        cases H
        exact ⟨_, .rfl' _, rfl⟩
      · replace H := ifF hc H; clear hc
        refine .skip ?_
        refine .seq ?_
        refine .seq ?_
        refine .drawn 14 hMix (by kernel_rfl) ?_
        show DOps _ _ _ _ _ _ _ (_ :: _) _ _ _
        refine .g (x := .d (.e0 12)) ((hs52 ▸ g_buildSlice0 Try.underlying31 hi52)) rfl ?_
        refine .q (q_move rfl) rfl ?_
        obtain ⟨hk3, H⟩ := ck_some H
        refine .g (x := .d (slOf 12 Usage.row v0)) (g_append0L (l' := v0) (row := Usage.row) Try.underlying31 hi52 hz52 hs52 rfl (by rw [hb52]; decide) rfl (.inl rfl) rfl rfl hk3) rfl ?_
        refine .q (q_move rfl) rfl ?_
        obtain ⟨y4, hy4, H⟩ := bind_some' H
        refine .g (x := .d (slOf 4 Leak.row y4)) (g_call en_19 rfl rfl (c_f_assure_Usages (hy4))) rfl ?_
        refine .q (q_move rfl) rfl ?_
        refine .q (q_move rfl) rfl ?_
        obtain ⟨hk4, H⟩ := ck_some H
        refine .q (x := .d (.ro (Usage.row (nth v0 (Int.toNat (v1)))))) (q_idxL (row := Usage.row) (l := v0) (i := v1) Try.underlying31 hi52 hs52 rfl rfl rfl hk4) rfl ?_
        refine .q (q_fieldRo fo_52_0 rfl) rfl ?_
        refine .q (x := .d (cI ((nth v0 (Int.toNat (v1))).id))) (q_load one_3 rfl) rfl ?_
        refine .q (x := .d (.agg (Leak.row (⟨2, (nth v0 (Int.toNat (v1))).id, 1, 0⟩ : Leak)))) (q_buildP pl_60 hi60 hz60 rfl rfl) rfl ?_
        refine .g (x := .d (slOf 4 Leak.row ([(⟨2, (nth v0 (Int.toNat (v1))).id, 1, 0⟩ : Leak)] : List Leak))) (g_buildSlice1 Try.underlying42 hi60 hs60 hz60 rfl rfl rfl rfl rfl) rfl ?_
        obtain ⟨y5, hy5, H⟩ := bind_some' H
        refine .g (x := .d (cB y5)) (g_call en_13 rfl rfl (c_f_billingref54_Same (hy5))) rfl ?_
        refine .q (q_not rfl) rfl ?_
        refine .nil ?_
        show AOps _ _ _ _ _ _ [] _ _ _
        refine .nil ?_
        refine .cond rfl (fun hc => ?_) (fun hc => ?_)
        · replace H := ifT hc H; clear hc
          refine .seq ?_
          refine .region ?_
          refine .q (q_assign rfl) rfl ?_
          refine .nil ?_
          refine .retN [.tmp 6] [.d (cB false)] Try.func5 Try.results5 ⟨rfl, trivial⟩ ?_
          cases H
          exact ⟨_, .rfl' _, rfl⟩
        · replace H := ifF hc H; clear hc
          refine .skip ?_
          refine .seq ?_
          refine .region ?_
          refine .q (q_move rfl) rfl ?_
          refine .q (q_move rfl) rfl ?_
          refine .q (q_move rfl) rfl ?_
          obtain ⟨hk5, H⟩ := ck_some H
          refine .q (x := .vp 0 y0tj1.length (Int.toNat (v1)) 0) (q_idxV (l := y0tj1) (row := Rated.row) (i := v1) Try.underlying46 hi58 hs58 rfl rfl rfl hk5) rfl ?_
          refine .q (x := .vp 0 y0tj1.length (Int.toNat (v1)) 0) (q_fieldVp fo_58_0 rfl) rfl ?_
          refine .q (x := .vp 0 y0tj1.length (Int.toNat (v1)) 7) (q_fieldVp fo_52_7 rfl) rfl ?_
          obtain ⟨hk6, H⟩ := ck_some H
          refine .u (u_storeV (l := y0tj1) (row := Rated.row) (a := (⟨(⟨((nth y0tj1 (Int.toNat (v1))).usage).id, ((nth y0tj1 (Int.toNat (v1))).usage).kind, ((nth y0tj1 (Int.toNat (v1))).usage).account, ((nth y0tj1 (Int.toNat (v1))).usage).sub, ((nth y0tj1 (Int.toNat (v1))).usage).a, ((nth y0tj1 (Int.toNat (v1))).usage).b, ((nth y0tj1 (Int.toNat (v1))).usage).start, v2, ((nth y0tj1 (Int.toNat (v1))).usage).trunk, ((nth y0tj1 (Int.toNat (v1))).usage).inbound, ((nth y0tj1 (Int.toNat (v1))).usage).source, ((nth y0tj1 (Int.toNat (v1))).usage).serial⟩ : Usage), (nth y0tj1 (Int.toNat (v1))).err, (nth y0tj1 (Int.toNat (v1))).plan, (nth y0tj1 (Int.toNat (v1))).version, (nth y0tj1 (Int.toNat (v1))).zone, (nth y0tj1 (Int.toNat (v1))).takes, (nth y0tj1 (Int.toNat (v1))).segments, (nth y0tj1 (Int.toNat (v1))).setup, (nth y0tj1 (Int.toNat (v1))).gross, (nth y0tj1 (Int.toNat (v1))).net, (nth y0tj1 (Int.toNat (v1))).given, (nth y0tj1 (Int.toNat (v1))).paid, (nth y0tj1 (Int.toNat (v1))).owed⟩ : Rated)) rfl rfl hk6 rfl rfl sz_3 rfl (Nat.le_of_ble_eq_true rfl) rfl) rfl ?_
          refine .withSt (st' := ⟨[], [⟨58, 24, y0tj1.length, some ((y0tj1.set (Int.toNat (v1)) (⟨(⟨((nth y0tj1 (Int.toNat (v1))).usage).id, ((nth y0tj1 (Int.toNat (v1))).usage).kind, ((nth y0tj1 (Int.toNat (v1))).usage).account, ((nth y0tj1 (Int.toNat (v1))).usage).sub, ((nth y0tj1 (Int.toNat (v1))).usage).a, ((nth y0tj1 (Int.toNat (v1))).usage).b, ((nth y0tj1 (Int.toNat (v1))).usage).start, v2, ((nth y0tj1 (Int.toNat (v1))).usage).trunk, ((nth y0tj1 (Int.toNat (v1))).usage).inbound, ((nth y0tj1 (Int.toNat (v1))).usage).source, ((nth y0tj1 (Int.toNat (v1))).usage).serial⟩ : Usage), (nth y0tj1 (Int.toNat (v1))).err, (nth y0tj1 (Int.toNat (v1))).plan, (nth y0tj1 (Int.toNat (v1))).version, (nth y0tj1 (Int.toNat (v1))).zone, (nth y0tj1 (Int.toNat (v1))).takes, (nth y0tj1 (Int.toNat (v1))).segments, (nth y0tj1 (Int.toNat (v1))).setup, (nth y0tj1 (Int.toNat (v1))).gross, (nth y0tj1 (Int.toNat (v1))).net, (nth y0tj1 (Int.toNat (v1))).given, (nth y0tj1 (Int.toNat (v1))).paid, (nth y0tj1 (Int.toNat (v1))).owed⟩ : Rated)).map Rated.row)⟩, ⟨58, 24, v8j1.length, none⟩]⟩) rfl ?_
          refine .nil ?_
          refine .seq ?_
          refine .region ?_
          refine .g (x := .d (.e0 12)) ((hs52 ▸ g_buildSlice0 Try.underlying31 hi52)) rfl ?_
          refine .q (q_move rfl) rfl ?_
          obtain ⟨hk7, H⟩ := ck_some H
          refine .g (x := .d (slOf 12 Usage.row v0)) (g_append0L (l' := v0) (row := Usage.row) Try.underlying31 hi52 hz52 hs52 rfl (by rw [hb52]; decide) rfl (.inl rfl) rfl rfl hk7) rfl ?_
          refine .q (q_move rfl) rfl ?_
          refine .freezeL (l := y0tj1.set (Int.toNat (v1)) (⟨(⟨((nth y0tj1 (Int.toNat (v1))).usage).id, ((nth y0tj1 (Int.toNat (v1))).usage).kind, ((nth y0tj1 (Int.toNat (v1))).usage).account, ((nth y0tj1 (Int.toNat (v1))).usage).sub, ((nth y0tj1 (Int.toNat (v1))).usage).a, ((nth y0tj1 (Int.toNat (v1))).usage).b, ((nth y0tj1 (Int.toNat (v1))).usage).start, v2, ((nth y0tj1 (Int.toNat (v1))).usage).trunk, ((nth y0tj1 (Int.toNat (v1))).usage).inbound, ((nth y0tj1 (Int.toNat (v1))).usage).source, ((nth y0tj1 (Int.toNat (v1))).usage).serial⟩ : Usage), (nth y0tj1 (Int.toNat (v1))).err, (nth y0tj1 (Int.toNat (v1))).plan, (nth y0tj1 (Int.toNat (v1))).version, (nth y0tj1 (Int.toNat (v1))).zone, (nth y0tj1 (Int.toNat (v1))).takes, (nth y0tj1 (Int.toNat (v1))).segments, (nth y0tj1 (Int.toNat (v1))).setup, (nth y0tj1 (Int.toNat (v1))).gross, (nth y0tj1 (Int.toNat (v1))).net, (nth y0tj1 (Int.toNat (v1))).given, (nth y0tj1 (Int.toNat (v1))).paid, (nth y0tj1 (Int.toNat (v1))).owed⟩ : Rated)) (row := Rated.row) (i := 110) rfl rfl ?_
          refine .withSt (st' := ⟨[], [⟨58, 24, (y0tj1.set (Int.toNat (v1)) (⟨(⟨((nth y0tj1 (Int.toNat (v1))).usage).id, ((nth y0tj1 (Int.toNat (v1))).usage).kind, ((nth y0tj1 (Int.toNat (v1))).usage).account, ((nth y0tj1 (Int.toNat (v1))).usage).sub, ((nth y0tj1 (Int.toNat (v1))).usage).a, ((nth y0tj1 (Int.toNat (v1))).usage).b, ((nth y0tj1 (Int.toNat (v1))).usage).start, v2, ((nth y0tj1 (Int.toNat (v1))).usage).trunk, ((nth y0tj1 (Int.toNat (v1))).usage).inbound, ((nth y0tj1 (Int.toNat (v1))).usage).source, ((nth y0tj1 (Int.toNat (v1))).usage).serial⟩ : Usage), (nth y0tj1 (Int.toNat (v1))).err, (nth y0tj1 (Int.toNat (v1))).plan, (nth y0tj1 (Int.toNat (v1))).version, (nth y0tj1 (Int.toNat (v1))).zone, (nth y0tj1 (Int.toNat (v1))).takes, (nth y0tj1 (Int.toNat (v1))).segments, (nth y0tj1 (Int.toNat (v1))).setup, (nth y0tj1 (Int.toNat (v1))).gross, (nth y0tj1 (Int.toNat (v1))).net, (nth y0tj1 (Int.toNat (v1))).given, (nth y0tj1 (Int.toNat (v1))).paid, (nth y0tj1 (Int.toNat (v1))).owed⟩ : Rated)).length, none⟩, ⟨58, 24, v8j1.length, none⟩]⟩) rfl ?_
          obtain ⟨y6, hy6, H⟩ := bind_some' H
          refine .g (x := .d (slOf 4 Leak.row y6)) (g_call en_19 rfl rfl (c_f_assure_Usages (hy6))) rfl ?_
          refine .q (q_assign rfl) rfl ?_
          refine .nil ?_
          refine .seq ?_
          refine .seq ?_
          refine .region ?_
          refine .q (q_move rfl) rfl ?_
          refine .q (q_move rfl) rfl ?_
          refine .q (q_move rfl) rfl ?_
          obtain ⟨hk8, H⟩ := ck_some H
          refine .q (x := .d (.ro (Usage.row (nth v0 (Int.toNat (v1)))))) (q_idxL (row := Usage.row) (l := v0) (i := v1) Try.underlying31 hi52 hs52 rfl rfl rfl hk8) rfl ?_
          refine .q (q_fieldRo fo_52_7 rfl) rfl ?_
          refine .q (x := .d (cI ((nth v0 (Int.toNat (v1))).units))) (q_load one_3 rfl) rfl ?_
          refine .q (q_eql rfl rfl) rfl ?_
          refine .nil ?_
          refine .cond rfl (fun hc => ?_) (fun hc => ?_)
          · replace H := ifT hc H; clear hc
            refine .seq ?_
            refine .region ?_
            refine .q (q_move rfl) rfl ?_
            refine .q (q_lenL (l := y6) (row := Leak.row) Try.underlying42 rfl rfl) rfl ?_
            refine .q (q_eql rfl rfl) rfl ?_
            refine .q (q_move rfl) rfl ?_
            obtain ⟨y7, hy7, H⟩ := bind_some' H
            refine .guardG (b := ((y6.length : Int) == 0)) (x := .d (cB y7)) (env' := []) rfl rfl rfl trivial rfl (fun hg => (g_call en_10 rfl rfl (c_f_billinglaw54_awake (gcall_some hy7 hg)))) ?_
            refine .q (q_pickAndB rfl rfl rfl) rfl ?_
            refine .q (q_assign rfl) rfl ?_
            refine .nil ?_
            refine .retN [.tmp 6] [.d (cB (((y6.length : Int) == 0) && y7))] Try.func5 Try.results5 ⟨rfl, trivial⟩ ?_
            cases H
            exact ⟨_, .rfl' _, rfl⟩
          · replace H := ifF hc H; clear hc
            refine .skip ?_
            refine .seq ?_
            refine .drawn 19 hMix (by kernel_rfl) ?_
            show DOps _ _ _ _ _ _ _ (_ :: _) _ _ _
            refine .q (q_move rfl) rfl ?_
            refine .q (q_move rfl) rfl ?_
            refine .q (q_move rfl) rfl ?_
            obtain ⟨hk9, H⟩ := ck_some H
            refine .q (x := .d (.ro (Usage.row (nth v0 (Int.toNat (v1)))))) (q_idxL (row := Usage.row) (l := v0) (i := v1) Try.underlying31 hi52 hs52 rfl rfl rfl hk9) rfl ?_
            refine .q (q_fieldRo fo_52_0 rfl) rfl ?_
            refine .q (x := .d (cI ((nth v0 (Int.toNat (v1))).id))) (q_load one_3 rfl) rfl ?_
            refine .q (q_move rfl) rfl ?_
            refine .q (q_move rfl) rfl ?_
            obtain ⟨hk10, H⟩ := ck_some H
            refine .q (x := .d (.ro (Usage.row (nth v0 (Int.toNat (v1)))))) (q_idxL (row := Usage.row) (l := v0) (i := v1) Try.underlying31 hi52 hs52 rfl rfl rfl hk10) rfl ?_
            refine .q (q_fieldRo fo_52_7 rfl) rfl ?_
            refine .q (x := .d (cI ((nth v0 (Int.toNat (v1))).units))) (q_load one_3 rfl) rfl ?_
            refine .q (q_move rfl) rfl ?_
            refine .q (x := .d (.agg (Leak.row (⟨3, (nth v0 (Int.toNat (v1))).id, (nth v0 (Int.toNat (v1))).units, v2⟩ : Leak)))) (q_buildP pl_60 hi60 hz60 rfl rfl) rfl ?_
            refine .g (x := .d (slOf 4 Leak.row ([(⟨3, (nth v0 (Int.toNat (v1))).id, (nth v0 (Int.toNat (v1))).units, v2⟩ : Leak)] : List Leak))) (g_buildSlice1 Try.underlying42 hi60 hs60 hz60 rfl rfl rfl rfl rfl) rfl ?_
            obtain ⟨y8, hy8, H⟩ := bind_some' H
            refine .g (x := .d (cB y8)) (g_call en_13 rfl rfl (c_f_billingref54_Same (hy8))) rfl ?_
            refine .q (q_move rfl) rfl ?_
            obtain ⟨y9, hy9, H⟩ := bind_some' H
            refine .guardG (b := y8) (x := .d (cB y9)) (env' := []) rfl rfl rfl trivial rfl (fun hg => (g_call en_10 rfl rfl (c_f_billinglaw54_awake (gcall_some hy9 hg)))) ?_
            refine .q (q_pickAndB rfl rfl rfl) rfl ?_
            refine .q (q_assign rfl) rfl ?_
            refine .nil ?_
            show AOps _ _ _ _ _ _ [] _ _ _
            refine .nil ?_
            refine .retN [.tmp 6] [.d (cB (y8 && y9))] Try.func5 Try.results5 ⟨rfl, trivial⟩ ?_
            cases H
            exact ⟨_, .rfl' _, rfl⟩
    · intro hj1 hj1x
      obtain ⟨n1, H⟩ := loop_some H
      refine .normV (l := ([] : List Rated)) (row := Rated.row) (tk := 0) (fun z => [(0, .d (slOf 12 Usage.row v0)), (1, .d (cI v1)), (2, .d (cI v2)), (7, .vc 0 z), (8, .tsl 24 (([] : List Rated).map Rated.row) 1), (9, .d (cI 0))]) (fun z => ⟨[], [⟨58, 24, z, some (([] : List Rated).map Rated.row)⟩, ⟨58, 24, ([] : List Rated).length, none⟩]⟩) rfl (.cons rfl (.rfl' _) (.cons rfl (.rfl' _) (.cons rfl (.rfl' _) (.cons rfl (.rfl' _) (.cons rfl (.rfl' _) (.cons rfl (.rfl' _) (.nil))))))) rfl ?_
      refine .withSt (st' := ⟨[], [⟨58, 24, ([] : List Rated).length, some (([] : List Rated).map Rated.row)⟩, ⟨58, 24, ([] : List Rated).length, none⟩]⟩) rfl <| .loop (ι := Nat × (List Rated × List Rated × Int)) (fun p => [(0, .d (slOf 12 Usage.row v0)), (1, .d (cI v1)), (2, .d (cI v2)), (7, .vc 0 p.2.1.length), (8, .tsl 24 (p.2.2.1.map Rated.row) 1), (9, .d (cI p.2.2.2))]) (fun p => ⟨[], [⟨58, 24, p.2.1.length, some (p.2.1.map Rated.row)⟩, ⟨58, 24, p.2.2.1.length, none⟩]⟩) (fun p => iter (fun s => f_billinglaw54_AssureFound_l1 v0 v1 v2 s.1 s.2.1 s.2.2) p.1 p.2 = some r) (·.1) (n1, (([] : List Rated), ([] : List Rated), 0)) H (.cons rfl (.rfl' _) (.cons rfl (.rfl' _) (.cons rfl (.rfl' _) (.cons rfl (.rfl' _) (.cons rfl (.rfl' _) (.cons rfl (.rfl' _) (.nil))))))) rfl ?_
      rintro ⟨m1, y0tl1, v8l1, v9l1⟩ HI ih1
      obtain ⟨n1, q1, hm1, H, HK1⟩ := iter_succ HI
      clear HI
      replace H : f_billinglaw54_AssureFound_l1 v0 v1 v2 y0tl1 v8l1 v9l1 = some q1 := H
      unfold f_billinglaw54_AssureFound_l1 at H
      change ARun _ _ _ _ _ _ [(0, .d (slOf 12 Usage.row v0)), (1, .d (cI v1)), (2, .d (cI v2)), (7, .vc 0 y0tl1.length), (8, .tsl 24 (v8l1.map Rated.row) 1), (9, .d (cI v9l1))] ⟨[], [⟨58, 24, y0tl1.length, some (y0tl1.map Rated.row)⟩, ⟨58, 24, v8l1.length, none⟩]⟩
      refine .seq ?_
      refine .seq ?_
      refine .region ?_
      refine .q (q_move rfl) rfl ?_
      refine .q (q_move rfl) rfl ?_
      refine .q (q_lenL (l := v0) (row := Usage.row) Try.underlying31 rfl rfl) rfl ?_
      refine .q (q_lss rfl rfl) rfl ?_
      refine .nil ?_
      refine .cond rfl (fun hc => ?_) (fun hc => ?_)
      · replace H := ifT hc H; clear hc
        refine .skip ?_
        refine .seq ?_
        refine .block ?_
        refine .seq ?_
        refine .seq ?_
        refine .region ?_
        refine .q (q_assign rfl) rfl ?_
        refine .nil ?_
        refine .blockJoin2 (ι := Unit) (fun s => [(0, .d (slOf 12 Usage.row v0)), (1, .d (cI v1)), (2, .d (cI v2)), (7, .vc 0 y0tl1.length), (8, .tsl 24 (v8l1.map Rated.row) 1), (9, .d (cI v9l1))]) (fun s => ⟨[], [⟨58, 24, y0tl1.length, some (y0tl1.map Rated.row)⟩, ⟨58, 24, v8l1.length, none⟩]⟩) (fun s => f_billinglaw54_AssureFound_j2 v0 v1 y0tl1 v8l1 v9l1 = some q1) ?_ ?_
        · rintro _ H
          replace H : f_billinglaw54_AssureFound_j2 v0 v1 y0tl1 v8l1 v9l1 = some q1 := H
          unfold f_billinglaw54_AssureFound_j2 at H
          change ARun _ _ _ _ _ _ [(0, .d (slOf 12 Usage.row v0)), (1, .d (cI v1)), (2, .d (cI v2)), (7, .vc 0 y0tl1.length), (8, .tsl 24 (v8l1.map Rated.row) 1), (9, .d (cI v9l1))] ⟨[], [⟨58, 24, y0tl1.length, some (y0tl1.map Rated.row)⟩, ⟨58, 24, v8l1.length, none⟩]⟩
          refine .seq ?_
          refine .region ?_
          refine .q (q_move rfl) rfl ?_
          refine .q (q_move rfl) rfl ?_
          refine .q (q_move rfl) rfl ?_
          obtain ⟨hk11, H⟩ := ck_some H
          refine .q (x := .d (.ro (Usage.row (nth v0 (Int.toNat (v9l1)))))) (q_idxL (row := Usage.row) (l := v0) (i := v9l1) Try.underlying31 hi52 hs52 rfl rfl rfl hk11) rfl ?_
          refine .q (x := .d (.agg (Usage.row (nth v0 (Int.toNat (v9l1)))))) (q_loadAll one_52 sz_52 rfl rfl) rfl ?_
          refine .q (x := .d (.agg (Rated.row (⟨nth v0 (Int.toNat (v9l1)), 0, ([] : List UInt8), 0, ([] : List UInt8), ([] : List Take), ([] : List Segment), 0, 0, 0, ([] : List Given), 0, 0⟩ : Rated)))) (OpQ.le (q_buildP pl_58 hi58 hz58 rfl rfl) (EVle.d (.agg ⟨.rfl' _, .rfl' _, .rfl' _, .rfl' _, .rfl' _, .rfl' _, .rfl' _, .rfl' _, .rfl' _, .rfl' _, .rfl' _, .rfl' _, .rfl' _, .rfl' _, .rfl' _, .rfl' _, .nil 5, .nil 4, .rfl' _, .rfl' _, .rfl' _, .nil 2, .rfl' _, .rfl' _, trivial⟩))) rfl ?_
          refine .g (x := .d (slOf 24 Rated.row ([(⟨nth v0 (Int.toNat (v9l1)), 0, ([] : List UInt8), 0, ([] : List UInt8), ([] : List Take), ([] : List Segment), 0, 0, 0, ([] : List Given), 0, 0⟩ : Rated)] : List Rated))) (g_buildSlice1 Try.underlying46 hi58 hs58 hz58 rfl rfl rfl rfl rfl) rfl ?_
          obtain ⟨hk12, H⟩ := ck_some H
          refine .v (x := .vc 0 ((y0tl1 ++ ([(⟨nth v0 (Int.toNat (v9l1)), 0, ([] : List UInt8), 0, ([] : List UInt8), ([] : List Take), ([] : List Segment), 0, 0, 0, ([] : List Given), 0, 0⟩ : Rated)] : List Rated)).length)) (v_appendV (l := y0tl1) (l' := ([(⟨nth v0 (Int.toNat (v9l1)), 0, ([] : List UInt8), 0, ([] : List UInt8), ([] : List Take), ([] : List Segment), 0, 0, 0, ([] : List Given), 0, 0⟩ : Rated)] : List Rated)) (row := Rated.row) Try.underlying46 hi58 hz58 hs58 rfl (by rw [hb58]; decide) rfl rfl rfl rfl hk12) rfl ?_
          refine .withSt (st' := ⟨[], [⟨58, 24, ((y0tl1 ++ ([(⟨nth v0 (Int.toNat (v9l1)), 0, ([] : List UInt8), 0, ([] : List UInt8), ([] : List Take), ([] : List Segment), 0, 0, 0, ([] : List Given), 0, 0⟩ : Rated)] : List Rated)).length), some ((y0tl1 ++ ([(⟨nth v0 (Int.toNat (v9l1)), 0, ([] : List UInt8), 0, ([] : List UInt8), ([] : List Take), ([] : List Segment), 0, 0, 0, ([] : List Given), 0, 0⟩ : Rated)] : List Rated)).map Rated.row)⟩, ⟨58, 24, v8l1.length, none⟩]⟩) rfl ?_
          refine .q (q_assign rfl) rfl ?_
          refine .nil ?_
          refine .seq ?_
          refine .region ?_
          refine .q (q_move rfl) rfl ?_
          refine .q (q_move rfl) rfl ?_
          refine .q (q_neq rfl rfl) rfl ?_
          refine .nil ?_
          refine .cond rfl (fun hc => ?_) (fun hc => ?_)
          · replace H := ifT hc H; clear hc
            refine .region ?_
            refine .q (q_move rfl) rfl ?_
            refine .q (q_move rfl) rfl ?_
            refine .q (q_move rfl) rfl ?_
            obtain ⟨hk13, H⟩ := ck_some H
            refine .q (x := .d (.ro (Usage.row (nth v0 (Int.toNat (v9l1)))))) (q_idxL (row := Usage.row) (l := v0) (i := v9l1) Try.underlying31 hi52 hs52 rfl rfl rfl hk13) rfl ?_
            refine .q (x := .d (.agg (Usage.row (nth v0 (Int.toNat (v9l1)))))) (q_loadAll one_52 sz_52 rfl rfl) rfl ?_
            refine .q (x := .d (.agg (Rated.row (⟨nth v0 (Int.toNat (v9l1)), 0, ([] : List UInt8), 0, ([] : List UInt8), ([] : List Take), ([] : List Segment), 0, 0, 0, ([] : List Given), 0, 0⟩ : Rated)))) (OpQ.le (q_buildP pl_58 hi58 hz58 rfl rfl) (EVle.d (.agg ⟨.rfl' _, .rfl' _, .rfl' _, .rfl' _, .rfl' _, .rfl' _, .rfl' _, .rfl' _, .rfl' _, .rfl' _, .rfl' _, .rfl' _, .rfl' _, .rfl' _, .rfl' _, .rfl' _, .nil 5, .nil 4, .rfl' _, .rfl' _, .rfl' _, .nil 2, .rfl' _, .rfl' _, trivial⟩))) rfl ?_
            refine .g (x := .d (slOf 24 Rated.row ([(⟨nth v0 (Int.toNat (v9l1)), 0, ([] : List UInt8), 0, ([] : List UInt8), ([] : List Take), ([] : List Segment), 0, 0, 0, ([] : List Given), 0, 0⟩ : Rated)] : List Rated))) (g_buildSlice1 Try.underlying46 hi58 hs58 hz58 rfl rfl rfl rfl rfl) rfl ?_
            obtain ⟨hk14, H⟩ := ck_some H
            refine .v (x := .tsl 24 ((v8l1 ++ ([(⟨nth v0 (Int.toNat (v9l1)), 0, ([] : List UInt8), 0, ([] : List UInt8), ([] : List Take), ([] : List Segment), 0, 0, 0, ([] : List Given), 0, 0⟩ : Rated)] : List Rated)).map Rated.row) 1) (v_appendL (l := v8l1) (l' := ([(⟨nth v0 (Int.toNat (v9l1)), 0, ([] : List UInt8), 0, ([] : List UInt8), ([] : List Take), ([] : List Segment), 0, 0, 0, ([] : List Given), 0, 0⟩ : Rated)] : List Rated)) (row := Rated.row) Try.underlying46 hi58 hz58 hs58 rfl (by rw [hb58]; decide) rfl rfl rfl rfl hk14) rfl ?_
            refine .withSt (st' := ⟨[], [⟨58, 24, ((y0tl1 ++ ([(⟨nth v0 (Int.toNat (v9l1)), 0, ([] : List UInt8), 0, ([] : List UInt8), ([] : List Take), ([] : List Segment), 0, 0, 0, ([] : List Given), 0, 0⟩ : Rated)] : List Rated)).length), some ((y0tl1 ++ ([(⟨nth v0 (Int.toNat (v9l1)), 0, ([] : List UInt8), 0, ([] : List UInt8), ([] : List Take), ([] : List Segment), 0, 0, 0, ([] : List Given), 0, 0⟩ : Rated)] : List Rated)).map Rated.row)⟩, ⟨58, 24, (v8l1 ++ ([(⟨nth v0 (Int.toNat (v9l1)), 0, ([] : List UInt8), 0, ([] : List UInt8), ([] : List Take), ([] : List Segment), 0, 0, 0, ([] : List Given), 0, 0⟩ : Rated)] : List Rated)).length, none⟩]⟩) rfl ?_
            refine .q (q_assign rfl) rfl ?_
            refine .nil ?_
            refine .inBlock ?_
            refine .region ?_
            refine .q (q_move rfl) rfl ?_
            obtain ⟨hk15, H⟩ := ck_some H
            refine .q (q_addI rfl rfl hk15.1 hk15.2) rfl ?_
            refine .q (q_assign rfl) rfl ?_
            refine .nil ?_
            cases H
            exact .withSt (st' := ⟨[], [⟨58, 24, (y0tl1 ++ ([(⟨nth v0 (Int.toNat (v9l1)), 0, ([] : List UInt8), 0, ([] : List UInt8), ([] : List Take), ([] : List Segment), 0, 0, 0, ([] : List Given), 0, 0⟩ : Rated)] : List Rated)).length, some ((y0tl1 ++ ([(⟨nth v0 (Int.toNat (v9l1)), 0, ([] : List UInt8), 0, ([] : List UInt8), ([] : List Take), ([] : List Segment), 0, 0, 0, ([] : List Given), 0, 0⟩ : Rated)] : List Rated)).map Rated.row)⟩, ⟨58, 24, (v8l1 ++ ([(⟨nth v0 (Int.toNat (v9l1)), 0, ([] : List UInt8), 0, ([] : List UInt8), ([] : List Take), ([] : List Segment), 0, 0, 0, ([] : List Given), 0, 0⟩ : Rated)] : List Rated)).length, none⟩]⟩) rfl <| .sub (.cons rfl (.rfl' _) (.cons rfl (.rfl' _) (.cons rfl (.rfl' _) (.cons rfl (.rfl' _) (.cons rfl (.rfl' _) (.cons rfl (.rfl' _) (.nil))))))) (ih1 (n1, (y0tl1 ++ ([(⟨nth v0 (Int.toNat (v9l1)), 0, ([] : List UInt8), 0, ([] : List UInt8), ([] : List Take), ([] : List Segment), 0, 0, 0, ([] : List Given), 0, 0⟩ : Rated)] : List Rated), v8l1 ++ ([(⟨nth v0 (Int.toNat (v9l1)), 0, ([] : List UInt8), 0, ([] : List UInt8), ([] : List Take), ([] : List Segment), 0, 0, 0, ([] : List Given), 0, 0⟩ : Rated)] : List Rated), v9l1 + 1)) HK1 hm1)
          · replace H := ifF hc H; clear hc
            refine .skip ?_
            refine .inBlock ?_
            refine .region ?_
            refine .q (q_move rfl) rfl ?_
            obtain ⟨hk16, H⟩ := ck_some H
            refine .q (q_addI rfl rfl hk16.1 hk16.2) rfl ?_
            refine .q (q_assign rfl) rfl ?_
            refine .nil ?_
            cases H
            exact .withSt (st' := ⟨[], [⟨58, 24, (y0tl1 ++ ([(⟨nth v0 (Int.toNat (v9l1)), 0, ([] : List UInt8), 0, ([] : List UInt8), ([] : List Take), ([] : List Segment), 0, 0, 0, ([] : List Given), 0, 0⟩ : Rated)] : List Rated)).length, some ((y0tl1 ++ ([(⟨nth v0 (Int.toNat (v9l1)), 0, ([] : List UInt8), 0, ([] : List UInt8), ([] : List Take), ([] : List Segment), 0, 0, 0, ([] : List Given), 0, 0⟩ : Rated)] : List Rated)).map Rated.row)⟩, ⟨58, 24, v8l1.length, none⟩]⟩) rfl <| .sub (.cons rfl (.rfl' _) (.cons rfl (.rfl' _) (.cons rfl (.rfl' _) (.cons rfl (.rfl' _) (.cons rfl (.rfl' _) (.cons rfl (.rfl' _) (.nil))))))) (ih1 (n1, (y0tl1 ++ ([(⟨nth v0 (Int.toNat (v9l1)), 0, ([] : List UInt8), 0, ([] : List UInt8), ([] : List Take), ([] : List Segment), 0, 0, 0, ([] : List Given), 0, 0⟩ : Rated)] : List Rated), v8l1, v9l1 + 1)) HK1 hm1)
        · intro hj2 hj2x
          obtain ⟨n2, H⟩ := loop_some H
          refine .loop (ι := Nat × (Int)) (fun p => [(0, .d (slOf 12 Usage.row v0)), (1, .d (cI v1)), (2, .d (cI v2)), (7, .vc 0 y0tl1.length), (8, .tsl 24 (v8l1.map Rated.row) 1), (9, .d (cI v9l1)), (10, .d (cI p.2))]) (fun p => ⟨[], [⟨58, 24, y0tl1.length, some (y0tl1.map Rated.row)⟩, ⟨58, 24, v8l1.length, none⟩]⟩) (fun p => iter (fun s => f_billinglaw54_AssureFound_l2 v0 v1 y0tl1 v8l1 v9l1 s) p.1 p.2 = some q1) (·.1) (n2, 0) H (.cons rfl (.rfl' _) (.cons rfl (.rfl' _) (.cons rfl (.rfl' _) (.cons rfl (.rfl' _) (.cons rfl (.rfl' _) (.cons rfl (.rfl' _) (.cons rfl (.rfl' _) (.nil)))))))) rfl ?_
          rintro ⟨m2, v10l2⟩ HI ih2
          obtain ⟨n2, q2, hm2, H, HK2⟩ := iter_succ HI
          clear HI
          replace H : f_billinglaw54_AssureFound_l2 v0 v1 y0tl1 v8l1 v9l1 v10l2 = some q2 := H
          unfold f_billinglaw54_AssureFound_l2 at H
          change ARun _ _ _ _ _ _ [(0, .d (slOf 12 Usage.row v0)), (1, .d (cI v1)), (2, .d (cI v2)), (7, .vc 0 y0tl1.length), (8, .tsl 24 (v8l1.map Rated.row) 1), (9, .d (cI v9l1)), (10, .d (cI v10l2))] ⟨[], [⟨58, 24, y0tl1.length, some (y0tl1.map Rated.row)⟩, ⟨58, 24, v8l1.length, none⟩]⟩
          refine .seq ?_
          refine .seq ?_
          refine .region ?_
          refine .q (q_move rfl) rfl ?_
          refine .q (q_move rfl) rfl ?_
          refine .q (q_lss rfl rfl) rfl ?_
          refine .nil ?_
          refine .cond rfl (fun hc => ?_) (fun hc => ?_)
          · replace H := ifT hc H; clear hc
            refine .skip ?_
            refine .seq ?_
            refine .block ?_
            refine .seq ?_
            refine .drawn 11 hMix (by kernel_rfl) ?_
            show DOps _ _ _ _ _ _ _ (_ :: _) _ _ _
            refine .q (q_move rfl) rfl ?_
            refine .q (q_move rfl) rfl ?_
            obtain ⟨hk17, H⟩ := ck_some H
            refine .q (x := .d (.ro (Usage.row (nth v0 (Int.toNat (v10l2)))))) (q_idxL (row := Usage.row) (l := v0) (i := v10l2) Try.underlying31 hi52 hs52 rfl rfl rfl hk17) rfl ?_
            refine .q (q_fieldRo fo_52_0 rfl) rfl ?_
            refine .q (x := .d (cI ((nth v0 (Int.toNat (v10l2))).id))) (q_load one_3 rfl) rfl ?_
            refine .q (q_move rfl) rfl ?_
            refine .q (q_move rfl) rfl ?_
            obtain ⟨hk18, H⟩ := ck_some H
            refine .q (x := .d (.ro (Usage.row (nth v0 (Int.toNat (v9l1)))))) (q_idxL (row := Usage.row) (l := v0) (i := v9l1) Try.underlying31 hi52 hs52 rfl rfl rfl hk18) rfl ?_
            refine .q (q_fieldRo fo_52_0 rfl) rfl ?_
            refine .q (x := .d (cI ((nth v0 (Int.toNat (v9l1))).id))) (q_load one_3 rfl) rfl ?_
            refine .q (q_eql rfl rfl) rfl ?_
            refine .nil ?_
            show AOps _ _ _ _ _ _ [] _ _ _
            refine .nil ?_
            refine .cond rfl (fun hc => ?_) (fun hc => ?_)
            · replace H := ifT hc H; clear hc
              refine .seq ?_
              refine .region ?_
              obtain ⟨y10, hy10, H⟩ := bind_some' H
              refine .g (x := .d (cB y10)) (g_call en_10 rfl rfl (c_f_billinglaw54_awake (hy10))) rfl ?_
              refine .q (q_assign rfl) rfl ?_
              refine .nil ?_
              refine .retN [.tmp 6] [.d (cB y10)] Try.func5 Try.results5 ⟨rfl, trivial⟩ ?_
              cases H
              cases HK2
              cases HK1
              exact ⟨_, .rfl' _, rfl⟩
            · replace H := ifF hc H; clear hc
              refine .skip ?_
              refine .inBlock ?_
              refine .region ?_
              refine .q (q_move rfl) rfl ?_
              obtain ⟨hk19, H⟩ := ck_some H
              refine .q (q_addI rfl rfl hk19.1 hk19.2) rfl ?_
              refine .q (q_assign rfl) rfl ?_
              refine .nil ?_
              cases H
              exact .sub (.cons rfl (.rfl' _) (.cons rfl (.rfl' _) (.cons rfl (.rfl' _) (.cons rfl (.rfl' _) (.cons rfl (.rfl' _) (.cons rfl (.rfl' _) (.cons rfl (.rfl' _) (.nil)))))))) (ih2 (n2, (v10l2 + 1)) HK2 hm2)
          · replace H := ifF hc H; clear hc
            refine .exit rfl ?_
            obtain ⟨q0, H9, hq0⟩ := map_some' H; clear H; cases hq0
            cases HK2
            have H := H9
            exact .sub (.cons rfl (.rfl' _) (.cons rfl (.rfl' _) (.cons rfl (.rfl' _) (.cons rfl (.rfl' _) (.cons rfl (.rfl' _) (.cons rfl (.rfl' _) (.nil))))))) (hj2x () H)
      · replace H := ifF hc H; clear hc
        refine .exit rfl ?_
        obtain ⟨q0, H9, hq0⟩ := map_some' H; clear H; cases hq0
        cases HK1
        have H := H9
        exact .withSt (st' := ⟨[], [⟨58, 24, y0tl1.length, some (y0tl1.map Rated.row)⟩, ⟨58, 24, v8l1.length, none⟩]⟩) rfl <| .sub (.cons rfl (.rfl' _) (.cons rfl (.rfl' _) (.cons rfl (.rfl' _) (.cons rfl (.rfl' _) (.cons rfl (.rfl' _) (.nil)))))) (hj1x (y0tl1, v8l1) H)

set_option maxRecDepth 100000 in
set_option maxHeartbeats 1000000 in
theorem c_f_billingref47_Clone {v0e : Entry} {r : Entry} (H : f_billingref47_Clone v0e = some r) : ACall Try.prog 42 [.agg (Entry.row v0e)] (· = .agg (Entry.row r)) := by
  obtain ⟨i78, hi78, hz78, hs78, hb78⟩ := in_78
  obtain ⟨i80, hi80, hz80, hs80, hb80⟩ := in_80
  refine ACall.enter' Try.func42 rfl Try.ntmps42 rfl fun S hS => ?_
  unfold f_billingref47_Clone at H
  change ARun _ _ _ _ _ _ [(0, .d (.agg (Entry.row v0e)))] _
  refine .seq ?_
  refine .region ?_
  refine .v (x := .ref 0 0) (v_box rfl rfl) rfl ?_
  refine .withSt (st' := ⟨[.row 78 [.d (cI v0e.at_), .d (cS v0e.text), .d (slOf 2 Post.row v0e.posts)]], []⟩) rfl ?_
  refine .v (x := .ref 1 0) (v_alloc zr_78 rfl) rfl ?_
  refine .withSt (st' := ⟨[.row 78 [.d (cI v0e.at_), .d (cS v0e.text), .d (slOf 2 Post.row v0e.posts)], .row 78 [.d (cI 0), .d (cS ([] : List UInt8)), .d (nilD)]], []⟩) rfl ?_
  refine .nil ?_
  refine .seq ?_
  refine .drawn 9 hMix (by kernel_rfl) ?_
  show DOps _ _ _ _ _ _ _ (_ :: _) _ _ _
  refine .q (q_fieldRef fo_78_0 rfl) rfl ?_
  refine .q (x := .d (cI v0e.at_)) (q_loadO one_3 rfl rfl rfl) rfl ?_
  refine .q (q_fieldRef fo_78_1 rfl) rfl ?_
  refine .q (x := .d (cS v0e.text)) (q_loadO one_9 rfl rfl rfl) rfl ?_
  refine .g (x := .d (.e0 2)) ((hs80 ▸ g_buildSlice0 Try.underlying76 hi80)) rfl ?_
  refine .q (q_fieldRef fo_78_2 rfl) rfl ?_
  refine .q (x := .d (slOf 2 Post.row v0e.posts)) (q_loadO one_76 rfl rfl rfl) rfl ?_
  obtain ⟨hk1, H⟩ := ck_some H
  refine .g (x := .d (slOf 2 Post.row v0e.posts)) (g_append0L (l' := v0e.posts) (row := Post.row) Try.underlying76 hi80 hz80 hs80 rfl (by rw [hb80]; decide) rfl (.inl rfl) rfl rfl hk1) rfl ?_
  refine .q (x := .d (.agg (Entry.row v0e))) (q_buildP pl_78 hi78 hz78 rfl rfl) rfl ?_
  refine .nil ?_
  show AOps _ _ _ _ _ _ (_ :: _) _ _ _
  refine .u (u_store rfl rfl rfl rfl (Nat.le_of_ble_eq_true rfl) sz_78) rfl ?_
  refine .withSt (st' := ⟨[.row 78 [.d (cI v0e.at_), .d (cS v0e.text), .d (slOf 2 Post.row v0e.posts)], .row 78 [.d (cI v0e.at_), .d (cS v0e.text), .d (slOf 2 Post.row v0e.posts)]], []⟩) rfl ?_
  refine .nil ?_
  refine .retN [.cell 2 78] [.d (.agg (Entry.row v0e))] Try.func42 Try.results42 ⟨⟨⟨_, _, rfl⟩, q_loadOA one_78 sz_78 rfl rfl (Nat.le_of_ble_eq_true rfl) rfl⟩, trivial⟩ ?_
  cases H
  exact ⟨_, .rfl' _, rfl⟩

set_option maxRecDepth 100000 in
set_option maxHeartbeats 1000000 in
theorem c_f_billingref47_CloneAll {v0list : List Entry} {r : (List Entry)} (H : f_billingref47_CloneAll v0list = some r) : ACall Try.prog 26 [slOf 3 Entry.row v0list] (· = slOf 3 Entry.row r) := by
  obtain ⟨i78, hi78, hz78, hs78, hb78⟩ := in_78
  refine ACall.enter' Try.func26 rfl Try.ntmps26 rfl fun S hS => ?_
  unfold f_billingref47_CloneAll at H
  change ARun _ _ _ _ _ _ [(0, .d (slOf 3 Entry.row v0list))] _
  refine .seq ?_
  refine .region ?_
  refine .q (q_assign rfl) rfl ?_
  refine .nil ?_
  refine .seq ?_
  refine .region ?_
  refine .v (x := .tsl 3 (([] : List Entry).map Entry.row) 0) (v_build0T Try.underlying70 hi78 hs78) rfl ?_
  refine .withSt (st' := ⟨[], [⟨78, 3, ([] : List Entry).length, none⟩]⟩) rfl ?_
  refine .q (q_assign rfl) rfl ?_
  refine .nil ?_
  refine .seq ?_
  refine .seq ?_
  refine .region ?_
  refine .q (q_assign rfl) rfl ?_
  refine .nil ?_
  refine .block ?_
  obtain ⟨n1, H⟩ := loop_some H
  refine .withSt (st' := ⟨[], [⟨78, 3, ([] : List Entry).length, none⟩]⟩) rfl <| .loop (ι := Nat × (List Entry × Int)) (fun p => [(0, .d (slOf 3 Entry.row v0list)), (3, .tsl 3 (p.2.1.map Entry.row) 0), (4, .d (cI p.2.2))]) (fun p => ⟨[], [⟨78, 3, p.2.1.length, none⟩]⟩) (fun p => iter (fun s => f_billingref47_CloneAll_l1 v0list s.1 s.2) p.1 p.2 = some r) (·.1) (n1, (([] : List Entry), 0)) H (.cons rfl (.rfl' _) (.cons rfl (.rfl' _) (.cons rfl (.rfl' _) (.nil)))) rfl ?_
  rintro ⟨m1, v3outl1, v4il1⟩ HI ih1
  obtain ⟨n1, q1, hm1, H, HK1⟩ := iter_succ HI
  clear HI
  replace H : f_billingref47_CloneAll_l1 v0list v3outl1 v4il1 = some q1 := H
  unfold f_billingref47_CloneAll_l1 at H
  change ARun _ _ _ _ _ _ [(0, .d (slOf 3 Entry.row v0list)), (3, .tsl 3 (v3outl1.map Entry.row) 0), (4, .d (cI v4il1))] ⟨[], [⟨78, 3, v3outl1.length, none⟩]⟩
  refine .seq ?_
  refine .seq ?_
  refine .region ?_
  refine .q (q_move rfl) rfl ?_
  refine .q (q_move rfl) rfl ?_
  refine .q (q_lenL (l := v0list) (row := Entry.row) Try.underlying70 rfl rfl) rfl ?_
  refine .q (q_lss rfl rfl) rfl ?_
  refine .nil ?_
  refine .cond rfl (fun hc => ?_) (fun hc => ?_)
  · replace H := ifT hc H; clear hc
    refine .skip ?_
    refine .seq ?_
    refine .block ?_
    refine .region ?_
    refine .q (q_move rfl) rfl ?_
    refine .q (q_move rfl) rfl ?_
    refine .q (q_move rfl) rfl ?_
    obtain ⟨hk1, H⟩ := ck_some H
    refine .q (x := .d (.ro (Entry.row (nth v0list (Int.toNat (v4il1)))))) (q_idxL (row := Entry.row) (l := v0list) (i := v4il1) Try.underlying70 hi78 hs78 rfl rfl rfl hk1) rfl ?_
    refine .q (x := .d (.agg (Entry.row (nth v0list (Int.toNat (v4il1)))))) (q_loadAll one_78 sz_78 rfl rfl) rfl ?_
    obtain ⟨y1, hy1, H⟩ := bind_some' H
    refine .g (x := .d (.agg (Entry.row y1))) (g_call en_42 rfl rfl (c_f_billingref47_Clone (hy1))) rfl ?_
    refine .g (x := .d (slOf 3 Entry.row ([y1] : List Entry))) (g_buildSlice1 Try.underlying70 hi78 hs78 hz78 rfl rfl rfl rfl rfl) rfl ?_
    obtain ⟨hk2, H⟩ := ck_some H
    refine .v (x := .tsl 3 ((v3outl1 ++ ([y1] : List Entry)).map Entry.row) 0) (v_appendL (l := v3outl1) (l' := ([y1] : List Entry)) (row := Entry.row) Try.underlying70 hi78 hz78 hs78 rfl (by rw [hb78]; decide) rfl rfl rfl rfl hk2) rfl ?_
    refine .withSt (st' := ⟨[], [⟨78, 3, (v3outl1 ++ ([y1] : List Entry)).length, none⟩]⟩) rfl ?_
    refine .q (q_assign rfl) rfl ?_
    refine .nil ?_
    refine .inBlock ?_
    refine .region ?_
    refine .q (q_move rfl) rfl ?_
    obtain ⟨hk3, H⟩ := ck_some H
    refine .q (q_addI rfl rfl hk3.1 hk3.2) rfl ?_
    refine .q (q_assign rfl) rfl ?_
    refine .nil ?_
    cases H
    exact .withSt (st' := ⟨[], [⟨78, 3, (v3outl1 ++ ([y1] : List Entry)).length, none⟩]⟩) rfl <| .sub (.cons rfl (.rfl' _) (.cons rfl (.rfl' _) (.cons rfl (.rfl' _) (.nil)))) (ih1 (n1, (v3outl1 ++ ([y1] : List Entry), v4il1 + 1)) HK1 hm1)
  · replace H := ifF hc H; clear hc
    refine .exit rfl ?_
    refine .seq ?_
    refine .region ?_
    refine .q (q_move rfl) rfl ?_
    refine .q (q_assign rfl) rfl ?_
    refine .nil ?_
    refine .retN [.tmp 2] [.tsl 3 (v3outl1.map Entry.row) 0] Try.func26 Try.results26 ⟨rfl, trivial⟩ ?_
    cases H
    cases HK1
    exact ⟨_, .tsl _ _ _, rfl⟩

set_option maxRecDepth 100000 in
set_option maxHeartbeats 1000000 in
theorem c_f_assure_Books {v0 : List Invoice} {v1 : List Entry} {r : (List Leak)} (H : f_assure_Books v0 v1 = some r) : ACall Try.prog 25 [slOf 8 Invoice.row v0, slOf 3 Entry.row v1] (· = slOf 4 Leak.row r) := by
  obtain ⟨i3, hi3, hz3, hs3, hb3⟩ := in_3
  obtain ⟨i60, hi60, hz60, hs60, hb60⟩ := in_60
  obtain ⟨i75, hi75, hz75, hs75, hb75⟩ := in_75
  obtain ⟨i78, hi78, hz78, hs78, hb78⟩ := in_78
  obtain ⟨i80, hi80, hz80, hs80, hb80⟩ := in_80
  refine ACall.enter' Try.func25 rfl Try.ntmps25 rfl fun S hS => ?_
  unfold f_assure_Books at H
  change ARun _ _ _ _ _ _ [(0, .d (slOf 8 Invoice.row v0)), (1, .d (slOf 3 Entry.row v1))] _
  refine .seq ?_
  refine .region ?_
  refine .q (q_assign rfl) rfl ?_
  refine .nil ?_
  refine .seq ?_
  refine .region ?_
  refine .q (q_assign rfl) rfl ?_
  refine .nil ?_
  refine .seq ?_
  refine .region ?_
  refine .v (x := .mp 0) (v_makeMap) rfl ?_
  refine .withSt (st' := ⟨[.map (mEnc (fun n => Value.int .i64 n) (fun x => cI x) ([] : List (Int × Int)))], []⟩) rfl ?_
  refine .v (x := .mp 1) (v_makeMap) rfl ?_
  refine .withSt (st' := ⟨[.map (mEnc (fun n => Value.int .i64 n) (fun x => cI x) ([] : List (Int × Int))), .map (mEnc (fun n => Value.int .i64 n) (fun x => cI x) ([] : List (Int × Int)))], []⟩) rfl ?_
  refine .q (q_assign rfl) rfl ?_
  refine .q (q_assign rfl) rfl ?_
  refine .nil ?_
  refine .seq ?_
  refine .region ?_
  refine .v (x := .mp 2) (v_makeMap) rfl ?_
  refine .withSt (st' := ⟨[.map (mEnc (fun n => Value.int .i64 n) (fun x => cI x) ([] : List (Int × Int))), .map (mEnc (fun n => Value.int .i64 n) (fun x => cI x) ([] : List (Int × Int))), .map (mEnc (fun s => Value.string ⟨s.toArray⟩) (fun x => cI x) ([] : List ((List UInt8) × Int)))], []⟩) rfl ?_
  refine .q (q_assign rfl) rfl ?_
  refine .nil ?_
  refine .seq ?_
  refine .seq ?_
  refine .region ?_
  refine .q (q_move rfl) rfl ?_
  refine .q (q_lenL (l := v0) (row := Invoice.row) Try.underlying69 rfl rfl) rfl ?_
  refine .q (q_move rfl) rfl ?_
  refine .nil ?_
  refine .blockJoin2 (ι := List Int × (List (Int × Int)) × (List ((List UInt8) × Int))) (fun s => [(1, .d (slOf 3 Entry.row v1)), (5, .d (slOf 1 rI s.1)), (6, .mp 0), (7, .mp 1), (8, .mp 2)]) (fun s => ⟨[.map (mEnc (fun n => Value.int .i64 n) (fun x => cI x) s.2.1), .map (mEnc (fun n => Value.int .i64 n) (fun x => cI x) ([] : List (Int × Int))), .map (mEnc (fun s => Value.string ⟨s.toArray⟩) (fun x => cI x) s.2.2)], []⟩) (fun s => f_assure_Books_j1 v1 s.1 s.2.1 s.2.2 = some r) ?_ ?_
  · rintro ⟨v5j1, o0c0j1, o2c0j1⟩ H
    replace H : f_assure_Books_j1 v1 v5j1 o0c0j1 o2c0j1 = some r := H
    unfold f_assure_Books_j1 at H
    change ARun _ _ _ _ _ _ [(1, .d (slOf 3 Entry.row v1)), (5, .d (slOf 1 rI v5j1)), (6, .mp 0), (7, .mp 1), (8, .mp 2)] ⟨[.map (mEnc (fun n => Value.int .i64 n) (fun x => cI x) o0c0j1), .map (mEnc (fun n => Value.int .i64 n) (fun x => cI x) ([] : List (Int × Int))), .map (mEnc (fun s => Value.string ⟨s.toArray⟩) (fun x => cI x) o2c0j1)], []⟩
    refine .seq ?_
    refine .region ?_
    refine .q (q_assign rfl) rfl ?_
    refine .nil ?_
    refine .seq ?_
    refine .seq ?_
    refine .region ?_
    refine .q (q_move rfl) rfl ?_
    refine .q (q_lenL (l := v1) (row := Entry.row) Try.underlying70 rfl rfl) rfl ?_
    refine .q (q_move rfl) rfl ?_
    refine .nil ?_
    refine .blockJoin2 (ι := Int × (List (Int × Int))) (fun s => [(5, .d (slOf 1 rI v5j1)), (6, .mp 0), (7, .mp 1), (11, .d (cI s.1))]) (fun s => ⟨[.map (mEnc (fun n => Value.int .i64 n) (fun x => cI x) o0c0j1), .map (mEnc (fun n => Value.int .i64 n) (fun x => cI x) s.2), .map (mEnc (fun s => Value.string ⟨s.toArray⟩) (fun x => cI x) o2c0j1)], []⟩) (fun s => f_assure_Books_j2 v5j1 o0c0j1 s.1 s.2 = some r) ?_ ?_
    · rintro ⟨v11j2, o1c0j2⟩ H
      replace H : f_assure_Books_j2 v5j1 o0c0j1 v11j2 o1c0j2 = some r := H
      unfold f_assure_Books_j2 at H
      change ARun _ _ _ _ _ _ [(5, .d (slOf 1 rI v5j1)), (6, .mp 0), (7, .mp 1), (11, .d (cI v11j2))] ⟨[.map (mEnc (fun n => Value.int .i64 n) (fun x => cI x) o0c0j1), .map (mEnc (fun n => Value.int .i64 n) (fun x => cI x) o1c0j2), .map (mEnc (fun s => Value.string ⟨s.toArray⟩) (fun x => cI x) o2c0j1)], []⟩
      refine .seq ?_
      refine .region ?_
      refine .q (q_assign rfl) rfl ?_
      refine .nil ?_
      refine .tok (i := 18) (e := 60) (sz := 4) rfl ?_
      refine .withSt (st' := ⟨[.map (mEnc (fun n => Value.int .i64 n) (fun x => cI x) o0c0j1), .map (mEnc (fun n => Value.int .i64 n) (fun x => cI x) o1c0j2), .map (mEnc (fun s => Value.string ⟨s.toArray⟩) (fun x => cI x) o2c0j1)], [⟨60, 4, ([] : List Leak).length, none⟩]⟩) rfl ?_
      refine .seqJoin (ι := List Leak) (fun s => [(5, .d (slOf 1 rI v5j1)), (6, .mp 0), (7, .mp 1), (18, .tsl 4 (s.map Leak.row) 0)]) (fun s => ⟨[.map (mEnc (fun n => Value.int .i64 n) (fun x => cI x) o0c0j1), .map (mEnc (fun n => Value.int .i64 n) (fun x => cI x) o1c0j2), .map (mEnc (fun s => Value.string ⟨s.toArray⟩) (fun x => cI x) o2c0j1)], [⟨60, 4, s.length, none⟩]⟩) (fun s => f_assure_Books_j3 v5j1 o0c0j1 o1c0j2 s = some r) ?_ ?_
      · rintro v18j3 H
        replace H : f_assure_Books_j3 v5j1 o0c0j1 o1c0j2 v18j3 = some r := H
        unfold f_assure_Books_j3 at H
        change ARun _ _ _ _ _ _ [(5, .d (slOf 1 rI v5j1)), (6, .mp 0), (7, .mp 1), (18, .tsl 4 (v18j3.map Leak.row) 0)] ⟨[.map (mEnc (fun n => Value.int .i64 n) (fun x => cI x) o0c0j1), .map (mEnc (fun n => Value.int .i64 n) (fun x => cI x) o1c0j2), .map (mEnc (fun s => Value.string ⟨s.toArray⟩) (fun x => cI x) o2c0j1)], [⟨60, 4, v18j3.length, none⟩]⟩
        refine .seq ?_
        refine .region ?_
        refine .q (q_move rfl) rfl ?_
        refine .q (q_move rfl) rfl ?_
        refine .q (q_move rfl) rfl ?_
        refine .q (q_move rfl) rfl ?_
        obtain ⟨y1, hy1, H⟩ := bind_some' H
        refine .callF en_36 rfl [0, 1] [] (x := .d (slOf 4 Leak.row y1)) (st' := ⟨[.map (mEnc (fun n => Value.int .i64 n) (fun x => cI x) o0c0j1), .map (mEnc (fun n => Value.int .i64 n) (fun x => cI x) o1c0j2), .map (mEnc (fun s => Value.string ⟨s.toArray⟩) (fun x => cI x) o2c0j1)], [⟨60, 4, v18j3.length, none⟩]⟩) rfl (c_g_assure_differing (hy1)) ⟨.rfl' _, .rfl' _, .rfl' _, .rfl' _, trivial⟩ rfl (okCons okMap (okCons okMap rfl)) (by first | rfl | (simp only [List.map_cons, List.map_nil, renMap, renArr, mergeSt]; rfl)) rfl rfl (by first | rfl | (simp only [List.map_cons, List.map_nil, renMap, renArr, mergeSt]; rfl)) ?_
        refine .withSt (st' := ⟨[.map (mEnc (fun n => Value.int .i64 n) (fun x => cI x) o0c0j1), .map (mEnc (fun n => Value.int .i64 n) (fun x => cI x) o1c0j2), .map (mEnc (fun s => Value.string ⟨s.toArray⟩) (fun x => cI x) o2c0j1)], [⟨60, 4, v18j3.length, none⟩]⟩) rfl ?_
        obtain ⟨hk1, H⟩ := ck_some H
        refine .v (x := .tsl 4 ((v18j3 ++ y1).map Leak.row) 0) (v_appendL (l := v18j3) (l' := y1) (row := Leak.row) Try.underlying42 hi60 hz60 hs60 rfl (by rw [hb60]; decide) rfl rfl rfl rfl hk1) rfl ?_
        refine .withSt (st' := ⟨[.map (mEnc (fun n => Value.int .i64 n) (fun x => cI x) o0c0j1), .map (mEnc (fun n => Value.int .i64 n) (fun x => cI x) o1c0j2), .map (mEnc (fun s => Value.string ⟨s.toArray⟩) (fun x => cI x) o2c0j1)], [⟨60, 4, (v18j3 ++ y1).length, none⟩]⟩) rfl ?_
        refine .q (q_assign rfl) rfl ?_
        refine .nil ?_
        refine .retN [.tmp 4] [.tsl 4 ((v18j3 ++ y1).map Leak.row) 0] Try.func25 Try.results25 ⟨rfl, trivial⟩ ?_
        cases H
        exact ⟨_, .tsl _ _ _, rfl⟩
      · intro hj3
        refine .seq ?_
        refine .region ?_
        refine .q (q_move rfl) rfl ?_
        refine .q (q_neq rfl rfl) rfl ?_
        refine .nil ?_
        refine .cond rfl (fun hc => ?_) (fun hc => ?_)
        · replace H := ifT hc H; clear hc
          refine .region ?_
          refine .q (q_move rfl) rfl ?_
          refine .q (q_move rfl) rfl ?_
          refine .q (x := .d (.agg (Leak.row (⟨6, 0, v11j2, 0⟩ : Leak)))) (q_buildP pl_60 hi60 hz60 rfl rfl) rfl ?_
          refine .g (x := .d (slOf 4 Leak.row ([(⟨6, 0, v11j2, 0⟩ : Leak)] : List Leak))) (g_buildSlice1 Try.underlying42 hi60 hs60 hz60 rfl rfl rfl rfl rfl) rfl ?_
          obtain ⟨hk2, H⟩ := ck_some H
          refine .v (x := .tsl 4 ((([] : List Leak) ++ ([(⟨6, 0, v11j2, 0⟩ : Leak)] : List Leak)).map Leak.row) 0) (v_appendL (l := ([] : List Leak)) (l' := ([(⟨6, 0, v11j2, 0⟩ : Leak)] : List Leak)) (row := Leak.row) Try.underlying42 hi60 hz60 hs60 rfl (by rw [hb60]; decide) rfl rfl rfl rfl hk2) rfl ?_
          refine .withSt (st' := ⟨[.map (mEnc (fun n => Value.int .i64 n) (fun x => cI x) o0c0j1), .map (mEnc (fun n => Value.int .i64 n) (fun x => cI x) o1c0j2), .map (mEnc (fun s => Value.string ⟨s.toArray⟩) (fun x => cI x) o2c0j1)], [⟨60, 4, (([] : List Leak) ++ ([(⟨6, 0, v11j2, 0⟩ : Leak)] : List Leak)).length, none⟩]⟩) rfl ?_
          refine .q (q_assign rfl) rfl ?_
          refine .nil ?_
          exact .withSt (st' := ⟨[.map (mEnc (fun n => Value.int .i64 n) (fun x => cI x) o0c0j1), .map (mEnc (fun n => Value.int .i64 n) (fun x => cI x) o1c0j2), .map (mEnc (fun s => Value.string ⟨s.toArray⟩) (fun x => cI x) o2c0j1)], [⟨60, 4, (([] : List Leak) ++ ([(⟨6, 0, v11j2, 0⟩ : Leak)] : List Leak)).length, none⟩]⟩) rfl <| .sub (.cons rfl (.rfl' _) (.cons rfl (.rfl' _) (.cons rfl (.rfl' _) (.cons rfl (.rfl' _) (.nil))))) (hj3 (([] : List Leak) ++ ([(⟨6, 0, v11j2, 0⟩ : Leak)] : List Leak)) H)
        · replace H := ifF hc H; clear hc
          refine .skip ?_
          exact .withSt (st' := ⟨[.map (mEnc (fun n => Value.int .i64 n) (fun x => cI x) o0c0j1), .map (mEnc (fun n => Value.int .i64 n) (fun x => cI x) o1c0j2), .map (mEnc (fun s => Value.string ⟨s.toArray⟩) (fun x => cI x) o2c0j1)], [⟨60, 4, ([] : List Leak).length, none⟩]⟩) rfl <| .sub (.cons rfl (.rfl' _) (.cons rfl (.rfl' _) (.cons rfl (.rfl' _) (.cons rfl (.rfl' _) (.nil))))) (hj3 ([] : List Leak) H)
    · intro hj2 hj2x
      obtain ⟨n1, H⟩ := loop_some H
      refine .withSt (st' := ⟨[.map (mEnc (fun n => Value.int .i64 n) (fun x => cI x) o0c0j1), .map (mEnc (fun n => Value.int .i64 n) (fun x => cI x) ([] : List (Int × Int))), .map (mEnc (fun s => Value.string ⟨s.toArray⟩) (fun x => cI x) o2c0j1)], []⟩) rfl <| .loop (ι := Nat × (Int × Int × (List (Int × Int)))) (fun p => [(5, .d (slOf 1 rI v5j1)), (6, .mp 0), (7, .mp 1), (8, .mp 2), (11, .d (cI p.2.1)), (47, .d (slOf 3 Entry.row v1)), (48, .d (cI (v1.length : Int))), (49, .d (cI p.2.2.1))]) (fun p => ⟨[.map (mEnc (fun n => Value.int .i64 n) (fun x => cI x) o0c0j1), .map (mEnc (fun n => Value.int .i64 n) (fun x => cI x) p.2.2.2), .map (mEnc (fun s => Value.string ⟨s.toArray⟩) (fun x => cI x) o2c0j1)], []⟩) (fun p => iter (fun s => f_assure_Books_l1 v1 v5j1 o0c0j1 o2c0j1 s.1 s.2.1 s.2.2) p.1 p.2 = some r) (·.1) (n1, (0, 0, ([] : List (Int × Int)))) H (.cons rfl (.rfl' _) (.cons rfl (.rfl' _) (.cons rfl (.rfl' _) (.cons rfl (.rfl' _) (.cons rfl (.rfl' _) (.cons rfl (.rfl' _) (.cons rfl (.rfl' _) (.cons rfl (.rfl' _) (.nil))))))))) rfl ?_
      rintro ⟨m1, v11l1, v49l1, o1c0l1⟩ HI ih1
      obtain ⟨n1, q1, hm1, H, HK1⟩ := iter_succ HI
      clear HI
      replace H : f_assure_Books_l1 v1 v5j1 o0c0j1 o2c0j1 v11l1 v49l1 o1c0l1 = some q1 := H
      unfold f_assure_Books_l1 at H
      change ARun _ _ _ _ _ _ [(5, .d (slOf 1 rI v5j1)), (6, .mp 0), (7, .mp 1), (8, .mp 2), (11, .d (cI v11l1)), (47, .d (slOf 3 Entry.row v1)), (48, .d (cI (v1.length : Int))), (49, .d (cI v49l1))] ⟨[.map (mEnc (fun n => Value.int .i64 n) (fun x => cI x) o0c0j1), .map (mEnc (fun n => Value.int .i64 n) (fun x => cI x) o1c0l1), .map (mEnc (fun s => Value.string ⟨s.toArray⟩) (fun x => cI x) o2c0j1)], []⟩
      refine .seq ?_
      refine .region ?_
      refine .q (q_lss rfl rfl) rfl ?_
      refine .nil ?_
      refine .seq ?_
      refine .cond rfl (fun hc => ?_) (fun hc => ?_)
      · replace H := ifT hc H; clear hc
        refine .skip ?_
        refine .seq ?_
        refine .block ?_
        refine .seq ?_
        refine .region ?_
        obtain ⟨hk3, H⟩ := ck_some H
        refine .q (x := .d (.ro (Entry.row (nth v1 (Int.toNat (v49l1)))))) (q_idxL (row := Entry.row) (l := v1) (i := v49l1) Try.underlying70 hi78 hs78 rfl rfl rfl hk3) rfl ?_
        refine .q (x := .d (.agg (Entry.row (nth v1 (Int.toNat (v49l1)))))) (q_loadAll one_78 sz_78 rfl rfl) rfl ?_
        refine .v (x := .ref 3 0) (v_alloc zr_78 rfl) rfl ?_
        refine .withSt (st' := ⟨[.map (mEnc (fun n => Value.int .i64 n) (fun x => cI x) o0c0j1), .map (mEnc (fun n => Value.int .i64 n) (fun x => cI x) o1c0l1), .map (mEnc (fun s => Value.string ⟨s.toArray⟩) (fun x => cI x) o2c0j1), .row 78 [.d (cI 0), .d (cS ([] : List UInt8)), .d (nilD)]], []⟩) rfl ?_
        refine .u (u_store rfl rfl rfl rfl (Nat.le_of_ble_eq_true rfl) sz_78) rfl ?_
        refine .withSt (st' := ⟨[.map (mEnc (fun n => Value.int .i64 n) (fun x => cI x) o0c0j1), .map (mEnc (fun n => Value.int .i64 n) (fun x => cI x) o1c0l1), .map (mEnc (fun s => Value.string ⟨s.toArray⟩) (fun x => cI x) o2c0j1), .row 78 [.d (cI ((nth v1 (Int.toNat (v49l1))).at_)), .d (cS ((nth v1 (Int.toNat (v49l1))).text)), .d (slOf 2 Post.row ((nth v1 (Int.toNat (v49l1))).posts))]], []⟩) rfl ?_
        refine .nil ?_
        refine .seq ?_
        refine .region ?_
        refine .q (q_fieldRef fo_78_2 rfl) rfl ?_
        refine .q (x := .d (slOf 2 Post.row ((nth v1 (Int.toNat (v49l1))).posts))) (q_loadO one_76 rfl rfl rfl) rfl ?_
        refine .q (q_lenL (l := (nth v1 (Int.toNat (v49l1))).posts) (row := Post.row) Try.underlying76 rfl rfl) rfl ?_
        refine .q (q_move rfl) rfl ?_
        refine .nil ?_
        refine .block ?_
        obtain ⟨n2, H⟩ := loop_some H
        refine .withSt (st' := ⟨[.map (mEnc (fun n => Value.int .i64 n) (fun x => cI x) o0c0j1), .map (mEnc (fun n => Value.int .i64 n) (fun x => cI x) o1c0l1), .map (mEnc (fun s => Value.string ⟨s.toArray⟩) (fun x => cI x) o2c0j1), .row 78 [.d (cI ((nth v1 (Int.toNat (v49l1))).at_)), .d (cS ((nth v1 (Int.toNat (v49l1))).text)), .d (slOf 2 Post.row ((nth v1 (Int.toNat (v49l1))).posts))]], []⟩) rfl <| .loop (ι := Nat × (Int × Int × (List (Int × Int)))) (fun p => [(5, .d (slOf 1 rI v5j1)), (6, .mp 0), (7, .mp 1), (8, .mp 2), (11, .d (cI p.2.1)), (13, .ref 3 0), (47, .d (slOf 3 Entry.row v1)), (48, .d (cI (v1.length : Int))), (49, .d (cI v49l1)), (54, .d (slOf 2 Post.row ((nth v1 (Int.toNat (v49l1))).posts))), (55, .d (cI (((nth v1 (Int.toNat (v49l1))).posts).length : Int))), (56, .d (cI p.2.2.1))]) (fun p => ⟨[.map (mEnc (fun n => Value.int .i64 n) (fun x => cI x) o0c0j1), .map (mEnc (fun n => Value.int .i64 n) (fun x => cI x) p.2.2.2), .map (mEnc (fun s => Value.string ⟨s.toArray⟩) (fun x => cI x) o2c0j1), .row 78 [.d (cI ((nth v1 (Int.toNat (v49l1))).at_)), .d (cS ((nth v1 (Int.toNat (v49l1))).text)), .d (slOf 2 Post.row ((nth v1 (Int.toNat (v49l1))).posts))]], []⟩) (fun p => iter (fun s => f_assure_Books_l2 v1 o2c0j1 v49l1 s.1 s.2.1 s.2.2) p.1 p.2 = some q1) (·.1) (n2, (v11l1, 0, o1c0l1)) H (.cons rfl (.rfl' _) (.cons rfl (.rfl' _) (.cons rfl (.rfl' _) (.cons rfl (.rfl' _) (.cons rfl (.rfl' _) (.cons rfl (.rfl' _) (.cons rfl (.rfl' _) (.cons rfl (.rfl' _) (.cons rfl (.rfl' _) (.cons rfl (.rfl' _) (.cons rfl (.rfl' _) (.cons rfl (.rfl' _) (.nil))))))))))))) rfl ?_
        rintro ⟨m2, v11l2, v56l2, o1c0l2⟩ HI ih2
        obtain ⟨n2, q2, hm2, H, HK2⟩ := iter_succ HI
        clear HI
        replace H : f_assure_Books_l2 v1 o2c0j1 v49l1 v11l2 v56l2 o1c0l2 = some q2 := H
        unfold f_assure_Books_l2 at H
        change ARun _ _ _ _ _ _ [(5, .d (slOf 1 rI v5j1)), (6, .mp 0), (7, .mp 1), (8, .mp 2), (11, .d (cI v11l2)), (13, .ref 3 0), (47, .d (slOf 3 Entry.row v1)), (48, .d (cI (v1.length : Int))), (49, .d (cI v49l1)), (54, .d (slOf 2 Post.row ((nth v1 (Int.toNat (v49l1))).posts))), (55, .d (cI (((nth v1 (Int.toNat (v49l1))).posts).length : Int))), (56, .d (cI v56l2))] ⟨[.map (mEnc (fun n => Value.int .i64 n) (fun x => cI x) o0c0j1), .map (mEnc (fun n => Value.int .i64 n) (fun x => cI x) o1c0l2), .map (mEnc (fun s => Value.string ⟨s.toArray⟩) (fun x => cI x) o2c0j1), .row 78 [.d (cI ((nth v1 (Int.toNat (v49l1))).at_)), .d (cS ((nth v1 (Int.toNat (v49l1))).text)), .d (slOf 2 Post.row ((nth v1 (Int.toNat (v49l1))).posts))]], []⟩
        refine .seq ?_
        refine .region ?_
        refine .q (q_lss rfl rfl) rfl ?_
        refine .nil ?_
        refine .seq ?_
        refine .cond rfl (fun hc => ?_) (fun hc => ?_)
        · replace H := ifT hc H; clear hc
          refine .skip ?_
          refine .seq ?_
          refine .block ?_
          refine .seq ?_
          refine .region ?_
          obtain ⟨hk4, H⟩ := ck_some H
          refine .q (x := .d (.ro (Post.row (nth ((nth v1 (Int.toNat (v49l1))).posts) (Int.toNat (v56l2)))))) (q_idxL (row := Post.row) (l := (nth v1 (Int.toNat (v49l1))).posts) (i := v56l2) Try.underlying76 hi80 hs80 rfl rfl rfl hk4) rfl ?_
          refine .q (x := .d (.agg (Post.row (nth ((nth v1 (Int.toNat (v49l1))).posts) (Int.toNat (v56l2)))))) (q_loadAll one_80 sz_80 rfl rfl) rfl ?_
          refine .v (x := .ref 4 0) (v_alloc zr_80 rfl) rfl ?_
          refine .withSt (st' := ⟨[.map (mEnc (fun n => Value.int .i64 n) (fun x => cI x) o0c0j1), .map (mEnc (fun n => Value.int .i64 n) (fun x => cI x) o1c0l2), .map (mEnc (fun s => Value.string ⟨s.toArray⟩) (fun x => cI x) o2c0j1), .row 78 [.d (cI ((nth v1 (Int.toNat (v49l1))).at_)), .d (cS ((nth v1 (Int.toNat (v49l1))).text)), .d (slOf 2 Post.row ((nth v1 (Int.toNat (v49l1))).posts))], .row 80 [.d (cS ([] : List UInt8)), .d (cI 0)]], []⟩) rfl ?_
          refine .u (u_store rfl rfl rfl rfl (Nat.le_of_ble_eq_true rfl) sz_80) rfl ?_
          refine .withSt (st' := ⟨[.map (mEnc (fun n => Value.int .i64 n) (fun x => cI x) o0c0j1), .map (mEnc (fun n => Value.int .i64 n) (fun x => cI x) o1c0l2), .map (mEnc (fun s => Value.string ⟨s.toArray⟩) (fun x => cI x) o2c0j1), .row 78 [.d (cI ((nth v1 (Int.toNat (v49l1))).at_)), .d (cS ((nth v1 (Int.toNat (v49l1))).text)), .d (slOf 2 Post.row ((nth v1 (Int.toNat (v49l1))).posts))], .row 80 [.d (cS ((nth ((nth v1 (Int.toNat (v49l1))).posts) (Int.toNat (v56l2))).account)), .d (cI ((nth ((nth v1 (Int.toNat (v49l1))).posts) (Int.toNat (v56l2))).amount))]], []⟩) rfl ?_
          refine .nil ?_
          refine .seq ?_
          refine .region ?_
          refine .q (q_move rfl) rfl ?_
          refine .q (q_fieldRef fo_80_1 rfl) rfl ?_
          refine .q (x := .d (cI ((nth ((nth v1 (Int.toNat (v49l1))).posts) (Int.toNat (v56l2))).amount))) (q_loadO one_3 rfl rfl rfl) rfl ?_
          obtain ⟨hk5, H⟩ := ck_some H
          refine .q (q_addI rfl rfl hk5.1 hk5.2) rfl ?_
          refine .q (q_assign rfl) rfl ?_
          refine .nil ?_
          refine .seq ?_
          refine .region ?_
          refine .q (q_move rfl) rfl ?_
          refine .q (q_fieldRef fo_80_0 rfl) rfl ?_
          refine .q (x := .d (cS ((nth ((nth v1 (Int.toNat (v49l1))).posts) (Int.toNat (v56l2))).account))) (q_loadO one_9 rfl rfl rfl) rfl ?_
          refine .q (x := .d (.tup [cI ((alook o2c0j1 ((nth ((nth v1 (Int.toNat (v49l1))).posts) (Int.toNat (v56l2))).account)).getD 0), cB ((alook o2c0j1 ((nth ((nth v1 (Int.toNat (v49l1))).posts) (Int.toNat (v56l2))).account)).isSome)])) (q_lookupOkD (strKF Try.underlying9) (l := o2c0j1) (val := (fun x => cI x)) (k := (nth ((nth v1 (Int.toNat (v49l1))).posts) (Int.toNat (v56l2))).account) (a0 := 0) Try.underlying108 hi3 hz3 (show DLe (cI 0) (cI 0) from .rfl' _) rfl rfl rfl (fun _ _ _ h => exKey h)) rfl ?_
          refine .q (q_move rfl) rfl ?_
          refine .q (q_extract rfl rfl) rfl ?_
          refine .q (q_extract rfl rfl) rfl ?_
          refine .q (q_assign rfl) rfl ?_
          refine .q (q_assign rfl) rfl ?_
          refine .nil ?_
          refine .seq ?_
          refine .region ?_
          refine .q (q_move rfl) rfl ?_
          refine .q (q_move rfl) rfl ?_
          refine .guardG (env' := [(13, _)]) rfl rfl rfl ⟨.inl rfl, trivial⟩ rfl (fun hg => OpQ.g (q_fieldRef fo_78_1 rfl)) ?_
          refine .guardG (b := (alook o2c0j1 ((nth ((nth v1 (Int.toNat (v49l1))).posts) (Int.toNat (v56l2))).account)).isSome) (x := .d (cS ((nth v1 (Int.toNat (v49l1))).text))) (env' := [(73, _)]) rfl rfl rfl ⟨.inr (.inl rfl), trivial⟩ rfl (fun hg => OpQ.g (q_loadO one_9 rfl rfl rfl)) ?_
          refine .guardG (env' := [(74, _)]) rfl rfl rfl ⟨.inr (.inl rfl), trivial⟩ rfl (fun hg => OpQ.g (q_seql rfl rfl)) ?_
          refine .q (q_pickAndB rfl rfl rfl) rfl ?_
          refine .nil ?_
          refine .cond rfl (fun hc => ?_) (fun hc => ?_)
          · replace H := ifT hc H; clear hc
            refine .region ?_
            refine .q (q_move rfl) rfl ?_
            refine .q (q_move rfl) rfl ?_
            refine .q (x := .d (cI ((alook o1c0l2 ((alook o2c0j1 ((nth ((nth v1 (Int.toNat (v49l1))).posts) (Int.toNat (v56l2))).account)).getD 0)).getD 0))) (q_lookupD (intKF Try.underlying3) (l := o1c0l2) (val := (fun x => cI x)) (k := (alook o2c0j1 ((nth ((nth v1 (Int.toNat (v49l1))).posts) (Int.toNat (v56l2))).account)).getD 0) (a0 := 0) Try.underlying101 hi3 hz3 (show DLe (cI 0) (cI 0) from .rfl' _) rfl rfl rfl (fun _ _ _ h => exKey h)) rfl ?_
            refine .q (q_fieldRef fo_80_1 rfl) rfl ?_
            refine .q (x := .d (cI ((nth ((nth v1 (Int.toNat (v49l1))).posts) (Int.toNat (v56l2))).amount))) (q_loadO one_3 rfl rfl rfl) rfl ?_
            obtain ⟨hk6, H⟩ := ck_some H
            refine .q (q_addI rfl rfl hk6.1 hk6.2) rfl ?_
            refine .u (u_mapUpdateD (intKF Try.underlying3) (l := o1c0l2) (val := (fun x => cI x)) (k := (alook o2c0j1 ((nth ((nth v1 (Int.toNat (v49l1))).posts) (Int.toNat (v56l2))).account)).getD 0) (a := ((alook o1c0l2 ((alook o2c0j1 ((nth ((nth v1 (Int.toNat (v49l1))).posts) (Int.toNat (v56l2))).account)).getD 0)).getD 0) + ((nth ((nth v1 (Int.toNat (v49l1))).posts) (Int.toNat (v56l2))).amount)) Try.underlying101 rfl rfl rfl (fun _ _ _ h => exKey h) rfl (.rfl' _)) rfl ?_
            refine .withSt (st' := ⟨[.map (mEnc (fun n => Value.int .i64 n) (fun x => cI x) o0c0j1), .map (mEnc (fun n => Value.int .i64 n) (fun x => cI x) (aset o1c0l2 ((alook o2c0j1 ((nth ((nth v1 (Int.toNat (v49l1))).posts) (Int.toNat (v56l2))).account)).getD 0) (((alook o1c0l2 ((alook o2c0j1 ((nth ((nth v1 (Int.toNat (v49l1))).posts) (Int.toNat (v56l2))).account)).getD 0)).getD 0) + ((nth ((nth v1 (Int.toNat (v49l1))).posts) (Int.toNat (v56l2))).amount)))), .map (mEnc (fun s => Value.string ⟨s.toArray⟩) (fun x => cI x) o2c0j1), .row 78 [.d (cI ((nth v1 (Int.toNat (v49l1))).at_)), .d (cS ((nth v1 (Int.toNat (v49l1))).text)), .d (slOf 2 Post.row ((nth v1 (Int.toNat (v49l1))).posts))], .row 80 [.d (cS ((nth ((nth v1 (Int.toNat (v49l1))).posts) (Int.toNat (v56l2))).account)), .d (cI ((nth ((nth v1 (Int.toNat (v49l1))).posts) (Int.toNat (v56l2))).amount))]], []⟩) rfl ?_
            refine .nil ?_
            refine .inBlock ?_
            refine .region ?_
            obtain ⟨hk7, H⟩ := ck_some H
            refine .q (q_addI rfl rfl hk7.1 hk7.2) rfl ?_
            refine .q (q_move rfl) rfl ?_
            refine .nil ?_
            cases H
            exact .to 4 0 (env' := [(5, .d (slOf 1 rI v5j1)), (6, .mp 0), (7, .mp 1), (8, .mp 2), (11, .d (cI (v11l2 + ((nth ((nth v1 (Int.toNat (v49l1))).posts) (Int.toNat (v56l2))).amount)))), (13, .ref 3 0), (47, .d (slOf 3 Entry.row v1)), (48, .d (cI (v1.length : Int))), (49, .d (cI v49l1)), (54, .d (slOf 2 Post.row ((nth v1 (Int.toNat (v49l1))).posts))), (55, .d (cI (((nth v1 (Int.toNat (v49l1))).posts).length : Int))), (56, .d (cI (v56l2 + 1)))]) (st' := ⟨[.map (mEnc (fun n => Value.int .i64 n) (fun x => cI x) o0c0j1), .map (mEnc (fun n => Value.int .i64 n) (fun x => cI x) (aset o1c0l2 ((alook o2c0j1 ((nth ((nth v1 (Int.toNat (v49l1))).posts) (Int.toNat (v56l2))).account)).getD 0) (((alook o1c0l2 ((alook o2c0j1 ((nth ((nth v1 (Int.toNat (v49l1))).posts) (Int.toNat (v56l2))).account)).getD 0)).getD 0) + ((nth ((nth v1 (Int.toNat (v49l1))).posts) (Int.toNat (v56l2))).amount)))), .map (mEnc (fun s => Value.string ⟨s.toArray⟩) (fun x => cI x) o2c0j1), .row 78 [.d (cI ((nth v1 (Int.toNat (v49l1))).at_)), .d (cS ((nth v1 (Int.toNat (v49l1))).text)), .d (slOf 2 Post.row ((nth v1 (Int.toNat (v49l1))).posts))]], []⟩) (.cons rfl (.rfl' _) (.cons rfl (.rfl' _) (.cons rfl (.rfl' _) (.cons rfl (.rfl' _) (.cons rfl (.rfl' _) (.cons rfl (.rfl' _) (.cons rfl (.rfl' _) (.cons rfl (.rfl' _) (.cons rfl (.rfl' _) (.cons rfl (.rfl' _) (.cons rfl (.rfl' _) (.cons rfl (.rfl' _) (.nil))))))))))))) rfl rfl rfl rfl (okBoth rfl (okCons okMap (okCons okMap (okCons okMap (okCons rfl rfl))))) (by rw [hS]; exact Nat.le_of_ble_eq_true rfl) (by rw [hS]; exact Nat.le_of_ble_eq_true rfl) <| .sub (.cons rfl (.rfl' _) (.cons rfl (.rfl' _) (.cons rfl (.rfl' _) (.cons rfl (.rfl' _) (.cons rfl (.rfl' _) (.cons rfl (.rfl' _) (.cons rfl (.rfl' _) (.cons rfl (.rfl' _) (.cons rfl (.rfl' _) (.cons rfl (.rfl' _) (.cons rfl (.rfl' _) (.cons rfl (.rfl' _) (.nil))))))))))))) (ih2 (n2, (v11l2 + ((nth ((nth v1 (Int.toNat (v49l1))).posts) (Int.toNat (v56l2))).amount), v56l2 + 1, aset o1c0l2 ((alook o2c0j1 ((nth ((nth v1 (Int.toNat (v49l1))).posts) (Int.toNat (v56l2))).account)).getD 0) (((alook o1c0l2 ((alook o2c0j1 ((nth ((nth v1 (Int.toNat (v49l1))).posts) (Int.toNat (v56l2))).account)).getD 0)).getD 0) + ((nth ((nth v1 (Int.toNat (v49l1))).posts) (Int.toNat (v56l2))).amount)))) HK2 hm2)
          · replace H := ifF hc H; clear hc
            refine .skip ?_
            refine .inBlock ?_
            refine .region ?_
            obtain ⟨hk8, H⟩ := ck_some H
            refine .q (q_addI rfl rfl hk8.1 hk8.2) rfl ?_
            refine .q (q_move rfl) rfl ?_
            refine .nil ?_
            cases H
            exact .to 4 0 (env' := [(5, .d (slOf 1 rI v5j1)), (6, .mp 0), (7, .mp 1), (8, .mp 2), (11, .d (cI (v11l2 + ((nth ((nth v1 (Int.toNat (v49l1))).posts) (Int.toNat (v56l2))).amount)))), (13, .ref 3 0), (47, .d (slOf 3 Entry.row v1)), (48, .d (cI (v1.length : Int))), (49, .d (cI v49l1)), (54, .d (slOf 2 Post.row ((nth v1 (Int.toNat (v49l1))).posts))), (55, .d (cI (((nth v1 (Int.toNat (v49l1))).posts).length : Int))), (56, .d (cI (v56l2 + 1)))]) (st' := ⟨[.map (mEnc (fun n => Value.int .i64 n) (fun x => cI x) o0c0j1), .map (mEnc (fun n => Value.int .i64 n) (fun x => cI x) o1c0l2), .map (mEnc (fun s => Value.string ⟨s.toArray⟩) (fun x => cI x) o2c0j1), .row 78 [.d (cI ((nth v1 (Int.toNat (v49l1))).at_)), .d (cS ((nth v1 (Int.toNat (v49l1))).text)), .d (slOf 2 Post.row ((nth v1 (Int.toNat (v49l1))).posts))]], []⟩) (.cons rfl (.rfl' _) (.cons rfl (.rfl' _) (.cons rfl (.rfl' _) (.cons rfl (.rfl' _) (.cons rfl (.rfl' _) (.cons rfl (.rfl' _) (.cons rfl (.rfl' _) (.cons rfl (.rfl' _) (.cons rfl (.rfl' _) (.cons rfl (.rfl' _) (.cons rfl (.rfl' _) (.cons rfl (.rfl' _) (.nil))))))))))))) rfl rfl rfl rfl (okBoth rfl (okCons okMap (okCons okMap (okCons okMap (okCons rfl rfl))))) (by rw [hS]; exact Nat.le_of_ble_eq_true rfl) (by rw [hS]; exact Nat.le_of_ble_eq_true rfl) <| .sub (.cons rfl (.rfl' _) (.cons rfl (.rfl' _) (.cons rfl (.rfl' _) (.cons rfl (.rfl' _) (.cons rfl (.rfl' _) (.cons rfl (.rfl' _) (.cons rfl (.rfl' _) (.cons rfl (.rfl' _) (.cons rfl (.rfl' _) (.cons rfl (.rfl' _) (.cons rfl (.rfl' _) (.cons rfl (.rfl' _) (.nil))))))))))))) (ih2 (n2, (v11l2 + ((nth ((nth v1 (Int.toNat (v49l1))).posts) (Int.toNat (v56l2))).amount), v56l2 + 1, o1c0l2)) HK2 hm2)
        · replace H := ifF hc H; clear hc
          refine .exit rfl ?_
          refine .inBlock ?_
          refine .region ?_
          obtain ⟨hk9, H⟩ := ck_some H
          refine .q (q_addI rfl rfl hk9.1 hk9.2) rfl ?_
          refine .q (q_move rfl) rfl ?_
          refine .nil ?_
          cases H
          cases HK2
          exact .to 3 0 (env' := [(5, .d (slOf 1 rI v5j1)), (6, .mp 0), (7, .mp 1), (8, .mp 2), (11, .d (cI v11l2)), (47, .d (slOf 3 Entry.row v1)), (48, .d (cI (v1.length : Int))), (49, .d (cI (v49l1 + 1)))]) (st' := ⟨[.map (mEnc (fun n => Value.int .i64 n) (fun x => cI x) o0c0j1), .map (mEnc (fun n => Value.int .i64 n) (fun x => cI x) o1c0l2), .map (mEnc (fun s => Value.string ⟨s.toArray⟩) (fun x => cI x) o2c0j1)], []⟩) (.cons rfl (.rfl' _) (.cons rfl (.rfl' _) (.cons rfl (.rfl' _) (.cons rfl (.rfl' _) (.cons rfl (.rfl' _) (.cons rfl (.rfl' _) (.cons rfl (.rfl' _) (.cons rfl (.rfl' _) (.nil))))))))) rfl rfl rfl rfl (okBoth rfl (okCons okMap (okCons okMap (okCons okMap rfl)))) (by rw [hS]; exact Nat.le_of_ble_eq_true rfl) (by rw [hS]; exact Nat.le_of_ble_eq_true rfl) <| .sub (.cons rfl (.rfl' _) (.cons rfl (.rfl' _) (.cons rfl (.rfl' _) (.cons rfl (.rfl' _) (.cons rfl (.rfl' _) (.cons rfl (.rfl' _) (.cons rfl (.rfl' _) (.cons rfl (.rfl' _) (.nil))))))))) (ih1 (n1, (v11l2, v49l1 + 1, o1c0l2)) HK1 hm1)
      · replace H := ifF hc H; clear hc
        refine .exit rfl ?_
        obtain ⟨q0, H9, hq0⟩ := map_some' H; clear H; cases hq0
        cases HK1
        have H := H9
        exact .withSt (st' := ⟨[.map (mEnc (fun n => Value.int .i64 n) (fun x => cI x) o0c0j1), .map (mEnc (fun n => Value.int .i64 n) (fun x => cI x) o1c0l1), .map (mEnc (fun s => Value.string ⟨s.toArray⟩) (fun x => cI x) o2c0j1)], []⟩) rfl <| .sub (.cons rfl (.rfl' _) (.cons rfl (.rfl' _) (.cons rfl (.rfl' _) (.cons rfl (.rfl' _) (.nil))))) (hj2x (v11l1, o1c0l1) H)
  · intro hj1 hj1x
    obtain ⟨n3, H⟩ := loop_some H
    refine .withSt (st' := ⟨[.map (mEnc (fun n => Value.int .i64 n) (fun x => cI x) ([] : List (Int × Int))), .map (mEnc (fun n => Value.int .i64 n) (fun x => cI x) ([] : List (Int × Int))), .map (mEnc (fun s => Value.string ⟨s.toArray⟩) (fun x => cI x) ([] : List ((List UInt8) × Int)))], []⟩) rfl <| .loop (ι := Nat × (List Int × Int × (List (Int × Int)) × (List ((List UInt8) × Int)))) (fun p => [(1, .d (slOf 3 Entry.row v1)), (5, .d (slOf 1 rI p.2.1)), (6, .mp 0), (7, .mp 1), (8, .mp 2), (22, .d (slOf 8 Invoice.row v0)), (23, .d (cI (v0.length : Int))), (24, .d (cI p.2.2.1))]) (fun p => ⟨[.map (mEnc (fun n => Value.int .i64 n) (fun x => cI x) p.2.2.2.1), .map (mEnc (fun n => Value.int .i64 n) (fun x => cI x) ([] : List (Int × Int))), .map (mEnc (fun s => Value.string ⟨s.toArray⟩) (fun x => cI x) p.2.2.2.2)], []⟩) (fun p => iter (fun s => f_assure_Books_l3 v0 v1 s.1 s.2.1 s.2.2.1 s.2.2.2) p.1 p.2 = some r) (·.1) (n3, ([], 0, ([] : List (Int × Int)), ([] : List ((List UInt8) × Int)))) H (.cons rfl (.rfl' _) (.cons rfl (.nil 1) (.cons rfl (.rfl' _) (.cons rfl (.rfl' _) (.cons rfl (.rfl' _) (.cons rfl (.rfl' _) (.cons rfl (.rfl' _) (.cons rfl (.rfl' _) (.nil))))))))) rfl ?_
    rintro ⟨m1, v5l3, v24l3, o0c0l3, o2c0l3⟩ HI ih1
    obtain ⟨n1, q1, hm1, H, HK1⟩ := iter_succ HI
    clear HI
    replace H : f_assure_Books_l3 v0 v1 v5l3 v24l3 o0c0l3 o2c0l3 = some q1 := H
    unfold f_assure_Books_l3 at H
    change ARun _ _ _ _ _ _ [(1, .d (slOf 3 Entry.row v1)), (5, .d (slOf 1 rI v5l3)), (6, .mp 0), (7, .mp 1), (8, .mp 2), (22, .d (slOf 8 Invoice.row v0)), (23, .d (cI (v0.length : Int))), (24, .d (cI v24l3))] ⟨[.map (mEnc (fun n => Value.int .i64 n) (fun x => cI x) o0c0l3), .map (mEnc (fun n => Value.int .i64 n) (fun x => cI x) ([] : List (Int × Int))), .map (mEnc (fun s => Value.string ⟨s.toArray⟩) (fun x => cI x) o2c0l3)], []⟩
    refine .seq ?_
    refine .region ?_
    refine .q (q_lss rfl rfl) rfl ?_
    refine .nil ?_
    refine .seq ?_
    refine .cond rfl (fun hc => ?_) (fun hc => ?_)
    · replace H := ifT hc H; clear hc
      refine .skip ?_
      refine .seq ?_
      refine .block ?_
      refine .seq ?_
      refine .region ?_
      obtain ⟨hk10, H⟩ := ck_some H
      refine .q (x := .d (.ro (Invoice.row (nth v0 (Int.toNat (v24l3)))))) (q_idxL (row := Invoice.row) (l := v0) (i := v24l3) Try.underlying69 hi75 hs75 rfl rfl rfl hk10) rfl ?_
      refine .q (x := .d (.agg (Invoice.row (nth v0 (Int.toNat (v24l3)))))) (q_loadAll one_75 sz_75 rfl rfl) rfl ?_
      refine .v (x := .ref 3 0) (v_alloc zr_75 rfl) rfl ?_
      refine .withSt (st' := ⟨[.map (mEnc (fun n => Value.int .i64 n) (fun x => cI x) o0c0l3), .map (mEnc (fun n => Value.int .i64 n) (fun x => cI x) ([] : List (Int × Int))), .map (mEnc (fun s => Value.string ⟨s.toArray⟩) (fun x => cI x) o2c0l3), .row 75 [.d (cI 0), .d (cI 0), .d (cI 0), .d (nilD), .d (nilD), .d (cI 0), .d (cI 0), .d (cI 0)]], []⟩) rfl ?_
      refine .u (u_store rfl rfl rfl rfl (Nat.le_of_ble_eq_true rfl) sz_75) rfl ?_
      refine .withSt (st' := ⟨[.map (mEnc (fun n => Value.int .i64 n) (fun x => cI x) o0c0l3), .map (mEnc (fun n => Value.int .i64 n) (fun x => cI x) ([] : List (Int × Int))), .map (mEnc (fun s => Value.string ⟨s.toArray⟩) (fun x => cI x) o2c0l3), .row 75 [.d (cI ((nth v0 (Int.toNat (v24l3))).account)), .d (cI (((nth v0 (Int.toNat (v24l3))).period).from_)), .d (cI (((nth v0 (Int.toNat (v24l3))).period).to_)), .d (slOf 8 Line.row ((nth v0 (Int.toNat (v24l3))).lines)), .d (slOf 4 TaxLine.row ((nth v0 (Int.toNat (v24l3))).taxes)), .d (cI ((nth v0 (Int.toNat (v24l3))).net)), .d (cI ((nth v0 (Int.toNat (v24l3))).tax)), .d (cI ((nth v0 (Int.toNat (v24l3))).total))]], []⟩) rfl ?_
      refine .nil ?_
      refine .seq ?_
      refine .region ?_
      refine .q (q_move rfl) rfl ?_
      refine .q (q_fieldRef fo_75_0 rfl) rfl ?_
      refine .q (x := .d (cI ((nth v0 (Int.toNat (v24l3))).account))) (q_loadO one_3 rfl rfl rfl) rfl ?_
      obtain ⟨y2, hy2, H⟩ := bind_some' H
      refine .g (x := .d (slOf 1 rI y2)) (g_call en_34 rfl rfl (c_f_assure_keys (hy2))) rfl ?_
      refine .q (q_assign rfl) rfl ?_
      refine .nil ?_
      refine .seq ?_
      refine .drawn 7 hMix (by kernel_rfl) ?_
      show DOps _ _ _ _ _ _ _ (_ :: _) _ _ _
      refine .q (q_move rfl) rfl ?_
      refine .q (q_fieldRef fo_75_0 rfl) rfl ?_
      refine .q (x := .d (cI ((nth v0 (Int.toNat (v24l3))).account))) (q_loadO one_3 rfl rfl rfl) rfl ?_
      obtain ⟨y3, hy3, H⟩ := bind_some' H
      refine .g (x := .d (cS y3)) (g_call en_39 rfl rfl (c_f_assure_decimal (hy3))) rfl ?_
      obtain ⟨hk11, H⟩ := ck_some H
      refine .q (x := .d (cS (([114, 101, 99, 101, 105, 118, 97, 98, 108, 101, 58] : List UInt8) ++ y3))) (q_sadd rfl rfl hk11) rfl ?_
      refine .q (q_fieldRef fo_75_0 rfl) rfl ?_
      refine .q (x := .d (cI ((nth v0 (Int.toNat (v24l3))).account))) (q_loadO one_3 rfl rfl rfl) rfl ?_
      refine .nil ?_
      show AOps _ _ _ _ _ _ (_ :: _) _ _ _
      refine .u (u_mapUpdateD (strKF Try.underlying9) (l := o2c0l3) (val := (fun x => cI x)) (k := ([114, 101, 99, 101, 105, 118, 97, 98, 108, 101, 58] : List UInt8) ++ y3) (a := (nth v0 (Int.toNat (v24l3))).account) Try.underlying108 rfl rfl rfl (fun _ _ _ h => exKey h) rfl (.rfl' _)) rfl ?_
      refine .withSt (st' := ⟨[.map (mEnc (fun n => Value.int .i64 n) (fun x => cI x) o0c0l3), .map (mEnc (fun n => Value.int .i64 n) (fun x => cI x) ([] : List (Int × Int))), .map (mEnc (fun s => Value.string ⟨s.toArray⟩) (fun x => cI x) (aset o2c0l3 (([114, 101, 99, 101, 105, 118, 97, 98, 108, 101, 58] : List UInt8) ++ y3) ((nth v0 (Int.toNat (v24l3))).account))), .row 75 [.d (cI ((nth v0 (Int.toNat (v24l3))).account)), .d (cI (((nth v0 (Int.toNat (v24l3))).period).from_)), .d (cI (((nth v0 (Int.toNat (v24l3))).period).to_)), .d (slOf 8 Line.row ((nth v0 (Int.toNat (v24l3))).lines)), .d (slOf 4 TaxLine.row ((nth v0 (Int.toNat (v24l3))).taxes)), .d (cI ((nth v0 (Int.toNat (v24l3))).net)), .d (cI ((nth v0 (Int.toNat (v24l3))).tax)), .d (cI ((nth v0 (Int.toNat (v24l3))).total))]], []⟩) rfl ?_
      refine .nil ?_
      refine .region ?_
      refine .q (q_move rfl) rfl ?_
      refine .q (q_fieldRef fo_75_0 rfl) rfl ?_
      refine .q (x := .d (cI ((nth v0 (Int.toNat (v24l3))).account))) (q_loadO one_3 rfl rfl rfl) rfl ?_
      refine .q (x := .d (cI ((alook o0c0l3 ((nth v0 (Int.toNat (v24l3))).account)).getD 0))) (q_lookupD (intKF Try.underlying3) (l := o0c0l3) (val := (fun x => cI x)) (k := (nth v0 (Int.toNat (v24l3))).account) (a0 := 0) Try.underlying101 hi3 hz3 (show DLe (cI 0) (cI 0) from .rfl' _) rfl rfl rfl (fun _ _ _ h => exKey h)) rfl ?_
      refine .q (q_fieldRef fo_75_6 rfl) rfl ?_
      refine .q (x := .d (cI ((nth v0 (Int.toNat (v24l3))).total))) (q_loadO one_3 rfl rfl rfl) rfl ?_
      obtain ⟨hk12, H⟩ := ck_some H
      refine .q (q_addI rfl rfl hk12.1 hk12.2) rfl ?_
      refine .u (u_mapUpdateD (intKF Try.underlying3) (l := o0c0l3) (val := (fun x => cI x)) (k := (nth v0 (Int.toNat (v24l3))).account) (a := ((alook o0c0l3 ((nth v0 (Int.toNat (v24l3))).account)).getD 0) + ((nth v0 (Int.toNat (v24l3))).total)) Try.underlying101 rfl rfl rfl (fun _ _ _ h => exKey h) rfl (.rfl' _)) rfl ?_
      refine .withSt (st' := ⟨[.map (mEnc (fun n => Value.int .i64 n) (fun x => cI x) (aset o0c0l3 ((nth v0 (Int.toNat (v24l3))).account) (((alook o0c0l3 ((nth v0 (Int.toNat (v24l3))).account)).getD 0) + ((nth v0 (Int.toNat (v24l3))).total)))), .map (mEnc (fun n => Value.int .i64 n) (fun x => cI x) ([] : List (Int × Int))), .map (mEnc (fun s => Value.string ⟨s.toArray⟩) (fun x => cI x) (aset o2c0l3 (([114, 101, 99, 101, 105, 118, 97, 98, 108, 101, 58] : List UInt8) ++ y3) ((nth v0 (Int.toNat (v24l3))).account))), .row 75 [.d (cI ((nth v0 (Int.toNat (v24l3))).account)), .d (cI (((nth v0 (Int.toNat (v24l3))).period).from_)), .d (cI (((nth v0 (Int.toNat (v24l3))).period).to_)), .d (slOf 8 Line.row ((nth v0 (Int.toNat (v24l3))).lines)), .d (slOf 4 TaxLine.row ((nth v0 (Int.toNat (v24l3))).taxes)), .d (cI ((nth v0 (Int.toNat (v24l3))).net)), .d (cI ((nth v0 (Int.toNat (v24l3))).tax)), .d (cI ((nth v0 (Int.toNat (v24l3))).total))]], []⟩) rfl ?_
      refine .nil ?_
      refine .inBlock ?_
      refine .region ?_
      obtain ⟨hk13, H⟩ := ck_some H
      refine .q (q_addI rfl rfl hk13.1 hk13.2) rfl ?_
      refine .q (q_move rfl) rfl ?_
      refine .nil ?_
      cases H
      exact .to 3 0 (env' := [(1, .d (slOf 3 Entry.row v1)), (5, .d (slOf 1 rI y2)), (6, .mp 0), (7, .mp 1), (8, .mp 2), (22, .d (slOf 8 Invoice.row v0)), (23, .d (cI (v0.length : Int))), (24, .d (cI (v24l3 + 1)))]) (st' := ⟨[.map (mEnc (fun n => Value.int .i64 n) (fun x => cI x) (aset o0c0l3 ((nth v0 (Int.toNat (v24l3))).account) (((alook o0c0l3 ((nth v0 (Int.toNat (v24l3))).account)).getD 0) + ((nth v0 (Int.toNat (v24l3))).total)))), .map (mEnc (fun n => Value.int .i64 n) (fun x => cI x) ([] : List (Int × Int))), .map (mEnc (fun s => Value.string ⟨s.toArray⟩) (fun x => cI x) (aset o2c0l3 (([114, 101, 99, 101, 105, 118, 97, 98, 108, 101, 58] : List UInt8) ++ y3) ((nth v0 (Int.toNat (v24l3))).account)))], []⟩) (.cons rfl (.rfl' _) (.cons rfl (.rfl' _) (.cons rfl (.rfl' _) (.cons rfl (.rfl' _) (.cons rfl (.rfl' _) (.cons rfl (.rfl' _) (.cons rfl (.rfl' _) (.cons rfl (.rfl' _) (.nil))))))))) rfl rfl rfl rfl (okBoth rfl (okCons okMap (okCons okMap (okCons okMap rfl)))) (by rw [hS]; exact Nat.le_of_ble_eq_true rfl) (by rw [hS]; exact Nat.le_of_ble_eq_true rfl) <| .sub (.cons rfl (.rfl' _) (.cons rfl (.rfl' _) (.cons rfl (.rfl' _) (.cons rfl (.rfl' _) (.cons rfl (.rfl' _) (.cons rfl (.rfl' _) (.cons rfl (.rfl' _) (.cons rfl (.rfl' _) (.nil))))))))) (ih1 (n1, (y2, v24l3 + 1, aset o0c0l3 ((nth v0 (Int.toNat (v24l3))).account) (((alook o0c0l3 ((nth v0 (Int.toNat (v24l3))).account)).getD 0) + ((nth v0 (Int.toNat (v24l3))).total)), aset o2c0l3 (([114, 101, 99, 101, 105, 118, 97, 98, 108, 101, 58] : List UInt8) ++ y3) ((nth v0 (Int.toNat (v24l3))).account))) HK1 hm1)
    · replace H := ifF hc H; clear hc
      refine .exit rfl ?_
      obtain ⟨q0, H9, hq0⟩ := map_some' H; clear H; cases hq0
      cases HK1
      have H := H9
      exact .withSt (st' := ⟨[.map (mEnc (fun n => Value.int .i64 n) (fun x => cI x) o0c0l3), .map (mEnc (fun n => Value.int .i64 n) (fun x => cI x) ([] : List (Int × Int))), .map (mEnc (fun s => Value.string ⟨s.toArray⟩) (fun x => cI x) o2c0l3)], []⟩) rfl <| .sub (.cons rfl (.rfl' _) (.cons rfl (.rfl' _) (.cons rfl (.rfl' _) (.cons rfl (.rfl' _) (.cons rfl (.rfl' _) (.nil)))))) (hj1x (v5l3, o0c0l3, o2c0l3) H)

set_option maxRecDepth 100000 in
set_option maxHeartbeats 1000000 in
theorem c_f_billingref54_Keys {v0list : List Int} {v1n : Int} {r : (List Int)} (H : f_billingref54_Keys v0list v1n = some r) : ACall Try.prog 35 [slOf 1 rI v0list, cI v1n] (· = slOf 1 rI r) := by
  obtain ⟨i3, hi3, hz3, hs3, hb3⟩ := in_3
  refine ACall.enter' Try.func35 rfl Try.ntmps35 rfl fun S hS => ?_
  unfold f_billingref54_Keys at H
  change ARun _ _ _ _ _ _ [(0, .d (slOf 1 rI v0list)), (1, .d (cI v1n))] _
  refine .seq ?_
  refine .region ?_
  refine .q (q_assign rfl) rfl ?_
  refine .nil ?_
  refine .seq ?_
  refine .region ?_
  refine .q (q_assign rfl) rfl ?_
  refine .nil ?_
  refine .seq ?_
  refine .blockJoin2 (ι := Int) (fun s => [(0, .d (slOf 1 rI v0list)), (1, .d (cI v1n)), (5, .d (cI s))]) (fun s => ⟨[], []⟩) (fun s => f_billingref54_Keys_j1 v0list v1n s = some r) ?_ ?_
  · rintro v5atj1 H
    replace H : f_billingref54_Keys_j1 v0list v1n v5atj1 = some r := H
    unfold f_billingref54_Keys_j1 at H
    change ARun _ _ _ _ _ _ [(0, .d (slOf 1 rI v0list)), (1, .d (cI v1n)), (5, .d (cI v5atj1))] ⟨[], []⟩
    refine .seq ?_
    refine .seq ?_
    refine .region ?_
    refine .q (q_move rfl) rfl ?_
    refine .q (q_move rfl) rfl ?_
    refine .q (q_lenL (l := v0list) (row := rI) Try.underlying100 rfl rfl) rfl ?_
    refine .q (q_lss rfl rfl) rfl ?_
    refine .q (q_move rfl) rfl ?_
    refine .guardG (env' := [(0, _)]) rfl rfl rfl ⟨.inl rfl, trivial⟩ rfl (fun hg => OpQ.g (q_move rfl)) ?_
    refine .guardG (env' := [(5, _)]) rfl rfl rfl ⟨.inl rfl, trivial⟩ rfl (fun hg => OpQ.g (q_move rfl)) ?_
    obtain ⟨hk1, H⟩ := ck_some H
    refine .guardG (b := decide (v5atj1 < (v0list.length : Int))) (x := .d (.ro (rI (nth v0list (Int.toNat (v5atj1)))))) (env' := [(26, _), (27, _)]) rfl rfl rfl ⟨.inr (.inl rfl), ⟨.inr (.inl rfl), trivial⟩⟩ rfl (fun hg => OpQ.g (q_idxL (row := rI) (l := v0list) (i := v5atj1) Try.underlying100 hi3 hs3 rfl rfl rfl (hk1 hg))) ?_
    refine .guardG (b := decide (v5atj1 < (v0list.length : Int))) (x := .d (cI (nth v0list (Int.toNat (v5atj1))))) (env' := [(28, _)]) rfl rfl rfl ⟨.inr (.inl rfl), trivial⟩ rfl (fun hg => OpQ.g (q_load one_3 rfl)) ?_
    refine .guardG (env' := [(1, _)]) rfl rfl rfl ⟨.inl rfl, trivial⟩ rfl (fun hg => OpQ.g (q_move rfl)) ?_
    refine .guardG (env' := [(29, _), (30, _)]) rfl rfl rfl ⟨.inr (.inl rfl), ⟨.inr (.inl rfl), trivial⟩⟩ rfl (fun hg => OpQ.g (q_eql rfl rfl)) ?_
    refine .q (q_pickAndB rfl rfl rfl) rfl ?_
    refine .nil ?_
    refine .cond rfl (fun hc => ?_) (fun hc => ?_)
    · replace H := ifT hc H; clear hc
      refine .seq ?_
      refine .region ?_
      refine .q (q_move rfl) rfl ?_
      refine .q (q_assign rfl) rfl ?_
      refine .nil ?_
      refine .retN [.tmp 4] [.d (slOf 1 rI v0list)] Try.func35 Try.results35 ⟨rfl, trivial⟩ ?_
      cases H
      exact ⟨_, .rfl' _, rfl⟩
    · replace H := ifF hc H; clear hc
      refine .skip ?_
      refine .seq ?_
      refine .region ?_
      refine .v (x := .tsl 1 (([] : List Int).map rI) 0) (v_build0T Try.underlying100 hi3 hs3) rfl ?_
      refine .withSt (st' := ⟨[], [⟨3, 1, ([] : List Int).length, none⟩]⟩) rfl ?_
      refine .q (q_move rfl) rfl ?_
      refine .q (q_move rfl) rfl ?_
      obtain ⟨hk2, H⟩ := ck_some H
      refine .q (x := .d (slOf 1 rI (v0list.take (Int.toNat (v5atj1))))) (q_slHL (l := v0list) (row := rI) Try.underlying100 hi3 hs3 rfl rfl rfl hk2) rfl ?_
      obtain ⟨hk3, H⟩ := ck_some H
      refine .v (x := .tsl 1 ((([] : List Int) ++ (v0list.take (Int.toNat (v5atj1)))).map rI) 0) (v_appendL (l := ([] : List Int)) (l' := v0list.take (Int.toNat (v5atj1))) (row := rI) Try.underlying100 hi3 hz3 hs3 rfl (by rw [hb3]; decide) rfl rfl rfl rfl hk3) rfl ?_
      refine .withSt (st' := ⟨[], [⟨3, 1, (([] : List Int) ++ (v0list.take (Int.toNat (v5atj1)))).length, none⟩]⟩) rfl ?_
      refine .q (q_assign rfl) rfl ?_
      refine .nil ?_
      refine .seq ?_
      refine .region ?_
      refine .q (q_move rfl) rfl ?_
      refine .q (q_move rfl) rfl ?_
      refine .g (x := .d (slOf 1 rI ([v1n] : List Int))) (g_buildSlice1 Try.underlying100 hi3 hs3 hz3 rfl rfl rfl rfl rfl) rfl ?_
      obtain ⟨hk4, H⟩ := ck_some H
      refine .v (x := .tsl 1 (((([] : List Int) ++ (v0list.take (Int.toNat (v5atj1)))) ++ ([v1n] : List Int)).map rI) 0) (v_appendL (l := ([] : List Int) ++ (v0list.take (Int.toNat (v5atj1)))) (l' := ([v1n] : List Int)) (row := rI) Try.underlying100 hi3 hz3 hs3 rfl (by rw [hb3]; decide) rfl rfl rfl rfl hk4) rfl ?_
      refine .withSt (st' := ⟨[], [⟨3, 1, ((([] : List Int) ++ (v0list.take (Int.toNat (v5atj1)))) ++ ([v1n] : List Int)).length, none⟩]⟩) rfl ?_
      refine .q (q_assign rfl) rfl ?_
      refine .nil ?_
      refine .seq ?_
      refine .region ?_
      refine .q (q_move rfl) rfl ?_
      refine .q (q_move rfl) rfl ?_
      refine .q (q_move rfl) rfl ?_
      obtain ⟨hk5, H⟩ := ck_some H
      refine .q (x := .d (slOf 1 rI (v0list.drop (Int.toNat (v5atj1))))) (q_slLL (l := v0list) (row := rI) Try.underlying100 hi3 hs3 rfl rfl rfl hk5) rfl ?_
      obtain ⟨hk6, H⟩ := ck_some H
      refine .v (x := .tsl 1 ((((([] : List Int) ++ (v0list.take (Int.toNat (v5atj1)))) ++ ([v1n] : List Int)) ++ (v0list.drop (Int.toNat (v5atj1)))).map rI) 0) (v_appendL (l := (([] : List Int) ++ (v0list.take (Int.toNat (v5atj1)))) ++ ([v1n] : List Int)) (l' := v0list.drop (Int.toNat (v5atj1))) (row := rI) Try.underlying100 hi3 hz3 hs3 rfl (by rw [hb3]; decide) rfl rfl rfl rfl hk6) rfl ?_
      refine .withSt (st' := ⟨[], [⟨3, 1, (((([] : List Int) ++ (v0list.take (Int.toNat (v5atj1)))) ++ ([v1n] : List Int)) ++ (v0list.drop (Int.toNat (v5atj1)))).length, none⟩]⟩) rfl ?_
      refine .q (q_assign rfl) rfl ?_
      refine .nil ?_
      refine .retN [.tmp 4] [.tsl 1 ((((([] : List Int) ++ (v0list.take (Int.toNat (v5atj1)))) ++ ([v1n] : List Int)) ++ (v0list.drop (Int.toNat (v5atj1)))).map rI) 0] Try.func35 Try.results35 ⟨rfl, trivial⟩ ?_
      cases H
      exact ⟨_, .tsl _ _ _, rfl⟩
  · intro hj1 hj1x
    obtain ⟨n1, H⟩ := loop_some H
    refine .loop (ι := Nat × (Int)) (fun p => [(0, .d (slOf 1 rI v0list)), (1, .d (cI v1n)), (5, .d (cI p.2))]) (fun p => ⟨[], []⟩) (fun p => iter (fun s => f_billingref54_Keys_l1 v0list v1n s) p.1 p.2 = some r) (·.1) (n1, 0) H (.cons rfl (.rfl' _) (.cons rfl (.rfl' _) (.cons rfl (.rfl' _) (.nil)))) rfl ?_
    rintro ⟨m1, v5atl1⟩ HI ih1
    obtain ⟨n1, q1, hm1, H, HK1⟩ := iter_succ HI
    clear HI
    replace H : f_billingref54_Keys_l1 v0list v1n v5atl1 = some q1 := H
    unfold f_billingref54_Keys_l1 at H
    change ARun _ _ _ _ _ _ [(0, .d (slOf 1 rI v0list)), (1, .d (cI v1n)), (5, .d (cI v5atl1))] ⟨[], []⟩
    refine .seq ?_
    refine .seq ?_
    refine .region ?_
    refine .q (q_move rfl) rfl ?_
    refine .q (q_move rfl) rfl ?_
    refine .q (q_lenL (l := v0list) (row := rI) Try.underlying100 rfl rfl) rfl ?_
    refine .q (q_lss rfl rfl) rfl ?_
    refine .q (q_move rfl) rfl ?_
    refine .guardG (env' := [(0, _)]) rfl rfl rfl ⟨.inl rfl, trivial⟩ rfl (fun hg => OpQ.g (q_move rfl)) ?_
    refine .guardG (env' := [(5, _)]) rfl rfl rfl ⟨.inl rfl, trivial⟩ rfl (fun hg => OpQ.g (q_move rfl)) ?_
    obtain ⟨hk7, H⟩ := ck_some H
    refine .guardG (b := decide (v5atl1 < (v0list.length : Int))) (x := .d (.ro (rI (nth v0list (Int.toNat (v5atl1)))))) (env' := [(12, _), (13, _)]) rfl rfl rfl ⟨.inr (.inl rfl), ⟨.inr (.inl rfl), trivial⟩⟩ rfl (fun hg => OpQ.g (q_idxL (row := rI) (l := v0list) (i := v5atl1) Try.underlying100 hi3 hs3 rfl rfl rfl (hk7 hg))) ?_
    refine .guardG (b := decide (v5atl1 < (v0list.length : Int))) (x := .d (cI (nth v0list (Int.toNat (v5atl1))))) (env' := [(14, _)]) rfl rfl rfl ⟨.inr (.inl rfl), trivial⟩ rfl (fun hg => OpQ.g (q_load one_3 rfl)) ?_
    refine .guardG (env' := [(1, _)]) rfl rfl rfl ⟨.inl rfl, trivial⟩ rfl (fun hg => OpQ.g (q_move rfl)) ?_
    refine .guardG (env' := [(15, _), (16, _)]) rfl rfl rfl ⟨.inr (.inl rfl), ⟨.inr (.inl rfl), trivial⟩⟩ rfl (fun hg => OpQ.g (q_lss rfl rfl)) ?_
    refine .q (q_pickAndB rfl rfl rfl) rfl ?_
    refine .nil ?_
    refine .cond rfl (fun hc => ?_) (fun hc => ?_)
    · replace H := ifT hc H; clear hc
      refine .skip ?_
      refine .block ?_
      refine .region ?_
      refine .q (q_move rfl) rfl ?_
      obtain ⟨hk8, H⟩ := ck_some H
      refine .q (q_addI rfl rfl hk8.1 hk8.2) rfl ?_
      refine .q (q_assign rfl) rfl ?_
      refine .nil ?_
      refine .inBlock ?_
      cases H
      exact .sub (.cons rfl (.rfl' _) (.cons rfl (.rfl' _) (.cons rfl (.rfl' _) (.nil)))) (ih1 (n1, (v5atl1 + 1)) HK1 hm1)
    · replace H := ifF hc H; clear hc
      refine .exit rfl ?_
      obtain ⟨q0, H9, hq0⟩ := map_some' H; clear H; cases hq0
      cases HK1
      have H := H9
      exact .sub (.cons rfl (.rfl' _) (.cons rfl (.rfl' _) (.cons rfl (.rfl' _) (.nil)))) (hj1x v5atl1 H)

set_option maxRecDepth 100000 in
set_option maxHeartbeats 1000000 in
theorem c_f_billingref01_Number {v0n : Int} {r : (List UInt8)} (H : f_billingref01_Number v0n = some r) : ACall Try.prog 51 [cI v0n] (· = cS r) := by
  obtain ⟨i5, hi5, hz5, hs5, hb5⟩ := in_5
  refine ACall.enter' Try.func51 rfl Try.ntmps51 rfl fun S hS => ?_
  unfold f_billingref01_Number at H
  change ARun _ _ _ _ _ _ [(0, .d (cI v0n))] _
  refine .seq ?_
  refine .region ?_
  refine .q (q_assign rfl) rfl ?_
  refine .nil ?_
  refine .seq ?_
  refine .region ?_
  refine .q (q_move rfl) rfl ?_
  obtain ⟨hk1, H⟩ := ck_some H
  refine .q (x := .d (cI (Int.tmod v0n 10))) (q_remT rfl rfl hk1) rfl ?_
  obtain ⟨hk2, H⟩ := ck_some H
  refine .q (q_addI rfl rfl hk2.1 hk2.2) rfl ?_
  refine .q (x := .d (cU8 (UInt8.ofInt (48 + (Int.tmod v0n 10))))) (q_conv8 Try.underlying3 Try.underlying5 rfl) rfl ?_
  refine .g (x := .d (slOf 1 rB8 ([UInt8.ofInt (48 + (Int.tmod v0n 10))] : List UInt8))) (g_buildSlice1 Try.underlying84 hi5 hs5 hz5 rfl rfl rfl rfl rfl) rfl ?_
  refine .q (x := .d (cS ([UInt8.ofInt (48 + (Int.tmod v0n 10))] : List UInt8))) (q_bytesStrL (a := ([UInt8.ofInt (48 + (Int.tmod v0n 10))] : List UInt8)) Try.underlying84 Try.underlying5 Try.underlying9 rfl rfl) rfl ?_
  refine .q (q_assign rfl) rfl ?_
  refine .nil ?_
  refine .seq ?_
  refine .seq ?_
  refine .region ?_
  refine .q (q_move rfl) rfl ?_
  obtain ⟨hk3, H⟩ := ck_some H
  refine .q (x := .d (cI (Int.tdiv v0n 10))) (q_quoT rfl rfl hk3) rfl ?_
  refine .q (q_assign rfl) rfl ?_
  refine .nil ?_
  refine .block ?_
  obtain ⟨n1, H⟩ := loop_some H
  refine .loop (ι := Nat × (Int × List UInt8)) (fun p => [(0, .d (cI p.2.1)), (3, .d (cS p.2.2))]) (fun p => ⟨[], []⟩) (fun p => iter (fun s => f_billingref01_Number_l1 s.1 s.2) p.1 p.2 = some r) (·.1) (n1, (Int.tdiv v0n 10, ([UInt8.ofInt (48 + (Int.tmod v0n 10))] : List UInt8))) H (.cons rfl (.rfl' _) (.cons rfl (.rfl' _) (.nil))) rfl ?_
  rintro ⟨m1, v0nl1, v3sl1⟩ HI ih1
  obtain ⟨n1, q1, hm1, H, HK1⟩ := iter_succ HI
  clear HI
  replace H : f_billingref01_Number_l1 v0nl1 v3sl1 = some q1 := H
  unfold f_billingref01_Number_l1 at H
  change ARun _ _ _ _ _ _ [(0, .d (cI v0nl1)), (3, .d (cS v3sl1))] ⟨[], []⟩
  refine .seq ?_
  refine .seq ?_
  refine .region ?_
  refine .q (q_move rfl) rfl ?_
  refine .q (q_gtr rfl rfl) rfl ?_
  refine .nil ?_
  refine .cond rfl (fun hc => ?_) (fun hc => ?_)
  · replace H := ifT hc H; clear hc
    refine .skip ?_
    refine .seq ?_
    refine .block ?_
    refine .region ?_
    refine .q (q_move rfl) rfl ?_
    obtain ⟨hk4, H⟩ := ck_some H
    refine .q (x := .d (cI (Int.tmod v0nl1 10))) (q_remT rfl rfl hk4) rfl ?_
    obtain ⟨hk5, H⟩ := ck_some H
    refine .q (q_addI rfl rfl hk5.1 hk5.2) rfl ?_
    refine .q (x := .d (cU8 (UInt8.ofInt (48 + (Int.tmod v0nl1 10))))) (q_conv8 Try.underlying3 Try.underlying5 rfl) rfl ?_
    refine .g (x := .d (slOf 1 rB8 ([UInt8.ofInt (48 + (Int.tmod v0nl1 10))] : List UInt8))) (g_buildSlice1 Try.underlying84 hi5 hs5 hz5 rfl rfl rfl rfl rfl) rfl ?_
    refine .q (x := .d (cS ([UInt8.ofInt (48 + (Int.tmod v0nl1 10))] : List UInt8))) (q_bytesStrL (a := ([UInt8.ofInt (48 + (Int.tmod v0nl1 10))] : List UInt8)) Try.underlying84 Try.underlying5 Try.underlying9 rfl rfl) rfl ?_
    refine .q (q_move rfl) rfl ?_
    obtain ⟨hk6, H⟩ := ck_some H
    refine .q (x := .d (cS (([UInt8.ofInt (48 + (Int.tmod v0nl1 10))] : List UInt8) ++ v3sl1))) (q_sadd rfl rfl hk6) rfl ?_
    refine .q (q_assign rfl) rfl ?_
    refine .nil ?_
    refine .inBlock ?_
    refine .region ?_
    refine .q (q_move rfl) rfl ?_
    obtain ⟨hk7, H⟩ := ck_some H
    refine .q (x := .d (cI (Int.tdiv v0nl1 10))) (q_quoT rfl rfl hk7) rfl ?_
    refine .q (q_assign rfl) rfl ?_
    refine .nil ?_
    cases H
    exact .sub (.cons rfl (.rfl' _) (.cons rfl (.rfl' _) (.nil))) (ih1 (n1, (Int.tdiv v0nl1 10, ([UInt8.ofInt (48 + (Int.tmod v0nl1 10))] : List UInt8) ++ v3sl1)) HK1 hm1)
  · replace H := ifF hc H; clear hc
    refine .exit rfl ?_
    refine .seq ?_
    refine .region ?_
    refine .q (q_move rfl) rfl ?_
    refine .q (q_assign rfl) rfl ?_
    refine .nil ?_
    refine .retN [.tmp 2] [.d (cS v3sl1)] Try.func51 Try.results51 ⟨rfl, trivial⟩ ?_
    cases H
    cases HK1
    exact ⟨_, .rfl' _, rfl⟩

end Go.Proofs.Ytpdanklncjopoaa

set_option linter.unusedSimpArgs false
set_option linter.unusedVariables false
namespace Go.Proofs.Ytpdanklncjopoaa
open Go.RowKit Go.Abs
set_option maxRecDepth 100000 in
set_option maxHeartbeats 1000000 in
theorem c_f_billingref01_Int {v0n : Int} {r : (List UInt8)} (H : f_billingref01_Int v0n = some r) : ACall Try.prog 41 [cI v0n] (· = cS r) := by
  refine ACall.enter' Try.func41 rfl Try.ntmps41 rfl fun S hS => ?_
  unfold f_billingref01_Int at H
  change ARun _ _ _ _ _ _ [(0, .d (cI v0n))] _
  refine .seq ?_
  refine .region ?_
  refine .q (q_assign rfl) rfl ?_
  refine .nil ?_
  refine .seq ?_
  refine .seq ?_
  refine .region ?_
  refine .q (q_move rfl) rfl ?_
  refine .q (q_geq rfl rfl) rfl ?_
  refine .nil ?_
  refine .cond rfl (fun hc => ?_) (fun hc => ?_)
  · replace H := ifT hc H; clear hc
    refine .seq ?_
    refine .region ?_
    refine .q (q_move rfl) rfl ?_
    obtain ⟨y1, hy1, H⟩ := bind_some' H
    refine .g (x := .d (cS y1)) (g_call en_51 rfl rfl (c_f_billingref01_Number (hy1))) rfl ?_
    refine .q (q_assign rfl) rfl ?_
    refine .nil ?_
    refine .retN [.tmp 2] [.d (cS y1)] Try.func41 Try.results41 ⟨rfl, trivial⟩ ?_
    cases H
    exact ⟨_, .rfl' _, rfl⟩
  · replace H := ifF hc H; clear hc
    refine .skip ?_
    refine .seq ?_
    refine .seq ?_
    refine .region ?_
    refine .q (q_move rfl) rfl ?_
    refine .q (q_gtr rfl rfl) rfl ?_
    refine .nil ?_
    refine .cond rfl (fun hc => ?_) (fun hc => ?_)
    · replace H := ifT hc H; clear hc
      refine .seq ?_
      refine .region ?_
      refine .q (q_move rfl) rfl ?_
      obtain ⟨hk1, H⟩ := ck_some H
      refine .q (x := .d (cI (-v0n))) (q_negI rfl hk1.1 hk1.2) rfl ?_
      obtain ⟨y2, hy2, H⟩ := bind_some' H
      refine .g (x := .d (cS y2)) (g_call en_51 rfl rfl (c_f_billingref01_Number (hy2))) rfl ?_
      obtain ⟨hk2, H⟩ := ck_some H
      refine .q (x := .d (cS (([45] : List UInt8) ++ y2))) (q_sadd rfl rfl hk2) rfl ?_
      refine .q (q_assign rfl) rfl ?_
      refine .nil ?_
      refine .retN [.tmp 2] [.d (cS (([45] : List UInt8) ++ y2))] Try.func41 Try.results41 ⟨rfl, trivial⟩ ?_
      cases H
      exact ⟨_, .rfl' _, rfl⟩
    · replace H := ifF hc H; clear hc
      refine .skip ?_
      refine .seq ?_
      refine .region ?_
      refine .q (q_move rfl) rfl ?_
      obtain ⟨hk3, H⟩ := ck_some H
      refine .q (x := .d (cI (Int.tdiv v0n 10))) (q_quoT rfl rfl hk3) rfl ?_
      obtain ⟨hk4, H⟩ := ck_some H
      refine .q (x := .d (cI (-(Int.tdiv v0n 10)))) (q_negI rfl hk4.1 hk4.2) rfl ?_
      obtain ⟨y3, hy3, H⟩ := bind_some' H
      refine .g (x := .d (cS y3)) (g_call en_51 rfl rfl (c_f_billingref01_Number (hy3))) rfl ?_
      obtain ⟨hk5, H⟩ := ck_some H
      refine .q (x := .d (cS (([45] : List UInt8) ++ y3))) (q_sadd rfl rfl hk5) rfl ?_
      refine .q (q_move rfl) rfl ?_
      obtain ⟨hk6, H⟩ := ck_some H
      refine .q (x := .d (cI (Int.tmod v0n 10))) (q_remT rfl rfl hk6) rfl ?_
      obtain ⟨hk7, H⟩ := ck_some H
      refine .q (x := .d (cI (-(Int.tmod v0n 10)))) (q_negI rfl hk7.1 hk7.2) rfl ?_
      obtain ⟨y4, hy4, H⟩ := bind_some' H
      refine .g (x := .d (cS y4)) (g_call en_51 rfl rfl (c_f_billingref01_Number (hy4))) rfl ?_
      obtain ⟨hk8, H⟩ := ck_some H
      refine .q (x := .d (cS ((([45] : List UInt8) ++ y3) ++ y4))) (q_sadd rfl rfl hk8) rfl ?_
      refine .q (q_assign rfl) rfl ?_
      refine .nil ?_
      refine .retN [.tmp 2] [.d (cS ((([45] : List UInt8) ++ y3) ++ y4))] Try.func41 Try.results41 ⟨rfl, trivial⟩ ?_
      cases H
      exact ⟨_, .rfl' _, rfl⟩

set_option maxRecDepth 100000 in
set_option maxHeartbeats 1000000 in
theorem c_f_billingref47_Receivable {v0account : Int} {r : (List UInt8)} (H : f_billingref47_Receivable v0account = some r) : ACall Try.prog 44 [cI v0account] (· = cS r) := by
  refine ACall.enter' Try.func44 rfl Try.ntmps44 rfl fun S hS => ?_
  unfold f_billingref47_Receivable at H
  change ARun _ _ _ _ _ _ [(0, .d (cI v0account))] _
  refine .seq ?_
  refine .region ?_
  refine .q (q_assign rfl) rfl ?_
  refine .nil ?_
  refine .seq ?_
  refine .region ?_
  refine .q (q_move rfl) rfl ?_
  obtain ⟨y1, hy1, H⟩ := bind_some' H
  refine .g (x := .d (cS y1)) (g_call en_41 rfl rfl (c_f_billingref01_Int (hy1))) rfl ?_
  obtain ⟨hk1, H⟩ := ck_some H
  refine .q (x := .d (cS (([114, 101, 99, 101, 105, 118, 97, 98, 108, 101, 58] : List UInt8) ++ y1))) (q_sadd rfl rfl hk1) rfl ?_
  refine .q (q_assign rfl) rfl ?_
  refine .nil ?_
  refine .retN [.tmp 2] [.d (cS (([114, 101, 99, 101, 105, 118, 97, 98, 108, 101, 58] : List UInt8) ++ y1))] Try.func44 Try.results44 ⟨rfl, trivial⟩ ?_
  cases H
  exact ⟨_, .rfl' _, rfl⟩

set_option maxRecDepth 100000 in
set_option maxHeartbeats 1000000 in
theorem c_f_billingref47_Balance {v0list : List Entry} {v1account : List UInt8} {r : Int} (H : f_billingref47_Balance v0list v1account = some r) : ACall Try.prog 43 [slOf 3 Entry.row v0list, cS v1account] (· = cI r) := by
  obtain ⟨i78, hi78, hz78, hs78, hb78⟩ := in_78
  obtain ⟨i80, hi80, hz80, hs80, hb80⟩ := in_80
  refine ACall.enter' Try.func43 rfl Try.ntmps43 rfl fun S hS => ?_
  unfold f_billingref47_Balance at H
  change ARun _ _ _ _ _ _ [(0, .d (slOf 3 Entry.row v0list)), (1, .d (cS v1account))] _
  refine .seq ?_
  refine .region ?_
  refine .q (q_assign rfl) rfl ?_
  refine .nil ?_
  refine .seq ?_
  refine .region ?_
  refine .q (q_assign rfl) rfl ?_
  refine .nil ?_
  refine .seq ?_
  refine .seq ?_
  refine .region ?_
  refine .q (q_assign rfl) rfl ?_
  refine .nil ?_
  refine .block ?_
  obtain ⟨n1, H⟩ := loop_some H
  refine .loop (ι := Nat × (Int × Int)) (fun p => [(0, .d (slOf 3 Entry.row v0list)), (1, .d (cS v1account)), (5, .d (cI p.2.1)), (6, .d (cI p.2.2))]) (fun p => ⟨[], []⟩) (fun p => iter (fun s => f_billingref47_Balance_l1 v0list v1account s.1 s.2) p.1 p.2 = some r) (·.1) (n1, (0, 0)) H (.cons rfl (.rfl' _) (.cons rfl (.rfl' _) (.cons rfl (.rfl' _) (.cons rfl (.rfl' _) (.nil))))) rfl ?_
  rintro ⟨m1, v5suml1, v6il1⟩ HI ih1
  obtain ⟨n1, q1, hm1, H, HK1⟩ := iter_succ HI
  clear HI
  replace H : f_billingref47_Balance_l1 v0list v1account v5suml1 v6il1 = some q1 := H
  unfold f_billingref47_Balance_l1 at H
  change ARun _ _ _ _ _ _ [(0, .d (slOf 3 Entry.row v0list)), (1, .d (cS v1account)), (5, .d (cI v5suml1)), (6, .d (cI v6il1))] ⟨[], []⟩
  refine .seq ?_
  refine .seq ?_
  refine .region ?_
  refine .q (q_move rfl) rfl ?_
  refine .q (q_move rfl) rfl ?_
  refine .q (q_lenL (l := v0list) (row := Entry.row) Try.underlying70 rfl rfl) rfl ?_
  refine .q (q_lss rfl rfl) rfl ?_
  refine .nil ?_
  refine .cond rfl (fun hc => ?_) (fun hc => ?_)
  · replace H := ifT hc H; clear hc
    refine .skip ?_
    refine .seq ?_
    refine .block ?_
    refine .seq ?_
    refine .region ?_
    refine .q (q_assign rfl) rfl ?_
    refine .nil ?_
    refine .block ?_
    obtain ⟨n2, H⟩ := loop_some H
    refine .loop (ι := Nat × (Int × Int)) (fun p => [(0, .d (slOf 3 Entry.row v0list)), (1, .d (cS v1account)), (5, .d (cI p.2.1)), (6, .d (cI v6il1)), (7, .d (cI p.2.2))]) (fun p => ⟨[], []⟩) (fun p => iter (fun s => f_billingref47_Balance_l2 v0list v1account v6il1 s.1 s.2) p.1 p.2 = some q1) (·.1) (n2, (v5suml1, 0)) H (.cons rfl (.rfl' _) (.cons rfl (.rfl' _) (.cons rfl (.rfl' _) (.cons rfl (.rfl' _) (.cons rfl (.rfl' _) (.nil)))))) rfl ?_
    rintro ⟨m2, v5suml2, v7kl2⟩ HI ih2
    obtain ⟨n2, q2, hm2, H, HK2⟩ := iter_succ HI
    clear HI
    replace H : f_billingref47_Balance_l2 v0list v1account v6il1 v5suml2 v7kl2 = some q2 := H
    unfold f_billingref47_Balance_l2 at H
    change ARun _ _ _ _ _ _ [(0, .d (slOf 3 Entry.row v0list)), (1, .d (cS v1account)), (5, .d (cI v5suml2)), (6, .d (cI v6il1)), (7, .d (cI v7kl2))] ⟨[], []⟩
    refine .seq ?_
    refine .seq ?_
    refine .region ?_
    refine .q (q_move rfl) rfl ?_
    refine .q (q_move rfl) rfl ?_
    refine .q (q_move rfl) rfl ?_
    obtain ⟨hk1, H⟩ := ck_some H
    refine .q (x := .d (.ro (Entry.row (nth v0list (Int.toNat (v6il1)))))) (q_idxL (row := Entry.row) (l := v0list) (i := v6il1) Try.underlying70 hi78 hs78 rfl rfl rfl hk1) rfl ?_
    refine .q (q_fieldRo fo_78_2 rfl) rfl ?_
    refine .q (x := .d (slOf 2 Post.row ((nth v0list (Int.toNat (v6il1))).posts))) (q_load one_76 rfl) rfl ?_
    refine .q (q_lenL (l := (nth v0list (Int.toNat (v6il1))).posts) (row := Post.row) Try.underlying76 rfl rfl) rfl ?_
    refine .q (q_lss rfl rfl) rfl ?_
    refine .nil ?_
    refine .cond rfl (fun hc => ?_) (fun hc => ?_)
    · replace H := ifT hc H; clear hc
      refine .skip ?_
      refine .seq ?_
      refine .block ?_
      refine .seq ?_
      refine .region ?_
      refine .q (q_move rfl) rfl ?_
      refine .q (q_move rfl) rfl ?_
      obtain ⟨hk2, H⟩ := ck_some H
      refine .q (x := .d (.ro (Entry.row (nth v0list (Int.toNat (v6il1)))))) (q_idxL (row := Entry.row) (l := v0list) (i := v6il1) Try.underlying70 hi78 hs78 rfl rfl rfl hk2) rfl ?_
      refine .q (q_fieldRo fo_78_2 rfl) rfl ?_
      refine .q (x := .d (slOf 2 Post.row ((nth v0list (Int.toNat (v6il1))).posts))) (q_load one_76 rfl) rfl ?_
      refine .q (q_move rfl) rfl ?_
      obtain ⟨hk3, H⟩ := ck_some H
      refine .q (x := .d (.ro (Post.row (nth ((nth v0list (Int.toNat (v6il1))).posts) (Int.toNat (v7kl2)))))) (q_idxL (row := Post.row) (l := (nth v0list (Int.toNat (v6il1))).posts) (i := v7kl2) Try.underlying76 hi80 hs80 rfl rfl rfl hk3) rfl ?_
      refine .q (q_fieldRo fo_80_0 rfl) rfl ?_
      refine .q (x := .d (cS ((nth ((nth v0list (Int.toNat (v6il1))).posts) (Int.toNat (v7kl2))).account))) (q_load one_9 rfl) rfl ?_
      refine .q (q_move rfl) rfl ?_
      refine .q (q_seql rfl rfl) rfl ?_
      refine .nil ?_
      refine .cond rfl (fun hc => ?_) (fun hc => ?_)
      · replace H := ifT hc H; clear hc
        refine .region ?_
        refine .q (q_move rfl) rfl ?_
        refine .q (q_move rfl) rfl ?_
        refine .q (q_move rfl) rfl ?_
        obtain ⟨hk4, H⟩ := ck_some H
        refine .q (x := .d (.ro (Entry.row (nth v0list (Int.toNat (v6il1)))))) (q_idxL (row := Entry.row) (l := v0list) (i := v6il1) Try.underlying70 hi78 hs78 rfl rfl rfl hk4) rfl ?_
        refine .q (q_fieldRo fo_78_2 rfl) rfl ?_
        refine .q (x := .d (slOf 2 Post.row ((nth v0list (Int.toNat (v6il1))).posts))) (q_load one_76 rfl) rfl ?_
        refine .q (q_move rfl) rfl ?_
        obtain ⟨hk5, H⟩ := ck_some H
        refine .q (x := .d (.ro (Post.row (nth ((nth v0list (Int.toNat (v6il1))).posts) (Int.toNat (v7kl2)))))) (q_idxL (row := Post.row) (l := (nth v0list (Int.toNat (v6il1))).posts) (i := v7kl2) Try.underlying76 hi80 hs80 rfl rfl rfl hk5) rfl ?_
        refine .q (q_fieldRo fo_80_1 rfl) rfl ?_
        refine .q (x := .d (cI ((nth ((nth v0list (Int.toNat (v6il1))).posts) (Int.toNat (v7kl2))).amount))) (q_load one_3 rfl) rfl ?_
        obtain ⟨hk6, H⟩ := ck_some H
        refine .q (q_addI rfl rfl hk6.1 hk6.2) rfl ?_
        refine .q (q_assign rfl) rfl ?_
        refine .nil ?_
        refine .inBlock ?_
        refine .region ?_
        refine .q (q_move rfl) rfl ?_
        obtain ⟨hk7, H⟩ := ck_some H
        refine .q (q_addI rfl rfl hk7.1 hk7.2) rfl ?_
        refine .q (q_assign rfl) rfl ?_
        refine .nil ?_
        cases H
        exact .sub (.cons rfl (.rfl' _) (.cons rfl (.rfl' _) (.cons rfl (.rfl' _) (.cons rfl (.rfl' _) (.cons rfl (.rfl' _) (.nil)))))) (ih2 (n2, (v5suml2 + ((nth ((nth v0list (Int.toNat (v6il1))).posts) (Int.toNat (v7kl2))).amount), v7kl2 + 1)) HK2 hm2)
      · replace H := ifF hc H; clear hc
        refine .skip ?_
        refine .inBlock ?_
        refine .region ?_
        refine .q (q_move rfl) rfl ?_
        obtain ⟨hk8, H⟩ := ck_some H
        refine .q (q_addI rfl rfl hk8.1 hk8.2) rfl ?_
        refine .q (q_assign rfl) rfl ?_
        refine .nil ?_
        cases H
        exact .sub (.cons rfl (.rfl' _) (.cons rfl (.rfl' _) (.cons rfl (.rfl' _) (.cons rfl (.rfl' _) (.cons rfl (.rfl' _) (.nil)))))) (ih2 (n2, (v5suml2, v7kl2 + 1)) HK2 hm2)
    · replace H := ifF hc H; clear hc
      refine .exit rfl ?_
      refine .inBlock ?_
      refine .region ?_
      refine .q (q_move rfl) rfl ?_
      obtain ⟨hk9, H⟩ := ck_some H
      refine .q (q_addI rfl rfl hk9.1 hk9.2) rfl ?_
      refine .q (q_assign rfl) rfl ?_
      refine .nil ?_
      cases H
      cases HK2
      exact .sub (.cons rfl (.rfl' _) (.cons rfl (.rfl' _) (.cons rfl (.rfl' _) (.cons rfl (.rfl' _) (.nil))))) (ih1 (n1, (v5suml2, v6il1 + 1)) HK1 hm1)
  · replace H := ifF hc H; clear hc
    refine .exit rfl ?_
    refine .seq ?_
    refine .region ?_
    refine .q (q_move rfl) rfl ?_
    refine .q (q_assign rfl) rfl ?_
    refine .nil ?_
    refine .retN [.tmp 4] [.d (cI v5suml1)] Try.func43 Try.results43 ⟨rfl, trivial⟩ ?_
    cases H
    cases HK1
    exact ⟨_, .rfl' _, rfl⟩

set_option maxRecDepth 100000 in
set_option maxHeartbeats 1000000 in
theorem c_f_billingref54_Books {v0 : List Invoice} {v1 : List Entry} {r : (List Leak)} (H : f_billingref54_Books v0 v1 = some r) : ACall Try.prog 27 [slOf 8 Invoice.row v0, slOf 3 Entry.row v1] (· = slOf 4 Leak.row r) := by
  obtain ⟨i3, hi3, hz3, hs3, hb3⟩ := in_3
  obtain ⟨i60, hi60, hz60, hs60, hb60⟩ := in_60
  obtain ⟨i75, hi75, hz75, hs75, hb75⟩ := in_75
  obtain ⟨i78, hi78, hz78, hs78, hb78⟩ := in_78
  obtain ⟨i80, hi80, hz80, hs80, hb80⟩ := in_80
  refine ACall.enter' Try.func27 rfl Try.ntmps27 rfl fun S hS => ?_
  unfold f_billingref54_Books at H
  change ARun _ _ _ _ _ _ [(0, .d (slOf 8 Invoice.row v0)), (1, .d (slOf 3 Entry.row v1))] _
  refine .seq ?_
  refine .region ?_
  refine .q (q_assign rfl) rfl ?_
  refine .nil ?_
  refine .seq ?_
  refine .region ?_
  refine .v (x := .tsl 4 (([] : List Leak).map Leak.row) 0) (v_build0T Try.underlying42 hi60 hs60) rfl ?_
  refine .withSt (st' := ⟨[], [⟨60, 4, ([] : List Leak).length, none⟩]⟩) rfl ?_
  refine .q (q_assign rfl) rfl ?_
  refine .nil ?_
  refine .seq ?_
  refine .region ?_
  refine .q (q_assign rfl) rfl ?_
  refine .nil ?_
  refine .seq ?_
  refine .seq ?_
  refine .region ?_
  refine .q (q_assign rfl) rfl ?_
  refine .nil ?_
  refine .blockJoin2 (ι := Int) (fun s => [(0, .d (slOf 8 Invoice.row v0)), (1, .d (slOf 3 Entry.row v1)), (5, .tsl 4 (([] : List Leak).map Leak.row) 0), (6, .d (cI s))]) (fun s => ⟨[], [⟨60, 4, ([] : List Leak).length, none⟩]⟩) (fun s => f_billingref54_Books_j1 v0 v1 s = some r) ?_ ?_
  · rintro v6j1 H
    replace H : f_billingref54_Books_j1 v0 v1 v6j1 = some r := H
    unfold f_billingref54_Books_j1 at H
    change ARun _ _ _ _ _ _ [(0, .d (slOf 8 Invoice.row v0)), (1, .d (slOf 3 Entry.row v1)), (5, .tsl 4 (([] : List Leak).map Leak.row) 0), (6, .d (cI v6j1))] ⟨[], [⟨60, 4, ([] : List Leak).length, none⟩]⟩
    refine .seqJoin (ι := List Leak) (fun s => [(0, .d (slOf 8 Invoice.row v0)), (1, .d (slOf 3 Entry.row v1)), (5, .tsl 4 (s.map Leak.row) 0)]) (fun s => ⟨[], [⟨60, 4, s.length, none⟩]⟩) (fun s => f_billingref54_Books_j2 v0 v1 s = some r) ?_ ?_
    · rintro v5j2 H
      replace H : f_billingref54_Books_j2 v0 v1 v5j2 = some r := H
      unfold f_billingref54_Books_j2 at H
      change ARun _ _ _ _ _ _ [(0, .d (slOf 8 Invoice.row v0)), (1, .d (slOf 3 Entry.row v1)), (5, .tsl 4 (v5j2.map Leak.row) 0)] ⟨[], [⟨60, 4, v5j2.length, none⟩]⟩
      refine .seq ?_
      refine .region ?_
      refine .g (x := .d (.e0 1)) ((hs3 ▸ g_buildSlice0 Try.underlying100 hi3)) rfl ?_
      refine .q (q_assign rfl) rfl ?_
      refine .nil ?_
      refine .seq ?_
      refine .seq ?_
      refine .region ?_
      refine .q (q_assign rfl) rfl ?_
      refine .nil ?_
      refine .blockJoin2 (ι := List Int) (fun s => [(0, .d (slOf 8 Invoice.row v0)), (1, .d (slOf 3 Entry.row v1)), (5, .tsl 4 (v5j2.map Leak.row) 0), (9, .d (slOf 1 rI s))]) (fun s => ⟨[], [⟨60, 4, v5j2.length, none⟩]⟩) (fun s => f_billingref54_Books_j3 v0 v1 v5j2 s = some r) ?_ ?_
      · rintro v9j3 H
        replace H : f_billingref54_Books_j3 v0 v1 v5j2 v9j3 = some r := H
        unfold f_billingref54_Books_j3 at H
        change ARun _ _ _ _ _ _ [(0, .d (slOf 8 Invoice.row v0)), (1, .d (slOf 3 Entry.row v1)), (5, .tsl 4 (v5j2.map Leak.row) 0), (9, .d (slOf 1 rI v9j3))] ⟨[], [⟨60, 4, v5j2.length, none⟩]⟩
        refine .seq ?_
        refine .seq ?_
        refine .region ?_
        refine .q (q_assign rfl) rfl ?_
        refine .nil ?_
        refine .block ?_
        obtain ⟨n1, H⟩ := loop_some H
        refine .withSt (st' := ⟨[], [⟨60, 4, v5j2.length, none⟩]⟩) rfl <| .loop (ι := Nat × (List Leak × Int)) (fun p => [(0, .d (slOf 8 Invoice.row v0)), (1, .d (slOf 3 Entry.row v1)), (5, .tsl 4 (p.2.1.map Leak.row) 0), (9, .d (slOf 1 rI v9j3)), (11, .d (cI p.2.2))]) (fun p => ⟨[], [⟨60, 4, p.2.1.length, none⟩]⟩) (fun p => iter (fun s => f_billingref54_Books_l1 v0 v1 v9j3 s.1 s.2) p.1 p.2 = some r) (·.1) (n1, (v5j2, 0)) H (.cons rfl (.rfl' _) (.cons rfl (.rfl' _) (.cons rfl (.rfl' _) (.cons rfl (.rfl' _) (.cons rfl (.rfl' _) (.nil)))))) rfl ?_
        rintro ⟨m1, v5l1, v11l1⟩ HI ih1
        obtain ⟨n1, q1, hm1, H, HK1⟩ := iter_succ HI
        clear HI
        replace H : f_billingref54_Books_l1 v0 v1 v9j3 v5l1 v11l1 = some q1 := H
        unfold f_billingref54_Books_l1 at H
        change ARun _ _ _ _ _ _ [(0, .d (slOf 8 Invoice.row v0)), (1, .d (slOf 3 Entry.row v1)), (5, .tsl 4 (v5l1.map Leak.row) 0), (9, .d (slOf 1 rI v9j3)), (11, .d (cI v11l1))] ⟨[], [⟨60, 4, v5l1.length, none⟩]⟩
        refine .seq ?_
        refine .seq ?_
        refine .region ?_
        refine .q (q_move rfl) rfl ?_
        refine .q (q_move rfl) rfl ?_
        refine .q (q_lenL (l := v9j3) (row := rI) Try.underlying100 rfl rfl) rfl ?_
        refine .q (q_lss rfl rfl) rfl ?_
        refine .nil ?_
        refine .cond rfl (fun hc => ?_) (fun hc => ?_)
        · replace H := ifT hc H; clear hc
          refine .skip ?_
          refine .seq ?_
          refine .block ?_
          refine .seq ?_
          refine .region ?_
          refine .q (q_assign rfl) rfl ?_
          refine .q (q_assign rfl) rfl ?_
          refine .nil ?_
          refine .seq ?_
          refine .seq ?_
          refine .region ?_
          refine .q (q_assign rfl) rfl ?_
          refine .nil ?_
          refine .blockJoin2 (ι := Int) (fun s => [(0, .d (slOf 8 Invoice.row v0)), (1, .d (slOf 3 Entry.row v1)), (5, .tsl 4 (v5l1.map Leak.row) 0), (9, .d (slOf 1 rI v9j3)), (11, .d (cI v11l1)), (12, .d (cI s)), (13, .d (cI 0))]) (fun s => ⟨[], [⟨60, 4, v5l1.length, none⟩]⟩) (fun s => f_billingref54_Books_j4 v1 v9j3 v5l1 v11l1 s = some q1) ?_ ?_
          · rintro v12j4 H
            replace H : f_billingref54_Books_j4 v1 v9j3 v5l1 v11l1 v12j4 = some q1 := H
            unfold f_billingref54_Books_j4 at H
            change ARun _ _ _ _ _ _ [(0, .d (slOf 8 Invoice.row v0)), (1, .d (slOf 3 Entry.row v1)), (5, .tsl 4 (v5l1.map Leak.row) 0), (9, .d (slOf 1 rI v9j3)), (11, .d (cI v11l1)), (12, .d (cI v12j4)), (13, .d (cI 0))] ⟨[], [⟨60, 4, v5l1.length, none⟩]⟩
            refine .seq ?_
            refine .seq ?_
            refine .region ?_
            refine .q (q_assign rfl) rfl ?_
            refine .nil ?_
            refine .blockJoin2 (ι := Int) (fun s => [(0, .d (slOf 8 Invoice.row v0)), (1, .d (slOf 3 Entry.row v1)), (5, .tsl 4 (v5l1.map Leak.row) 0), (9, .d (slOf 1 rI v9j3)), (11, .d (cI v11l1)), (12, .d (cI v12j4)), (13, .d (cI s))]) (fun s => ⟨[], [⟨60, 4, v5l1.length, none⟩]⟩) (fun s => f_billingref54_Books_j5 v9j3 v5l1 v11l1 v12j4 s = some q1) ?_ ?_
            · rintro v13j5 H
              replace H : f_billingref54_Books_j5 v9j3 v5l1 v11l1 v12j4 v13j5 = some q1 := H
              unfold f_billingref54_Books_j5 at H
              change ARun _ _ _ _ _ _ [(0, .d (slOf 8 Invoice.row v0)), (1, .d (slOf 3 Entry.row v1)), (5, .tsl 4 (v5l1.map Leak.row) 0), (9, .d (slOf 1 rI v9j3)), (11, .d (cI v11l1)), (12, .d (cI v12j4)), (13, .d (cI v13j5))] ⟨[], [⟨60, 4, v5l1.length, none⟩]⟩
              refine .seq ?_
              refine .region ?_
              refine .q (q_move rfl) rfl ?_
              refine .q (q_move rfl) rfl ?_
              refine .q (q_neq rfl rfl) rfl ?_
              refine .nil ?_
              refine .cond rfl (fun hc => ?_) (fun hc => ?_)
              · replace H := ifT hc H; clear hc
                refine .region ?_
                refine .q (q_move rfl) rfl ?_
                refine .q (q_move rfl) rfl ?_
                refine .q (q_move rfl) rfl ?_
                obtain ⟨hk1, H⟩ := ck_some H
                refine .q (x := .d (.ro (rI (nth v9j3 (Int.toNat (v11l1)))))) (q_idxL (row := rI) (l := v9j3) (i := v11l1) Try.underlying100 hi3 hs3 rfl rfl rfl hk1) rfl ?_
                refine .q (x := .d (cI (nth v9j3 (Int.toNat (v11l1))))) (q_load one_3 rfl) rfl ?_
                refine .q (q_move rfl) rfl ?_
                refine .q (q_move rfl) rfl ?_
                refine .q (x := .d (.agg (Leak.row (⟨6, nth v9j3 (Int.toNat (v11l1)), v12j4, v13j5⟩ : Leak)))) (q_buildP pl_60 hi60 hz60 rfl rfl) rfl ?_
                refine .g (x := .d (slOf 4 Leak.row ([(⟨6, nth v9j3 (Int.toNat (v11l1)), v12j4, v13j5⟩ : Leak)] : List Leak))) (g_buildSlice1 Try.underlying42 hi60 hs60 hz60 rfl rfl rfl rfl rfl) rfl ?_
                obtain ⟨hk2, H⟩ := ck_some H
                refine .v (x := .tsl 4 ((v5l1 ++ ([(⟨6, nth v9j3 (Int.toNat (v11l1)), v12j4, v13j5⟩ : Leak)] : List Leak)).map Leak.row) 0) (v_appendL (l := v5l1) (l' := ([(⟨6, nth v9j3 (Int.toNat (v11l1)), v12j4, v13j5⟩ : Leak)] : List Leak)) (row := Leak.row) Try.underlying42 hi60 hz60 hs60 rfl (by rw [hb60]; decide) rfl rfl rfl rfl hk2) rfl ?_
                refine .withSt (st' := ⟨[], [⟨60, 4, (v5l1 ++ ([(⟨6, nth v9j3 (Int.toNat (v11l1)), v12j4, v13j5⟩ : Leak)] : List Leak)).length, none⟩]⟩) rfl ?_
                refine .q (q_assign rfl) rfl ?_
                refine .nil ?_
                refine .inBlock ?_
                refine .region ?_
                refine .q (q_move rfl) rfl ?_
                obtain ⟨hk3, H⟩ := ck_some H
                refine .q (q_addI rfl rfl hk3.1 hk3.2) rfl ?_
                refine .q (q_assign rfl) rfl ?_
                refine .nil ?_
                cases H
                exact .withSt (st' := ⟨[], [⟨60, 4, (v5l1 ++ ([(⟨6, nth v9j3 (Int.toNat (v11l1)), v12j4, v13j5⟩ : Leak)] : List Leak)).length, none⟩]⟩) rfl <| .sub (.cons rfl (.rfl' _) (.cons rfl (.rfl' _) (.cons rfl (.rfl' _) (.cons rfl (.rfl' _) (.cons rfl (.rfl' _) (.nil)))))) (ih1 (n1, (v5l1 ++ ([(⟨6, nth v9j3 (Int.toNat (v11l1)), v12j4, v13j5⟩ : Leak)] : List Leak), v11l1 + 1)) HK1 hm1)
              · replace H := ifF hc H; clear hc
                refine .skip ?_
                refine .inBlock ?_
                refine .region ?_
                refine .q (q_move rfl) rfl ?_
                obtain ⟨hk4, H⟩ := ck_some H
                refine .q (q_addI rfl rfl hk4.1 hk4.2) rfl ?_
                refine .q (q_assign rfl) rfl ?_
                refine .nil ?_
                cases H
                exact .sub (.cons rfl (.rfl' _) (.cons rfl (.rfl' _) (.cons rfl (.rfl' _) (.cons rfl (.rfl' _) (.cons rfl (.rfl' _) (.nil)))))) (ih1 (n1, (v5l1, v11l1 + 1)) HK1 hm1)
            · intro hj5 hj5x
              obtain ⟨n2, H⟩ := loop_some H
              refine .loop (ι := Nat × (Int × Int)) (fun p => [(0, .d (slOf 8 Invoice.row v0)), (1, .d (slOf 3 Entry.row v1)), (5, .tsl 4 (v5l1.map Leak.row) 0), (9, .d (slOf 1 rI v9j3)), (11, .d (cI v11l1)), (12, .d (cI v12j4)), (13, .d (cI p.2.1)), (15, .d (cI p.2.2))]) (fun p => ⟨[], [⟨60, 4, v5l1.length, none⟩]⟩) (fun p => iter (fun s => f_billingref54_Books_l2 v1 v9j3 v5l1 v11l1 v12j4 s.1 s.2) p.1 p.2 = some q1) (·.1) (n2, (0, 0)) H (.cons rfl (.rfl' _) (.cons rfl (.rfl' _) (.cons rfl (.rfl' _) (.cons rfl (.rfl' _) (.cons rfl (.rfl' _) (.cons rfl (.rfl' _) (.cons rfl (.rfl' _) (.cons rfl (.rfl' _) (.nil))))))))) rfl ?_
              rintro ⟨m2, v13l2, v15l2⟩ HI ih2
              obtain ⟨n2, q2, hm2, H, HK2⟩ := iter_succ HI
              clear HI
              replace H : f_billingref54_Books_l2 v1 v9j3 v5l1 v11l1 v12j4 v13l2 v15l2 = some q2 := H
              unfold f_billingref54_Books_l2 at H
              change ARun _ _ _ _ _ _ [(0, .d (slOf 8 Invoice.row v0)), (1, .d (slOf 3 Entry.row v1)), (5, .tsl 4 (v5l1.map Leak.row) 0), (9, .d (slOf 1 rI v9j3)), (11, .d (cI v11l1)), (12, .d (cI v12j4)), (13, .d (cI v13l2)), (15, .d (cI v15l2))] ⟨[], [⟨60, 4, v5l1.length, none⟩]⟩
              refine .seq ?_
              refine .seq ?_
              refine .region ?_
              refine .q (q_move rfl) rfl ?_
              refine .q (q_move rfl) rfl ?_
              refine .q (q_lenL (l := v1) (row := Entry.row) Try.underlying70 rfl rfl) rfl ?_
              refine .q (q_lss rfl rfl) rfl ?_
              refine .nil ?_
              refine .cond rfl (fun hc => ?_) (fun hc => ?_)
              · replace H := ifT hc H; clear hc
                refine .skip ?_
                refine .seq ?_
                refine .block ?_
                refine .seq ?_
                refine .region ?_
                refine .q (q_move rfl) rfl ?_
                refine .q (q_move rfl) rfl ?_
                obtain ⟨hk5, H⟩ := ck_some H
                refine .q (x := .d (.ro (Entry.row (nth v1 (Int.toNat (v15l2)))))) (q_idxL (row := Entry.row) (l := v1) (i := v15l2) Try.underlying70 hi78 hs78 rfl rfl rfl hk5) rfl ?_
                refine .q (q_fieldRo fo_78_1 rfl) rfl ?_
                refine .q (x := .d (cS ((nth v1 (Int.toNat (v15l2))).text))) (q_load one_9 rfl) rfl ?_
                refine .q (q_seql rfl rfl) rfl ?_
                refine .nil ?_
                refine .cond rfl (fun hc => ?_) (fun hc => ?_)
                · replace H := ifT hc H; clear hc
                  refine .drawn 14 hMix (by kernel_rfl) ?_
                  show DOps _ _ _ _ _ _ _ (_ :: _) _ _ _
                  refine .q (q_move rfl) rfl ?_
                  refine .q (q_move rfl) rfl ?_
                  refine .q (q_move rfl) rfl ?_
                  refine .q (q_move rfl) rfl ?_
                  obtain ⟨hk6, H⟩ := ck_some H
                  refine .q (q_addI rfl rfl hk6.1 hk6.2) rfl ?_
                  obtain ⟨hk7, H⟩ := ck_some H
                  refine .q (x := .d (slOf 3 Entry.row ((v1.take (Int.toNat (v15l2 + 1))).drop (Int.toNat (v15l2))))) (q_slLHL (l := v1) (row := Entry.row) Try.underlying70 hi78 hs78 rfl rfl rfl rfl hk7) rfl ?_
                  refine .q (q_move rfl) rfl ?_
                  refine .q (q_move rfl) rfl ?_
                  obtain ⟨hk8, H⟩ := ck_some H
                  refine .q (x := .d (.ro (rI (nth v9j3 (Int.toNat (v11l1)))))) (q_idxL (row := rI) (l := v9j3) (i := v11l1) Try.underlying100 hi3 hs3 rfl rfl rfl hk8) rfl ?_
                  refine .q (x := .d (cI (nth v9j3 (Int.toNat (v11l1))))) (q_load one_3 rfl) rfl ?_
                  obtain ⟨y1, hy1, H⟩ := bind_some' H
                  refine .g (x := .d (cS y1)) (g_call en_44 rfl rfl (c_f_billingref47_Receivable (hy1))) rfl ?_
                  obtain ⟨y2, hy2, H⟩ := bind_some' H
                  refine .g (x := .d (cI y2)) (g_call en_43 rfl rfl (c_f_billingref47_Balance (hy2))) rfl ?_
                  obtain ⟨hk9, H⟩ := ck_some H
                  refine .q (q_addI rfl rfl hk9.1 hk9.2) rfl ?_
                  refine .q (q_assign rfl) rfl ?_
                  refine .nil ?_
                  show AOps _ _ _ _ _ _ [] _ _ _
                  refine .nil ?_
                  refine .inBlock ?_
                  refine .region ?_
                  refine .q (q_move rfl) rfl ?_
                  obtain ⟨hk10, H⟩ := ck_some H
                  refine .q (q_addI rfl rfl hk10.1 hk10.2) rfl ?_
                  refine .q (q_assign rfl) rfl ?_
                  refine .nil ?_
                  cases H
                  exact .sub (.cons rfl (.rfl' _) (.cons rfl (.rfl' _) (.cons rfl (.rfl' _) (.cons rfl (.rfl' _) (.cons rfl (.rfl' _) (.cons rfl (.rfl' _) (.cons rfl (.rfl' _) (.cons rfl (.rfl' _) (.nil))))))))) (ih2 (n2, (v13l2 + y2, v15l2 + 1)) HK2 hm2)
                · replace H := ifF hc H; clear hc
                  refine .skip ?_
                  refine .inBlock ?_
                  refine .region ?_
                  refine .q (q_move rfl) rfl ?_
                  obtain ⟨hk11, H⟩ := ck_some H
                  refine .q (q_addI rfl rfl hk11.1 hk11.2) rfl ?_
                  refine .q (q_assign rfl) rfl ?_
                  refine .nil ?_
                  cases H
                  exact .sub (.cons rfl (.rfl' _) (.cons rfl (.rfl' _) (.cons rfl (.rfl' _) (.cons rfl (.rfl' _) (.cons rfl (.rfl' _) (.cons rfl (.rfl' _) (.cons rfl (.rfl' _) (.cons rfl (.rfl' _) (.nil))))))))) (ih2 (n2, (v13l2, v15l2 + 1)) HK2 hm2)
              · replace H := ifF hc H; clear hc
                refine .exit rfl ?_
                obtain ⟨q0, H9, hq0⟩ := map_some' H; clear H; cases hq0
                cases HK2
                have H := H9
                exact .sub (.cons rfl (.rfl' _) (.cons rfl (.rfl' _) (.cons rfl (.rfl' _) (.cons rfl (.rfl' _) (.cons rfl (.rfl' _) (.cons rfl (.rfl' _) (.cons rfl (.rfl' _) (.nil)))))))) (hj5x v13l2 H)
          · intro hj4 hj4x
            obtain ⟨n3, H⟩ := loop_some H
            refine .loop (ι := Nat × (Int × Int)) (fun p => [(0, .d (slOf 8 Invoice.row v0)), (1, .d (slOf 3 Entry.row v1)), (5, .tsl 4 (v5l1.map Leak.row) 0), (9, .d (slOf 1 rI v9j3)), (11, .d (cI v11l1)), (12, .d (cI p.2.1)), (13, .d (cI 0)), (14, .d (cI p.2.2))]) (fun p => ⟨[], [⟨60, 4, v5l1.length, none⟩]⟩) (fun p => iter (fun s => f_billingref54_Books_l3 v0 v1 v9j3 v5l1 v11l1 s.1 s.2) p.1 p.2 = some q1) (·.1) (n3, (0, 0)) H (.cons rfl (.rfl' _) (.cons rfl (.rfl' _) (.cons rfl (.rfl' _) (.cons rfl (.rfl' _) (.cons rfl (.rfl' _) (.cons rfl (.rfl' _) (.cons rfl (.rfl' _) (.cons rfl (.rfl' _) (.nil))))))))) rfl ?_
            rintro ⟨m2, v12l3, v14l3⟩ HI ih2
            obtain ⟨n2, q2, hm2, H, HK2⟩ := iter_succ HI
            clear HI
            replace H : f_billingref54_Books_l3 v0 v1 v9j3 v5l1 v11l1 v12l3 v14l3 = some q2 := H
            unfold f_billingref54_Books_l3 at H
            change ARun _ _ _ _ _ _ [(0, .d (slOf 8 Invoice.row v0)), (1, .d (slOf 3 Entry.row v1)), (5, .tsl 4 (v5l1.map Leak.row) 0), (9, .d (slOf 1 rI v9j3)), (11, .d (cI v11l1)), (12, .d (cI v12l3)), (13, .d (cI 0)), (14, .d (cI v14l3))] ⟨[], [⟨60, 4, v5l1.length, none⟩]⟩
            refine .seq ?_
            refine .seq ?_
            refine .region ?_
            refine .q (q_move rfl) rfl ?_
            refine .q (q_move rfl) rfl ?_
            refine .q (q_lenL (l := v0) (row := Invoice.row) Try.underlying69 rfl rfl) rfl ?_
            refine .q (q_lss rfl rfl) rfl ?_
            refine .nil ?_
            refine .cond rfl (fun hc => ?_) (fun hc => ?_)
            · replace H := ifT hc H; clear hc
              refine .skip ?_
              refine .seq ?_
              refine .block ?_
              refine .seq ?_
              refine .drawn 10 hMix (by kernel_rfl) ?_
              show DOps _ _ _ _ _ _ _ (_ :: _) _ _ _
              refine .q (q_move rfl) rfl ?_
              refine .q (q_move rfl) rfl ?_
              obtain ⟨hk12, H⟩ := ck_some H
              refine .q (x := .d (.ro (Invoice.row (nth v0 (Int.toNat (v14l3)))))) (q_idxL (row := Invoice.row) (l := v0) (i := v14l3) Try.underlying69 hi75 hs75 rfl rfl rfl hk12) rfl ?_
              refine .q (q_fieldRo fo_75_0 rfl) rfl ?_
              refine .q (x := .d (cI ((nth v0 (Int.toNat (v14l3))).account))) (q_load one_3 rfl) rfl ?_
              refine .q (q_move rfl) rfl ?_
              refine .q (q_move rfl) rfl ?_
              obtain ⟨hk13, H⟩ := ck_some H
              refine .q (x := .d (.ro (rI (nth v9j3 (Int.toNat (v11l1)))))) (q_idxL (row := rI) (l := v9j3) (i := v11l1) Try.underlying100 hi3 hs3 rfl rfl rfl hk13) rfl ?_
              refine .q (x := .d (cI (nth v9j3 (Int.toNat (v11l1))))) (q_load one_3 rfl) rfl ?_
              refine .q (q_eql rfl rfl) rfl ?_
              refine .nil ?_
              show AOps _ _ _ _ _ _ [] _ _ _
              refine .nil ?_
              refine .cond rfl (fun hc => ?_) (fun hc => ?_)
              · replace H := ifT hc H; clear hc
                refine .region ?_
                refine .q (q_move rfl) rfl ?_
                refine .q (q_move rfl) rfl ?_
                refine .q (q_move rfl) rfl ?_
                obtain ⟨hk14, H⟩ := ck_some H
                refine .q (x := .d (.ro (Invoice.row (nth v0 (Int.toNat (v14l3)))))) (q_idxL (row := Invoice.row) (l := v0) (i := v14l3) Try.underlying69 hi75 hs75 rfl rfl rfl hk14) rfl ?_
                refine .q (q_fieldRo fo_75_6 rfl) rfl ?_
                refine .q (x := .d (cI ((nth v0 (Int.toNat (v14l3))).total))) (q_load one_3 rfl) rfl ?_
                obtain ⟨hk15, H⟩ := ck_some H
                refine .q (q_addI rfl rfl hk15.1 hk15.2) rfl ?_
                refine .q (q_assign rfl) rfl ?_
                refine .nil ?_
                refine .inBlock ?_
                refine .region ?_
                refine .q (q_move rfl) rfl ?_
                obtain ⟨hk16, H⟩ := ck_some H
                refine .q (q_addI rfl rfl hk16.1 hk16.2) rfl ?_
                refine .q (q_assign rfl) rfl ?_
                refine .nil ?_
                cases H
                exact .sub (.cons rfl (.rfl' _) (.cons rfl (.rfl' _) (.cons rfl (.rfl' _) (.cons rfl (.rfl' _) (.cons rfl (.rfl' _) (.cons rfl (.rfl' _) (.cons rfl (.rfl' _) (.cons rfl (.rfl' _) (.nil))))))))) (ih2 (n2, (v12l3 + ((nth v0 (Int.toNat (v14l3))).total), v14l3 + 1)) HK2 hm2)
              · replace H := ifF hc H; clear hc
                refine .skip ?_
                refine .inBlock ?_
                refine .region ?_
                refine .q (q_move rfl) rfl ?_
                obtain ⟨hk17, H⟩ := ck_some H
                refine .q (q_addI rfl rfl hk17.1 hk17.2) rfl ?_
                refine .q (q_assign rfl) rfl ?_
                refine .nil ?_
                cases H
                exact .sub (.cons rfl (.rfl' _) (.cons rfl (.rfl' _) (.cons rfl (.rfl' _) (.cons rfl (.rfl' _) (.cons rfl (.rfl' _) (.cons rfl (.rfl' _) (.cons rfl (.rfl' _) (.cons rfl (.rfl' _) (.nil))))))))) (ih2 (n2, (v12l3, v14l3 + 1)) HK2 hm2)
            · replace H := ifF hc H; clear hc
              refine .exit rfl ?_
              obtain ⟨q0, H9, hq0⟩ := map_some' H; clear H; cases hq0
              cases HK2
              have H := H9
              exact .sub (.cons rfl (.rfl' _) (.cons rfl (.rfl' _) (.cons rfl (.rfl' _) (.cons rfl (.rfl' _) (.cons rfl (.rfl' _) (.cons rfl (.rfl' _) (.cons rfl (.rfl' _) (.nil)))))))) (hj4x v12l3 H)
        · replace H := ifF hc H; clear hc
          refine .exit rfl ?_
          refine .seq ?_
          refine .region ?_
          refine .q (q_move rfl) rfl ?_
          refine .q (q_assign rfl) rfl ?_
          refine .nil ?_
          refine .retN [.tmp 4] [.tsl 4 (v5l1.map Leak.row) 0] Try.func27 Try.results27 ⟨rfl, trivial⟩ ?_
          cases H
          cases HK1
          exact ⟨_, .tsl _ _ _, rfl⟩
      · intro hj3 hj3x
        obtain ⟨n4, H⟩ := loop_some H
        refine .loop (ι := Nat × (List Int × Int)) (fun p => [(0, .d (slOf 8 Invoice.row v0)), (1, .d (slOf 3 Entry.row v1)), (5, .tsl 4 (v5j2.map Leak.row) 0), (9, .d (slOf 1 rI p.2.1)), (10, .d (cI p.2.2))]) (fun p => ⟨[], [⟨60, 4, v5j2.length, none⟩]⟩) (fun p => iter (fun s => f_billingref54_Books_l4 v0 v1 v5j2 s.1 s.2) p.1 p.2 = some r) (·.1) (n4, ([], 0)) H (.cons rfl (.rfl' _) (.cons rfl (.rfl' _) (.cons rfl (.rfl' _) (.cons rfl (.e0 1) (.cons rfl (.rfl' _) (.nil)))))) rfl ?_
        rintro ⟨m1, v9l4, v10l4⟩ HI ih1
        obtain ⟨n1, q1, hm1, H, HK1⟩ := iter_succ HI
        clear HI
        replace H : f_billingref54_Books_l4 v0 v1 v5j2 v9l4 v10l4 = some q1 := H
        unfold f_billingref54_Books_l4 at H
        change ARun _ _ _ _ _ _ [(0, .d (slOf 8 Invoice.row v0)), (1, .d (slOf 3 Entry.row v1)), (5, .tsl 4 (v5j2.map Leak.row) 0), (9, .d (slOf 1 rI v9l4)), (10, .d (cI v10l4))] ⟨[], [⟨60, 4, v5j2.length, none⟩]⟩
        refine .seq ?_
        refine .seq ?_
        refine .region ?_
        refine .q (q_move rfl) rfl ?_
        refine .q (q_move rfl) rfl ?_
        refine .q (q_lenL (l := v0) (row := Invoice.row) Try.underlying69 rfl rfl) rfl ?_
        refine .q (q_lss rfl rfl) rfl ?_
        refine .nil ?_
        refine .cond rfl (fun hc => ?_) (fun hc => ?_)
        · replace H := ifT hc H; clear hc
          refine .skip ?_
          refine .seq ?_
          refine .block ?_
          refine .region ?_
          refine .q (q_move rfl) rfl ?_
          refine .q (q_move rfl) rfl ?_
          refine .q (q_move rfl) rfl ?_
          obtain ⟨hk18, H⟩ := ck_some H
          refine .q (x := .d (.ro (Invoice.row (nth v0 (Int.toNat (v10l4)))))) (q_idxL (row := Invoice.row) (l := v0) (i := v10l4) Try.underlying69 hi75 hs75 rfl rfl rfl hk18) rfl ?_
          refine .q (q_fieldRo fo_75_0 rfl) rfl ?_
          refine .q (x := .d (cI ((nth v0 (Int.toNat (v10l4))).account))) (q_load one_3 rfl) rfl ?_
          obtain ⟨y3, hy3, H⟩ := bind_some' H
          refine .g (x := .d (slOf 1 rI y3)) (g_call en_35 rfl rfl (c_f_billingref54_Keys (hy3))) rfl ?_
          refine .q (q_assign rfl) rfl ?_
          refine .nil ?_
          refine .inBlock ?_
          refine .region ?_
          refine .q (q_move rfl) rfl ?_
          obtain ⟨hk19, H⟩ := ck_some H
          refine .q (q_addI rfl rfl hk19.1 hk19.2) rfl ?_
          refine .q (q_assign rfl) rfl ?_
          refine .nil ?_
          cases H
          exact .sub (.cons rfl (.rfl' _) (.cons rfl (.rfl' _) (.cons rfl (.rfl' _) (.cons rfl (.rfl' _) (.cons rfl (.rfl' _) (.nil)))))) (ih1 (n1, (y3, v10l4 + 1)) HK1 hm1)
        · replace H := ifF hc H; clear hc
          refine .exit rfl ?_
          obtain ⟨q0, H9, hq0⟩ := map_some' H; clear H; cases hq0
          cases HK1
          have H := H9
          exact .sub (.cons rfl (.rfl' _) (.cons rfl (.rfl' _) (.cons rfl (.rfl' _) (.cons rfl (.rfl' _) (.nil))))) (hj3x v9l4 H)
    · intro hj2
      refine .seq ?_
      refine .region ?_
      refine .q (q_move rfl) rfl ?_
      refine .q (q_neq rfl rfl) rfl ?_
      refine .nil ?_
      refine .cond rfl (fun hc => ?_) (fun hc => ?_)
      · replace H := ifT hc H; clear hc
        refine .region ?_
        refine .q (q_move rfl) rfl ?_
        refine .q (q_move rfl) rfl ?_
        refine .q (x := .d (.agg (Leak.row (⟨6, 0, v6j1, 0⟩ : Leak)))) (q_buildP pl_60 hi60 hz60 rfl rfl) rfl ?_
        refine .g (x := .d (slOf 4 Leak.row ([(⟨6, 0, v6j1, 0⟩ : Leak)] : List Leak))) (g_buildSlice1 Try.underlying42 hi60 hs60 hz60 rfl rfl rfl rfl rfl) rfl ?_
        obtain ⟨hk20, H⟩ := ck_some H
        refine .v (x := .tsl 4 ((([] : List Leak) ++ ([(⟨6, 0, v6j1, 0⟩ : Leak)] : List Leak)).map Leak.row) 0) (v_appendL (l := ([] : List Leak)) (l' := ([(⟨6, 0, v6j1, 0⟩ : Leak)] : List Leak)) (row := Leak.row) Try.underlying42 hi60 hz60 hs60 rfl (by rw [hb60]; decide) rfl rfl rfl rfl hk20) rfl ?_
        refine .withSt (st' := ⟨[], [⟨60, 4, (([] : List Leak) ++ ([(⟨6, 0, v6j1, 0⟩ : Leak)] : List Leak)).length, none⟩]⟩) rfl ?_
        refine .q (q_assign rfl) rfl ?_
        refine .nil ?_
        exact .withSt (st' := ⟨[], [⟨60, 4, (([] : List Leak) ++ ([(⟨6, 0, v6j1, 0⟩ : Leak)] : List Leak)).length, none⟩]⟩) rfl <| .sub (.cons rfl (.rfl' _) (.cons rfl (.rfl' _) (.cons rfl (.rfl' _) (.nil)))) (hj2 (([] : List Leak) ++ ([(⟨6, 0, v6j1, 0⟩ : Leak)] : List Leak)) H)
      · replace H := ifF hc H; clear hc
        refine .skip ?_
        exact .withSt (st' := ⟨[], [⟨60, 4, ([] : List Leak).length, none⟩]⟩) rfl <| .sub (.cons rfl (.rfl' _) (.cons rfl (.rfl' _) (.cons rfl (.rfl' _) (.nil)))) (hj2 ([] : List Leak) H)
  · intro hj1 hj1x
    obtain ⟨n5, H⟩ := loop_some H
    refine .loop (ι := Nat × (Int × Int)) (fun p => [(0, .d (slOf 8 Invoice.row v0)), (1, .d (slOf 3 Entry.row v1)), (5, .tsl 4 (([] : List Leak).map Leak.row) 0), (6, .d (cI p.2.1)), (7, .d (cI p.2.2))]) (fun p => ⟨[], [⟨60, 4, ([] : List Leak).length, none⟩]⟩) (fun p => iter (fun s => f_billingref54_Books_l5 v0 v1 s.1 s.2) p.1 p.2 = some r) (·.1) (n5, (0, 0)) H (.cons rfl (.rfl' _) (.cons rfl (.rfl' _) (.cons rfl (.rfl' _) (.cons rfl (.rfl' _) (.cons rfl (.rfl' _) (.nil)))))) rfl ?_
    rintro ⟨m1, v6l5, v7l5⟩ HI ih1
    obtain ⟨n1, q1, hm1, H, HK1⟩ := iter_succ HI
    clear HI
    replace H : f_billingref54_Books_l5 v0 v1 v6l5 v7l5 = some q1 := H
    unfold f_billingref54_Books_l5 at H
    change ARun _ _ _ _ _ _ [(0, .d (slOf 8 Invoice.row v0)), (1, .d (slOf 3 Entry.row v1)), (5, .tsl 4 (([] : List Leak).map Leak.row) 0), (6, .d (cI v6l5)), (7, .d (cI v7l5))] ⟨[], [⟨60, 4, ([] : List Leak).length, none⟩]⟩
    refine .seq ?_
    refine .seq ?_
    refine .region ?_
    refine .q (q_move rfl) rfl ?_
    refine .q (q_move rfl) rfl ?_
    refine .q (q_lenL (l := v1) (row := Entry.row) Try.underlying70 rfl rfl) rfl ?_
    refine .q (q_lss rfl rfl) rfl ?_
    refine .nil ?_
    refine .cond rfl (fun hc => ?_) (fun hc => ?_)
    · replace H := ifT hc H; clear hc
      refine .skip ?_
      refine .seq ?_
      refine .block ?_
      refine .seq ?_
      refine .region ?_
      refine .q (q_assign rfl) rfl ?_
      refine .nil ?_
      refine .block ?_
      obtain ⟨n6, H⟩ := loop_some H
      refine .loop (ι := Nat × (Int × Int)) (fun p => [(0, .d (slOf 8 Invoice.row v0)), (1, .d (slOf 3 Entry.row v1)), (5, .tsl 4 (([] : List Leak).map Leak.row) 0), (6, .d (cI p.2.1)), (7, .d (cI v7l5)), (8, .d (cI p.2.2))]) (fun p => ⟨[], [⟨60, 4, ([] : List Leak).length, none⟩]⟩) (fun p => iter (fun s => f_billingref54_Books_l6 v1 v7l5 s.1 s.2) p.1 p.2 = some q1) (·.1) (n6, (v6l5, 0)) H (.cons rfl (.rfl' _) (.cons rfl (.rfl' _) (.cons rfl (.rfl' _) (.cons rfl (.rfl' _) (.cons rfl (.rfl' _) (.cons rfl (.rfl' _) (.nil))))))) rfl ?_
      rintro ⟨m2, v6l6, v8l6⟩ HI ih2
      obtain ⟨n2, q2, hm2, H, HK2⟩ := iter_succ HI
      clear HI
      replace H : f_billingref54_Books_l6 v1 v7l5 v6l6 v8l6 = some q2 := H
      unfold f_billingref54_Books_l6 at H
      change ARun _ _ _ _ _ _ [(0, .d (slOf 8 Invoice.row v0)), (1, .d (slOf 3 Entry.row v1)), (5, .tsl 4 (([] : List Leak).map Leak.row) 0), (6, .d (cI v6l6)), (7, .d (cI v7l5)), (8, .d (cI v8l6))] ⟨[], [⟨60, 4, ([] : List Leak).length, none⟩]⟩
      refine .seq ?_
      refine .seq ?_
      refine .region ?_
      refine .q (q_move rfl) rfl ?_
      refine .q (q_move rfl) rfl ?_
      refine .q (q_move rfl) rfl ?_
      obtain ⟨hk21, H⟩ := ck_some H
      refine .q (x := .d (.ro (Entry.row (nth v1 (Int.toNat (v7l5)))))) (q_idxL (row := Entry.row) (l := v1) (i := v7l5) Try.underlying70 hi78 hs78 rfl rfl rfl hk21) rfl ?_
      refine .q (q_fieldRo fo_78_2 rfl) rfl ?_
      refine .q (x := .d (slOf 2 Post.row ((nth v1 (Int.toNat (v7l5))).posts))) (q_load one_76 rfl) rfl ?_
      refine .q (q_lenL (l := (nth v1 (Int.toNat (v7l5))).posts) (row := Post.row) Try.underlying76 rfl rfl) rfl ?_
      refine .q (q_lss rfl rfl) rfl ?_
      refine .nil ?_
      refine .cond rfl (fun hc => ?_) (fun hc => ?_)
      · replace H := ifT hc H; clear hc
        refine .skip ?_
        refine .seq ?_
        refine .block ?_
        refine .region ?_
        refine .q (q_move rfl) rfl ?_
        refine .q (q_move rfl) rfl ?_
        refine .q (q_move rfl) rfl ?_
        obtain ⟨hk22, H⟩ := ck_some H
        refine .q (x := .d (.ro (Entry.row (nth v1 (Int.toNat (v7l5)))))) (q_idxL (row := Entry.row) (l := v1) (i := v7l5) Try.underlying70 hi78 hs78 rfl rfl rfl hk22) rfl ?_
        refine .q (q_fieldRo fo_78_2 rfl) rfl ?_
        refine .q (x := .d (slOf 2 Post.row ((nth v1 (Int.toNat (v7l5))).posts))) (q_load one_76 rfl) rfl ?_
        refine .q (q_move rfl) rfl ?_
        obtain ⟨hk23, H⟩ := ck_some H
        refine .q (x := .d (.ro (Post.row (nth ((nth v1 (Int.toNat (v7l5))).posts) (Int.toNat (v8l6)))))) (q_idxL (row := Post.row) (l := (nth v1 (Int.toNat (v7l5))).posts) (i := v8l6) Try.underlying76 hi80 hs80 rfl rfl rfl hk23) rfl ?_
        refine .q (q_fieldRo fo_80_1 rfl) rfl ?_
        refine .q (x := .d (cI ((nth ((nth v1 (Int.toNat (v7l5))).posts) (Int.toNat (v8l6))).amount))) (q_load one_3 rfl) rfl ?_
        obtain ⟨hk24, H⟩ := ck_some H
        refine .q (q_addI rfl rfl hk24.1 hk24.2) rfl ?_
        refine .q (q_assign rfl) rfl ?_
        refine .nil ?_
        refine .inBlock ?_
        refine .region ?_
        refine .q (q_move rfl) rfl ?_
        obtain ⟨hk25, H⟩ := ck_some H
        refine .q (q_addI rfl rfl hk25.1 hk25.2) rfl ?_
        refine .q (q_assign rfl) rfl ?_
        refine .nil ?_
        cases H
        exact .sub (.cons rfl (.rfl' _) (.cons rfl (.rfl' _) (.cons rfl (.rfl' _) (.cons rfl (.rfl' _) (.cons rfl (.rfl' _) (.cons rfl (.rfl' _) (.nil))))))) (ih2 (n2, (v6l6 + ((nth ((nth v1 (Int.toNat (v7l5))).posts) (Int.toNat (v8l6))).amount), v8l6 + 1)) HK2 hm2)
      · replace H := ifF hc H; clear hc
        refine .exit rfl ?_
        refine .inBlock ?_
        refine .region ?_
        refine .q (q_move rfl) rfl ?_
        obtain ⟨hk26, H⟩ := ck_some H
        refine .q (q_addI rfl rfl hk26.1 hk26.2) rfl ?_
        refine .q (q_assign rfl) rfl ?_
        refine .nil ?_
        cases H
        cases HK2
        exact .sub (.cons rfl (.rfl' _) (.cons rfl (.rfl' _) (.cons rfl (.rfl' _) (.cons rfl (.rfl' _) (.cons rfl (.rfl' _) (.nil)))))) (ih1 (n1, (v6l6, v7l5 + 1)) HK1 hm1)
    · replace H := ifF hc H; clear hc
      refine .exit rfl ?_
      obtain ⟨q0, H9, hq0⟩ := map_some' H; clear H; cases hq0
      cases HK1
      have H := H9
      exact .sub (.cons rfl (.rfl' _) (.cons rfl (.rfl' _) (.cons rfl (.rfl' _) (.cons rfl (.rfl' _) (.nil))))) (hj1x v6l5 H)

set_option maxRecDepth 100000 in
set_option maxHeartbeats 1000000 in
theorem c_f_billinglaw54_AssureBooks {v0 : List Invoice} {v1 : List Entry} {r : Bool} (H : f_billinglaw54_AssureBooks v0 v1 = some r) : ACall Try.prog 8 [slOf 8 Invoice.row v0, slOf 3 Entry.row v1] (· = cB r) := by
  obtain ⟨i75, hi75, hz75, hs75, hb75⟩ := in_75
  obtain ⟨i78, hi78, hz78, hs78, hb78⟩ := in_78
  obtain ⟨i80, hi80, hz80, hs80, hb80⟩ := in_80
  refine ACall.enter' Try.func8 rfl Try.ntmps8 rfl fun S hS => ?_
  unfold f_billinglaw54_AssureBooks at H
  change ARun _ _ _ _ _ _ [(0, .d (slOf 8 Invoice.row v0)), (1, .d (slOf 3 Entry.row v1))] _
  refine .seq ?_
  refine .region ?_
  refine .q (q_assign rfl) rfl ?_
  refine .nil ?_
  refine .seq ?_
  refine .seq ?_
  refine .region ?_
  refine .q (q_move rfl) rfl ?_
  refine .q (q_lenL (l := v0) (row := Invoice.row) Try.underlying69 rfl rfl) rfl ?_
  refine .q (q_gtr rfl rfl) rfl ?_
  refine .q (q_move rfl) rfl ?_
  refine .guardG (env' := [(1, _)]) rfl rfl rfl ⟨.inl rfl, trivial⟩ rfl (fun hg => OpQ.g (q_move rfl)) ?_
  refine .guardG (env' := [(13, _)]) rfl rfl rfl ⟨.inr (.inl rfl), trivial⟩ rfl (fun hg => OpQ.g (q_lenL (l := v1) (row := Entry.row) Try.underlying70 rfl rfl)) ?_
  refine .guardG (env' := [(14, _)]) rfl rfl rfl ⟨.inr (.inl rfl), trivial⟩ rfl (fun hg => OpQ.g (q_gtr rfl rfl)) ?_
  refine .q (q_pickOrB rfl rfl rfl) rfl ?_
  refine .nil ?_
  refine .cond rfl (fun hc => ?_) (fun hc => ?_)
  · replace H := ifT hc H; clear hc
    refine .seq ?_
    refine .region ?_
    obtain ⟨y1, hy1, H⟩ := bind_some' H
    refine .g (x := .d (cB y1)) (g_call en_10 rfl rfl (c_f_billinglaw54_awake (hy1))) rfl ?_
    refine .q (q_assign rfl) rfl ?_
    refine .nil ?_
    refine .retN [.tmp 4] [.d (cB y1)] Try.func8 Try.results8 ⟨rfl, trivial⟩ ?_
    cases H
    exact ⟨_, .rfl' _, rfl⟩
  · replace H := ifF hc H; clear hc
    refine .skip ?_
    refine .seq ?_
    refine .seq ?_
    refine .region ?_
    refine .q (q_assign rfl) rfl ?_
    refine .nil ?_
    refine .blockJoin2 (ι := Unit) (fun s => [(0, .d (slOf 8 Invoice.row v0)), (1, .d (slOf 3 Entry.row v1))]) (fun s => ⟨[], []⟩) (fun s => f_billinglaw54_AssureBooks_j1 v0 v1 = some r) ?_ ?_
    · rintro _ H
      replace H : f_billinglaw54_AssureBooks_j1 v0 v1 = some r := H
      unfold f_billinglaw54_AssureBooks_j1 at H
      change ARun _ _ _ _ _ _ [(0, .d (slOf 8 Invoice.row v0)), (1, .d (slOf 3 Entry.row v1))] ⟨[], []⟩
      refine .seq ?_
      refine .seq ?_
      refine .region ?_
      refine .q (q_assign rfl) rfl ?_
      refine .nil ?_
      refine .blockJoin2 (ι := Unit) (fun s => [(0, .d (slOf 8 Invoice.row v0)), (1, .d (slOf 3 Entry.row v1))]) (fun s => ⟨[], []⟩) (fun s => f_billinglaw54_AssureBooks_j2 v0 v1 = some r) ?_ ?_
      · rintro _ H
        replace H : f_billinglaw54_AssureBooks_j2 v0 v1 = some r := H
        unfold f_billinglaw54_AssureBooks_j2 at H
        change ARun _ _ _ _ _ _ [(0, .d (slOf 8 Invoice.row v0)), (1, .d (slOf 3 Entry.row v1))] ⟨[], []⟩
        refine .seq ?_
        refine .region ?_
        refine .g (x := .d (.e0 8)) ((hs75 ▸ g_buildSlice0 Try.underlying69 hi75)) rfl ?_
        refine .q (q_move rfl) rfl ?_
        obtain ⟨hk1, H⟩ := ck_some H
        refine .g (x := .d (slOf 8 Invoice.row v0)) (g_append0L (l' := v0) (row := Invoice.row) Try.underlying69 hi75 hz75 hs75 rfl (by rw [hb75]; decide) rfl (.inl rfl) rfl rfl hk1) rfl ?_
        refine .q (q_move rfl) rfl ?_
        obtain ⟨y2, hy2, H⟩ := bind_some' H
        refine .g (x := .d (slOf 3 Entry.row y2)) (g_call en_26 rfl rfl (c_f_billingref47_CloneAll (hy2))) rfl ?_
        obtain ⟨y3, hy3, H⟩ := bind_some' H
        refine .g (x := .d (slOf 4 Leak.row y3)) (g_call en_25 rfl rfl (c_f_assure_Books (hy3))) rfl ?_
        refine .q (q_move rfl) rfl ?_
        refine .q (q_move rfl) rfl ?_
        obtain ⟨y4, hy4, H⟩ := bind_some' H
        refine .g (x := .d (slOf 4 Leak.row y4)) (g_call en_27 rfl rfl (c_f_billingref54_Books (hy4))) rfl ?_
        obtain ⟨y5, hy5, H⟩ := bind_some' H
        refine .g (x := .d (cB y5)) (g_call en_13 rfl rfl (c_f_billingref54_Same (hy5))) rfl ?_
        refine .q (q_move rfl) rfl ?_
        obtain ⟨y6, hy6, H⟩ := bind_some' H
        refine .guardG (b := y5) (x := .d (cB y6)) (env' := []) rfl rfl rfl trivial rfl (fun hg => (g_call en_10 rfl rfl (c_f_billinglaw54_awake (gcall_some hy6 hg)))) ?_
        refine .q (q_pickAndB rfl rfl rfl) rfl ?_
        refine .q (q_assign rfl) rfl ?_
        refine .nil ?_
        refine .retN [.tmp 4] [.d (cB (y5 && y6))] Try.func8 Try.results8 ⟨rfl, trivial⟩ ?_
        cases H
        exact ⟨_, .rfl' _, rfl⟩
      · intro hj2 hj2x
        obtain ⟨n1, H⟩ := loop_some H
        refine .loop (ι := Nat × (Int)) (fun p => [(0, .d (slOf 8 Invoice.row v0)), (1, .d (slOf 3 Entry.row v1)), (6, .d (cI p.2))]) (fun p => ⟨[], []⟩) (fun p => iter (fun s => f_billinglaw54_AssureBooks_l1 v0 v1 s) p.1 p.2 = some r) (·.1) (n1, 0) H (.cons rfl (.rfl' _) (.cons rfl (.rfl' _) (.cons rfl (.rfl' _) (.nil)))) rfl ?_
        rintro ⟨m1, v6l1⟩ HI ih1
        obtain ⟨n1, q1, hm1, H, HK1⟩ := iter_succ HI
        clear HI
        replace H : f_billinglaw54_AssureBooks_l1 v0 v1 v6l1 = some q1 := H
        unfold f_billinglaw54_AssureBooks_l1 at H
        change ARun _ _ _ _ _ _ [(0, .d (slOf 8 Invoice.row v0)), (1, .d (slOf 3 Entry.row v1)), (6, .d (cI v6l1))] ⟨[], []⟩
        refine .seq ?_
        refine .seq ?_
        refine .region ?_
        refine .q (q_move rfl) rfl ?_
        refine .q (q_move rfl) rfl ?_
        refine .q (q_lenL (l := v1) (row := Entry.row) Try.underlying70 rfl rfl) rfl ?_
        refine .q (q_lss rfl rfl) rfl ?_
        refine .nil ?_
        refine .cond rfl (fun hc => ?_) (fun hc => ?_)
        · replace H := ifT hc H; clear hc
          refine .skip ?_
          refine .seq ?_
          refine .block ?_
          refine .seq ?_
          refine .seq ?_
          refine .region ?_
          refine .q (q_move rfl) rfl ?_
          refine .q (q_move rfl) rfl ?_
          obtain ⟨hk2, H⟩ := ck_some H
          refine .q (x := .d (.ro (Entry.row (nth v1 (Int.toNat (v6l1)))))) (q_idxL (row := Entry.row) (l := v1) (i := v6l1) Try.underlying70 hi78 hs78 rfl rfl rfl hk2) rfl ?_
          refine .q (q_fieldRo fo_78_2 rfl) rfl ?_
          refine .q (x := .d (slOf 2 Post.row ((nth v1 (Int.toNat (v6l1))).posts))) (q_load one_76 rfl) rfl ?_
          refine .q (q_lenL (l := (nth v1 (Int.toNat (v6l1))).posts) (row := Post.row) Try.underlying76 rfl rfl) rfl ?_
          refine .q (q_gtr rfl rfl) rfl ?_
          refine .nil ?_
          refine .cond rfl (fun hc => ?_) (fun hc => ?_)
          · replace H := ifT hc H; clear hc
            refine .seq ?_
            refine .region ?_
            obtain ⟨y7, hy7, H⟩ := bind_some' H
            refine .g (x := .d (cB y7)) (g_call en_10 rfl rfl (c_f_billinglaw54_awake (hy7))) rfl ?_
            refine .q (q_assign rfl) rfl ?_
            refine .nil ?_
            refine .retN [.tmp 4] [.d (cB y7)] Try.func8 Try.results8 ⟨rfl, trivial⟩ ?_
            cases H
            cases HK1
            exact ⟨_, .rfl' _, rfl⟩
          · replace H := ifF hc H; clear hc
            refine .skip ?_
            refine .seq ?_
            refine .region ?_
            refine .q (q_assign rfl) rfl ?_
            refine .nil ?_
            refine .block ?_
            obtain ⟨n2, H⟩ := loop_some H
            refine .loop (ι := Nat × (Int)) (fun p => [(0, .d (slOf 8 Invoice.row v0)), (1, .d (slOf 3 Entry.row v1)), (6, .d (cI v6l1)), (7, .d (cI p.2))]) (fun p => ⟨[], []⟩) (fun p => iter (fun s => f_billinglaw54_AssureBooks_l2 v1 v6l1 s) p.1 p.2 = some q1) (·.1) (n2, 0) H (.cons rfl (.rfl' _) (.cons rfl (.rfl' _) (.cons rfl (.rfl' _) (.cons rfl (.rfl' _) (.nil))))) rfl ?_
            rintro ⟨m2, v7l2⟩ HI ih2
            obtain ⟨n2, q2, hm2, H, HK2⟩ := iter_succ HI
            clear HI
            replace H : f_billinglaw54_AssureBooks_l2 v1 v6l1 v7l2 = some q2 := H
            unfold f_billinglaw54_AssureBooks_l2 at H
            change ARun _ _ _ _ _ _ [(0, .d (slOf 8 Invoice.row v0)), (1, .d (slOf 3 Entry.row v1)), (6, .d (cI v6l1)), (7, .d (cI v7l2))] ⟨[], []⟩
            refine .seq ?_
            refine .seq ?_
            refine .region ?_
            refine .q (q_move rfl) rfl ?_
            refine .q (q_move rfl) rfl ?_
            refine .q (q_move rfl) rfl ?_
            obtain ⟨hk3, H⟩ := ck_some H
            refine .q (x := .d (.ro (Entry.row (nth v1 (Int.toNat (v6l1)))))) (q_idxL (row := Entry.row) (l := v1) (i := v6l1) Try.underlying70 hi78 hs78 rfl rfl rfl hk3) rfl ?_
            refine .q (q_fieldRo fo_78_2 rfl) rfl ?_
            refine .q (x := .d (slOf 2 Post.row ((nth v1 (Int.toNat (v6l1))).posts))) (q_load one_76 rfl) rfl ?_
            refine .q (q_lenL (l := (nth v1 (Int.toNat (v6l1))).posts) (row := Post.row) Try.underlying76 rfl rfl) rfl ?_
            refine .q (q_lss rfl rfl) rfl ?_
            refine .nil ?_
            refine .cond rfl (fun hc => ?_) (fun hc => ?_)
            · replace H := ifT hc H; clear hc
              refine .skip ?_
              refine .seq ?_
              refine .block ?_
              refine .seq ?_
              refine .region ?_
              refine .q (q_move rfl) rfl ?_
              refine .q (q_move rfl) rfl ?_
              obtain ⟨hk4, H⟩ := ck_some H
              refine .q (x := .d (.ro (Entry.row (nth v1 (Int.toNat (v6l1)))))) (q_idxL (row := Entry.row) (l := v1) (i := v6l1) Try.underlying70 hi78 hs78 rfl rfl rfl hk4) rfl ?_
              refine .q (q_fieldRo fo_78_2 rfl) rfl ?_
              refine .q (x := .d (slOf 2 Post.row ((nth v1 (Int.toNat (v6l1))).posts))) (q_load one_76 rfl) rfl ?_
              refine .q (q_move rfl) rfl ?_
              obtain ⟨hk5, H⟩ := ck_some H
              refine .q (x := .d (.ro (Post.row (nth ((nth v1 (Int.toNat (v6l1))).posts) (Int.toNat (v7l2)))))) (q_idxL (row := Post.row) (l := (nth v1 (Int.toNat (v6l1))).posts) (i := v7l2) Try.underlying76 hi80 hs80 rfl rfl rfl hk5) rfl ?_
              refine .q (q_fieldRo fo_80_1 rfl) rfl ?_
              refine .q (x := .d (cI ((nth ((nth v1 (Int.toNat (v6l1))).posts) (Int.toNat (v7l2))).amount))) (q_load one_3 rfl) rfl ?_
              refine .q (q_assign rfl) rfl ?_
              refine .nil ?_
              refine .seq ?_
              refine .region ?_
              refine .q (q_move rfl) rfl ?_
              refine .q (q_lss rfl rfl) rfl ?_
              refine .q (q_move rfl) rfl ?_
              refine .guardG (env' := [(8, _)]) rfl rfl rfl ⟨.inl rfl, trivial⟩ rfl (fun hg => OpQ.g (q_move rfl)) ?_
              refine .guardG (env' := [(91, _)]) rfl rfl rfl ⟨.inr (.inl rfl), trivial⟩ rfl (fun hg => OpQ.g (q_gtr rfl rfl)) ?_
              refine .q (q_pickOrB rfl rfl rfl) rfl ?_
              refine .nil ?_
              refine .cond rfl (fun hc => ?_) (fun hc => ?_)
              · replace H := ifT hc H; clear hc
                refine .seq ?_
                refine .region ?_
                obtain ⟨y8, hy8, H⟩ := bind_some' H
                refine .g (x := .d (cB y8)) (g_call en_10 rfl rfl (c_f_billinglaw54_awake (hy8))) rfl ?_
                refine .q (q_assign rfl) rfl ?_
                refine .nil ?_
                refine .retN [.tmp 4] [.d (cB y8)] Try.func8 Try.results8 ⟨rfl, trivial⟩ ?_
                cases H
                cases HK2
                cases HK1
                exact ⟨_, .rfl' _, rfl⟩
              · replace H := ifF hc H; clear hc
                refine .skip ?_
                refine .inBlock ?_
                refine .region ?_
                refine .q (q_move rfl) rfl ?_
                obtain ⟨hk6, H⟩ := ck_some H
                refine .q (q_addI rfl rfl hk6.1 hk6.2) rfl ?_
                refine .q (q_assign rfl) rfl ?_
                refine .nil ?_
                cases H
                exact .sub (.cons rfl (.rfl' _) (.cons rfl (.rfl' _) (.cons rfl (.rfl' _) (.cons rfl (.rfl' _) (.nil))))) (ih2 (n2, (v7l2 + 1)) HK2 hm2)
            · replace H := ifF hc H; clear hc
              refine .exit rfl ?_
              refine .inBlock ?_
              refine .region ?_
              refine .q (q_move rfl) rfl ?_
              obtain ⟨hk7, H⟩ := ck_some H
              refine .q (q_addI rfl rfl hk7.1 hk7.2) rfl ?_
              refine .q (q_assign rfl) rfl ?_
              refine .nil ?_
              cases H
              cases HK2
              exact .sub (.cons rfl (.rfl' _) (.cons rfl (.rfl' _) (.cons rfl (.rfl' _) (.nil)))) (ih1 (n1, (v6l1 + 1)) HK1 hm1)
        · replace H := ifF hc H; clear hc
          refine .exit rfl ?_
          obtain ⟨q0, H9, hq0⟩ := map_some' H; clear H; cases hq0
          cases HK1
          have H := H9
          exact .sub (.cons rfl (.rfl' _) (.cons rfl (.rfl' _) (.nil))) (hj2x () H)
    · intro hj1 hj1x
      obtain ⟨n3, H⟩ := loop_some H
      refine .loop (ι := Nat × (Int)) (fun p => [(0, .d (slOf 8 Invoice.row v0)), (1, .d (slOf 3 Entry.row v1)), (5, .d (cI p.2))]) (fun p => ⟨[], []⟩) (fun p => iter (fun s => f_billinglaw54_AssureBooks_l3 v0 v1 s) p.1 p.2 = some r) (·.1) (n3, 0) H (.cons rfl (.rfl' _) (.cons rfl (.rfl' _) (.cons rfl (.rfl' _) (.nil)))) rfl ?_
      rintro ⟨m1, v5l3⟩ HI ih1
      obtain ⟨n1, q1, hm1, H, HK1⟩ := iter_succ HI
      clear HI
      replace H : f_billinglaw54_AssureBooks_l3 v0 v1 v5l3 = some q1 := H
      unfold f_billinglaw54_AssureBooks_l3 at H
      change ARun _ _ _ _ _ _ [(0, .d (slOf 8 Invoice.row v0)), (1, .d (slOf 3 Entry.row v1)), (5, .d (cI v5l3))] ⟨[], []⟩
      refine .seq ?_
      refine .seq ?_
      refine .region ?_
      refine .q (q_move rfl) rfl ?_
      refine .q (q_move rfl) rfl ?_
      refine .q (q_lenL (l := v0) (row := Invoice.row) Try.underlying69 rfl rfl) rfl ?_
      refine .q (q_lss rfl rfl) rfl ?_
      refine .nil ?_
      refine .cond rfl (fun hc => ?_) (fun hc => ?_)
      · replace H := ifT hc H; clear hc
        refine .skip ?_
        refine .seq ?_
        refine .block ?_
        refine .seq ?_
        refine .region ?_
        refine .q (q_move rfl) rfl ?_
        refine .q (q_move rfl) rfl ?_
        obtain ⟨hk8, H⟩ := ck_some H
        refine .q (x := .d (.ro (Invoice.row (nth v0 (Int.toNat (v5l3)))))) (q_idxL (row := Invoice.row) (l := v0) (i := v5l3) Try.underlying69 hi75 hs75 rfl rfl rfl hk8) rfl ?_
        refine .q (q_fieldRo fo_75_6 rfl) rfl ?_
        refine .q (x := .d (cI ((nth v0 (Int.toNat (v5l3))).total))) (q_load one_3 rfl) rfl ?_
        refine .q (q_lss rfl rfl) rfl ?_
        refine .q (q_move rfl) rfl ?_
        refine .guardG (env' := [(0, _)]) rfl rfl rfl ⟨.inl rfl, trivial⟩ rfl (fun hg => OpQ.g (q_move rfl)) ?_
        refine .guardG (env' := [(5, _)]) rfl rfl rfl ⟨.inl rfl, trivial⟩ rfl (fun hg => OpQ.g (q_move rfl)) ?_
        obtain ⟨hk9, H⟩ := ck_some H
        refine .guardG (b := (!(decide (((nth v0 (Int.toNat (v5l3))).total) < (-1125899906842624))))) (x := .d (.ro (Invoice.row (nth v0 (Int.toNat (v5l3)))))) (env' := [(31, _), (32, _)]) rfl rfl rfl ⟨.inr (.inl rfl), ⟨.inr (.inl rfl), trivial⟩⟩ rfl (fun hg => OpQ.g (q_idxL (row := Invoice.row) (l := v0) (i := v5l3) Try.underlying69 hi75 hs75 rfl rfl rfl (hk9 hg))) ?_
        refine .guardG (env' := [(33, _)]) rfl rfl rfl ⟨.inr (.inl rfl), trivial⟩ rfl (fun hg => OpQ.g (q_fieldRo fo_75_6 rfl)) ?_
        refine .guardG (b := (!(decide (((nth v0 (Int.toNat (v5l3))).total) < (-1125899906842624))))) (x := .d (cI ((nth v0 (Int.toNat (v5l3))).total))) (env' := [(34, _)]) rfl rfl rfl ⟨.inr (.inl rfl), trivial⟩ rfl (fun hg => OpQ.g (q_load one_3 rfl)) ?_
        refine .guardG (env' := [(35, _)]) rfl rfl rfl ⟨.inr (.inl rfl), trivial⟩ rfl (fun hg => OpQ.g (q_gtr rfl rfl)) ?_
        refine .q (q_pickOrB rfl rfl rfl) rfl ?_
        refine .q (q_move rfl) rfl ?_
        refine .guardG (env' := [(0, _)]) rfl rfl rfl ⟨.inl rfl, trivial⟩ rfl (fun hg => OpQ.g (q_move rfl)) ?_
        refine .guardG (env' := [(5, _)]) rfl rfl rfl ⟨.inl rfl, trivial⟩ rfl (fun hg => OpQ.g (q_move rfl)) ?_
        obtain ⟨hk10, H⟩ := ck_some H
        refine .guardG (b := (!((decide (((nth v0 (Int.toNat (v5l3))).total) < (-1125899906842624))) || (decide (((nth v0 (Int.toNat (v5l3))).total) > 1125899906842624))))) (x := .d (.ro (Invoice.row (nth v0 (Int.toNat (v5l3)))))) (env' := [(39, _), (40, _)]) rfl rfl rfl ⟨.inr (.inl rfl), ⟨.inr (.inl rfl), trivial⟩⟩ rfl (fun hg => OpQ.g (q_idxL (row := Invoice.row) (l := v0) (i := v5l3) Try.underlying69 hi75 hs75 rfl rfl rfl (hk10 hg))) ?_
        refine .guardG (env' := [(41, _)]) rfl rfl rfl ⟨.inr (.inl rfl), trivial⟩ rfl (fun hg => OpQ.g (q_fieldRo fo_75_0 rfl)) ?_
        refine .guardG (b := (!((decide (((nth v0 (Int.toNat (v5l3))).total) < (-1125899906842624))) || (decide (((nth v0 (Int.toNat (v5l3))).total) > 1125899906842624))))) (x := .d (cI ((nth v0 (Int.toNat (v5l3))).account))) (env' := [(42, _)]) rfl rfl rfl ⟨.inr (.inl rfl), trivial⟩ rfl (fun hg => OpQ.g (q_load one_3 rfl)) ?_
        refine .guardG (env' := [(43, _)]) rfl rfl rfl ⟨.inr (.inl rfl), trivial⟩ rfl (fun hg => OpQ.g (q_lss rfl rfl)) ?_
        refine .q (q_pickOrB rfl rfl rfl) rfl ?_
        refine .q (q_move rfl) rfl ?_
        refine .guardG (env' := [(0, _)]) rfl rfl rfl ⟨.inl rfl, trivial⟩ rfl (fun hg => OpQ.g (q_move rfl)) ?_
        refine .guardG (env' := [(5, _)]) rfl rfl rfl ⟨.inl rfl, trivial⟩ rfl (fun hg => OpQ.g (q_move rfl)) ?_
        obtain ⟨hk11, H⟩ := ck_some H
        refine .guardG (b := (!(((decide (((nth v0 (Int.toNat (v5l3))).total) < (-1125899906842624))) || (decide (((nth v0 (Int.toNat (v5l3))).total) > 1125899906842624))) || (decide (((nth v0 (Int.toNat (v5l3))).account) < 1))))) (x := .d (.ro (Invoice.row (nth v0 (Int.toNat (v5l3)))))) (env' := [(47, _), (48, _)]) rfl rfl rfl ⟨.inr (.inl rfl), ⟨.inr (.inl rfl), trivial⟩⟩ rfl (fun hg => OpQ.g (q_idxL (row := Invoice.row) (l := v0) (i := v5l3) Try.underlying69 hi75 hs75 rfl rfl rfl (hk11 hg))) ?_
        refine .guardG (env' := [(49, _)]) rfl rfl rfl ⟨.inr (.inl rfl), trivial⟩ rfl (fun hg => OpQ.g (q_fieldRo fo_75_0 rfl)) ?_
        refine .guardG (b := (!(((decide (((nth v0 (Int.toNat (v5l3))).total) < (-1125899906842624))) || (decide (((nth v0 (Int.toNat (v5l3))).total) > 1125899906842624))) || (decide (((nth v0 (Int.toNat (v5l3))).account) < 1))))) (x := .d (cI ((nth v0 (Int.toNat (v5l3))).account))) (env' := [(50, _)]) rfl rfl rfl ⟨.inr (.inl rfl), trivial⟩ rfl (fun hg => OpQ.g (q_load one_3 rfl)) ?_
        refine .guardG (env' := [(51, _)]) rfl rfl rfl ⟨.inr (.inl rfl), trivial⟩ rfl (fun hg => OpQ.g (q_gtr rfl rfl)) ?_
        refine .q (q_pickOrB rfl rfl rfl) rfl ?_
        refine .nil ?_
        refine .cond rfl (fun hc => ?_) (fun hc => ?_)
        · replace H := ifT hc H; clear hc
          refine .seq ?_
          refine .region ?_
          obtain ⟨y9, hy9, H⟩ := bind_some' H
          refine .g (x := .d (cB y9)) (g_call en_10 rfl rfl (c_f_billinglaw54_awake (hy9))) rfl ?_
          refine .q (q_assign rfl) rfl ?_
          refine .nil ?_
          refine .retN [.tmp 4] [.d (cB y9)] Try.func8 Try.results8 ⟨rfl, trivial⟩ ?_
          cases H
          cases HK1
          exact ⟨_, .rfl' _, rfl⟩
        · replace H := ifF hc H; clear hc
          refine .skip ?_
          refine .inBlock ?_
          refine .region ?_
          refine .q (q_move rfl) rfl ?_
          obtain ⟨hk12, H⟩ := ck_some H
          refine .q (q_addI rfl rfl hk12.1 hk12.2) rfl ?_
          refine .q (q_assign rfl) rfl ?_
          refine .nil ?_
          cases H
          exact .sub (.cons rfl (.rfl' _) (.cons rfl (.rfl' _) (.cons rfl (.rfl' _) (.nil)))) (ih1 (n1, (v5l3 + 1)) HK1 hm1)
      · replace H := ifF hc H; clear hc
        refine .exit rfl ?_
        obtain ⟨q0, H9, hq0⟩ := map_some' H; clear H; cases hq0
        cases HK1
        have H := H9
        exact .sub (.cons rfl (.rfl' _) (.cons rfl (.rfl' _) (.nil))) (hj1x () H)

end Go.Proofs.Ytpdanklncjopoaa

set_option linter.unusedSimpArgs false
set_option linter.unusedVariables false
namespace Go.Proofs.Ytpdanklncjopoaa
open Go.RowKit Go.Abs
theorem gcall_mk {α : Type} [Inhabited α] {b : Bool} {x : α} : gcall b (some x) = some (if b = true then x else default) := by
  unfold gcall; split <;> rfl
def insK : List Int → Int → List Int
  | [], n => [n]
  | a :: t, n => if a < n then a :: insK t n else if a = n then a :: t else n :: a :: t
theorem insK_cut : ∀ (l : List Int) (n : Int) (k : Nat), k ≤ l.length → (∀ j, j < k → nth l j < n) → insK l n = l.take k ++ insK (l.drop k) n
  | l, n, 0, _, _ => by simp
  | [], n, k + 1, h, _ => by simp at h
  | a :: t, n, k + 1, h, hj => by
    have h0 := hj 0 (by omega)
    have := insK_cut t n k (by simpa using h) (fun j hjk => by have := hj (j + 1) (by omega); simpa [nth] using this)
    have h0' : a < n := by simpa [nth] using h0
    simp [insK, h0', this]
theorem insK_found {l : List Int} {n : Int} {k : Nat} (h : k < l.length) (hj : ∀ j, j < k → nth l j < n) (he : nth l k = n) : insK l n = l := by
  rw [insK_cut l n k (by omega) hj, drop_nth h]
  simp only [insK, he]
  rw [if_neg (by omega)]
  have h2 := drop_nth h
  rw [he] at h2
  simp only [if_true]
  rw [← h2, List.take_append_drop]
theorem insK_new {l : List Int} {n : Int} {k : Nat} (h : k ≤ l.length) (hj : ∀ j, j < k → nth l j < n) (he : k < l.length → ¬ nth l k < n ∧ nth l k ≠ n) : insK l n = l.take k ++ [n] ++ l.drop k := by
  rw [insK_cut l n k h hj]
  by_cases hk : k < l.length
  · obtain ⟨h1, h2⟩ := he hk
    rw [drop_nth hk]
    simp [insK, h1, h2]
  · rw [List.drop_of_length_le (by omega)]
    simp [insK]
theorem insK_len (l : List Int) (n : Int) : (insK l n).length ≤ l.length + 1 := by
  induction l with
  | nil => simp [insK]
  | cons a t ih =>
    unfold insK
    split
    · simp; omega
    · split <;> simp
/-- Strictly ascending. -/
def Asc (l : List Int) : Prop := ∀ i j, i < j → j < l.length → nth l i < nth l j
theorem nth_cons_succ {a : Int} {t : List Int} {j : Nat} : nth (a :: t) (j + 1) = nth t j := by simp [nth]
theorem nth_cons_zero {a : Int} {t : List Int} : nth (a :: t) 0 = a := by simp [nth]
theorem Asc.tail {a : Int} {t : List Int} (h : Asc (a :: t)) : Asc t := fun i j hij hj => by
  have := h (i + 1) (j + 1) (by omega) (by simpa using hj)
  simpa [nth_cons_succ] using this
theorem Asc.cons {a : Int} {t : List Int} (h : Asc t) (ha : ∀ j, j < t.length → a < nth t j) : Asc (a :: t) := by
  intro i j hij hj
  cases j with
  | zero => omega
  | succ j =>
    rw [nth_cons_succ]
    cases i with
    | zero => rw [nth_cons_zero]; exact ha j (by simpa using hj)
    | succ i => rw [nth_cons_succ]; exact h i j (by omega) (by simpa using hj)
theorem insK_mem {l : List Int} {n : Int} : ∀ {j : Nat}, j < (insK l n).length → nth (insK l n) j = n ∨ ∃ i, i < l.length ∧ nth (insK l n) j = nth l i := by
  induction l with
  | nil =>
    intro j hj
    simp [insK] at hj
    subst hj
    exact .inl (by simp [insK, nth])
  | cons a t ih =>
    intro j hj
    by_cases h1 : a < n
    · have e : insK (a :: t) n = a :: insK t n := by simp [insK, h1]
      rw [e] at hj ⊢
      cases j with
      | zero => exact .inr ⟨0, by simp, by simp [nth]⟩
      | succ j =>
        rw [nth_cons_succ]
        rcases ih (by simpa using hj) with h | ⟨i, hi, h⟩
        · exact .inl h
        · exact .inr ⟨i + 1, by simpa using hi, by rw [nth_cons_succ]; exact h⟩
    · by_cases h2 : a = n
      · have e : insK (a :: t) n = a :: t := by simp [insK, h1, h2]
        rw [e] at hj ⊢
        exact .inr ⟨j, hj, rfl⟩
      · have e : insK (a :: t) n = n :: a :: t := by simp [insK, h1, h2]
        rw [e] at hj ⊢
        cases j with
        | zero => exact .inl (by simp [nth])
        | succ j => exact .inr ⟨j, by simpa using hj, by rw [nth_cons_succ]⟩
theorem insK_asc {l : List Int} {n : Int} (h : Asc l) : Asc (insK l n) := by
  induction l with
  | nil => intro i j hij hj; simp [insK] at hj; omega
  | cons a t ih =>
    have ha : ∀ j, j < t.length → a < nth t j := fun j hj => by
      have := h 0 (j + 1) (by omega) (by simpa using hj)
      simpa [nth_cons_zero, nth_cons_succ] using this
    by_cases h1 : a < n
    · have e : insK (a :: t) n = a :: insK t n := by simp [insK, h1]
      rw [e]
      refine (ih h.tail).cons fun j hj => ?_
      rcases insK_mem hj with h | ⟨i, hi, h⟩
      · rw [h]; exact h1
      · rw [h]; exact ha i hi
    · by_cases h2 : a = n
      · have e : insK (a :: t) n = a :: t := by simp [insK, h1, h2]
        rw [e]; exact h
      · have e : insK (a :: t) n = n :: a :: t := by simp [insK, h1, h2]
        rw [e]
        refine h.cons fun j hj => ?_
        cases j with
        | zero => rw [nth_cons_zero]; omega
        | succ j => rw [nth_cons_succ]; have := ha j (by simpa using hj); omega

/-! ### decimal digits -/
def digit (n : Nat) : UInt8 := UInt8.ofNat (48 + n)
def digF : Nat → Nat → List UInt8
  | 0, _ => []
  | f + 1, n => if n < 10 then [digit n] else digF f (n / 10) ++ [digit (n % 10)]
def digs (n : Nat) : List UInt8 := digF 20 n
theorem digF_succ : ∀ (f n : Nat), n < 10 ^ f → 0 < f → digF (f + 1) n = digF f n
  | 0, _, _, h => by omega
  | 1, n, h, _ => by simp at h; simp [digF, h]
  | f + 2, n, h, _ => by
    by_cases hn : n < 10
    · simp [digF, hn]
    · rw [digF, if_neg hn, digF_succ (f + 1) (n / 10) (by rw [Nat.pow_succ] at h; omega) (by omega)]
      conv => rhs; rw [digF, if_neg hn]
theorem digs_small {n : Nat} (h : n < 10) : digs n = [digit n] := by simp [digs, digF, h]
theorem digs_big {n : Nat} (h : 10 ≤ n) (hb : n < 10 ^ 20) : digs n = digs (n / 10) ++ [digit (n % 10)] := by
  unfold digs
  rw [digF, if_neg (by omega), ← digF_succ 19 (n / 10) (by omega) (by omega)]
theorem digit_byte {n : Nat} (h : n < 10) : ((digit n).toNat : Int) = 48 + n := by
  unfold digit
  rw [UInt8.toNat_ofNat']
  have : (48 + n) % 2 ^ 8 = 48 + n := Nat.mod_eq_of_lt (by omega)
  omega
theorem digs_len : ∀ (f n : Nat), (digF f n).length ≤ f
  | 0, _ => by simp [digF]
  | f + 1, n => by
    unfold digF
    split
    · simp
    · have := digs_len f (n / 10)
      simp; omega
def decF (n : Int) : List UInt8 := if 0 ≤ n then digs n.toNat else 45 :: digs (-n).toNat
theorem decF_len (n : Int) : (decF n).length ≤ 21 := by
  unfold decF digs
  split
  · have := digs_len 20 n.toNat; omega
  · have := digs_len 20 (-n).toNat; simp; omega
theorem u64_neg {n : Int} (h1 : -9223372036854775808 ≤ n) (h2 : n < 0) : IntKind.u64.wrap (0 - IntKind.u64.wrap n) = ((-n).toNat : Int) := by
  simp only [IntKind.wrap]
  simp [IntKind.signed, IntKind.bits]
  omega
theorem u64_pos {n : Int} (h1 : 0 ≤ n) (h2 : n ≤ 9223372036854775807) : IntKind.u64.wrap n = (n.toNat : Int) := by
  simp only [IntKind.wrap]
  simp [IntKind.signed, IntKind.bits]
  omega
theorem digs_step {m : Nat} (ds : List UInt8) (h0 : 0 < m) (hb : m < 10 ^ 20) : (if m = 0 then [] else digs m) ++ ds = (if m / 10 = 0 then [] else digs (m / 10)) ++ (digit (m % 10) :: ds) := by
  rw [if_neg (by omega)]
  by_cases h : m < 10
  · rw [if_pos (by omega), digs_small h, Nat.mod_eq_of_lt h]; rfl
  · rw [if_neg (by omega), digs_big (by omega) hb]; simp
theorem digs_first {n : Nat} (hb : n < 10 ^ 20) : digs n = (if n / 10 = 0 then [] else digs (n / 10)) ++ [digit (n % 10)] := by
  by_cases h0 : n = 0
  · subst h0; rfl
  · have h := digs_step (m := n) [] (by omega) hb
    rw [if_neg h0, List.append_nil] at h
    exact h
theorem u8_digit {m : Nat} : IntKind.u8.wrap (IntKind.u64.wrap (48 + (m : Int).tmod 10)) = ((digit (m % 10)).toNat : Int) := by
  have h1 : (m : Int).tmod 10 = ((m % 10 : Nat) : Int) := by rw [Int.tmod_eq_emod_of_nonneg (by omega)]; omega
  rw [h1, digit_byte (by omega)]
  simp only [IntKind.wrap]
  simp [IntKind.signed, IntKind.bits]
  omega
theorem u64_quo {m : Nat} (h : m < 18446744073709551616) : IntKind.u64.wrap ((m : Int).tdiv 10) = ((m / 10 : Nat) : Int) := by
  have h1 : (m : Int).tdiv 10 = ((m / 10 : Nat) : Int) := by rw [Int.tdiv_eq_ediv_of_nonneg (by omega)]; omega
  rw [h1]
  simp only [IntKind.wrap]
  simp [IntKind.signed, IntKind.bits]
  omega
def keysOn (l : List Int) (s : List Int) : List Int := l.foldl insK s
theorem keysOn_take {l s : List Int} {k : Nat} (h : k < l.length) : keysOn (l.take (k + 1)) s = insK (keysOn (l.take k) s) (nth l k) := by
  unfold keysOn; rw [take_nth h, List.foldl_append]; rfl
theorem keysOn_len (l s : List Int) : (keysOn l s).length ≤ l.length + s.length := by
  induction l generalizing s with
  | nil => simp [keysOn]
  | cons a t ih =>
    have h1 := ih (insK s a)
    have h2 := insK_len s a
    have e : keysOn (a :: t) s = keysOn t (insK s a) := rfl
    rw [e]; simp; omega
theorem keysOn_take_len {l s : List Int} {k : Nat} : (keysOn (l.take k) s).length ≤ l.length + s.length := by
  have h1 := keysOn_len (l.take k) s
  have h2 : (l.take k).length ≤ l.length := by simp; omega
  omega
theorem keysOn_asc {l s : List Int} (h : Asc s) : Asc (keysOn l s) := by
  induction l generalizing s with
  | nil => exact h
  | cons a t ih => exact ih (insK_asc h)
theorem asc_nil : Asc [] := fun i j _ h => by simp at h
theorem insK_has {l : List Int} {n x : Int} : x ∈ insK l n → x = n ∨ x ∈ l := by
  induction l with
  | nil => intro h; simp [insK] at h; exact .inl h
  | cons a t ih =>
    intro h
    unfold insK at h
    split at h
    · rcases List.mem_cons.1 h with h | h
      · exact .inr (by rw [h]; exact List.mem_cons_self)
      · rcases ih h with h | h
        · exact .inl h
        · exact .inr (List.mem_cons_of_mem _ h)
    · split at h
      · exact .inr h
      · rcases List.mem_cons.1 h with h | h
        · exact .inl h
        · exact .inr h
theorem keysOn_has {l : List Int} : ∀ {s : List Int} {x : Int}, x ∈ keysOn l s → x ∈ s ∨ x ∈ l := by
  induction l with
  | nil => intro s x h; exact .inl h
  | cons a t ih =>
    intro s x h
    rcases ih (s := insK s a) h with h | h
    · rcases insK_has h with h | h
      · exact .inr (by rw [h]; exact List.mem_cons_self)
      · exact .inl h
    · exact .inr (List.mem_cons_of_mem _ h)
theorem mid {a b : Int} (h0 : 0 ≤ a) (h : a < b) : Int.tdiv (a + b) 2 = (a + b) / 2 := Int.tdiv_eq_ediv_of_nonneg (by omega)
theorem p_keys {l : List Int} {n : Int} (hl : l.length ≤ 100000) (ha : Asc l) : f_assure_keys l n = some (insK l n) := by
  have hj : ∀ i : Int, 0 ≤ i → i ≤ (l.length : Int) → (∀ j, j < i.toNat → nth l j < n) → (i < (l.length : Int) → ¬ nth l i.toNat < n) → f_assure_keys_j1 l n i = some (insK l n) := by
    intro i h0 h1 hlo hhi
    unfold f_assure_keys_j1
    rw [ck_pos (by intro h; simp at h; omega)]
    by_cases he : i < (l.length : Int) ∧ nth l i.toNat = n
    · rw [if_pos (by simpa using he), insK_found (k := i.toNat) (by omega) hlo he.2]
    · rw [if_neg (by simpa using he), ck_pos (by omega), ck_pos (by simp; omega), ck_pos (by simp; omega), ck_pos (by omega), ck_pos (by simp; omega)]
      rw [insK_new (k := i.toNat) (by omega) hlo (fun h => ⟨hhi (by omega), fun e => he ⟨by omega, e⟩⟩)]
  unfold f_assure_keys
  exact loop_spec (step := fun s => f_assure_keys_l1 l n s.1 s.2) (fun _ => some (insK l n)) (fun s => 0 ≤ s.1 ∧ s.1 ≤ s.2 ∧ s.2 ≤ (l.length : Int) ∧ (∀ j, j < s.1.toNat → nth l j < n) ∧ (∀ j, s.2.toNat ≤ j → j < l.length → ¬ nth l j < n)) (fun s => (s.2 - s.1).toNat) (fun s hI => by
    obtain ⟨a, b⟩ := s
    obtain ⟨i0, i1, i2, i3, i4⟩ := hI
    simp only at i0 i1 i2 i3 i4 ⊢
    unfold f_assure_keys_l1
    by_cases hab : a < b
    · rw [if_pos (by simpa using hab), mid i0 hab, ck_pos (by omega), ck_pos (by omega), ck_pos (by omega)]
      by_cases hm : nth l (Int.toNat ((a + b) / 2)) < n
      · rw [if_pos (by simpa using hm), ck_pos (by omega)]
        refine .inr ⟨_, rfl, ⟨by simp only; omega, by simp only; omega, by simp only; omega, fun j hj => ?_, i4⟩, by simp only; omega, trivial⟩
        simp only at hj
        by_cases e : j = Int.toNat ((a + b) / 2)
        · rw [e]; exact hm
        · have := ha j (Int.toNat ((a + b) / 2)) (by omega) (by omega)
          omega
      · rw [if_neg (by simpa using hm)]
        refine .inr ⟨_, rfl, ⟨by simp only; omega, by simp only; omega, by simp only; omega, i3, fun j h1 h2 => ?_⟩, by simp only; omega, trivial⟩
        simp only at h1
        by_cases e : j = Int.toNat ((a + b) / 2)
        · rw [e]; exact hm
        · have := ha (Int.toNat ((a + b) / 2)) j (by omega) h2
          omega
    · rw [if_neg (by simpa using hab), hj a i0 (by omega) i3 (fun h => i4 _ (by omega) (by omega))]
      exact .inl ⟨_, rfl, rfl⟩) ⟨by simp, by simp, by simp, by simp, fun j h1 h2 => by simp at h1; omega⟩ (by simp only; omega)
theorem p_rKeys {l : List Int} {n : Int} (hl : l.length ≤ 100000) (ha : Asc l) : f_billingref54_Keys l n = some (insK l n) := by
  have hj : ∀ i : Int, 0 ≤ i → i ≤ (l.length : Int) → (∀ j, j < i.toNat → nth l j < n) → (i < (l.length : Int) → ¬ nth l i.toNat < n) → f_billingref54_Keys_j1 l n i = some (insK l n) := by
    intro i h0 h1 hlo hhi
    unfold f_billingref54_Keys_j1
    rw [ck_pos (by intro h; simp at h; omega)]
    by_cases he : i < (l.length : Int) ∧ nth l i.toNat = n
    · rw [if_pos (by simpa using he), insK_found (k := i.toNat) (by omega) hlo he.2]
    · rw [if_neg (by simpa using he), ck_pos (by omega), ck_pos (by simp; omega), ck_pos (by simp; omega), ck_pos (by omega), ck_pos (by simp; omega)]
      rw [insK_new (k := i.toNat) (by omega) hlo (fun h => ⟨hhi (by omega), fun e => he ⟨by omega, e⟩⟩), List.nil_append]
  unfold f_billingref54_Keys
  exact loop_spec (step := fun s => f_billingref54_Keys_l1 l n s) (fun _ => some (insK l n)) (fun s => 0 ≤ s ∧ s ≤ (l.length : Int) ∧ (∀ j, j < s.toNat → nth l j < n)) (fun s => ((l.length : Int) - s).toNat) (fun i hI => by
    obtain ⟨i0, i1, i3⟩ := hI
    unfold f_billingref54_Keys_l1
    rw [ck_pos (by intro h; simp at h; omega)]
    by_cases hm : i < (l.length : Int) ∧ nth l i.toNat < n
    · rw [if_pos (by simpa using hm), ck_pos (by omega)]
      refine .inr ⟨_, rfl, ⟨by omega, by omega, fun j hj => ?_⟩, by omega, rfl⟩
      by_cases e : j = i.toNat
      · rw [e]; exact hm.2
      · exact i3 j (by omega)
    · rw [if_neg (by simpa using hm), hj i i0 i1 i3 (fun h h' => hm ⟨h, h'⟩)]
      exact .inl ⟨_, rfl, rfl⟩) ⟨by simp, by simp, by simp⟩ (by omega)
end Go.Proofs.Ytpdanklncjopoaa

set_option linter.unusedSimpArgs false
set_option linter.unusedVariables false
namespace Go.Proofs.Ytpdanklncjopoaa
open Go.RowKit Go.Abs
theorem dig_byte {m : Nat} : UInt8.ofInt (IntKind.wrap .u64 (48 + Int.tmod (m : Int) 10)) = digit (m % 10) := by
  apply UInt8.toNat_inj.1
  have := u8_digit (m := m)
  rw [u8w] at this
  omega
theorem dig_byte' {m : Nat} : UInt8.ofInt (48 + Int.tmod (m : Int) 10) = digit (m % 10) := by
  apply UInt8.toNat_inj.1
  have h1 : (m : Int).tmod 10 = ((m % 10 : Nat) : Int) := by rw [Int.tmod_eq_emod_of_nonneg (by omega)]; omega
  have h2 := digit_byte (n := m % 10) (by omega)
  have h3 : IntKind.u8.wrap (48 + ((m % 10 : Nat) : Int)) = 48 + ((m % 10 : Nat) : Int) := by
    simp only [IntKind.wrap]
    simp [IntKind.signed, IntKind.bits]
    omega
  have h4 := u8w (48 + ((m % 10 : Nat) : Int))
  rw [h1]
  omega
theorem drop_set {arr : List UInt8} {i : Nat} {x : UInt8} (h : i < arr.length) : (arr.set i x).drop i = x :: arr.drop (i + 1) := by
  rw [List.drop_set, if_neg (by omega), Nat.sub_self, List.drop_eq_getElem_cons h]; rfl
theorem p_decimal {n : Int} (h0 : 0 ≤ n) (h1 : n ≤ 9223372036854775807) : f_assure_decimal n = some (digs n.toNat) := by
  unfold f_assure_decimal
  rw [if_neg (by simp; omega), u64_pos h0 h1]
  unfold f_assure_decimal_j1
  have := loop_spec (step := fun s => f_assure_decimal_l1 n s.1 s.2.1 s.2.2) (fun s : Int × Int × List UInt8 => some ((if s.1 = 0 ∧ s.2.1 < 20 then [] else digs s.1.toNat) ++ s.2.2.drop s.2.1.toNat))
    (fun s => 0 ≤ s.1 ∧ s.1.toNat < 10 ^ s.2.1.toNat ∧ s.1 < 18446744073709551616 ∧ 0 ≤ s.2.1 ∧ s.2.1 ≤ 20 ∧ s.2.2.length = 20) (fun s => s.2.1.toNat) (fun s hI => by
      obtain ⟨u, i, arr⟩ := s
      obtain ⟨i0, i1, i5, i2, i3, i4⟩ := hI
      simp only at i0 i1 i2 i3 i4 i5 ⊢
      obtain ⟨m, rfl⟩ : ∃ m : Nat, u = (m : Int) := ⟨u.toNat, by omega⟩
      rw [Int.toNat_natCast] at i1 ⊢
      unfold f_assure_decimal_l1
      by_cases hc : 0 < m ∨ i = 20
      · have hi : 1 ≤ i := by
          rcases hc with h | h
          · have : i.toNat ≠ 0 := fun e => by rw [e] at i1; simp at i1; omega
            omega
          · omega
        rw [if_pos (by simpa using hc), ck_pos (by omega), ck_pos (by decide), ck_pos (by omega), ck_pos (by omega), ck_pos (by decide), u64_quo (by omega), dig_byte]
        refine .inr ⟨_, rfl, ⟨by simp only; omega, ?_, by simp only; omega, by simp only; omega, by simp only; omega, by simp [i4]⟩, by simp only; omega, ?_⟩
        · simp only [Int.toNat_natCast]
          have : i.toNat = (i - 1).toNat + 1 := by omega
          rw [this, Nat.pow_succ] at i1
          omega
        · simp only [Int.toNat_natCast]
          rw [drop_set (by omega), show (i - 1).toNat + 1 = i.toNat by omega, if_neg (show ¬ ((m : Int) = 0 ∧ i < 20) by rcases hc with h | h <;> omega)]
          rw [digs_first (n := m) (by omega)]
          by_cases hz : m / 10 = 0
          · rw [if_pos ⟨by omega, by omega⟩, if_pos hz]; rfl
          · rw [if_neg (by omega), if_neg hz]; simp
      · rw [if_neg (by simpa using hc)]
        have hj : f_assure_decimal_j2 n i arr = some (arr.drop i.toNat) := by
          unfold f_assure_decimal_j2
          rw [if_neg (by simp; omega), ck_pos (by omega), ck_pos i4]
        rw [hj, if_pos ⟨by omega, by omega⟩]
        exact .inl ⟨_, rfl, rfl⟩) (s := ((n.toNat : Int), 20, List.replicate 20 0)) ⟨by simp only; omega, by simp only [Int.toNat_natCast]; exact Nat.lt_of_lt_of_le (show n.toNat < 9223372036854775808 by omega) (by decide), by simp only; omega, by simp, by simp, by simp⟩ (by simp)
  rw [this, if_neg (by simp)]
  simp only [Int.toNat_natCast]
  rw [show List.drop (Int.toNat 20) (List.replicate 20 (0 : UInt8)) = [] from rfl, List.append_nil]
theorem p_Number {n : Int} (h0 : 0 ≤ n) (h1 : n ≤ 9223372036854775807) : f_billingref01_Number n = some (digs n.toNat) := by
  obtain ⟨m, rfl⟩ : ∃ m : Nat, n = (m : Int) := ⟨n.toNat, by omega⟩
  have q : ∀ k : Nat, Int.tdiv (k : Int) 10 = ((k / 10 : Nat) : Int) := fun k => by rw [Int.tdiv_eq_ediv_of_nonneg (by omega)]; omega
  have r : ∀ k : Nat, Int.tmod (k : Int) 10 = ((k % 10 : Nat) : Int) := fun k => by rw [Int.tmod_eq_emod_of_nonneg (by omega)]; omega
  unfold f_billingref01_Number
  rw [dig_byte', r, q, ck_pos (by decide), ck_pos (by omega), ck_pos (by omega), Int.toNat_natCast]
  have := loop_spec (step := fun s => f_billingref01_Number_l1 s.1 s.2) (fun s : Int × List UInt8 => some ((if s.1 = 0 then [] else digs s.1.toNat) ++ s.2)) (fun s => 0 ≤ s.1 ∧ s.1.toNat < 10 ^ (20 - s.2.length) ∧ s.2.length ≤ 20 ∧ s.1 ≤ 9223372036854775807) (fun s => s.1.toNat) (fun s hI => by
      obtain ⟨u, l⟩ := s
      obtain ⟨i0, i1, i2, i6⟩ := hI
      simp only at i0 i1 i2 i6 ⊢
      obtain ⟨k, rfl⟩ : ∃ m : Nat, u = (m : Int) := ⟨u.toNat, by omega⟩
      rw [Int.toNat_natCast] at i1 ⊢
      have hb : k < 10 ^ 20 := Nat.lt_of_lt_of_le i1 (Nat.pow_le_pow_right (by omega) (by omega))
      unfold f_billingref01_Number_l1
      by_cases hk : 0 < k
      · have hl : l.length < 20 := by
          rcases Nat.lt_or_ge l.length 20 with h | h
          · exact h
          · rw [show 20 - l.length = 0 by omega] at i1; simp at i1; omega
        rw [if_pos (by simpa using hk), dig_byte', r, q, ck_pos (by decide), ck_pos (by omega), ck_pos (by simp; omega), ck_pos (by omega)]
        refine .inr ⟨_, rfl, ⟨by simp only; omega, ?_, by simp; omega, by simp only; omega⟩, by simp only; omega, ?_⟩
        · simp only [Int.toNat_natCast, List.length_append, List.length_cons, List.length_nil]
          rw [show 20 - l.length = (20 - (0 + 1 + l.length)) + 1 by omega, Nat.pow_succ] at i1
          omega
        · simp only [Int.toNat_natCast]
          rw [if_neg (show ¬ (k : Int) = 0 by omega), digs_first (n := k) hb]
          by_cases hz : k / 10 = 0
          · rw [if_pos (by omega), if_pos hz]; rfl
          · rw [if_neg (by omega), if_neg hz]; simp
      · rw [if_neg (by simpa using hk), if_pos (by omega)]
        exact .inl ⟨_, rfl, rfl⟩) (s := (((m / 10 : Nat) : Int), [digit (m % 10)])) ⟨by simp only; omega, by simp only [Int.toNat_natCast, List.length_cons, List.length_nil]; exact Nat.lt_of_lt_of_le (show m / 10 < 1000000000000000000 by omega) (by decide), by simp, by simp only; omega⟩ (by simp only; omega)
  rw [this, digs_first (n := m) (by exact Nat.lt_of_lt_of_le (show m < 9223372036854775808 by omega) (by decide))]
  simp only [Int.toNat_natCast]
  by_cases hz : m / 10 = 0
  · rw [if_pos (by omega), if_pos hz]
  · rw [if_neg (by omega), if_neg hz]
theorem p_Int {n : Int} (h0 : 0 ≤ n) (h1 : n ≤ 9223372036854775807) : f_billingref01_Int n = some (digs n.toNat) := by
  unfold f_billingref01_Int
  rw [if_pos (by simpa using h0), p_Number h0 h1]; rfl
def valD (l : List UInt8) : Nat := l.foldl (fun a x => a * 10 + (x.toNat - 48)) 0
theorem valD_digF : ∀ (f n : Nat), n < 10 ^ f → valD (digF f n) = n
  | 0, n, h => by simp at h; subst h; rfl
  | f + 1, n, h => by
    have hd : ∀ k, k < 10 → (digit k).toNat - 48 = k := fun k hk => by have := digit_byte hk; omega
    unfold digF
    split
    · rename_i h'; simp [valD, hd n h']
    · have := valD_digF f (n / 10) (by rw [Nat.pow_succ] at h; omega)
      unfold valD at this ⊢
      rw [List.foldl_append, this]
      simp [hd (n % 10) (by omega)]
      omega
theorem digs_inj {n m : Nat} (hn : n < 10 ^ 20) (hm : m < 10 ^ 20) (h : digs n = digs m) : n = m := by
  have h1 := valD_digF 20 n hn
  have h2 := valD_digF 20 m hm
  unfold digs at h
  rw [h, h2] at h1
  exact h1.symm
end Go.Proofs.Ytpdanklncjopoaa

set_option linter.unusedSimpArgs false
set_option linter.unusedVariables false
namespace Go.Proofs.Ytpdanklncjopoaa
open Go.RowKit Go.Abs
/-! invoices and the ledger: what the document says -/
def recvT : List UInt8 := [114, 101, 99, 101, 105, 118, 97, 98, 108, 101, 58]
def invT : List UInt8 := [105, 110, 118, 111, 105, 99, 101]
def acct (n : Int) : List UInt8 := recvT ++ digs n.toNat
def sumA : List Post → Int
  | [] => 0
  | p :: r => p.amount + sumA r
def sumEs : List Entry → Int
  | [] => 0
  | e :: r => sumA e.posts + sumEs r
def balP (name : List UInt8) : List Post → Int
  | [] => 0
  | p :: r => (if p.account = name then p.amount else 0) + balP name r
def bookE (name : List UInt8) : List Entry → Int
  | [] => 0
  | e :: r => (if e.text = invT then balP name e.posts else 0) + bookE name r
def billI (k : Int) : List Invoice → Int
  | [] => 0
  | i :: r => (if i.account = k then i.total else 0) + billI k r
def OkP (l : List Post) : Prop := l.length ≤ 24 ∧ ∀ p, p ∈ l → -1125899906842624 ≤ p.amount ∧ p.amount ≤ 1125899906842624
def OkE (l : List Entry) : Prop := l.length ≤ 24 ∧ ∀ e, e ∈ l → OkP e.posts
def OkI (l : List Invoice) : Prop := l.length ≤ 24 ∧ ∀ i, i ∈ l → (-1125899906842624 ≤ i.total ∧ i.total ≤ 1125899906842624) ∧ 1 ≤ i.account ∧ i.account ≤ 9999
theorem nth_in {α : Type} [Inhabited α] {l : List α} {i : Nat} (h : i < l.length) : nth l i ∈ l := by rw [nth_eq h]; exact List.getElem_mem _
theorem p_Receivable {n : Int} (h0 : 0 ≤ n) (h1 : n ≤ 9999) : f_billingref47_Receivable n = some (acct n) := by
  unfold f_billingref47_Receivable
  rw [p_Int h0 (by omega), Option.bind_some, ck_pos]
  · rfl
  · have : (digs n.toNat).length ≤ 20 := digs_len 20 _
    simp; omega
/-- the sum of all amounts -/
theorem p_sum2 {ents : List Entry} (ho : OkE ents) {R : Type} (i acc : Int) (h0 : 0 ≤ i) (hi : i < (ents.length : Int)) (hacc : -1125899906842624 * (24 * i) ≤ acc ∧ acc ≤ 1125899906842624 * (24 * i)) :
    loop (fun s => f_billingref54_Books_l6 ents i s.1 s.2) (acc, 0) = some (.inl (acc + sumA (nth ents i.toNat).posts, i + 1)) := by
  have hp := ho.2 _ (nth_in (show i.toNat < ents.length by omega))
  have hlen := ho.1
  generalize hps : (nth ents i.toNat).posts = ps at hp
  have := loop_spec (step := fun s => f_billingref54_Books_l6 ents i s.1 s.2) (fun s : Int × Int => some (.inl (s.1 + sumA (ps.drop s.2.toNat), i + 1)))
    (fun s => 0 ≤ s.2 ∧ s.2 ≤ (ps.length : Int) ∧ -1125899906842624 * (24 * i + s.2) ≤ s.1 ∧ s.1 ≤ 1125899906842624 * (24 * i + s.2)) (fun s => ((ps.length : Int) - s.2).toNat) (fun s hI => by
      obtain ⟨a, k⟩ := s
      obtain ⟨i0, i1, i2, i3⟩ := hI
      simp only at i0 i1 i2 i3 ⊢
      have hl := hp.1
      unfold f_billingref54_Books_l6
      rw [ck_pos (by omega), hps]
      by_cases hk : k < (ps.length : Int)
      · have ha := hp.2 _ (nth_in (show k.toNat < ps.length by omega))
        rw [if_pos (by simpa using hk), ck_pos (by omega), ck_pos (by omega), ck_pos (by omega), ck_pos (by omega), drop_nth (show k.toNat < ps.length by omega), sumA]
        refine .inr ⟨_, rfl, ⟨by simp only; omega, by simp only; omega, by simp only; omega, by simp only; omega⟩, by simp only; omega, ?_⟩
        simp only
        rw [show (k + 1).toNat = k.toNat + 1 by omega, Int.add_assoc]
      · rw [if_neg (by simpa using hk), ck_pos (by omega), List.drop_of_length_le (by omega)]
        refine .inl ⟨_, rfl, ?_⟩
        simp [sumA]) (s := (acc, 0)) ⟨by simp, by simp, by simp only; omega, by simp only; omega⟩ (by have := hp.1; simp only; omega)
  rw [this]
  simp
theorem sumA_le : ∀ (l : List Post), (∀ p, p ∈ l → -1125899906842624 ≤ p.amount ∧ p.amount ≤ 1125899906842624) → -1125899906842624 * (l.length : Int) ≤ sumA l ∧ sumA l ≤ 1125899906842624 * (l.length : Int)
  | [], _ => by simp [sumA]
  | p :: r, h => by
    have h1 := h p List.mem_cons_self
    have h2 := sumA_le r fun q hq => h q (List.mem_cons_of_mem _ hq)
    rw [sumA, List.length_cons]
    omega
theorem balP_le (name : List UInt8) : ∀ (l : List Post), (∀ p, p ∈ l → -1125899906842624 ≤ p.amount ∧ p.amount ≤ 1125899906842624) → -1125899906842624 * (l.length : Int) ≤ balP name l ∧ balP name l ≤ 1125899906842624 * (l.length : Int)
  | [], _ => by simp [balP]
  | p :: r, h => by
    have h1 := h p List.mem_cons_self
    have h2 := balP_le name r fun q hq => h q (List.mem_cons_of_mem _ hq)
    rw [balP, List.length_cons]
    split <;> omega
/-- what an entry books on an account -/
theorem p_Balance {e : Entry} (ho : OkP e.posts) (name : List UInt8) : f_billingref47_Balance [e] name = some (balP name e.posts) := by
  have inner : loop (fun s => f_billingref47_Balance_l2 [e] name 0 s.1 s.2) (0, 0) = some (.inl (balP name e.posts, 1)) := by
    have := loop_spec (step := fun s => f_billingref47_Balance_l2 [e] name 0 s.1 s.2) (fun s : Int × Int => some (.inl (s.1 + balP name (e.posts.drop s.2.toNat), 1)))
      (fun s => 0 ≤ s.2 ∧ s.2 ≤ (e.posts.length : Int) ∧ -1125899906842624 * s.2 ≤ s.1 ∧ s.1 ≤ 1125899906842624 * s.2) (fun s => ((e.posts.length : Int) - s.2).toNat) (fun s hI => by
        obtain ⟨a, k⟩ := s
        obtain ⟨i0, i1, i2, i3⟩ := hI
        simp only at i0 i1 i2 i3 ⊢
        have hl := ho.1
        unfold f_billingref47_Balance_l2
        rw [ck_pos (by simp), show nth [e] (Int.toNat 0) = e from rfl]
        by_cases hk : k < (e.posts.length : Int)
        · have ha := ho.2 _ (nth_in (show k.toNat < e.posts.length by omega))
          rw [if_pos (by simpa using hk), ck_pos (by simp), ck_pos (by omega), drop_nth (show k.toNat < e.posts.length by omega), balP]
          by_cases hn : (nth e.posts k.toNat).account = name
          · rw [if_pos (by simpa using hn), if_pos hn, ck_pos (by simp), ck_pos (by omega), ck_pos (by omega), ck_pos (by omega)]
            refine .inr ⟨_, rfl, ⟨by simp only; omega, by simp only; omega, by simp only; omega, by simp only; omega⟩, by simp only; omega, ?_⟩
            simp only
            rw [show (k + 1).toNat = k.toNat + 1 by omega, Int.add_assoc]
          · rw [if_neg (by simpa using hn), if_neg hn, ck_pos (by omega)]
            refine .inr ⟨_, rfl, ⟨by simp only; omega, by simp only; omega, by simp only; omega, by simp only; omega⟩, by simp only; omega, ?_⟩
            simp only
            rw [show (k + 1).toNat = k.toNat + 1 by omega, Int.zero_add]
        · rw [if_neg (by simpa using hk), ck_pos (by omega), List.drop_of_length_le (by omega)]
          refine .inl ⟨_, rfl, ?_⟩
          simp [balP]) (s := (0, 0)) ⟨by simp, by simp, by simp, by simp⟩ (by have := ho.1; simp only; omega)
    rw [this]
    simp
  unfold f_billingref47_Balance
  have := loop_spec (step := fun s => f_billingref47_Balance_l1 [e] name s.1 s.2) (fun _ => some (balP name e.posts)) (fun s : Int × Int => s = (0, 0) ∨ s = (balP name e.posts, 1)) (fun s => (1 - s.2).toNat) (fun s hI => by
    rcases hI with rfl | rfl
    · unfold f_billingref47_Balance_l1
      rw [if_pos (by simp), inner]
      exact .inr ⟨_, rfl, .inr rfl, by simp, rfl⟩
    · unfold f_billingref47_Balance_l1
      rw [if_neg (by simp)]
      exact .inl ⟨_, rfl, rfl⟩) (s := (0, 0)) (.inl rfl) (by simp)
  exact this
def leakB (inv : List Invoice) (ents : List Entry) (k : Int) : List Leak := if billI k inv = bookE (acct k) ents then [] else [⟨6, k, billI k inv, bookE (acct k) ents⟩]
/-- per key -/
theorem p_perKey {inv : List Invoice} {ents : List Entry} (hi : OkI inv) (he : OkE ents) {ks : List Int} {out : List Leak} {i : Int} (hout : out.length ≤ 100000) (h0 : 0 ≤ i) (h1 : i < (ks.length : Int)) (hkl : ks.length ≤ 100000) (hk : 1 ≤ nth ks i.toNat ∧ nth ks i.toNat ≤ 9999) :
    f_billingref54_Books_l1 inv ents ks out i = some (.inl (out ++ leakB inv ents (nth ks i.toNat), i + 1)) := by
  have hb : ∀ a, loop (fun s => f_billingref54_Books_l2 ents ks out i a s.1 s.2) (0, 0) = some (.inl (out ++ (if a = bookE (acct (nth ks i.toNat)) ents then [] else [⟨6, nth ks i.toNat, a, bookE (acct (nth ks i.toNat)) ents⟩]), i + 1)) := by
    intro a
    have := loop_spec (step := fun s => f_billingref54_Books_l2 ents ks out i a s.1 s.2) (fun s : Int × Int => some (.inl (out ++ (if a = s.1 + bookE (acct (nth ks i.toNat)) (ents.drop s.2.toNat) then [] else [⟨6, nth ks i.toNat, a, s.1 + bookE (acct (nth ks i.toNat)) (ents.drop s.2.toNat)⟩]), i + 1)))
      (fun s => 0 ≤ s.2 ∧ s.2 ≤ (ents.length : Int) ∧ -1125899906842624 * (24 * s.2) ≤ s.1 ∧ s.1 ≤ 1125899906842624 * (24 * s.2)) (fun s => ((ents.length : Int) - s.2).toNat) (fun s hI => by
        obtain ⟨b, j⟩ := s
        obtain ⟨i0, i1, i2, i3⟩ := hI
        simp only at i0 i1 i2 i3 ⊢
        have hl := he.1
        unfold f_billingref54_Books_l2
        by_cases hj : j < (ents.length : Int)
        · have hp := he.2 _ (nth_in (show j.toNat < ents.length by omega))
          have hbal := balP_le (acct (nth ks i.toNat)) _ hp.2
          have hpl := hp.1
          rw [if_pos (by simpa using hj), ck_pos (by omega), drop_nth (show j.toNat < ents.length by omega), bookE]
          by_cases ht : (nth ents j.toNat).text = invT
          · have hone : (ents.take (Int.toNat (j + 1))).drop (Int.toNat j) = [nth ents j.toNat] := by
              rw [List.drop_take, show Int.toNat (j + 1) - Int.toNat j = 1 by omega, drop_nth (show j.toNat < ents.length by omega)]; rfl
            rw [if_pos (by simpa [invT] using ht), if_pos ht, ck_pos (by omega), ck_pos (by omega), ck_pos (by omega), p_Receivable (by omega) (by omega), Option.bind_some, hone, p_Balance hp, Option.bind_some, ck_pos (by omega), ck_pos (by omega)]
            refine .inr ⟨_, rfl, ⟨by simp only; omega, by simp only; omega, by simp only; omega, by simp only; omega⟩, by simp only; omega, ?_⟩
            simp only
            rw [show (j + 1).toNat = j.toNat + 1 by omega, Int.add_assoc]
          · rw [if_neg (by simpa [invT] using ht), if_neg ht, ck_pos (by omega)]
            refine .inr ⟨_, rfl, ⟨by simp only; omega, by simp only; omega, by simp only; omega, by simp only; omega⟩, by simp only; omega, ?_⟩
            simp only
            rw [show (j + 1).toNat = j.toNat + 1 by omega, Int.zero_add]
        · rw [if_neg (by simpa using hj), List.drop_of_length_le (by omega)]
          unfold f_billingref54_Books_j5
          rw [bookE, Int.add_zero]
          by_cases hab : a = b
          · rw [if_neg (by simp [hab]), if_pos hab, ck_pos (by omega)]
            exact .inl ⟨_, rfl, by simp⟩
          · rw [if_pos (by simpa using hab), if_neg hab, ck_pos (by omega), ck_pos (by simp; omega), ck_pos (by omega)]
            exact .inl ⟨_, rfl, rfl⟩) (s := (0, 0)) ⟨by simp, by simp, by simp, by simp⟩ (by have := he.1; simp only; omega)
    rw [this]
    simp
  unfold f_billingref54_Books_l1
  rw [if_pos (by simpa using h1)]
  have := loop_spec (step := fun s => f_billingref54_Books_l3 inv ents ks out i s.1 s.2) (fun s : Int × Int => some (.inl (out ++ (if s.1 + billI (nth ks i.toNat) (inv.drop s.2.toNat) = bookE (acct (nth ks i.toNat)) ents then [] else [⟨6, nth ks i.toNat, s.1 + billI (nth ks i.toNat) (inv.drop s.2.toNat), bookE (acct (nth ks i.toNat)) ents⟩]), i + 1)))
    (fun s => 0 ≤ s.2 ∧ s.2 ≤ (inv.length : Int) ∧ -1125899906842624 * s.2 ≤ s.1 ∧ s.1 ≤ 1125899906842624 * s.2) (fun s => ((inv.length : Int) - s.2).toNat) (fun s hI => by
      obtain ⟨a, j⟩ := s
      obtain ⟨i0, i1, i2, i3⟩ := hI
      simp only at i0 i1 i2 i3 ⊢
      have hl := hi.1
      unfold f_billingref54_Books_l3
      by_cases hj : j < (inv.length : Int)
      · have hp := hi.2 _ (nth_in (show j.toNat < inv.length by omega))
        rw [if_pos (by simpa using hj), ck_pos (by omega), ck_pos (by omega), drop_nth (show j.toNat < inv.length by omega), billI]
        by_cases ht : (nth inv j.toNat).account = nth ks i.toNat
        · rw [if_pos (by simpa using ht), if_pos ht, ck_pos (by omega), ck_pos (by omega), ck_pos (by omega)]
          refine .inr ⟨_, rfl, ⟨by simp only; omega, by simp only; omega, by simp only; omega, by simp only; omega⟩, by simp only; omega, ?_⟩
          simp only
          rw [show (j + 1).toNat = j.toNat + 1 by omega, Int.add_assoc]
        · rw [if_neg (by simpa using ht), if_neg ht, ck_pos (by omega)]
          refine .inr ⟨_, rfl, ⟨by simp only; omega, by simp only; omega, by simp only; omega, by simp only; omega⟩, by simp only; omega, ?_⟩
          simp only
          rw [show (j + 1).toNat = j.toNat + 1 by omega, Int.zero_add]
      · rw [if_neg (by simpa using hj), List.drop_of_length_le (by omega)]
        unfold f_billingref54_Books_j4
        rw [hb a, billI, Int.add_zero]
        exact .inl ⟨_, rfl, rfl⟩) (s := (0, 0)) ⟨by simp, by simp, by simp, by simp⟩ (by have := hi.1; simp only; omega)
  rw [this]
  simp [leakB]
end Go.Proofs.Ytpdanklncjopoaa

set_option linter.unusedSimpArgs false
set_option linter.unusedVariables false
namespace Go.Proofs.Ytpdanklncjopoaa
open Go.RowKit Go.Abs
def keysI (l : List Invoice) : List Int → List Int
  | s => (l.map Invoice.account).foldl insK s
theorem keysI_cons (x : Invoice) (l : List Invoice) (s : List Int) : keysI (x :: l) s = keysI l (insK s x.account) := rfl
theorem keysI_len : ∀ (l : List Invoice) (s : List Int), (keysI l s).length ≤ l.length + s.length
  | [], s => by simp [keysI]
  | x :: l, s => by
    rw [keysI_cons]
    have h1 := keysI_len l (insK s x.account)
    have h2 := insK_len s x.account
    simp; omega
theorem keysI_in : ∀ (l : List Invoice) (s : List Int), ∀ k, k ∈ keysI l s → k ∈ s ∨ ∃ x, x ∈ l ∧ x.account = k
  | [], s, k, h => .inl h
  | x :: l, s, k, h => by
    rw [keysI_cons] at h
    rcases keysI_in l _ k h with h | ⟨y, h1, h2⟩
    · rcases insK_has h with h | h
      · exact .inr ⟨x, List.mem_cons_self, h.symm⟩
      · exact .inl h
    · exact .inr ⟨y, List.mem_cons_of_mem _ h1, h2⟩
theorem leakB_len (inv : List Invoice) (ents : List Entry) (k : Int) : (leakB inv ents k).length ≤ 1 := by
  unfold leakB; split <;> simp
def flatB (inv : List Invoice) (ents : List Entry) (ks : List Int) : List Leak := (ks.map (leakB inv ents)).flatten
theorem flatB_cons (inv : List Invoice) (ents : List Entry) (k : Int) (ks : List Int) : flatB inv ents (k :: ks) = leakB inv ents k ++ flatB inv ents ks := rfl
theorem flatB_len (inv : List Invoice) (ents : List Entry) : ∀ ks : List Int, (flatB inv ents ks).length ≤ ks.length
  | [] => by simp [flatB]
  | k :: ks => by
    rw [flatB_cons]
    have := flatB_len inv ents ks
    have := leakB_len inv ents k
    simp; omega
theorem p_rKeysAll {inv : List Invoice} {ents : List Entry} (hi : OkI inv) (he : OkE ents) {out : List Leak} (hout : out.length ≤ 1) : f_billingref54_Books_j2 inv ents out = some (out ++ flatB inv ents (keysI inv [])) := by
  have hkl := keysI_len inv []
  have hil := hi.1
  have hkin : ∀ k, k ∈ keysI inv [] → 1 ≤ k ∧ k ≤ 9999 := fun k hk => by
    rcases keysI_in inv [] k hk with h | ⟨x, h1, h2⟩
    · cases h
    · have := (hi.2 x h1).2; omega
  have h3 : f_billingref54_Books_j3 inv ents out (keysI inv []) = some (out ++ flatB inv ents (keysI inv [])) := by
    unfold f_billingref54_Books_j3
    generalize keysI inv [] = ks at hkl hkin
    simp at hkl
    have := loop_spec (step := fun s => f_billingref54_Books_l1 inv ents ks s.1 s.2) (fun s : List Leak × Int => some (s.1 ++ flatB inv ents (ks.drop s.2.toNat))) (fun s => 0 ≤ s.2 ∧ s.2 ≤ (ks.length : Int) ∧ (s.1.length : Int) ≤ 1 + s.2) (fun s => ((ks.length : Int) - s.2).toNat) (fun s hI => by
      obtain ⟨o, i⟩ := s
      obtain ⟨i0, i1, i2⟩ := hI
      simp only at i0 i1 i2 ⊢
      by_cases hlt : i < (ks.length : Int)
      · have hk := hkin _ (nth_in (show i.toNat < ks.length by omega))
        rw [p_perKey hi he (by omega) i0 hlt (by omega) hk, drop_nth (show i.toNat < ks.length by omega), flatB_cons]
        have := leakB_len inv ents (nth ks i.toNat)
        refine .inr ⟨_, rfl, ⟨by simp only; omega, by simp only; omega, by simp; omega⟩, by simp only; omega, ?_⟩
        simp only
        rw [show (i + 1).toNat = i.toNat + 1 by omega, List.append_assoc]
      · unfold f_billingref54_Books_l1
        rw [if_neg (by simpa using hlt), List.drop_of_length_le (by omega)]
        exact .inl ⟨_, rfl, by simp [flatB]⟩) (s := (out, 0)) ⟨by simp, by simp, by simp; omega⟩ (by simp only; omega)
    rw [this]; simp
  unfold f_billingref54_Books_j2
  have := loop_spec (step := fun s => f_billingref54_Books_l4 inv ents out s.1 s.2) (fun s : List Int × Int => f_billingref54_Books_j3 inv ents out (keysI (inv.drop s.2.toNat) s.1)) (fun s => 0 ≤ s.2 ∧ s.2 ≤ (inv.length : Int) ∧ Asc s.1 ∧ (s.1.length : Int) ≤ s.2 ∧ keysI (inv.drop s.2.toNat) s.1 = keysI inv []) (fun s => ((inv.length : Int) - s.2).toNat) (fun s hI => by
      obtain ⟨ks, i⟩ := s
      obtain ⟨i0, i1, i2, i3, i4⟩ := hI
      simp only at i0 i1 i2 i3 i4 ⊢
      unfold f_billingref54_Books_l4
      by_cases hlt : i < (inv.length : Int)
      · rw [drop_nth (show i.toNat < inv.length by omega), keysI_cons] at i4
        rw [if_pos (by simpa using hlt), ck_pos (by omega), p_rKeys (by omega) i2, Option.bind_some, ck_pos (by omega), drop_nth (show i.toNat < inv.length by omega), keysI_cons]
        have := insK_len ks (nth inv i.toNat).account
        refine .inr ⟨_, rfl, ⟨by simp only; omega, by simp only; omega, insK_asc i2, by simp only; omega, ?_⟩, by simp only; omega, ?_⟩
        · simp only
          rw [show (i + 1).toNat = i.toNat + 1 by omega]; exact i4
        · simp only
          rw [show (i + 1).toNat = i.toNat + 1 by omega]
      · rw [List.drop_of_length_le (by omega)] at i4 ⊢
        rw [if_neg (by simpa using hlt)]
        have e : ks = keysI inv [] := i4
        exact .inl ⟨_, by rw [e, h3]; rfl, by rw [show keysI [] ks = keysI inv [] from i4, h3]⟩) (s := ([], 0)) ⟨by simp, by simp, asc_nil, by simp, by simp⟩ (by simp only; omega)
  rw [this]
  simp [h3]
def booksF (inv : List Invoice) (ents : List Entry) : List Leak := (if sumEs ents = 0 then [] else [⟨6, 0, sumEs ents, 0⟩]) ++ flatB inv ents (keysI inv [])
theorem p_rBooks {inv : List Invoice} {ents : List Entry} (hi : OkI inv) (he : OkE ents) : f_billingref54_Books inv ents = some (booksF inv ents) := by
  have h1 : f_billingref54_Books_j1 inv ents (sumEs ents) = some (booksF inv ents) := by
    unfold f_billingref54_Books_j1 booksF
    by_cases hs : sumEs ents = 0
    · rw [if_neg (by simp [hs]), if_pos hs, p_rKeysAll hi he (by simp)]
    · rw [if_pos (by simpa using hs), if_neg hs, ck_pos (by simp), p_rKeysAll hi he (by simp)]; rfl
  unfold f_billingref54_Books
  have := loop_spec (step := fun s => f_billingref54_Books_l5 inv ents s.1 s.2) (fun s : Int × Int => f_billingref54_Books_j1 inv ents (s.1 + sumEs (ents.drop s.2.toNat))) (fun s => 0 ≤ s.2 ∧ s.2 ≤ (ents.length : Int) ∧ (-1125899906842624 * (24 * s.2) ≤ s.1 ∧ s.1 ≤ 1125899906842624 * (24 * s.2)) ∧ s.1 + sumEs (ents.drop s.2.toNat) = sumEs ents) (fun s => ((ents.length : Int) - s.2).toNat) (fun s hI => by
      obtain ⟨a, i⟩ := s
      obtain ⟨i0, i1, i2, i4⟩ := hI
      simp only at i0 i1 i2 i4 ⊢
      unfold f_billingref54_Books_l5
      by_cases hlt : i < (ents.length : Int)
      · have hp := he.2 _ (nth_in (show i.toNat < ents.length by omega))
        have hs := sumA_le _ hp.2
        have hpl := hp.1
        rw [drop_nth (show i.toNat < ents.length by omega), sumEs] at i4
        rw [if_pos (by simpa using hlt), p_sum2 (R := Int) he i a i0 hlt i2, drop_nth (show i.toNat < ents.length by omega), sumEs]
        refine .inr ⟨_, rfl, ⟨by simp only; omega, by simp only; omega, ⟨by simp only; omega, by simp only; omega⟩, ?_⟩, by simp only; omega, ?_⟩
        · simp only
          rw [show (i + 1).toNat = i.toNat + 1 by omega]; omega
        · simp only
          rw [show (i + 1).toNat = i.toNat + 1 by omega, Int.add_assoc]
      · rw [List.drop_of_length_le (by omega)] at i4 ⊢
        rw [sumEs, Int.add_zero] at i4 ⊢
        rw [if_neg (by simpa using hlt), i4, h1]
        exact .inl ⟨_, rfl, rfl⟩) (s := (0, 0)) ⟨by simp, by simp, ⟨by simp, by simp⟩, by simp⟩ (by have := he.1; simp only; omega)
  rw [this]
  simp [h1]
end Go.Proofs.Ytpdanklncjopoaa

set_option linter.unusedSimpArgs false
set_option linter.unusedVariables false
namespace Go.Proofs.Ytpdanklncjopoaa
open Go.RowKit Go.Abs
def diffOf (a b : List (Int × Int)) (x : Int) : List Leak := if (alook a x).getD 0 = (alook b x).getD 0 then [] else [⟨6, x, (alook a x).getD 0, (alook b x).getD 0⟩]
theorem diffOf_len (a b : List (Int × Int)) (x : Int) : (diffOf a b x).length ≤ 1 := by unfold diffOf; split <;> simp
def diffs (a b : List (Int × Int)) (ks : List Int) : List Leak := (ks.map (diffOf a b)).flatten
theorem diffs_cons (a b : List (Int × Int)) (k : Int) (ks : List Int) : diffs a b (k :: ks) = diffOf a b k ++ diffs a b ks := rfl
theorem diffs_len (a b : List (Int × Int)) : ∀ ks : List Int, (diffs a b ks).length ≤ ks.length
  | [] => by simp [diffs]
  | k :: ks => by
    rw [diffs_cons]
    have := diffs_len a b ks
    have := diffOf_len a b k
    simp; omega
theorem p_differing {a b : List (Int × Int)} {ks : List Int} (hk : ks.length ≤ 100000) : g_assure_differing 6 ks a b = some (diffs a b ks) := by
  unfold g_assure_differing
  have := loop_spec (step := fun s => g_assure_differing_l1 6 ks a b s.1 s.2) (fun s : List Leak × Int => some (s.1 ++ diffs a b (ks.drop s.2.toNat))) (fun s => 0 ≤ s.2 ∧ s.2 ≤ (ks.length : Int) ∧ (s.1.length : Int) ≤ s.2) (fun s => ((ks.length : Int) - s.2).toNat) (fun s hI => by
    obtain ⟨o, i⟩ := s
    obtain ⟨i0, i1, i2⟩ := hI
    simp only at i0 i1 i2 ⊢
    unfold g_assure_differing_l1
    by_cases hlt : i < (ks.length : Int)
    · rw [if_pos (by simpa using hlt), ck_pos (by omega), drop_nth (show i.toNat < ks.length by omega), diffs_cons]
      unfold diffOf
      by_cases he : (alook a (nth ks i.toNat)).getD 0 = (alook b (nth ks i.toNat)).getD 0
      · rw [if_neg (by simpa using he), if_pos he, ck_pos (by omega)]
        refine .inr ⟨_, rfl, ⟨by simp only; omega, by simp only; omega, by simp only; omega⟩, by simp only; omega, ?_⟩
        simp only
        rw [show (i + 1).toNat = i.toNat + 1 by omega]; rfl
      · rw [if_pos (by simpa using he), if_neg he, ck_pos (by simp; omega), ck_pos (by omega)]
        refine .inr ⟨_, rfl, ⟨by simp only; omega, by simp only; omega, by simp; omega⟩, by simp only; omega, ?_⟩
        simp only
        rw [show (i + 1).toNat = i.toNat + 1 by omega, List.append_assoc]
    · rw [if_neg (by simpa using hlt), List.drop_of_length_le (by omega)]
      exact .inl ⟨_, rfl, by simp [diffs]⟩) (s := ([], 0)) ⟨by simp, by simp, by simp⟩ (by simp only; omega)
  rw [this]; simp
theorem acct_inj {n m : Int} (hn : 1 ≤ n ∧ n ≤ 9999) (hm : 1 ≤ m ∧ m ≤ 9999) (h : acct n = acct m) : n = m := by
  have h' := digs_inj (n := n.toNat) (m := m.toNat) (Nat.lt_of_lt_of_le (show n.toNat < 10000 by omega) (by decide)) (Nat.lt_of_lt_of_le (show m.toNat < 10000 by omega) (by decide)) (List.append_cancel_left h)
  omega
/-- The names of the accounts of the invoices. -/
def Names (inv : List Invoice) (nm : List (List UInt8 × Int)) : Prop :=
  (∀ x, x ∈ inv → alook nm (acct x.account) = some x.account) ∧ ∀ s n, alook nm s = some n → ∃ x, x ∈ inv ∧ x.account = n ∧ s = acct n
/-- What is booked so far. -/
def Booked (inv : List Invoice) (f : List UInt8 → Int) (bk : List (Int × Int)) : Prop := ∀ x, x ∈ inv → (alook bk x.account).getD 0 = f (acct x.account)
theorem p_posts {inv : List Invoice} {nm : List (List UInt8 × Int)} {ents : List Entry} (hi : OkI inv) (he : OkE ents) (hn : Names inv nm) {f : List UInt8 → Int} {i acc : Int} {bk : List (Int × Int)} (hb : Booked inv f bk) (h0 : 0 ≤ i) (h1 : i < (ents.length : Int))
    (hacc : -1125899906842624 * (24 * i) ≤ acc ∧ acc ≤ 1125899906842624 * (24 * i)) (hf : ∀ s, -1125899906842624 * (24 * i) ≤ f s ∧ f s ≤ 1125899906842624 * (24 * i)) :
    ∃ bk', loop (fun s => f_assure_Books_l2 ents nm i s.1 s.2.1 s.2.2) (acc, 0, bk) = some (.inl (acc + sumA (nth ents i.toNat).posts, i + 1, bk')) ∧ Booked inv (fun s => f s + if (nth ents i.toNat).text = invT then balP s (nth ents i.toNat).posts else 0) bk' := by
  have hp := he.2 _ (nth_in (show i.toNat < ents.length by omega))
  have hlen := he.1
  generalize hee : nth ents i.toNat = e at hp
  have := loop_post (step := fun s => f_assure_Books_l2 ents nm i s.1 s.2.1 s.2.2) (fun r : (Int × Int × List (Int × Int)) ⊕ List Leak => ∃ bk', r = .inl (acc + sumA e.posts, i + 1, bk') ∧ Booked inv (fun s => f s + if e.text = invT then balP s e.posts else 0) bk')
    (fun s : Int × Int × List (Int × Int) => 0 ≤ s.2.1 ∧ s.2.1 ≤ (e.posts.length : Int) ∧ (-1125899906842624 * (24 * i + s.2.1) ≤ s.1 ∧ s.1 ≤ 1125899906842624 * (24 * i + s.2.1)) ∧ s.1 + sumA (e.posts.drop s.2.1.toNat) = acc + sumA e.posts ∧
      ∃ g : List UInt8 → Int, Booked inv g s.2.2 ∧ (∀ x, -1125899906842624 * (24 * i + s.2.1) ≤ g x ∧ g x ≤ 1125899906842624 * (24 * i + s.2.1)) ∧ ∀ x, g x + (if e.text = invT then balP x (e.posts.drop s.2.1.toNat) else 0) = f x + if e.text = invT then balP x e.posts else 0) (fun s => ((e.posts.length : Int) - s.2.1).toNat) (fun s hI => by
      obtain ⟨a, k, b⟩ := s
      obtain ⟨i0, i1, i2, i3, g, g1, g2, g3⟩ := hI
      simp only at i0 i1 i2 i3 g1 g2 g3 ⊢
      have hl := hp.1
      unfold f_assure_Books_l2
      rw [hee]
      by_cases hk : k < (e.posts.length : Int)
      · have ha := hp.2 _ (nth_in (show k.toNat < e.posts.length by omega))
        rw [drop_nth (show k.toNat < e.posts.length by omega)] at i3
        rw [sumA] at i3
        generalize hpp : nth e.posts k.toNat = p at *
        rw [if_pos (by simpa using hk), ck_pos (by omega), ck_pos (by omega)]
        have hk1 : (k + 1).toNat = k.toNat + 1 := by omega
        by_cases hc : (alook nm p.account).isSome ∧ e.text = invT
        · obtain ⟨n, hn1⟩ := Option.isSome_iff_exists.1 hc.1
          obtain ⟨x, hx1, hx2, hx3⟩ := hn.2 _ _ hn1
          have hbx := g1 x hx1
          rw [hx2] at hbx
          have hgx := g2 (acct n)
          rw [if_pos (by simp [hn1, hc.2, invT]), hn1, Option.getD_some, hbx, ck_pos (by omega), ck_pos (by omega)]
          refine .inr ⟨_, rfl, ⟨by simp only; omega, by simp only; omega, ⟨by simp only; omega, by simp only; omega⟩, by simp only; rw [hk1]; omega, fun y => if y = acct n then g y + p.amount else g y, ?_, ?_, ?_⟩, by simp only; omega⟩
          · intro y hy
            simp only
            rw [alook_aset]
            by_cases hyn : y.account = n
            · rw [if_pos (by simpa using hyn), hyn, if_pos rfl]; rfl
            · rw [if_neg (by simpa using hyn), if_neg (fun h => hyn (acct_inj (hi.2 y hy).2 (by have := (hi.2 x hx1).2; omega) h)), g1 y hy]
          · intro y
            have := g2 y
            simp only
            split <;> omega
          · intro y
            have h3 := g3 y
            rw [if_pos hc.2, if_pos hc.2] at h3 ⊢
            rw [drop_nth (show k.toNat < e.posts.length by omega), hpp, balP, hx3] at h3
            simp only
            rw [hk1]
            by_cases hy : y = acct n
            · rw [if_pos hy]; rw [if_pos hy.symm] at h3; omega
            · rw [if_neg hy]; rw [if_neg (fun h => hy h.symm)] at h3; omega
        · rw [if_neg (by simpa [invT] using hc), ck_pos (by omega)]
          refine .inr ⟨_, rfl, ⟨by simp only; omega, by simp only; omega, ⟨by simp only; omega, by simp only; omega⟩, by simp only; rw [hk1]; omega, ?_⟩, by simp only; omega⟩
          by_cases ht : e.text = invT
          · have hnone : alook nm p.account = none := by
              cases hq : alook nm p.account with
              | none => rfl
              | some n => exact absurd ⟨by rw [hq]; rfl, ht⟩ hc
            refine ⟨fun y => if y = p.account then g y + p.amount else g y, ?_, ?_, ?_⟩
            · intro y hy
              simp only
              rw [if_neg (fun h => by have := hn.1 y hy; rw [h, hnone] at this; cases this), g1 y hy]
            · intro y
              have := g2 y
              simp only
              split <;> omega
            · intro y
              have h3 := g3 y
              rw [if_pos ht, if_pos ht] at h3 ⊢
              rw [drop_nth (show k.toNat < e.posts.length by omega), hpp, balP] at h3
              simp only
              rw [hk1]
              by_cases hy : y = p.account
              · rw [if_pos hy]; rw [if_pos hy.symm] at h3; omega
              · rw [if_neg hy]; rw [if_neg (fun h => hy h.symm)] at h3; omega
          · refine ⟨g, g1, fun y => by have := g2 y; simp only; omega, fun y => ?_⟩
            have h3 := g3 y
            rw [if_neg ht, if_neg ht] at h3 ⊢
            exact h3
      · rw [if_neg (by simpa using hk), ck_pos (by omega)]
        rw [List.drop_of_length_le (by omega)] at i3 g3
        refine .inl ⟨_, rfl, b, ?_, ?_⟩
        · simp only [sumA, Int.add_zero] at i3; rw [i3]
        · intro x hx
          rw [g1 x hx]
          have := g3 (acct x.account)
          simpa [balP] using this) (s := (acc, 0, bk)) ⟨by simp, by simp, ⟨by simp only; omega, by simp only; omega⟩, by simp, f, hb, fun x => by have := hf x; simp only; omega, fun x => by simp⟩ (by have := hp.1; simp only; omega)
  obtain ⟨r, r1, bk', r2, r3⟩ := this
  exact ⟨bk', by rw [r1, r2], r3⟩
end Go.Proofs.Ytpdanklncjopoaa

set_option linter.unusedSimpArgs false
set_option linter.unusedVariables false
namespace Go.Proofs.Ytpdanklncjopoaa
open Go.RowKit Go.Abs
theorem bookE_split (s : List UInt8) (e : Entry) (l : List Entry) : bookE s (e :: l) = (if e.text = invT then balP s e.posts else 0) + bookE s l := rfl
theorem diffs_flat {inv : List Invoice} {ents : List Entry} {a b : List (Int × Int)} : ∀ ks : List Int, (∀ k, k ∈ ks → (alook a k).getD 0 = billI k inv ∧ (alook b k).getD 0 = bookE (acct k) ents) → diffs a b ks = flatB inv ents ks
  | [], _ => rfl
  | k :: ks, h => by
    rw [diffs_cons, flatB_cons, diffs_flat ks fun k hk => h k (List.mem_cons_of_mem _ hk)]
    have h1 := h k List.mem_cons_self
    unfold diffOf leakB
    rw [h1.1, h1.2]
theorem p_Books_j2 {inv : List Invoice} {ents : List Entry} (hi : OkI inv) {a b : List (Int × Int)} (ha : ∀ x, x ∈ inv → (alook a x.account).getD 0 = billI x.account inv) (hb : Booked inv (fun s => bookE s ents) b) :
    f_assure_Books_j2 (keysI inv []) a (sumEs ents) b = some (booksF inv ents) := by
  have hkl := keysI_len inv []
  have hil := hi.1
  simp at hkl
  have hd : diffs a b (keysI inv []) = flatB inv ents (keysI inv []) := diffs_flat _ fun k hk => by
    rcases keysI_in inv [] k hk with h | ⟨x, h1, h2⟩
    · cases h
    · rw [← h2]; exact ⟨ha x h1, hb x h1⟩
  have hfl := flatB_len inv ents (keysI inv [])
  unfold f_assure_Books_j2 booksF f_assure_Books_j3
  rw [p_differing (by omega), hd]
  simp only [Option.bind_some]
  by_cases hs : sumEs ents = 0
  · rw [if_neg (by simp [hs]), if_pos hs, ck_pos (by simp; omega)]
  · rw [if_pos (by simpa using hs), if_neg hs, ck_pos (by simp), ck_pos (by simp; omega)]; rfl
theorem p_Books_j1 {inv : List Invoice} {ents : List Entry} (hi : OkI inv) (he : OkE ents) {a : List (Int × Int)} {nm : List (List UInt8 × Int)} (ha : ∀ x, x ∈ inv → (alook a x.account).getD 0 = billI x.account inv) (hn : Names inv nm) :
    f_assure_Books_j1 ents (keysI inv []) a nm = some (booksF inv ents) := by
  unfold f_assure_Books_j1
  obtain ⟨r, h1, h2⟩ := loop_post (step := fun s => f_assure_Books_l1 ents (keysI inv []) a nm s.1 s.2.1 s.2.2) (fun r => r = booksF inv ents)
    (fun s : Int × Int × List (Int × Int) => 0 ≤ s.2.1 ∧ s.2.1 ≤ (ents.length : Int) ∧ (-1125899906842624 * (24 * s.2.1) ≤ s.1 ∧ s.1 ≤ 1125899906842624 * (24 * s.2.1)) ∧ s.1 + sumEs (ents.drop s.2.1.toNat) = sumEs ents ∧
      ∃ g : List UInt8 → Int, Booked inv g s.2.2 ∧ (∀ x, -1125899906842624 * (24 * s.2.1) ≤ g x ∧ g x ≤ 1125899906842624 * (24 * s.2.1)) ∧ ∀ x, g x + bookE x (ents.drop s.2.1.toNat) = bookE x ents) (fun s => ((ents.length : Int) - s.2.1).toNat) (fun s hI => by
      obtain ⟨acc, i, b⟩ := s
      obtain ⟨i0, i1, i2, i3, g, g1, g2, g3⟩ := hI
      simp only at i0 i1 i2 i3 g1 g2 g3 ⊢
      have hl := he.1
      unfold f_assure_Books_l1
      by_cases hk : i < (ents.length : Int)
      · have hp := he.2 _ (nth_in (show i.toNat < ents.length by omega))
        have hs := sumA_le _ hp.2
        have hpl := hp.1
        obtain ⟨b', q1, q2⟩ := p_posts hi he hn g1 i0 hk i2 g2
        rw [drop_nth (show i.toNat < ents.length by omega), sumEs] at i3
        have hk1 : (i + 1).toNat = i.toNat + 1 := by omega
        rw [if_pos (by simpa using hk), ck_pos (by omega), q1]
        refine .inr ⟨_, rfl, ⟨by simp only; omega, by simp only; omega, ⟨by simp only; omega, by simp only; omega⟩, by simp only; rw [hk1]; omega, _, q2, ?_, ?_⟩, by simp only; omega⟩
        · intro x
          have h1 := g2 x
          have h2 := balP_le x _ hp.2
          simp only
          split <;> omega
        · intro x
          have h1 := g3 x
          rw [drop_nth (show i.toNat < ents.length by omega), bookE_split] at h1
          simp only
          rw [hk1]; omega
      · rw [List.drop_of_length_le (by omega)] at i3 g3
        rw [sumEs, Int.add_zero] at i3
        have hb : Booked inv (fun s => bookE s ents) b := fun x hx => by
          have := g3 (acct x.account)
          rw [bookE, Int.add_zero] at this
          rw [g1 x hx]; exact this
        rw [if_neg (by simpa using hk), i3, p_Books_j2 hi ha hb]
        exact .inl ⟨_, rfl, rfl⟩) (s := (0, 0, [])) ⟨by simp, by simp, ⟨by simp, by simp⟩, by simp, fun _ => 0, fun x _ => by simp [alook_nil], fun x => by simp, fun x => by simp⟩ (by have := he.1; simp only; omega)
  rw [h1, h2]
theorem billI_app (k : Int) : ∀ (l m : List Invoice), billI k (l ++ m) = billI k l + billI k m
  | [], m => by simp [billI]
  | x :: l, m => by rw [List.cons_append, billI, billI, billI_app k l m, Int.add_assoc]
theorem billI_le (k : Int) : ∀ (l : List Invoice), (∀ i, i ∈ l → (-1125899906842624 ≤ i.total ∧ i.total ≤ 1125899906842624) ∧ 1 ≤ i.account ∧ i.account ≤ 9999) → -1125899906842624 * (l.length : Int) ≤ billI k l ∧ billI k l ≤ 1125899906842624 * (l.length : Int)
  | [], _ => by simp [billI]
  | p :: r, h => by
    have h1 := (h p List.mem_cons_self).1
    have h2 := billI_le k r fun q hq => h q (List.mem_cons_of_mem _ hq)
    rw [billI, List.length_cons]
    split <;> omega
theorem p_Books {inv : List Invoice} {ents : List Entry} (hi : OkI inv) (he : OkE ents) : f_assure_Books inv ents = some (booksF inv ents) := by
  unfold f_assure_Books
  obtain ⟨r, h1, h2⟩ := loop_post (step := fun s => f_assure_Books_l3 inv ents s.1 s.2.1 s.2.2.1 s.2.2.2) (fun r => r = booksF inv ents)
    (fun s : List Int × Int × List (Int × Int) × List (List UInt8 × Int) => 0 ≤ s.2.1 ∧ s.2.1 ≤ (inv.length : Int) ∧ Asc s.1 ∧ (s.1.length : Int) ≤ s.2.1 ∧ keysI (inv.drop s.2.1.toNat) s.1 = keysI inv [] ∧ (∀ k, (alook s.2.2.1 k).getD 0 = billI k (inv.take s.2.1.toNat)) ∧ Names (inv.take s.2.1.toNat) s.2.2.2) (fun s => ((inv.length : Int) - s.2.1).toNat) (fun s hI => by
      obtain ⟨ks, i, a, nm⟩ := s
      obtain ⟨i0, i1, i2, i3, i4, i5, i6⟩ := hI
      simp only at i0 i1 i2 i3 i4 i5 i6 ⊢
      have hl := hi.1
      unfold f_assure_Books_l3
      by_cases hk : i < (inv.length : Int)
      · have hx := hi.2 _ (nth_in (show i.toNat < inv.length by omega))
        have hk1 : (i + 1).toNat = i.toNat + 1 := by omega
        have htk : inv.take (i.toNat + 1) = inv.take i.toNat ++ [nth inv i.toNat] := by rw [nth_eq (show i.toNat < inv.length by omega), List.take_append_getElem]
        rw [drop_nth (show i.toNat < inv.length by omega), keysI_cons] at i4
        have hbl := billI_le (nth inv i.toNat).account (inv.take i.toNat) (fun x hx => hi.2 x (List.mem_of_mem_take hx))
        have htl : (inv.take i.toNat).length ≤ 24 := by simp; omega
        have hdl : (digs (nth inv i.toNat).account.toNat).length ≤ 20 := digs_len 20 _
        rw [if_pos (by simpa using hk), ck_pos (by omega), p_keys (by omega) i2, Option.bind_some, p_decimal (by omega) (by omega), Option.bind_some, ck_pos (by simp; omega), i5, ck_pos (by omega), ck_pos (by omega)]
        have := insK_len ks (nth inv i.toNat).account
        refine .inr ⟨_, rfl, ⟨by simp only; omega, by simp only; omega, insK_asc i2, by simp only; omega, by simp only; rw [hk1]; exact i4, ?_, ?_⟩, by simp only; omega⟩
        · intro k
          simp only
          rw [alook_aset, hk1, htk, billI_app, billI, billI, Int.add_zero]
          by_cases hkk : k = (nth inv i.toNat).account
          · rw [if_pos (by simpa using hkk), if_pos hkk.symm, hkk]; rfl
          · rw [if_neg (by simpa using hkk), if_neg (fun h => hkk h.symm), i5]; omega
        · simp only
          rw [hk1, htk]
          show Names _ (aset nm (acct (nth inv i.toNat).account) (nth inv i.toNat).account)
          constructor
          · intro x hx'
            rw [alook_aset]
            rcases List.mem_append.1 hx' with h | h
            · by_cases hsame : acct x.account = acct (nth inv i.toNat).account
              · have := acct_inj (hi.2 x (List.mem_of_mem_take h)).2 hx.2 hsame
                rw [if_pos (by simpa using hsame), this]
              · rw [if_neg (by simpa using hsame)]; exact i6.1 x h
            · rw [List.mem_singleton] at h
              subst h
              rw [if_pos (by simp)]
          · intro s n hsn
            rw [alook_aset] at hsn
            by_cases hs : s = acct (nth inv i.toNat).account
            · rw [if_pos (by simpa using hs)] at hsn
              cases hsn
              exact ⟨_, List.mem_append_right _ (List.mem_singleton.2 rfl), rfl, hs⟩
            · rw [if_neg (by simpa using hs)] at hsn
              obtain ⟨x, x1, x2⟩ := i6.2 s n hsn
              exact ⟨x, List.mem_append_left _ x1, x2⟩
      · rw [List.drop_of_length_le (by omega)] at i4
        rw [List.take_of_length_le (by omega)] at i5 i6
        have e : ks = keysI inv [] := i4
        rw [if_neg (by simpa using hk), e, p_Books_j1 hi he (fun x _ => i5 x.account) i6]
        exact .inl ⟨_, rfl, rfl⟩) (s := ([], 0, [], [])) ⟨by simp, by simp, asc_nil, by simp, by simp, fun k => by simp [alook_nil, billI], ⟨by simp, by simp [alook_nil]⟩⟩ (by have := hi.1; simp only; omega)
  rw [h1, h2]
theorem awake_true : f_billinglaw54_awake = some true := by kernel_rfl
end Go.Proofs.Ytpdanklncjopoaa

set_option linter.unusedSimpArgs false
set_option linter.unusedVariables false
namespace Go.Proofs.Ytpdanklncjopoaa
open Go.RowKit Go.Abs
theorem p_CloneAll {l : List Entry} (h : OkE l) : f_billingref47_CloneAll l = some l := by
  unfold f_billingref47_CloneAll
  have := loop_spec (step := fun s => f_billingref47_CloneAll_l1 l s.1 s.2) (fun s : List Entry × Int => some (s.1 ++ l.drop s.2.toNat)) (fun s => 0 ≤ s.2 ∧ s.2 ≤ (l.length : Int) ∧ (s.1.length : Int) ≤ s.2) (fun s => ((l.length : Int) - s.2).toNat) (fun s hI => by
    obtain ⟨o, i⟩ := s
    obtain ⟨i0, i1, i2⟩ := hI
    simp only at i0 i1 i2 ⊢
    have hl := h.1
    unfold f_billingref47_CloneAll_l1
    by_cases hk : i < (l.length : Int)
    · have hp := (h.2 _ (nth_in (show i.toNat < l.length by omega))).1
      rw [if_pos (by simpa using hk), ck_pos (by omega)]
      unfold f_billingref47_Clone
      rw [ck_pos (by omega), Option.bind_some, ck_pos (by simp; omega), ck_pos (by omega), drop_nth (show i.toNat < l.length by omega)]
      refine .inr ⟨_, rfl, ⟨by simp only; omega, by simp only; omega, by simp; omega⟩, by simp only; omega, ?_⟩
      simp only
      rw [show (i + 1).toNat = i.toNat + 1 by omega]; simp
    · rw [if_neg (by simpa using hk), List.drop_of_length_le (by omega)]
      exact .inl ⟨_, rfl, by simp⟩) (s := ([], 0)) ⟨by simp, by simp, by simp⟩ (by have := h.1; simp only; omega)
  rw [this]; simp
theorem Leak.eq_refl (r : Leak) : eqVs r.vals r.vals = true := by simp [Leak.vals, eqVs, eqV]
theorem p_Same (a : List Leak) (hl : a.length ≤ 100000) : f_billingref54_Same a a = some true := by
  unfold f_billingref54_Same
  rw [if_neg (by simp)]
  obtain ⟨r, h1, h2⟩ := loop_post (step := fun i => f_billingref54_Same_l1 a a i) (fun r => r = true) (fun i : Int => 0 ≤ i ∧ i ≤ (a.length : Int)) (fun i => ((a.length : Int) - i).toNat) (fun i hI => by
    unfold f_billingref54_Same_l1
    by_cases hk : i < (a.length : Int)
    · rw [if_pos (by simpa using hk), ck_pos (by omega), ck_pos (by omega), if_neg (by rw [Leak.eq_refl]; simp), ck_pos (by omega)]
      exact .inr ⟨_, rfl, by omega, by omega⟩
    · rw [if_neg (by simpa using hk)]
      exact .inl ⟨_, rfl, rfl⟩) (s := 0) ⟨by omega, by omega⟩ (by omega)
  rw [h1, h2]
theorem books_j2 {inv : List Invoice} {ents : List Entry} (hi : OkI inv) (he : OkE ents) : f_billinglaw54_AssureBooks_j2 inv ents = some true := by
  have hkl := keysI_len inv []
  have hfl := flatB_len inv ents (keysI inv [])
  have hil := hi.1
  have hbl : (booksF inv ents).length ≤ 100000 := by
    unfold booksF
    rw [List.length_append]
    simp at hkl
    split <;> simp <;> omega
  unfold f_billinglaw54_AssureBooks_j2
  rw [ck_pos (by omega), p_CloneAll he, Option.bind_some, p_Books hi he, Option.bind_some, p_rBooks hi he, Option.bind_some, p_Same _ hbl, awake_true]
  rfl
theorem books_l2 {ents : List Entry} {i : Int} (hl : ents.length ≤ 24) (h0 : 0 ≤ i) (h1 : i < (ents.length : Int)) (hp : (nth ents i.toNat).posts.length ≤ 24) :
    ∃ r, loop (fun s => f_billinglaw54_AssureBooks_l2 ents i s) 0 = some r ∧ (r = .inr true ∨ (r = .inl (i + 1) ∧ OkP (nth ents i.toNat).posts)) := by
  generalize hee : nth ents i.toNat = e at hp
  refine loop_post (step := fun k => f_billinglaw54_AssureBooks_l2 ents i k) (fun r => r = .inr true ∨ (r = .inl (i + 1) ∧ OkP e.posts)) (fun k : Int => 0 ≤ k ∧ k ≤ (e.posts.length : Int) ∧ ∀ p, p ∈ e.posts.take k.toNat → -1125899906842624 ≤ p.amount ∧ p.amount ≤ 1125899906842624) (fun k => ((e.posts.length : Int) - k).toNat) (fun k hI => ?_) ⟨by omega, by omega, by simp⟩ (by omega)
  obtain ⟨k0, k1, k2⟩ := hI
  unfold f_billinglaw54_AssureBooks_l2
  rw [hee, ck_pos (by omega)]
  by_cases hk : k < (e.posts.length : Int)
  · rw [if_pos (by simpa using hk), ck_pos (by omega), ck_pos (by omega)]
    by_cases hb : (nth e.posts k.toNat).amount < -1125899906842624 ∨ (nth e.posts k.toNat).amount > 1125899906842624
    · rw [if_pos (by simpa using hb), awake_true]
      exact .inl ⟨_, rfl, .inl rfl⟩
    · rw [if_neg (by simpa using hb), ck_pos (by omega)]
      refine .inr ⟨_, rfl, ⟨by omega, by omega, ?_⟩, by omega⟩
      rw [show (k + 1).toNat = k.toNat + 1 by omega]
      have htk : e.posts.take (k.toNat + 1) = e.posts.take k.toNat ++ [nth e.posts k.toNat] := by rw [nth_eq (show k.toNat < e.posts.length by omega), List.take_append_getElem]
      rw [htk]
      intro p hp'
      rcases List.mem_append.1 hp' with h | h
      · exact k2 p h
      · rw [List.mem_singleton] at h; subst h; omega
  · rw [if_neg (by simpa using hk), ck_pos (by omega)]
    rw [List.take_of_length_le (by omega)] at k2
    exact .inl ⟨_, rfl, .inr ⟨rfl, hp, k2⟩⟩
theorem books_j1 {inv : List Invoice} {ents : List Entry} (hi : OkI inv) (hl : ents.length ≤ 24) : f_billinglaw54_AssureBooks_j1 inv ents = some true := by
  unfold f_billinglaw54_AssureBooks_j1
  obtain ⟨r, h1, h2⟩ := loop_post (step := fun i => f_billinglaw54_AssureBooks_l1 inv ents i) (fun r => r = true) (fun i : Int => 0 ≤ i ∧ i ≤ (ents.length : Int) ∧ ∀ e, e ∈ ents.take i.toNat → OkP e.posts) (fun i => ((ents.length : Int) - i).toNat) (fun i hI => by
    obtain ⟨i0, i1, i2⟩ := hI
    unfold f_billinglaw54_AssureBooks_l1
    by_cases hk : i < (ents.length : Int)
    · rw [if_pos (by simpa using hk), ck_pos (by omega)]
      by_cases hp : ((nth ents i.toNat).posts.length : Int) > 24
      · rw [if_pos (by simpa using hp), awake_true]
        exact .inl ⟨_, rfl, rfl⟩
      · rw [if_neg (by simpa using hp)]
        obtain ⟨r, q1, q2⟩ := books_l2 hl i0 hk (by omega)
        rw [q1]
        rcases q2 with rfl | ⟨rfl, q3⟩
        · exact .inl ⟨_, rfl, rfl⟩
        · refine .inr ⟨_, rfl, ⟨by omega, by omega, ?_⟩, by omega⟩
          rw [show (i + 1).toNat = i.toNat + 1 by omega]
          have htk : ents.take (i.toNat + 1) = ents.take i.toNat ++ [nth ents i.toNat] := by rw [nth_eq (show i.toNat < ents.length by omega), List.take_append_getElem]
          rw [htk]
          intro e he
          rcases List.mem_append.1 he with h | h
          · exact i2 e h
          · rw [List.mem_singleton] at h; subst h; exact q3
    · rw [if_neg (by simpa using hk)]
      rw [List.take_of_length_le (by omega)] at i2
      rw [books_j2 hi ⟨hl, i2⟩]
      exact .inl ⟨_, rfl, rfl⟩) (s := 0) ⟨by omega, by omega, by simp⟩ (by omega)
  rw [h1, h2]
theorem books_true (inv : List Invoice) (ents : List Entry) : f_billinglaw54_AssureBooks inv ents = some true := by
  unfold f_billinglaw54_AssureBooks
  rw [awake_true]
  by_cases h : (inv.length : Int) > 24 ∨ (ents.length : Int) > 24
  · rw [if_pos (by simpa using h)]; rfl
  · rw [if_neg (by simpa using h)]
    obtain ⟨r, h1, h2⟩ := loop_post (step := fun i => f_billinglaw54_AssureBooks_l3 inv ents i) (fun r => r = true) (fun i : Int => 0 ≤ i ∧ i ≤ (inv.length : Int) ∧ ∀ x, x ∈ inv.take i.toNat → (-1125899906842624 ≤ x.total ∧ x.total ≤ 1125899906842624) ∧ 1 ≤ x.account ∧ x.account ≤ 9999) (fun i => ((inv.length : Int) - i).toNat) (fun i hI => by
      obtain ⟨i0, i1, i2⟩ := hI
      unfold f_billinglaw54_AssureBooks_l3
      by_cases hk : i < (inv.length : Int)
      · rw [if_pos (by simpa using hk), ck_pos (by omega), ck_pos (by intro _; omega), ck_pos (by intro _; omega), ck_pos (by intro _; omega)]
        by_cases hp : (((nth inv i.toNat).total < -1125899906842624 ∨ (nth inv i.toNat).total > 1125899906842624) ∨ (nth inv i.toNat).account < 1) ∨ (nth inv i.toNat).account > 9999
        · rw [if_pos (by simpa using hp), awake_true]
          exact .inl ⟨_, rfl, rfl⟩
        · rw [if_neg (by simpa using hp), ck_pos (by omega)]
          refine .inr ⟨_, rfl, ⟨by omega, by omega, ?_⟩, by omega⟩
          rw [show (i + 1).toNat = i.toNat + 1 by omega]
          have htk : inv.take (i.toNat + 1) = inv.take i.toNat ++ [nth inv i.toNat] := by rw [nth_eq (show i.toNat < inv.length by omega), List.take_append_getElem]
          rw [htk]
          intro e he
          rcases List.mem_append.1 he with h | h
          · exact i2 e h
          · rw [List.mem_singleton] at h; subst h; omega
      · rw [if_neg (by simpa using hk)]
        rw [List.take_of_length_le (by omega)] at i2
        rw [books_j1 ⟨by omega, i2⟩ (by omega)]
        exact .inl ⟨_, rfl, rfl⟩) (s := 0) ⟨by omega, by omega, by simp⟩ (by omega)
    rw [h1, h2]
end Go.Proofs.Ytpdanklncjopoaa
