import Derived.Test.YtpdanklncjopoaaLW1
import Derived.Test.YtpdanklncjopoaaLF
set_option linter.unusedSimpArgs false
set_option linter.unusedVariables false
namespace Go.Proofs.Ytpdanklncjopoaa
open Go.RowKit Go.Abs
set_option maxRecDepth 100000 in
set_option maxHeartbeats 1000000 in
theorem c_f_billingref47_Receivable {v0account : Int} {r : (List UInt8)} (H : f_billingref47_Receivable v0account = some r) : ACall Try.prog 44 [cI v0account] (· = cS r) := by
  refine ACall.enter' Try.func44 rfl Try.ntmps44 rfl fun S hS => ?_
  unfold f_billingref47_Receivable at H
  change ARun _ _ _ _ _ _ [(0, .d (cI v0account))] _
  refine .seq ?_
  refine .region ?_
  refine .q (x := .d (cS ([] : List UInt8))) (q_assign rfl) rfl ?_
  refine .nil ?_
  refine .seq ?_
  refine .region ?_
  refine .q (x := .d (cI v0account)) (q_move rfl) rfl ?_
  obtain ⟨y1, hy1, H⟩ := bind_some' H
  refine .g (x := .d (cS y1)) (g_call en_41 rfl rfl (c_f_billingref01_Int (hy1))) rfl ?_
  obtain ⟨hk1, H⟩ := ck_some H
  refine .q (x := .d (cS (([114, 101, 99, 101, 105, 118, 97, 98, 108, 101, 58] : List UInt8) ++ y1))) (q_sadd rfl rfl hk1) rfl ?_
  refine .q (x := .d (cS (([114, 101, 99, 101, 105, 118, 97, 98, 108, 101, 58] : List UInt8) ++ y1))) (q_assign rfl) rfl ?_
  refine .nil ?_
  refine .retN [.tmp 2] [.d (cS (([114, 101, 99, 101, 105, 118, 97, 98, 108, 101, 58] : List UInt8) ++ y1))] Try.func44 Try.results44 ⟨rfl, trivial⟩ ?_
  cases H
  exact ⟨_, .rfl' _, rfl⟩

set_option maxRecDepth 100000 in
set_option maxHeartbeats 1000000 in
theorem c_f_billingref47_Balance {v0list : List Entry} {v1account : List UInt8} {r : Int} (H : f_billingref47_Balance v0list v1account = some r) : ACall Try.prog 43 [slOf 3 Entry.row v0list, cS v1account] (· = cI r) := by
  obtain ⟨i78, hi78, hz78, hs78, hb78⟩ := in_78
  obtain ⟨i80, hi80, hz80, hs80, hb80⟩ := in_80
  refine ACall.enter' Try.func43 rfl Try.ntmps43 rfl fun S hS => ?_
  unfold f_billingref47_Balance at H
  change ARun _ _ _ _ _ _ [(0, .d (slOf 3 Entry.row v0list)), (1, .d (cS v1account))] _
  refine .seq ?_
  refine .region ?_
  refine .q (x := .d (cI 0)) (q_assign rfl) rfl ?_
  refine .nil ?_
  refine .seq ?_
  refine .region ?_
  refine .q (x := .d (cI 0)) (q_assign rfl) rfl ?_
  refine .nil ?_
  refine .seq ?_
  refine .seq ?_
  refine .region ?_
  refine .q (x := .d (cI 0)) (q_assign rfl) rfl ?_
  refine .nil ?_
  refine .block ?_
  obtain ⟨n1, H⟩ := loop_some H
  refine .loop (ι := Nat × (Int × Int)) (fun p => [(0, .d (slOf 3 Entry.row v0list)), (1, .d (cS v1account)), (5, .d (cI p.2.1)), (6, .d (cI p.2.2))]) (fun p => ⟨[], []⟩) (fun p => iter (fun s => f_billingref47_Balance_l1 v0list v1account s.1 s.2) p.1 p.2 = some r) (·.1) (n1, (0, 0)) H (.cons rfl (.rfl' _) (.cons rfl (.rfl' _) (.cons rfl (.rfl' _) (.cons rfl (.rfl' _) (.nil))))) rfl ?_
  rintro ⟨m1, v5suml1, v6il1⟩ HI ih1
  obtain ⟨n1, q1, hm1, H, HK1⟩ := iter_succ HI
  clear HI
  replace H : f_billingref47_Balance_l1 v0list v1account v5suml1 v6il1 = some q1 := H
  unfold f_billingref47_Balance_l1 at H
  change ARun _ _ _ _ _ _ [(0, .d (slOf 3 Entry.row v0list)), (1, .d (cS v1account)), (5, .d (cI v5suml1)), (6, .d (cI v6il1))] ⟨[], []⟩
  refine .seq ?_
  refine .seq ?_
  refine .region ?_
  refine .q (x := .d (cI v6il1)) (q_move rfl) rfl ?_
  refine .q (x := .d (slOf 3 Entry.row v0list)) (q_move rfl) rfl ?_
  refine .q (x := .d (cI (v0list.length : Int))) (q_lenL (l := v0list) (row := Entry.row) Try.underlying70 rfl rfl) rfl ?_
  refine .q (x := .d (cB (decide (v6il1 < (v0list.length : Int))))) (q_lss rfl rfl) rfl ?_
  refine .nil ?_
  refine .cond rfl (fun hc => ?_) (fun hc => ?_)
  · replace H := ifT hc H; clear hc
    refine .skip ?_
    refine .seq ?_
    refine .block ?_
    refine .seq ?_
    refine .region ?_
    refine .q (x := .d (cI 0)) (q_assign rfl) rfl ?_
    refine .nil ?_
    refine .block ?_
    obtain ⟨n2, H⟩ := loop_some H
    refine .loop (ι := Nat × (Int × Int)) (fun p => [(0, .d (slOf 3 Entry.row v0list)), (1, .d (cS v1account)), (5, .d (cI p.2.1)), (6, .d (cI v6il1)), (7, .d (cI p.2.2))]) (fun p => ⟨[], []⟩) (fun p => iter (fun s => f_billingref47_Balance_l2 v0list v1account v6il1 s.1 s.2) p.1 p.2 = some q1) (·.1) (n2, (v5suml1, 0)) H (.cons rfl (.rfl' _) (.cons rfl (.rfl' _) (.cons rfl (.rfl' _) (.cons rfl (.rfl' _) (.cons rfl (.rfl' _) (.nil)))))) rfl ?_
    rintro ⟨m2, v5suml2, v7kl2⟩ HI ih2
    obtain ⟨n2, q2, hm2, H, HK2⟩ := iter_succ HI
    clear HI
    replace H : f_billingref47_Balance_l2 v0list v1account v6il1 v5suml2 v7kl2 = some q2 := H
    unfold f_billingref47_Balance_l2 at H
    change ARun _ _ _ _ _ _ [(0, .d (slOf 3 Entry.row v0list)), (1, .d (cS v1account)), (5, .d (cI v5suml2)), (6, .d (cI v6il1)), (7, .d (cI v7kl2))] ⟨[], []⟩
    refine .seq ?_
    refine .seq ?_
    refine .region ?_
    refine .q (x := .d (cI v7kl2)) (q_move rfl) rfl ?_
    refine .q (x := .d (slOf 3 Entry.row v0list)) (q_move rfl) rfl ?_
    refine .q (x := .d (cI v6il1)) (q_move rfl) rfl ?_
    obtain ⟨hk1, H⟩ := ck_some H
    refine .q (x := .d (.ro (Entry.row (nth v0list (Int.toNat (v6il1)))))) (q_idxL (row := Entry.row) (l := v0list) (i := v6il1) Try.underlying70 hi78 hs78 rfl rfl rfl hk1) rfl ?_
    refine .q (x := .d (.ro ((Entry.row (nth v0list (Int.toNat (v6il1)))).drop 2))) (q_fieldRo fo_78_2 rfl) rfl ?_
    refine .q (x := .d (slOf 2 Post.row ((nth v0list (Int.toNat (v6il1))).posts))) (q_load one_76 rfl) rfl ?_
    refine .q (x := .d (cI (((nth v0list (Int.toNat (v6il1))).posts).length : Int))) (q_lenL (l := (nth v0list (Int.toNat (v6il1))).posts) (row := Post.row) Try.underlying76 rfl rfl) rfl ?_
    refine .q (x := .d (cB (decide (v7kl2 < (((nth v0list (Int.toNat (v6il1))).posts).length : Int))))) (q_lss rfl rfl) rfl ?_
    refine .nil ?_
    refine .cond rfl (fun hc => ?_) (fun hc => ?_)
    · replace H := ifT hc H; clear hc
      refine .skip ?_
      refine .seq ?_
      refine .block ?_
      refine .seq ?_
      refine .region ?_
      refine .q (x := .d (slOf 3 Entry.row v0list)) (q_move rfl) rfl ?_
      refine .q (x := .d (cI v6il1)) (q_move rfl) rfl ?_
      obtain ⟨hk2, H⟩ := ck_some H
      refine .q (x := .d (.ro (Entry.row (nth v0list (Int.toNat (v6il1)))))) (q_idxL (row := Entry.row) (l := v0list) (i := v6il1) Try.underlying70 hi78 hs78 rfl rfl rfl hk2) rfl ?_
      refine .q (x := .d (.ro ((Entry.row (nth v0list (Int.toNat (v6il1)))).drop 2))) (q_fieldRo fo_78_2 rfl) rfl ?_
      refine .q (x := .d (slOf 2 Post.row ((nth v0list (Int.toNat (v6il1))).posts))) (q_load one_76 rfl) rfl ?_
      refine .q (x := .d (cI v7kl2)) (q_move rfl) rfl ?_
      obtain ⟨hk3, H⟩ := ck_some H
      refine .q (x := .d (.ro (Post.row (nth ((nth v0list (Int.toNat (v6il1))).posts) (Int.toNat (v7kl2)))))) (q_idxL (row := Post.row) (l := (nth v0list (Int.toNat (v6il1))).posts) (i := v7kl2) Try.underlying76 hi80 hs80 rfl rfl rfl hk3) rfl ?_
      refine .q (x := .d (.ro (Post.row (nth ((nth v0list (Int.toNat (v6il1))).posts) (Int.toNat (v7kl2)))))) (q_fieldRo fo_80_0 rfl) rfl ?_
      refine .q (x := .d (cS ((nth ((nth v0list (Int.toNat (v6il1))).posts) (Int.toNat (v7kl2))).account))) (q_load one_9 rfl) rfl ?_
      refine .q (x := .d (cS v1account)) (q_move rfl) rfl ?_
      refine .q (x := .d (cB (((nth ((nth v0list (Int.toNat (v6il1))).posts) (Int.toNat (v7kl2))).account) == v1account))) (q_seql rfl rfl) rfl ?_
      refine .nil ?_
      refine .cond rfl (fun hc => ?_) (fun hc => ?_)
      · replace H := ifT hc H; clear hc
        refine .region ?_
        refine .q (x := .d (cI v5suml2)) (q_move rfl) rfl ?_
        refine .q (x := .d (slOf 3 Entry.row v0list)) (q_move rfl) rfl ?_
        refine .q (x := .d (cI v6il1)) (q_move rfl) rfl ?_
        obtain ⟨hk4, H⟩ := ck_some H
        refine .q (x := .d (.ro (Entry.row (nth v0list (Int.toNat (v6il1)))))) (q_idxL (row := Entry.row) (l := v0list) (i := v6il1) Try.underlying70 hi78 hs78 rfl rfl rfl hk4) rfl ?_
        refine .q (x := .d (.ro ((Entry.row (nth v0list (Int.toNat (v6il1)))).drop 2))) (q_fieldRo fo_78_2 rfl) rfl ?_
        refine .q (x := .d (slOf 2 Post.row ((nth v0list (Int.toNat (v6il1))).posts))) (q_load one_76 rfl) rfl ?_
        refine .q (x := .d (cI v7kl2)) (q_move rfl) rfl ?_
        obtain ⟨hk5, H⟩ := ck_some H
        refine .q (x := .d (.ro (Post.row (nth ((nth v0list (Int.toNat (v6il1))).posts) (Int.toNat (v7kl2)))))) (q_idxL (row := Post.row) (l := (nth v0list (Int.toNat (v6il1))).posts) (i := v7kl2) Try.underlying76 hi80 hs80 rfl rfl rfl hk5) rfl ?_
        refine .q (x := .d (.ro ((Post.row (nth ((nth v0list (Int.toNat (v6il1))).posts) (Int.toNat (v7kl2)))).drop 1))) (q_fieldRo fo_80_1 rfl) rfl ?_
        refine .q (x := .d (cI ((nth ((nth v0list (Int.toNat (v6il1))).posts) (Int.toNat (v7kl2))).amount))) (q_load one_3 rfl) rfl ?_
        obtain ⟨hk6, H⟩ := ck_some H
        refine .q (x := .d (cI (v5suml2 + ((nth ((nth v0list (Int.toNat (v6il1))).posts) (Int.toNat (v7kl2))).amount)))) (q_addI rfl rfl hk6.1 hk6.2) rfl ?_
        refine .q (x := .d (cI (v5suml2 + ((nth ((nth v0list (Int.toNat (v6il1))).posts) (Int.toNat (v7kl2))).amount)))) (q_assign rfl) rfl ?_
        refine .nil ?_
        refine .inBlock ?_
        refine .region ?_
        refine .q (x := .d (cI v7kl2)) (q_move rfl) rfl ?_
        obtain ⟨hk7, H⟩ := ck_some H
        refine .q (x := .d (cI (v7kl2 + 1))) (q_addI rfl rfl hk7.1 hk7.2) rfl ?_
        refine .q (x := .d (cI (v7kl2 + 1))) (q_assign rfl) rfl ?_
        refine .nil ?_
        cases H
        exact .sub (.cons rfl (.rfl' _) (.cons rfl (.rfl' _) (.cons rfl (.rfl' _) (.cons rfl (.rfl' _) (.cons rfl (.rfl' _) (.nil)))))) (ih2 (n2, (v5suml2 + ((nth ((nth v0list (Int.toNat (v6il1))).posts) (Int.toNat (v7kl2))).amount), v7kl2 + 1)) HK2 hm2)
      · replace H := ifF hc H; clear hc
        refine .skip ?_
        refine .inBlock ?_
        refine .region ?_
        refine .q (x := .d (cI v7kl2)) (q_move rfl) rfl ?_
        obtain ⟨hk8, H⟩ := ck_some H
        refine .q (x := .d (cI (v7kl2 + 1))) (q_addI rfl rfl hk8.1 hk8.2) rfl ?_
        refine .q (x := .d (cI (v7kl2 + 1))) (q_assign rfl) rfl ?_
        refine .nil ?_
        cases H
        exact .sub (.cons rfl (.rfl' _) (.cons rfl (.rfl' _) (.cons rfl (.rfl' _) (.cons rfl (.rfl' _) (.cons rfl (.rfl' _) (.nil)))))) (ih2 (n2, (v5suml2, v7kl2 + 1)) HK2 hm2)
    · replace H := ifF hc H; clear hc
      refine .exit rfl ?_
      refine .inBlock ?_
      refine .region ?_
      refine .q (x := .d (cI v6il1)) (q_move rfl) rfl ?_
      obtain ⟨hk9, H⟩ := ck_some H
      refine .q (x := .d (cI (v6il1 + 1))) (q_addI rfl rfl hk9.1 hk9.2) rfl ?_
      refine .q (x := .d (cI (v6il1 + 1))) (q_assign rfl) rfl ?_
      refine .nil ?_
      cases H
      cases HK2
      exact .sub (.cons rfl (.rfl' _) (.cons rfl (.rfl' _) (.cons rfl (.rfl' _) (.cons rfl (.rfl' _) (.nil))))) (ih1 (n1, (v5suml2, v6il1 + 1)) HK1 hm1)
  · replace H := ifF hc H; clear hc
    refine .exit rfl ?_
    refine .seq ?_
    refine .region ?_
    refine .q (x := .d (cI v5suml1)) (q_move rfl) rfl ?_
    refine .q (x := .d (cI v5suml1)) (q_assign rfl) rfl ?_
    refine .nil ?_
    refine .retN [.tmp 4] [.d (cI v5suml1)] Try.func43 Try.results43 ⟨rfl, trivial⟩ ?_
    cases H
    cases HK1
    exact ⟨_, .rfl' _, rfl⟩

set_option maxRecDepth 100000 in
set_option maxHeartbeats 1000000 in
theorem c_f_billingref54_Books {v0 : List Invoice} {v1 : List Entry} {r : (List Leak)} (H : f_billingref54_Books v0 v1 = some r) : ACall Try.prog 27 [slOf 8 Invoice.row v0, slOf 3 Entry.row v1] (· = slOf 4 Leak.row r) := by
  obtain ⟨i3, hi3, hz3, hs3, hb3⟩ := in_3
  obtain ⟨i60, hi60, hz60, hs60, hb60⟩ := in_60
  obtain ⟨i75, hi75, hz75, hs75, hb75⟩ := in_75
  obtain ⟨i78, hi78, hz78, hs78, hb78⟩ := in_78
  obtain ⟨i80, hi80, hz80, hs80, hb80⟩ := in_80
  refine ACall.enter' Try.func27 rfl Try.ntmps27 rfl fun S hS => ?_
  unfold f_billingref54_Books at H
  change ARun _ _ _ _ _ _ [(0, .d (slOf 8 Invoice.row v0)), (1, .d (slOf 3 Entry.row v1))] _
  refine .seq ?_
  refine .region ?_
  refine .q (x := .d (nilD)) (q_assign rfl) rfl ?_
  refine .nil ?_
  refine .seq ?_
  refine .region ?_
  refine .v (x := .tsl 4 (([] : List Leak).map Leak.row) 0) (v_build0T Try.underlying42 hi60 hs60) rfl ?_
  refine .withSt (st' := ⟨[], [⟨60, 4, ([] : List Leak).length, none⟩]⟩) rfl ?_
  refine .q (x := .tsl 4 (([] : List Leak).map Leak.row) 0) (q_assign rfl) rfl ?_
  refine .nil ?_
  refine .seq ?_
  refine .region ?_
  refine .q (x := .d (cI 0)) (q_assign rfl) rfl ?_
  refine .nil ?_
  refine .seq ?_
  refine .seq ?_
  refine .region ?_
  refine .q (x := .d (cI 0)) (q_assign rfl) rfl ?_
  refine .nil ?_
  refine .blockJoin2 (ι := Int) (fun s => [(0, .d (slOf 8 Invoice.row v0)), (1, .d (slOf 3 Entry.row v1)), (5, .tsl 4 (([] : List Leak).map Leak.row) 0), (6, .d (cI s))]) (fun s => ⟨[], [⟨60, 4, ([] : List Leak).length, none⟩]⟩) (fun s => f_billingref54_Books_j1 v0 v1 s = some r) ?_ ?_
  · rintro v6j1 H
    replace H : f_billingref54_Books_j1 v0 v1 v6j1 = some r := H
    unfold f_billingref54_Books_j1 at H
    change ARun _ _ _ _ _ _ [(0, .d (slOf 8 Invoice.row v0)), (1, .d (slOf 3 Entry.row v1)), (5, .tsl 4 (([] : List Leak).map Leak.row) 0), (6, .d (cI v6j1))] ⟨[], [⟨60, 4, ([] : List Leak).length, none⟩]⟩
    refine .seqJoin (ι := List Leak) (fun s => [(0, .d (slOf 8 Invoice.row v0)), (1, .d (slOf 3 Entry.row v1)), (5, .tsl 4 (s.map Leak.row) 0)]) (fun s => ⟨[], [⟨60, 4, s.length, none⟩]⟩) (fun s => f_billingref54_Books_j2 v0 v1 s = some r) ?_ ?_
    · rintro v5j2 H
      replace H : f_billingref54_Books_j2 v0 v1 v5j2 = some r := H
      unfold f_billingref54_Books_j2 at H
      change ARun _ _ _ _ _ _ [(0, .d (slOf 8 Invoice.row v0)), (1, .d (slOf 3 Entry.row v1)), (5, .tsl 4 (v5j2.map Leak.row) 0)] ⟨[], [⟨60, 4, v5j2.length, none⟩]⟩
      refine .seq ?_
      refine .region ?_
      refine .g (x := .d (.e0 1)) ((hs3 ▸ g_buildSlice0 Try.underlying100 hi3)) rfl ?_
      refine .q (x := .d (.e0 1)) (q_assign rfl) rfl ?_
      refine .nil ?_
      refine .seq ?_
      refine .seq ?_
      refine .region ?_
      refine .q (x := .d (cI 0)) (q_assign rfl) rfl ?_
      refine .nil ?_
      refine .blockJoin2 (ι := List Int) (fun s => [(0, .d (slOf 8 Invoice.row v0)), (1, .d (slOf 3 Entry.row v1)), (5, .tsl 4 (v5j2.map Leak.row) 0), (9, .d (slOf 1 rI s))]) (fun s => ⟨[], [⟨60, 4, v5j2.length, none⟩]⟩) (fun s => f_billingref54_Books_j3 v0 v1 v5j2 s = some r) ?_ ?_
      · rintro v9j3 H
        replace H : f_billingref54_Books_j3 v0 v1 v5j2 v9j3 = some r := H
        unfold f_billingref54_Books_j3 at H
        change ARun _ _ _ _ _ _ [(0, .d (slOf 8 Invoice.row v0)), (1, .d (slOf 3 Entry.row v1)), (5, .tsl 4 (v5j2.map Leak.row) 0), (9, .d (slOf 1 rI v9j3))] ⟨[], [⟨60, 4, v5j2.length, none⟩]⟩
        refine .seq ?_
        refine .seq ?_
        refine .region ?_
        refine .q (x := .d (cI 0)) (q_assign rfl) rfl ?_
        refine .nil ?_
        refine .block ?_
        obtain ⟨n1, H⟩ := loop_some H
        refine .withSt (st' := ⟨[], [⟨60, 4, v5j2.length, none⟩]⟩) rfl <| .loop (ι := Nat × (List Leak × Int)) (fun p => [(0, .d (slOf 8 Invoice.row v0)), (1, .d (slOf 3 Entry.row v1)), (5, .tsl 4 (p.2.1.map Leak.row) 0), (9, .d (slOf 1 rI v9j3)), (11, .d (cI p.2.2))]) (fun p => ⟨[], [⟨60, 4, p.2.1.length, none⟩]⟩) (fun p => iter (fun s => f_billingref54_Books_l1 v0 v1 v9j3 s.1 s.2) p.1 p.2 = some r) (·.1) (n1, (v5j2, 0)) H (.cons rfl (.rfl' _) (.cons rfl (.rfl' _) (.cons rfl (.rfl' _) (.cons rfl (.rfl' _) (.cons rfl (.rfl' _) (.nil)))))) rfl ?_
        rintro ⟨m1, v5l1, v11l1⟩ HI ih1
        obtain ⟨n1, q1, hm1, H, HK1⟩ := iter_succ HI
        clear HI
        replace H : f_billingref54_Books_l1 v0 v1 v9j3 v5l1 v11l1 = some q1 := H
        unfold f_billingref54_Books_l1 at H
        change ARun _ _ _ _ _ _ [(0, .d (slOf 8 Invoice.row v0)), (1, .d (slOf 3 Entry.row v1)), (5, .tsl 4 (v5l1.map Leak.row) 0), (9, .d (slOf 1 rI v9j3)), (11, .d (cI v11l1))] ⟨[], [⟨60, 4, v5l1.length, none⟩]⟩
        refine .seq ?_
        refine .seq ?_
        refine .region ?_
        refine .q (x := .d (cI v11l1)) (q_move rfl) rfl ?_
        refine .q (x := .d (slOf 1 rI v9j3)) (q_move rfl) rfl ?_
        refine .q (x := .d (cI (v9j3.length : Int))) (q_lenL (l := v9j3) (row := rI) Try.underlying100 rfl rfl) rfl ?_
        refine .q (x := .d (cB (decide (v11l1 < (v9j3.length : Int))))) (q_lss rfl rfl) rfl ?_
        refine .nil ?_
        refine .cond rfl (fun hc => ?_) (fun hc => ?_)
        · replace H := ifT hc H; clear hc
          refine .skip ?_
          refine .seq ?_
          refine .block ?_
          refine .seq ?_
          refine .region ?_
          refine .q (x := .d (cI 0)) (q_assign rfl) rfl ?_
          refine .q (x := .d (cI 0)) (q_assign rfl) rfl ?_
          refine .nil ?_
          refine .seq ?_
          refine .seq ?_
          refine .region ?_
          refine .q (x := .d (cI 0)) (q_assign rfl) rfl ?_
          refine .nil ?_
          refine .blockJoin2 (ι := Int) (fun s => [(0, .d (slOf 8 Invoice.row v0)), (1, .d (slOf 3 Entry.row v1)), (5, .tsl 4 (v5l1.map Leak.row) 0), (9, .d (slOf 1 rI v9j3)), (11, .d (cI v11l1)), (12, .d (cI s)), (13, .d (cI 0))]) (fun s => ⟨[], [⟨60, 4, v5l1.length, none⟩]⟩) (fun s => f_billingref54_Books_j4 v1 v9j3 v5l1 v11l1 s = some q1) ?_ ?_
          · rintro v12j4 H
            replace H : f_billingref54_Books_j4 v1 v9j3 v5l1 v11l1 v12j4 = some q1 := H
            unfold f_billingref54_Books_j4 at H
            change ARun _ _ _ _ _ _ [(0, .d (slOf 8 Invoice.row v0)), (1, .d (slOf 3 Entry.row v1)), (5, .tsl 4 (v5l1.map Leak.row) 0), (9, .d (slOf 1 rI v9j3)), (11, .d (cI v11l1)), (12, .d (cI v12j4)), (13, .d (cI 0))] ⟨[], [⟨60, 4, v5l1.length, none⟩]⟩
            refine .seq ?_
            refine .seq ?_
            refine .region ?_
            refine .q (x := .d (cI 0)) (q_assign rfl) rfl ?_
            refine .nil ?_
            refine .blockJoin2 (ι := Int) (fun s => [(0, .d (slOf 8 Invoice.row v0)), (1, .d (slOf 3 Entry.row v1)), (5, .tsl 4 (v5l1.map Leak.row) 0), (9, .d (slOf 1 rI v9j3)), (11, .d (cI v11l1)), (12, .d (cI v12j4)), (13, .d (cI s))]) (fun s => ⟨[], [⟨60, 4, v5l1.length, none⟩]⟩) (fun s => f_billingref54_Books_j5 v9j3 v5l1 v11l1 v12j4 s = some q1) ?_ ?_
            · rintro v13j5 H
              replace H : f_billingref54_Books_j5 v9j3 v5l1 v11l1 v12j4 v13j5 = some q1 := H
              unfold f_billingref54_Books_j5 at H
              change ARun _ _ _ _ _ _ [(0, .d (slOf 8 Invoice.row v0)), (1, .d (slOf 3 Entry.row v1)), (5, .tsl 4 (v5l1.map Leak.row) 0), (9, .d (slOf 1 rI v9j3)), (11, .d (cI v11l1)), (12, .d (cI v12j4)), (13, .d (cI v13j5))] ⟨[], [⟨60, 4, v5l1.length, none⟩]⟩
              refine .seq ?_
              refine .region ?_
              refine .q (x := .d (cI v12j4)) (q_move rfl) rfl ?_
              refine .q (x := .d (cI v13j5)) (q_move rfl) rfl ?_
              refine .q (x := .d (cB (v12j4 != v13j5))) (q_neq rfl rfl) rfl ?_
              refine .nil ?_
              refine .cond rfl (fun hc => ?_) (fun hc => ?_)
              · replace H := ifT hc H; clear hc
                refine .region ?_
                refine .q (x := .tsl 4 (v5l1.map Leak.row) 0) (q_move rfl) rfl ?_
                refine .q (x := .d (slOf 1 rI v9j3)) (q_move rfl) rfl ?_
                refine .q (x := .d (cI v11l1)) (q_move rfl) rfl ?_
                obtain ⟨hk1, H⟩ := ck_some H
                refine .q (x := .d (.ro (rI (nth v9j3 (Int.toNat (v11l1)))))) (q_idxL (row := rI) (l := v9j3) (i := v11l1) Try.underlying100 hi3 hs3 rfl rfl rfl hk1) rfl ?_
                refine .q (x := .d (cI (nth v9j3 (Int.toNat (v11l1))))) (q_load one_3 rfl) rfl ?_
                refine .q (x := .d (cI v12j4)) (q_move rfl) rfl ?_
                refine .q (x := .d (cI v13j5)) (q_move rfl) rfl ?_
                refine .q (x := .d (.agg (Leak.row (⟨6, nth v9j3 (Int.toNat (v11l1)), v12j4, v13j5⟩ : Leak)))) (q_buildP pl_60 hi60 hz60 rfl rfl) rfl ?_
                refine .g (x := .d (slOf 4 Leak.row ([(⟨6, nth v9j3 (Int.toNat (v11l1)), v12j4, v13j5⟩ : Leak)] : List Leak))) (g_buildSlice1 Try.underlying42 hi60 hs60 hz60 rfl rfl rfl rfl rfl) rfl ?_
                obtain ⟨hk2, H⟩ := ck_some H
                refine .v (x := .tsl 4 ((v5l1 ++ ([(⟨6, nth v9j3 (Int.toNat (v11l1)), v12j4, v13j5⟩ : Leak)] : List Leak)).map Leak.row) 0) (v_appendL (l := v5l1) (l' := ([(⟨6, nth v9j3 (Int.toNat (v11l1)), v12j4, v13j5⟩ : Leak)] : List Leak)) (row := Leak.row) Try.underlying42 hi60 hz60 hs60 rfl (by rw [hb60]; decide) rfl rfl rfl rfl hk2) rfl ?_
                refine .withSt (st' := ⟨[], [⟨60, 4, (v5l1 ++ ([(⟨6, nth v9j3 (Int.toNat (v11l1)), v12j4, v13j5⟩ : Leak)] : List Leak)).length, none⟩]⟩) rfl ?_
                refine .q (x := .tsl 4 ((v5l1 ++ ([(⟨6, nth v9j3 (Int.toNat (v11l1)), v12j4, v13j5⟩ : Leak)] : List Leak)).map Leak.row) 0) (q_assign rfl) rfl ?_
                refine .nil ?_
                refine .inBlock ?_
                refine .region ?_
                refine .q (x := .d (cI v11l1)) (q_move rfl) rfl ?_
                obtain ⟨hk3, H⟩ := ck_some H
                refine .q (x := .d (cI (v11l1 + 1))) (q_addI rfl rfl hk3.1 hk3.2) rfl ?_
                refine .q (x := .d (cI (v11l1 + 1))) (q_assign rfl) rfl ?_
                refine .nil ?_
                cases H
                exact .withSt (st' := ⟨[], [⟨60, 4, (v5l1 ++ ([(⟨6, nth v9j3 (Int.toNat (v11l1)), v12j4, v13j5⟩ : Leak)] : List Leak)).length, none⟩]⟩) rfl <| .sub (.cons rfl (.rfl' _) (.cons rfl (.rfl' _) (.cons rfl (.rfl' _) (.cons rfl (.rfl' _) (.cons rfl (.rfl' _) (.nil)))))) (ih1 (n1, (v5l1 ++ ([(⟨6, nth v9j3 (Int.toNat (v11l1)), v12j4, v13j5⟩ : Leak)] : List Leak), v11l1 + 1)) HK1 hm1)
              · replace H := ifF hc H; clear hc
                refine .skip ?_
                refine .inBlock ?_
                refine .region ?_
                refine .q (x := .d (cI v11l1)) (q_move rfl) rfl ?_
                obtain ⟨hk4, H⟩ := ck_some H
                refine .q (x := .d (cI (v11l1 + 1))) (q_addI rfl rfl hk4.1 hk4.2) rfl ?_
                refine .q (x := .d (cI (v11l1 + 1))) (q_assign rfl) rfl ?_
                refine .nil ?_
                cases H
                exact .sub (.cons rfl (.rfl' _) (.cons rfl (.rfl' _) (.cons rfl (.rfl' _) (.cons rfl (.rfl' _) (.cons rfl (.rfl' _) (.nil)))))) (ih1 (n1, (v5l1, v11l1 + 1)) HK1 hm1)
            · intro hj5 hj5x
              obtain ⟨n2, H⟩ := loop_some H
              refine .loop (ι := Nat × (Int × Int)) (fun p => [(0, .d (slOf 8 Invoice.row v0)), (1, .d (slOf 3 Entry.row v1)), (5, .tsl 4 (v5l1.map Leak.row) 0), (9, .d (slOf 1 rI v9j3)), (11, .d (cI v11l1)), (12, .d (cI v12j4)), (13, .d (cI p.2.1)), (15, .d (cI p.2.2))]) (fun p => ⟨[], [⟨60, 4, v5l1.length, none⟩]⟩) (fun p => iter (fun s => f_billingref54_Books_l2 v1 v9j3 v5l1 v11l1 v12j4 s.1 s.2) p.1 p.2 = some q1) (·.1) (n2, (0, 0)) H (.cons rfl (.rfl' _) (.cons rfl (.rfl' _) (.cons rfl (.rfl' _) (.cons rfl (.rfl' _) (.cons rfl (.rfl' _) (.cons rfl (.rfl' _) (.cons rfl (.rfl' _) (.cons rfl (.rfl' _) (.nil))))))))) rfl ?_
              rintro ⟨m2, v13l2, v15l2⟩ HI ih2
              obtain ⟨n2, q2, hm2, H, HK2⟩ := iter_succ HI
              clear HI
              replace H : f_billingref54_Books_l2 v1 v9j3 v5l1 v11l1 v12j4 v13l2 v15l2 = some q2 := H
              unfold f_billingref54_Books_l2 at H
              change ARun _ _ _ _ _ _ [(0, .d (slOf 8 Invoice.row v0)), (1, .d (slOf 3 Entry.row v1)), (5, .tsl 4 (v5l1.map Leak.row) 0), (9, .d (slOf 1 rI v9j3)), (11, .d (cI v11l1)), (12, .d (cI v12j4)), (13, .d (cI v13l2)), (15, .d (cI v15l2))] ⟨[], [⟨60, 4, v5l1.length, none⟩]⟩
              refine .seq ?_
              refine .seq ?_
              refine .region ?_
              refine .q (x := .d (cI v15l2)) (q_move rfl) rfl ?_
              refine .q (x := .d (slOf 3 Entry.row v1)) (q_move rfl) rfl ?_
              refine .q (x := .d (cI (v1.length : Int))) (q_lenL (l := v1) (row := Entry.row) Try.underlying70 rfl rfl) rfl ?_
              refine .q (x := .d (cB (decide (v15l2 < (v1.length : Int))))) (q_lss rfl rfl) rfl ?_
              refine .nil ?_
              refine .cond rfl (fun hc => ?_) (fun hc => ?_)
              · replace H := ifT hc H; clear hc
                refine .skip ?_
                refine .seq ?_
                refine .block ?_
                refine .seq ?_
                refine .region ?_
                refine .q (x := .d (slOf 3 Entry.row v1)) (q_move rfl) rfl ?_
                refine .q (x := .d (cI v15l2)) (q_move rfl) rfl ?_
                obtain ⟨hk5, H⟩ := ck_some H
                refine .q (x := .d (.ro (Entry.row (nth v1 (Int.toNat (v15l2)))))) (q_idxL (row := Entry.row) (l := v1) (i := v15l2) Try.underlying70 hi78 hs78 rfl rfl rfl hk5) rfl ?_
                refine .q (x := .d (.ro ((Entry.row (nth v1 (Int.toNat (v15l2)))).drop 1))) (q_fieldRo fo_78_1 rfl) rfl ?_
                refine .q (x := .d (cS ((nth v1 (Int.toNat (v15l2))).text))) (q_load one_9 rfl) rfl ?_
                refine .q (x := .d (cB (((nth v1 (Int.toNat (v15l2))).text) == ([105, 110, 118, 111, 105, 99, 101] : List UInt8)))) (q_seql rfl rfl) rfl ?_
                refine .nil ?_
                refine .cond rfl (fun hc => ?_) (fun hc => ?_)
                · replace H := ifT hc H; clear hc
                  refine .drawn 14 hMix (by kernel_rfl) ?_
                  show DOps _ _ _ _ _ _ _ (_ :: _) _ _ _
                  refine .q (x := .d (cI v13l2)) (q_move rfl) rfl ?_
                  refine .q (x := .d (slOf 3 Entry.row v1)) (q_move rfl) rfl ?_
                  refine .q (x := .d (cI v15l2)) (q_move rfl) rfl ?_
                  refine .q (x := .d (cI v15l2)) (q_move rfl) rfl ?_
                  obtain ⟨hk6, H⟩ := ck_some H
                  refine .q (x := .d (cI (v15l2 + 1))) (q_addI rfl rfl hk6.1 hk6.2) rfl ?_
                  obtain ⟨hk7, H⟩ := ck_some H
                  refine .q (x := .d (slOf 3 Entry.row ((v1.take (Int.toNat (v15l2 + 1))).drop (Int.toNat (v15l2))))) (q_slLHL (l := v1) (row := Entry.row) Try.underlying70 hi78 hs78 rfl rfl rfl rfl hk7) rfl ?_
                  refine .q (x := .d (slOf 1 rI v9j3)) (q_move rfl) rfl ?_
                  refine .q (x := .d (cI v11l1)) (q_move rfl) rfl ?_
                  obtain ⟨hk8, H⟩ := ck_some H
                  refine .q (x := .d (.ro (rI (nth v9j3 (Int.toNat (v11l1)))))) (q_idxL (row := rI) (l := v9j3) (i := v11l1) Try.underlying100 hi3 hs3 rfl rfl rfl hk8) rfl ?_
                  refine .q (x := .d (cI (nth v9j3 (Int.toNat (v11l1))))) (q_load one_3 rfl) rfl ?_
                  obtain ⟨y1, hy1, H⟩ := bind_some' H
                  refine .g (x := .d (cS y1)) (g_call en_44 rfl rfl (c_f_billingref47_Receivable (hy1))) rfl ?_
                  obtain ⟨y2, hy2, H⟩ := bind_some' H
                  refine .g (x := .d (cI y2)) (g_call en_43 rfl rfl (c_f_billingref47_Balance (hy2))) rfl ?_
                  obtain ⟨hk9, H⟩ := ck_some H
                  refine .q (x := .d (cI (v13l2 + y2))) (q_addI rfl rfl hk9.1 hk9.2) rfl ?_
                  refine .q (x := .d (cI (v13l2 + y2))) (q_assign rfl) rfl ?_
                  refine .nil ?_
                  show AOps _ _ _ _ _ _ [] _ _ _
                  refine .nil ?_
                  refine .inBlock ?_
                  refine .region ?_
                  refine .q (x := .d (cI v15l2)) (q_move rfl) rfl ?_
                  obtain ⟨hk10, H⟩ := ck_some H
                  refine .q (x := .d (cI (v15l2 + 1))) (q_addI rfl rfl hk10.1 hk10.2) rfl ?_
                  refine .q (x := .d (cI (v15l2 + 1))) (q_assign rfl) rfl ?_
                  refine .nil ?_
                  cases H
                  exact .sub (.cons rfl (.rfl' _) (.cons rfl (.rfl' _) (.cons rfl (.rfl' _) (.cons rfl (.rfl' _) (.cons rfl (.rfl' _) (.cons rfl (.rfl' _) (.cons rfl (.rfl' _) (.cons rfl (.rfl' _) (.nil))))))))) (ih2 (n2, (v13l2 + y2, v15l2 + 1)) HK2 hm2)
                · replace H := ifF hc H; clear hc
                  refine .skip ?_
                  refine .inBlock ?_
                  refine .region ?_
                  refine .q (x := .d (cI v15l2)) (q_move rfl) rfl ?_
                  obtain ⟨hk11, H⟩ := ck_some H
                  refine .q (x := .d (cI (v15l2 + 1))) (q_addI rfl rfl hk11.1 hk11.2) rfl ?_
                  refine .q (x := .d (cI (v15l2 + 1))) (q_assign rfl) rfl ?_
                  refine .nil ?_
                  cases H
                  exact .sub (.cons rfl (.rfl' _) (.cons rfl (.rfl' _) (.cons rfl (.rfl' _) (.cons rfl (.rfl' _) (.cons rfl (.rfl' _) (.cons rfl (.rfl' _) (.cons rfl (.rfl' _) (.cons rfl (.rfl' _) (.nil))))))))) (ih2 (n2, (v13l2, v15l2 + 1)) HK2 hm2)
              · replace H := ifF hc H; clear hc
                refine .exit rfl ?_
                obtain ⟨q0, H9, hq0⟩ := map_some' H; clear H; cases hq0
                cases HK2
                have H := H9
                exact .sub (.cons rfl (.rfl' _) (.cons rfl (.rfl' _) (.cons rfl (.rfl' _) (.cons rfl (.rfl' _) (.cons rfl (.rfl' _) (.cons rfl (.rfl' _) (.cons rfl (.rfl' _) (.nil)))))))) (hj5x v13l2 H)
          · intro hj4 hj4x
            obtain ⟨n3, H⟩ := loop_some H
            refine .loop (ι := Nat × (Int × Int)) (fun p => [(0, .d (slOf 8 Invoice.row v0)), (1, .d (slOf 3 Entry.row v1)), (5, .tsl 4 (v5l1.map Leak.row) 0), (9, .d (slOf 1 rI v9j3)), (11, .d (cI v11l1)), (12, .d (cI p.2.1)), (13, .d (cI 0)), (14, .d (cI p.2.2))]) (fun p => ⟨[], [⟨60, 4, v5l1.length, none⟩]⟩) (fun p => iter (fun s => f_billingref54_Books_l3 v0 v1 v9j3 v5l1 v11l1 s.1 s.2) p.1 p.2 = some q1) (·.1) (n3, (0, 0)) H (.cons rfl (.rfl' _) (.cons rfl (.rfl' _) (.cons rfl (.rfl' _) (.cons rfl (.rfl' _) (.cons rfl (.rfl' _) (.cons rfl (.rfl' _) (.cons rfl (.rfl' _) (.cons rfl (.rfl' _) (.nil))))))))) rfl ?_
            rintro ⟨m2, v12l3, v14l3⟩ HI ih2
            obtain ⟨n2, q2, hm2, H, HK2⟩ := iter_succ HI
            clear HI
            replace H : f_billingref54_Books_l3 v0 v1 v9j3 v5l1 v11l1 v12l3 v14l3 = some q2 := H
            unfold f_billingref54_Books_l3 at H
            change ARun _ _ _ _ _ _ [(0, .d (slOf 8 Invoice.row v0)), (1, .d (slOf 3 Entry.row v1)), (5, .tsl 4 (v5l1.map Leak.row) 0), (9, .d (slOf 1 rI v9j3)), (11, .d (cI v11l1)), (12, .d (cI v12l3)), (13, .d (cI 0)), (14, .d (cI v14l3))] ⟨[], [⟨60, 4, v5l1.length, none⟩]⟩
            refine .seq ?_
            refine .seq ?_
            refine .region ?_
            refine .q (x := .d (cI v14l3)) (q_move rfl) rfl ?_
            refine .q (x := .d (slOf 8 Invoice.row v0)) (q_move rfl) rfl ?_
            refine .q (x := .d (cI (v0.length : Int))) (q_lenL (l := v0) (row := Invoice.row) Try.underlying69 rfl rfl) rfl ?_
            refine .q (x := .d (cB (decide (v14l3 < (v0.length : Int))))) (q_lss rfl rfl) rfl ?_
            refine .nil ?_
            refine .cond rfl (fun hc => ?_) (fun hc => ?_)
            · replace H := ifT hc H; clear hc
              refine .skip ?_
              refine .seq ?_
              refine .block ?_
              refine .seq ?_
              refine .drawn 10 hMix (by kernel_rfl) ?_
              show DOps _ _ _ _ _ _ _ (_ :: _) _ _ _
              refine .q (x := .d (slOf 8 Invoice.row v0)) (q_move rfl) rfl ?_
              refine .q (x := .d (cI v14l3)) (q_move rfl) rfl ?_
              obtain ⟨hk12, H⟩ := ck_some H
              refine .q (x := .d (.ro (Invoice.row (nth v0 (Int.toNat (v14l3)))))) (q_idxL (row := Invoice.row) (l := v0) (i := v14l3) Try.underlying69 hi75 hs75 rfl rfl rfl hk12) rfl ?_
              refine .q (x := .d (.ro (Invoice.row (nth v0 (Int.toNat (v14l3)))))) (q_fieldRo fo_75_0 rfl) rfl ?_
              refine .q (x := .d (cI ((nth v0 (Int.toNat (v14l3))).account))) (q_load one_3 rfl) rfl ?_
              refine .q (x := .d (slOf 1 rI v9j3)) (q_move rfl) rfl ?_
              refine .q (x := .d (cI v11l1)) (q_move rfl) rfl ?_
              obtain ⟨hk13, H⟩ := ck_some H
              refine .q (x := .d (.ro (rI (nth v9j3 (Int.toNat (v11l1)))))) (q_idxL (row := rI) (l := v9j3) (i := v11l1) Try.underlying100 hi3 hs3 rfl rfl rfl hk13) rfl ?_
              refine .q (x := .d (cI (nth v9j3 (Int.toNat (v11l1))))) (q_load one_3 rfl) rfl ?_
              refine .q (x := .d (cB (((nth v0 (Int.toNat (v14l3))).account) == (nth v9j3 (Int.toNat (v11l1)))))) (q_eql rfl rfl) rfl ?_
              refine .nil ?_
              show AOps _ _ _ _ _ _ [] _ _ _
              refine .nil ?_
              refine .cond rfl (fun hc => ?_) (fun hc => ?_)
              · replace H := ifT hc H; clear hc
                refine .region ?_
                refine .q (x := .d (cI v12l3)) (q_move rfl) rfl ?_
                refine .q (x := .d (slOf 8 Invoice.row v0)) (q_move rfl) rfl ?_
                refine .q (x := .d (cI v14l3)) (q_move rfl) rfl ?_
                obtain ⟨hk14, H⟩ := ck_some H
                refine .q (x := .d (.ro (Invoice.row (nth v0 (Int.toNat (v14l3)))))) (q_idxL (row := Invoice.row) (l := v0) (i := v14l3) Try.underlying69 hi75 hs75 rfl rfl rfl hk14) rfl ?_
                refine .q (x := .d (.ro ((Invoice.row (nth v0 (Int.toNat (v14l3)))).drop 7))) (q_fieldRo fo_75_6 rfl) rfl ?_
                refine .q (x := .d (cI ((nth v0 (Int.toNat (v14l3))).total))) (q_load one_3 rfl) rfl ?_
                obtain ⟨hk15, H⟩ := ck_some H
                refine .q (x := .d (cI (v12l3 + ((nth v0 (Int.toNat (v14l3))).total)))) (q_addI rfl rfl hk15.1 hk15.2) rfl ?_
                refine .q (x := .d (cI (v12l3 + ((nth v0 (Int.toNat (v14l3))).total)))) (q_assign rfl) rfl ?_
                refine .nil ?_
                refine .inBlock ?_
                refine .region ?_
                refine .q (x := .d (cI v14l3)) (q_move rfl) rfl ?_
                obtain ⟨hk16, H⟩ := ck_some H
                refine .q (x := .d (cI (v14l3 + 1))) (q_addI rfl rfl hk16.1 hk16.2) rfl ?_
                refine .q (x := .d (cI (v14l3 + 1))) (q_assign rfl) rfl ?_
                refine .nil ?_
                cases H
                exact .sub (.cons rfl (.rfl' _) (.cons rfl (.rfl' _) (.cons rfl (.rfl' _) (.cons rfl (.rfl' _) (.cons rfl (.rfl' _) (.cons rfl (.rfl' _) (.cons rfl (.rfl' _) (.cons rfl (.rfl' _) (.nil))))))))) (ih2 (n2, (v12l3 + ((nth v0 (Int.toNat (v14l3))).total), v14l3 + 1)) HK2 hm2)
              · replace H := ifF hc H; clear hc
                refine .skip ?_
                refine .inBlock ?_
                refine .region ?_
                refine .q (x := .d (cI v14l3)) (q_move rfl) rfl ?_
                obtain ⟨hk17, H⟩ := ck_some H
                refine .q (x := .d (cI (v14l3 + 1))) (q_addI rfl rfl hk17.1 hk17.2) rfl ?_
                refine .q (x := .d (cI (v14l3 + 1))) (q_assign rfl) rfl ?_
                refine .nil ?_
                cases H
                exact .sub (.cons rfl (.rfl' _) (.cons rfl (.rfl' _) (.cons rfl (.rfl' _) (.cons rfl (.rfl' _) (.cons rfl (.rfl' _) (.cons rfl (.rfl' _) (.cons rfl (.rfl' _) (.cons rfl (.rfl' _) (.nil))))))))) (ih2 (n2, (v12l3, v14l3 + 1)) HK2 hm2)
            · replace H := ifF hc H; clear hc
              refine .exit rfl ?_
              obtain ⟨q0, H9, hq0⟩ := map_some' H; clear H; cases hq0
              cases HK2
              have H := H9
              exact .sub (.cons rfl (.rfl' _) (.cons rfl (.rfl' _) (.cons rfl (.rfl' _) (.cons rfl (.rfl' _) (.cons rfl (.rfl' _) (.cons rfl (.rfl' _) (.cons rfl (.rfl' _) (.nil)))))))) (hj4x v12l3 H)
        · replace H := ifF hc H; clear hc
          refine .exit rfl ?_
          refine .seq ?_
          refine .region ?_
          refine .q (x := .tsl 4 (v5l1.map Leak.row) 0) (q_move rfl) rfl ?_
          refine .q (x := .tsl 4 (v5l1.map Leak.row) 0) (q_assign rfl) rfl ?_
          refine .nil ?_
          refine .retN [.tmp 4] [.tsl 4 (v5l1.map Leak.row) 0] Try.func27 Try.results27 ⟨rfl, trivial⟩ ?_
          cases H
          cases HK1
          exact ⟨_, .tsl _ _ _, rfl⟩
      · intro hj3 hj3x
        obtain ⟨n4, H⟩ := loop_some H
        refine .loop (ι := Nat × (List Int × Int)) (fun p => [(0, .d (slOf 8 Invoice.row v0)), (1, .d (slOf 3 Entry.row v1)), (5, .tsl 4 (v5j2.map Leak.row) 0), (9, .d (slOf 1 rI p.2.1)), (10, .d (cI p.2.2))]) (fun p => ⟨[], [⟨60, 4, v5j2.length, none⟩]⟩) (fun p => iter (fun s => f_billingref54_Books_l4 v0 v1 v5j2 s.1 s.2) p.1 p.2 = some r) (·.1) (n4, ([], 0)) H (.cons rfl (.rfl' _) (.cons rfl (.rfl' _) (.cons rfl (.rfl' _) (.cons rfl (.e0 1) (.cons rfl (.rfl' _) (.nil)))))) rfl ?_
        rintro ⟨m1, v9l4, v10l4⟩ HI ih1
        obtain ⟨n1, q1, hm1, H, HK1⟩ := iter_succ HI
        clear HI
        replace H : f_billingref54_Books_l4 v0 v1 v5j2 v9l4 v10l4 = some q1 := H
        unfold f_billingref54_Books_l4 at H
        change ARun _ _ _ _ _ _ [(0, .d (slOf 8 Invoice.row v0)), (1, .d (slOf 3 Entry.row v1)), (5, .tsl 4 (v5j2.map Leak.row) 0), (9, .d (slOf 1 rI v9l4)), (10, .d (cI v10l4))] ⟨[], [⟨60, 4, v5j2.length, none⟩]⟩
        refine .seq ?_
        refine .seq ?_
        refine .region ?_
        refine .q (x := .d (cI v10l4)) (q_move rfl) rfl ?_
        refine .q (x := .d (slOf 8 Invoice.row v0)) (q_move rfl) rfl ?_
        refine .q (x := .d (cI (v0.length : Int))) (q_lenL (l := v0) (row := Invoice.row) Try.underlying69 rfl rfl) rfl ?_
        refine .q (x := .d (cB (decide (v10l4 < (v0.length : Int))))) (q_lss rfl rfl) rfl ?_
        refine .nil ?_
        refine .cond rfl (fun hc => ?_) (fun hc => ?_)
        · replace H := ifT hc H; clear hc
          refine .skip ?_
          refine .seq ?_
          refine .block ?_
          refine .region ?_
          refine .q (x := .d (slOf 1 rI v9l4)) (q_move rfl) rfl ?_
          refine .q (x := .d (slOf 8 Invoice.row v0)) (q_move rfl) rfl ?_
          refine .q (x := .d (cI v10l4)) (q_move rfl) rfl ?_
          obtain ⟨hk18, H⟩ := ck_some H
          refine .q (x := .d (.ro (Invoice.row (nth v0 (Int.toNat (v10l4)))))) (q_idxL (row := Invoice.row) (l := v0) (i := v10l4) Try.underlying69 hi75 hs75 rfl rfl rfl hk18) rfl ?_
          refine .q (x := .d (.ro (Invoice.row (nth v0 (Int.toNat (v10l4)))))) (q_fieldRo fo_75_0 rfl) rfl ?_
          refine .q (x := .d (cI ((nth v0 (Int.toNat (v10l4))).account))) (q_load one_3 rfl) rfl ?_
          obtain ⟨y3, hy3, H⟩ := bind_some' H
          refine .g (x := .d (slOf 1 rI y3)) (g_call en_35 rfl rfl (c_f_billingref54_Keys (hy3))) rfl ?_
          refine .q (x := .d (slOf 1 rI y3)) (q_assign rfl) rfl ?_
          refine .nil ?_
          refine .inBlock ?_
          refine .region ?_
          refine .q (x := .d (cI v10l4)) (q_move rfl) rfl ?_
          obtain ⟨hk19, H⟩ := ck_some H
          refine .q (x := .d (cI (v10l4 + 1))) (q_addI rfl rfl hk19.1 hk19.2) rfl ?_
          refine .q (x := .d (cI (v10l4 + 1))) (q_assign rfl) rfl ?_
          refine .nil ?_
          cases H
          exact .sub (.cons rfl (.rfl' _) (.cons rfl (.rfl' _) (.cons rfl (.rfl' _) (.cons rfl (.rfl' _) (.cons rfl (.rfl' _) (.nil)))))) (ih1 (n1, (y3, v10l4 + 1)) HK1 hm1)
        · replace H := ifF hc H; clear hc
          refine .exit rfl ?_
          obtain ⟨q0, H9, hq0⟩ := map_some' H; clear H; cases hq0
          cases HK1
          have H := H9
          exact .sub (.cons rfl (.rfl' _) (.cons rfl (.rfl' _) (.cons rfl (.rfl' _) (.cons rfl (.rfl' _) (.nil))))) (hj3x v9l4 H)
    · intro hj2
      refine .seq ?_
      refine .region ?_
      refine .q (x := .d (cI v6j1)) (q_move rfl) rfl ?_
      refine .q (x := .d (cB (v6j1 != 0))) (q_neq rfl rfl) rfl ?_
      refine .nil ?_
      refine .cond rfl (fun hc => ?_) (fun hc => ?_)
      · replace H := ifT hc H; clear hc
        refine .region ?_
        refine .q (x := .tsl 4 (([] : List Leak).map Leak.row) 0) (q_move rfl) rfl ?_
        refine .q (x := .d (cI v6j1)) (q_move rfl) rfl ?_
        refine .q (x := .d (.agg (Leak.row (⟨6, 0, v6j1, 0⟩ : Leak)))) (q_buildP pl_60 hi60 hz60 rfl rfl) rfl ?_
        refine .g (x := .d (slOf 4 Leak.row ([(⟨6, 0, v6j1, 0⟩ : Leak)] : List Leak))) (g_buildSlice1 Try.underlying42 hi60 hs60 hz60 rfl rfl rfl rfl rfl) rfl ?_
        obtain ⟨hk20, H⟩ := ck_some H
        refine .v (x := .tsl 4 ((([] : List Leak) ++ ([(⟨6, 0, v6j1, 0⟩ : Leak)] : List Leak)).map Leak.row) 0) (v_appendL (l := ([] : List Leak)) (l' := ([(⟨6, 0, v6j1, 0⟩ : Leak)] : List Leak)) (row := Leak.row) Try.underlying42 hi60 hz60 hs60 rfl (by rw [hb60]; decide) rfl rfl rfl rfl hk20) rfl ?_
        refine .withSt (st' := ⟨[], [⟨60, 4, (([] : List Leak) ++ ([(⟨6, 0, v6j1, 0⟩ : Leak)] : List Leak)).length, none⟩]⟩) rfl ?_
        refine .q (x := .tsl 4 ((([] : List Leak) ++ ([(⟨6, 0, v6j1, 0⟩ : Leak)] : List Leak)).map Leak.row) 0) (q_assign rfl) rfl ?_
        refine .nil ?_
        exact .withSt (st' := ⟨[], [⟨60, 4, (([] : List Leak) ++ ([(⟨6, 0, v6j1, 0⟩ : Leak)] : List Leak)).length, none⟩]⟩) rfl <| .sub (.cons rfl (.rfl' _) (.cons rfl (.rfl' _) (.cons rfl (.rfl' _) (.nil)))) (hj2 (([] : List Leak) ++ ([(⟨6, 0, v6j1, 0⟩ : Leak)] : List Leak)) H)
      · replace H := ifF hc H; clear hc
        refine .skip ?_
        exact .withSt (st' := ⟨[], [⟨60, 4, ([] : List Leak).length, none⟩]⟩) rfl <| .sub (.cons rfl (.rfl' _) (.cons rfl (.rfl' _) (.cons rfl (.rfl' _) (.nil)))) (hj2 ([] : List Leak) H)
  · intro hj1 hj1x
    obtain ⟨n5, H⟩ := loop_some H
    refine .loop (ι := Nat × (Int × Int)) (fun p => [(0, .d (slOf 8 Invoice.row v0)), (1, .d (slOf 3 Entry.row v1)), (5, .tsl 4 (([] : List Leak).map Leak.row) 0), (6, .d (cI p.2.1)), (7, .d (cI p.2.2))]) (fun p => ⟨[], [⟨60, 4, ([] : List Leak).length, none⟩]⟩) (fun p => iter (fun s => f_billingref54_Books_l5 v0 v1 s.1 s.2) p.1 p.2 = some r) (·.1) (n5, (0, 0)) H (.cons rfl (.rfl' _) (.cons rfl (.rfl' _) (.cons rfl (.rfl' _) (.cons rfl (.rfl' _) (.cons rfl (.rfl' _) (.nil)))))) rfl ?_
    rintro ⟨m1, v6l5, v7l5⟩ HI ih1
    obtain ⟨n1, q1, hm1, H, HK1⟩ := iter_succ HI
    clear HI
    replace H : f_billingref54_Books_l5 v0 v1 v6l5 v7l5 = some q1 := H
    unfold f_billingref54_Books_l5 at H
    change ARun _ _ _ _ _ _ [(0, .d (slOf 8 Invoice.row v0)), (1, .d (slOf 3 Entry.row v1)), (5, .tsl 4 (([] : List Leak).map Leak.row) 0), (6, .d (cI v6l5)), (7, .d (cI v7l5))] ⟨[], [⟨60, 4, ([] : List Leak).length, none⟩]⟩
    refine .seq ?_
    refine .seq ?_
    refine .region ?_
    refine .q (x := .d (cI v7l5)) (q_move rfl) rfl ?_
    refine .q (x := .d (slOf 3 Entry.row v1)) (q_move rfl) rfl ?_
    refine .q (x := .d (cI (v1.length : Int))) (q_lenL (l := v1) (row := Entry.row) Try.underlying70 rfl rfl) rfl ?_
    refine .q (x := .d (cB (decide (v7l5 < (v1.length : Int))))) (q_lss rfl rfl) rfl ?_
    refine .nil ?_
    refine .cond rfl (fun hc => ?_) (fun hc => ?_)
    · replace H := ifT hc H; clear hc
      refine .skip ?_
      refine .seq ?_
      refine .block ?_
      refine .seq ?_
      refine .region ?_
      refine .q (x := .d (cI 0)) (q_assign rfl) rfl ?_
      refine .nil ?_
      refine .block ?_
      obtain ⟨n6, H⟩ := loop_some H
      refine .loop (ι := Nat × (Int × Int)) (fun p => [(0, .d (slOf 8 Invoice.row v0)), (1, .d (slOf 3 Entry.row v1)), (5, .tsl 4 (([] : List Leak).map Leak.row) 0), (6, .d (cI p.2.1)), (7, .d (cI v7l5)), (8, .d (cI p.2.2))]) (fun p => ⟨[], [⟨60, 4, ([] : List Leak).length, none⟩]⟩) (fun p => iter (fun s => f_billingref54_Books_l6 v1 v7l5 s.1 s.2) p.1 p.2 = some q1) (·.1) (n6, (v6l5, 0)) H (.cons rfl (.rfl' _) (.cons rfl (.rfl' _) (.cons rfl (.rfl' _) (.cons rfl (.rfl' _) (.cons rfl (.rfl' _) (.cons rfl (.rfl' _) (.nil))))))) rfl ?_
      rintro ⟨m2, v6l6, v8l6⟩ HI ih2
      obtain ⟨n2, q2, hm2, H, HK2⟩ := iter_succ HI
      clear HI
      replace H : f_billingref54_Books_l6 v1 v7l5 v6l6 v8l6 = some q2 := H
      unfold f_billingref54_Books_l6 at H
      change ARun _ _ _ _ _ _ [(0, .d (slOf 8 Invoice.row v0)), (1, .d (slOf 3 Entry.row v1)), (5, .tsl 4 (([] : List Leak).map Leak.row) 0), (6, .d (cI v6l6)), (7, .d (cI v7l5)), (8, .d (cI v8l6))] ⟨[], [⟨60, 4, ([] : List Leak).length, none⟩]⟩
      refine .seq ?_
      refine .seq ?_
      refine .region ?_
      refine .q (x := .d (cI v8l6)) (q_move rfl) rfl ?_
      refine .q (x := .d (slOf 3 Entry.row v1)) (q_move rfl) rfl ?_
      refine .q (x := .d (cI v7l5)) (q_move rfl) rfl ?_
      obtain ⟨hk21, H⟩ := ck_some H
      refine .q (x := .d (.ro (Entry.row (nth v1 (Int.toNat (v7l5)))))) (q_idxL (row := Entry.row) (l := v1) (i := v7l5) Try.underlying70 hi78 hs78 rfl rfl rfl hk21) rfl ?_
      refine .q (x := .d (.ro ((Entry.row (nth v1 (Int.toNat (v7l5)))).drop 2))) (q_fieldRo fo_78_2 rfl) rfl ?_
      refine .q (x := .d (slOf 2 Post.row ((nth v1 (Int.toNat (v7l5))).posts))) (q_load one_76 rfl) rfl ?_
      refine .q (x := .d (cI (((nth v1 (Int.toNat (v7l5))).posts).length : Int))) (q_lenL (l := (nth v1 (Int.toNat (v7l5))).posts) (row := Post.row) Try.underlying76 rfl rfl) rfl ?_
      refine .q (x := .d (cB (decide (v8l6 < (((nth v1 (Int.toNat (v7l5))).posts).length : Int))))) (q_lss rfl rfl) rfl ?_
      refine .nil ?_
      refine .cond rfl (fun hc => ?_) (fun hc => ?_)
      · replace H := ifT hc H; clear hc
        refine .skip ?_
        refine .seq ?_
        refine .block ?_
        refine .region ?_
        refine .q (x := .d (cI v6l6)) (q_move rfl) rfl ?_
        refine .q (x := .d (slOf 3 Entry.row v1)) (q_move rfl) rfl ?_
        refine .q (x := .d (cI v7l5)) (q_move rfl) rfl ?_
        obtain ⟨hk22, H⟩ := ck_some H
        refine .q (x := .d (.ro (Entry.row (nth v1 (Int.toNat (v7l5)))))) (q_idxL (row := Entry.row) (l := v1) (i := v7l5) Try.underlying70 hi78 hs78 rfl rfl rfl hk22) rfl ?_
        refine .q (x := .d (.ro ((Entry.row (nth v1 (Int.toNat (v7l5)))).drop 2))) (q_fieldRo fo_78_2 rfl) rfl ?_
        refine .q (x := .d (slOf 2 Post.row ((nth v1 (Int.toNat (v7l5))).posts))) (q_load one_76 rfl) rfl ?_
        refine .q (x := .d (cI v8l6)) (q_move rfl) rfl ?_
        obtain ⟨hk23, H⟩ := ck_some H
        refine .q (x := .d (.ro (Post.row (nth ((nth v1 (Int.toNat (v7l5))).posts) (Int.toNat (v8l6)))))) (q_idxL (row := Post.row) (l := (nth v1 (Int.toNat (v7l5))).posts) (i := v8l6) Try.underlying76 hi80 hs80 rfl rfl rfl hk23) rfl ?_
        refine .q (x := .d (.ro ((Post.row (nth ((nth v1 (Int.toNat (v7l5))).posts) (Int.toNat (v8l6)))).drop 1))) (q_fieldRo fo_80_1 rfl) rfl ?_
        refine .q (x := .d (cI ((nth ((nth v1 (Int.toNat (v7l5))).posts) (Int.toNat (v8l6))).amount))) (q_load one_3 rfl) rfl ?_
        obtain ⟨hk24, H⟩ := ck_some H
        refine .q (x := .d (cI (v6l6 + ((nth ((nth v1 (Int.toNat (v7l5))).posts) (Int.toNat (v8l6))).amount)))) (q_addI rfl rfl hk24.1 hk24.2) rfl ?_
        refine .q (x := .d (cI (v6l6 + ((nth ((nth v1 (Int.toNat (v7l5))).posts) (Int.toNat (v8l6))).amount)))) (q_assign rfl) rfl ?_
        refine .nil ?_
        refine .inBlock ?_
        refine .region ?_
        refine .q (x := .d (cI v8l6)) (q_move rfl) rfl ?_
        obtain ⟨hk25, H⟩ := ck_some H
        refine .q (x := .d (cI (v8l6 + 1))) (q_addI rfl rfl hk25.1 hk25.2) rfl ?_
        refine .q (x := .d (cI (v8l6 + 1))) (q_assign rfl) rfl ?_
        refine .nil ?_
        cases H
        exact .sub (.cons rfl (.rfl' _) (.cons rfl (.rfl' _) (.cons rfl (.rfl' _) (.cons rfl (.rfl' _) (.cons rfl (.rfl' _) (.cons rfl (.rfl' _) (.nil))))))) (ih2 (n2, (v6l6 + ((nth ((nth v1 (Int.toNat (v7l5))).posts) (Int.toNat (v8l6))).amount), v8l6 + 1)) HK2 hm2)
      · replace H := ifF hc H; clear hc
        refine .exit rfl ?_
        refine .inBlock ?_
        refine .region ?_
        refine .q (x := .d (cI v7l5)) (q_move rfl) rfl ?_
        obtain ⟨hk26, H⟩ := ck_some H
        refine .q (x := .d (cI (v7l5 + 1))) (q_addI rfl rfl hk26.1 hk26.2) rfl ?_
        refine .q (x := .d (cI (v7l5 + 1))) (q_assign rfl) rfl ?_
        refine .nil ?_
        cases H
        cases HK2
        exact .sub (.cons rfl (.rfl' _) (.cons rfl (.rfl' _) (.cons rfl (.rfl' _) (.cons rfl (.rfl' _) (.cons rfl (.rfl' _) (.nil)))))) (ih1 (n1, (v6l6, v7l5 + 1)) HK1 hm1)
    · replace H := ifF hc H; clear hc
      refine .exit rfl ?_
      obtain ⟨q0, H9, hq0⟩ := map_some' H; clear H; cases hq0
      cases HK1
      have H := H9
      exact .sub (.cons rfl (.rfl' _) (.cons rfl (.rfl' _) (.cons rfl (.rfl' _) (.cons rfl (.rfl' _) (.nil))))) (hj1x v6l5 H)

set_option maxRecDepth 100000 in
set_option maxHeartbeats 1000000 in
theorem c_f_billinglaw54_AssureBooks {v0 : List Invoice} {v1 : List Entry} {r : Bool} (H : f_billinglaw54_AssureBooks v0 v1 = some r) : ACall Try.prog 8 [slOf 8 Invoice.row v0, slOf 3 Entry.row v1] (· = cB r) := by
  obtain ⟨i75, hi75, hz75, hs75, hb75⟩ := in_75
  obtain ⟨i78, hi78, hz78, hs78, hb78⟩ := in_78
  obtain ⟨i80, hi80, hz80, hs80, hb80⟩ := in_80
  refine ACall.enter' Try.func8 rfl Try.ntmps8 rfl fun S hS => ?_
  unfold f_billinglaw54_AssureBooks at H
  change ARun _ _ _ _ _ _ [(0, .d (slOf 8 Invoice.row v0)), (1, .d (slOf 3 Entry.row v1))] _
  refine .seq ?_
  refine .region ?_
  refine .q (x := .d (cB false)) (q_assign rfl) rfl ?_
  refine .nil ?_
  refine .seq ?_
  refine .seq ?_
  refine .region ?_
  refine .q (x := .d (slOf 8 Invoice.row v0)) (q_move rfl) rfl ?_
  refine .q (x := .d (cI (v0.length : Int))) (q_lenL (l := v0) (row := Invoice.row) Try.underlying69 rfl rfl) rfl ?_
  refine .q (x := .d (cB (decide ((v0.length : Int) > 24)))) (q_gtr rfl rfl) rfl ?_
  refine .q (x := .d (cB (decide ((v0.length : Int) > 24)))) (q_move rfl) rfl ?_
  refine .guardG (b := (!(decide ((v0.length : Int) > 24)))) (x := .d (slOf 3 Entry.row v1)) (env' := [(1, _)]) rfl rfl rfl ⟨.inl rfl, trivial⟩ rfl (fun hg => OpQ.g (q_move rfl)) ?_
  refine .guardG (b := (!(decide ((v0.length : Int) > 24)))) (x := .d (cI (v1.length : Int))) (env' := [(13, _)]) rfl rfl rfl ⟨.inr (.inl rfl), trivial⟩ rfl (fun hg => OpQ.g (q_lenL (l := v1) (row := Entry.row) Try.underlying70 rfl rfl)) ?_
  refine .guardG (b := (!(decide ((v0.length : Int) > 24)))) (x := .d (cB (decide ((v1.length : Int) > 24)))) (env' := [(14, _)]) rfl rfl rfl ⟨.inr (.inl rfl), trivial⟩ rfl (fun hg => OpQ.g (q_gtr rfl rfl)) ?_
  refine .q (x := .d (cB ((decide ((v0.length : Int) > 24)) || (decide ((v1.length : Int) > 24))))) (q_pickOrB rfl rfl rfl) rfl ?_
  refine .nil ?_
  refine .cond rfl (fun hc => ?_) (fun hc => ?_)
  · replace H := ifT hc H; clear hc
    refine .seq ?_
    refine .region ?_
    obtain ⟨y1, hy1, H⟩ := bind_some' H
    refine .g (x := .d (cB y1)) (g_call en_10 rfl rfl (c_f_billinglaw54_awake (hy1))) rfl ?_
    refine .q (x := .d (cB y1)) (q_assign rfl) rfl ?_
    refine .nil ?_
    refine .retN [.tmp 4] [.d (cB y1)] Try.func8 Try.results8 ⟨rfl, trivial⟩ ?_
    cases H
    exact ⟨_, .rfl' _, rfl⟩
  · replace H := ifF hc H; clear hc
    refine .skip ?_
    refine .seq ?_
    refine .seq ?_
    refine .region ?_
    refine .q (x := .d (cI 0)) (q_assign rfl) rfl ?_
    refine .nil ?_
    refine .blockJoin2 (ι := Unit) (fun s => [(0, .d (slOf 8 Invoice.row v0)), (1, .d (slOf 3 Entry.row v1))]) (fun s => ⟨[], []⟩) (fun s => f_billinglaw54_AssureBooks_j1 v0 v1 = some r) ?_ ?_
    · rintro _ H
      replace H : f_billinglaw54_AssureBooks_j1 v0 v1 = some r := H
      unfold f_billinglaw54_AssureBooks_j1 at H
      change ARun _ _ _ _ _ _ [(0, .d (slOf 8 Invoice.row v0)), (1, .d (slOf 3 Entry.row v1))] ⟨[], []⟩
      refine .seq ?_
      refine .seq ?_
      refine .region ?_
      refine .q (x := .d (cI 0)) (q_assign rfl) rfl ?_
      refine .nil ?_
      refine .blockJoin2 (ι := Unit) (fun s => [(0, .d (slOf 8 Invoice.row v0)), (1, .d (slOf 3 Entry.row v1))]) (fun s => ⟨[], []⟩) (fun s => f_billinglaw54_AssureBooks_j2 v0 v1 = some r) ?_ ?_
      · rintro _ H
        replace H : f_billinglaw54_AssureBooks_j2 v0 v1 = some r := H
        unfold f_billinglaw54_AssureBooks_j2 at H
        change ARun _ _ _ _ _ _ [(0, .d (slOf 8 Invoice.row v0)), (1, .d (slOf 3 Entry.row v1))] ⟨[], []⟩
        refine .seq ?_
        refine .region ?_
        refine .g (x := .d (.e0 8)) ((hs75 ▸ g_buildSlice0 Try.underlying69 hi75)) rfl ?_
        refine .q (x := .d (slOf 8 Invoice.row v0)) (q_move rfl) rfl ?_
        obtain ⟨hk1, H⟩ := ck_some H
        refine .g (x := .d (slOf 8 Invoice.row v0)) (g_append0L (l' := v0) (row := Invoice.row) Try.underlying69 hi75 hz75 hs75 rfl (by rw [hb75]; decide) rfl (.inl rfl) rfl rfl hk1) rfl ?_
        refine .q (x := .d (slOf 3 Entry.row v1)) (q_move rfl) rfl ?_
        obtain ⟨y2, hy2, H⟩ := bind_some' H
        refine .g (x := .d (slOf 3 Entry.row y2)) (g_call en_26 rfl rfl (c_f_billingref47_CloneAll (hy2))) rfl ?_
        obtain ⟨y3, hy3, H⟩ := bind_some' H
        refine .g (x := .d (slOf 4 Leak.row y3)) (g_call en_25 rfl rfl (c_f_assure_Books (hy3))) rfl ?_
        refine .q (x := .d (slOf 8 Invoice.row v0)) (q_move rfl) rfl ?_
        refine .q (x := .d (slOf 3 Entry.row v1)) (q_move rfl) rfl ?_
        obtain ⟨y4, hy4, H⟩ := bind_some' H
        refine .g (x := .d (slOf 4 Leak.row y4)) (g_call en_27 rfl rfl (c_f_billingref54_Books (hy4))) rfl ?_
        obtain ⟨y5, hy5, H⟩ := bind_some' H
        refine .g (x := .d (cB y5)) (g_call en_13 rfl rfl (c_f_billingref54_Same (hy5))) rfl ?_
        refine .q (x := .d (cB y5)) (q_move rfl) rfl ?_
        obtain ⟨y6, hy6, H⟩ := bind_some' H
        refine .guardG (b := y5) (x := .d (cB y6)) (env' := []) rfl rfl rfl trivial rfl (fun hg => (g_call en_10 rfl rfl (c_f_billinglaw54_awake (gcall_some hy6 hg)))) ?_
        refine .q (x := .d (cB (y5 && y6))) (q_pickAndB rfl rfl rfl) rfl ?_
        refine .q (x := .d (cB (y5 && y6))) (q_assign rfl) rfl ?_
        refine .nil ?_
        refine .retN [.tmp 4] [.d (cB (y5 && y6))] Try.func8 Try.results8 ⟨rfl, trivial⟩ ?_
        cases H
        exact ⟨_, .rfl' _, rfl⟩
      · intro hj2 hj2x
        obtain ⟨n1, H⟩ := loop_some H
        refine .loop (ι := Nat × (Int)) (fun p => [(0, .d (slOf 8 Invoice.row v0)), (1, .d (slOf 3 Entry.row v1)), (6, .d (cI p.2))]) (fun p => ⟨[], []⟩) (fun p => iter (fun s => f_billinglaw54_AssureBooks_l1 v0 v1 s) p.1 p.2 = some r) (·.1) (n1, 0) H (.cons rfl (.rfl' _) (.cons rfl (.rfl' _) (.cons rfl (.rfl' _) (.nil)))) rfl ?_
        rintro ⟨m1, v6l1⟩ HI ih1
        obtain ⟨n1, q1, hm1, H, HK1⟩ := iter_succ HI
        clear HI
        replace H : f_billinglaw54_AssureBooks_l1 v0 v1 v6l1 = some q1 := H
        unfold f_billinglaw54_AssureBooks_l1 at H
        change ARun _ _ _ _ _ _ [(0, .d (slOf 8 Invoice.row v0)), (1, .d (slOf 3 Entry.row v1)), (6, .d (cI v6l1))] ⟨[], []⟩
        refine .seq ?_
        refine .seq ?_
        refine .region ?_
        refine .q (x := .d (cI v6l1)) (q_move rfl) rfl ?_
        refine .q (x := .d (slOf 3 Entry.row v1)) (q_move rfl) rfl ?_
        refine .q (x := .d (cI (v1.length : Int))) (q_lenL (l := v1) (row := Entry.row) Try.underlying70 rfl rfl) rfl ?_
        refine .q (x := .d (cB (decide (v6l1 < (v1.length : Int))))) (q_lss rfl rfl) rfl ?_
        refine .nil ?_
        refine .cond rfl (fun hc => ?_) (fun hc => ?_)
        · replace H := ifT hc H; clear hc
          refine .skip ?_
          refine .seq ?_
          refine .block ?_
          refine .seq ?_
          refine .seq ?_
          refine .region ?_
          refine .q (x := .d (slOf 3 Entry.row v1)) (q_move rfl) rfl ?_
          refine .q (x := .d (cI v6l1)) (q_move rfl) rfl ?_
          obtain ⟨hk2, H⟩ := ck_some H
          refine .q (x := .d (.ro (Entry.row (nth v1 (Int.toNat (v6l1)))))) (q_idxL (row := Entry.row) (l := v1) (i := v6l1) Try.underlying70 hi78 hs78 rfl rfl rfl hk2) rfl ?_
          refine .q (x := .d (.ro ((Entry.row (nth v1 (Int.toNat (v6l1)))).drop 2))) (q_fieldRo fo_78_2 rfl) rfl ?_
          refine .q (x := .d (slOf 2 Post.row ((nth v1 (Int.toNat (v6l1))).posts))) (q_load one_76 rfl) rfl ?_
          refine .q (x := .d (cI (((nth v1 (Int.toNat (v6l1))).posts).length : Int))) (q_lenL (l := (nth v1 (Int.toNat (v6l1))).posts) (row := Post.row) Try.underlying76 rfl rfl) rfl ?_
          refine .q (x := .d (cB (decide ((((nth v1 (Int.toNat (v6l1))).posts).length : Int) > 24)))) (q_gtr rfl rfl) rfl ?_
          refine .nil ?_
          refine .cond rfl (fun hc => ?_) (fun hc => ?_)
          · replace H := ifT hc H; clear hc
            refine .seq ?_
            refine .region ?_
            obtain ⟨y7, hy7, H⟩ := bind_some' H
            refine .g (x := .d (cB y7)) (g_call en_10 rfl rfl (c_f_billinglaw54_awake (hy7))) rfl ?_
            refine .q (x := .d (cB y7)) (q_assign rfl) rfl ?_
            refine .nil ?_
            refine .retN [.tmp 4] [.d (cB y7)] Try.func8 Try.results8 ⟨rfl, trivial⟩ ?_
            cases H
            cases HK1
            exact ⟨_, .rfl' _, rfl⟩
          · replace H := ifF hc H; clear hc
            refine .skip ?_
            refine .seq ?_
            refine .region ?_
            refine .q (x := .d (cI 0)) (q_assign rfl) rfl ?_
            refine .nil ?_
            refine .block ?_
            obtain ⟨n2, H⟩ := loop_some H
            refine .loop (ι := Nat × (Int)) (fun p => [(0, .d (slOf 8 Invoice.row v0)), (1, .d (slOf 3 Entry.row v1)), (6, .d (cI v6l1)), (7, .d (cI p.2))]) (fun p => ⟨[], []⟩) (fun p => iter (fun s => f_billinglaw54_AssureBooks_l2 v1 v6l1 s) p.1 p.2 = some q1) (·.1) (n2, 0) H (.cons rfl (.rfl' _) (.cons rfl (.rfl' _) (.cons rfl (.rfl' _) (.cons rfl (.rfl' _) (.nil))))) rfl ?_
            rintro ⟨m2, v7l2⟩ HI ih2
            obtain ⟨n2, q2, hm2, H, HK2⟩ := iter_succ HI
            clear HI
            replace H : f_billinglaw54_AssureBooks_l2 v1 v6l1 v7l2 = some q2 := H
            unfold f_billinglaw54_AssureBooks_l2 at H
            change ARun _ _ _ _ _ _ [(0, .d (slOf 8 Invoice.row v0)), (1, .d (slOf 3 Entry.row v1)), (6, .d (cI v6l1)), (7, .d (cI v7l2))] ⟨[], []⟩
            refine .seq ?_
            refine .seq ?_
            refine .region ?_
            refine .q (x := .d (cI v7l2)) (q_move rfl) rfl ?_
            refine .q (x := .d (slOf 3 Entry.row v1)) (q_move rfl) rfl ?_
            refine .q (x := .d (cI v6l1)) (q_move rfl) rfl ?_
            obtain ⟨hk3, H⟩ := ck_some H
            refine .q (x := .d (.ro (Entry.row (nth v1 (Int.toNat (v6l1)))))) (q_idxL (row := Entry.row) (l := v1) (i := v6l1) Try.underlying70 hi78 hs78 rfl rfl rfl hk3) rfl ?_
            refine .q (x := .d (.ro ((Entry.row (nth v1 (Int.toNat (v6l1)))).drop 2))) (q_fieldRo fo_78_2 rfl) rfl ?_
            refine .q (x := .d (slOf 2 Post.row ((nth v1 (Int.toNat (v6l1))).posts))) (q_load one_76 rfl) rfl ?_
            refine .q (x := .d (cI (((nth v1 (Int.toNat (v6l1))).posts).length : Int))) (q_lenL (l := (nth v1 (Int.toNat (v6l1))).posts) (row := Post.row) Try.underlying76 rfl rfl) rfl ?_
            refine .q (x := .d (cB (decide (v7l2 < (((nth v1 (Int.toNat (v6l1))).posts).length : Int))))) (q_lss rfl rfl) rfl ?_
            refine .nil ?_
            refine .cond rfl (fun hc => ?_) (fun hc => ?_)
            · replace H := ifT hc H; clear hc
              refine .skip ?_
              refine .seq ?_
              refine .block ?_
              refine .seq ?_
              refine .region ?_
              refine .q (x := .d (slOf 3 Entry.row v1)) (q_move rfl) rfl ?_
              refine .q (x := .d (cI v6l1)) (q_move rfl) rfl ?_
              obtain ⟨hk4, H⟩ := ck_some H
              refine .q (x := .d (.ro (Entry.row (nth v1 (Int.toNat (v6l1)))))) (q_idxL (row := Entry.row) (l := v1) (i := v6l1) Try.underlying70 hi78 hs78 rfl rfl rfl hk4) rfl ?_
              refine .q (x := .d (.ro ((Entry.row (nth v1 (Int.toNat (v6l1)))).drop 2))) (q_fieldRo fo_78_2 rfl) rfl ?_
              refine .q (x := .d (slOf 2 Post.row ((nth v1 (Int.toNat (v6l1))).posts))) (q_load one_76 rfl) rfl ?_
              refine .q (x := .d (cI v7l2)) (q_move rfl) rfl ?_
              obtain ⟨hk5, H⟩ := ck_some H
              refine .q (x := .d (.ro (Post.row (nth ((nth v1 (Int.toNat (v6l1))).posts) (Int.toNat (v7l2)))))) (q_idxL (row := Post.row) (l := (nth v1 (Int.toNat (v6l1))).posts) (i := v7l2) Try.underlying76 hi80 hs80 rfl rfl rfl hk5) rfl ?_
              refine .q (x := .d (.ro ((Post.row (nth ((nth v1 (Int.toNat (v6l1))).posts) (Int.toNat (v7l2)))).drop 1))) (q_fieldRo fo_80_1 rfl) rfl ?_
              refine .q (x := .d (cI ((nth ((nth v1 (Int.toNat (v6l1))).posts) (Int.toNat (v7l2))).amount))) (q_load one_3 rfl) rfl ?_
              refine .q (x := .d (cI ((nth ((nth v1 (Int.toNat (v6l1))).posts) (Int.toNat (v7l2))).amount))) (q_assign rfl) rfl ?_
              refine .nil ?_
              refine .seq ?_
              refine .region ?_
              refine .q (x := .d (cI ((nth ((nth v1 (Int.toNat (v6l1))).posts) (Int.toNat (v7l2))).amount))) (q_move rfl) rfl ?_
              refine .q (x := .d (cB (decide (((nth ((nth v1 (Int.toNat (v6l1))).posts) (Int.toNat (v7l2))).amount) < (-1125899906842624))))) (q_lss rfl rfl) rfl ?_
              refine .q (x := .d (cB (decide (((nth ((nth v1 (Int.toNat (v6l1))).posts) (Int.toNat (v7l2))).amount) < (-1125899906842624))))) (q_move rfl) rfl ?_
              refine .guardG (b := (!(decide (((nth ((nth v1 (Int.toNat (v6l1))).posts) (Int.toNat (v7l2))).amount) < (-1125899906842624))))) (x := .d (cI ((nth ((nth v1 (Int.toNat (v6l1))).posts) (Int.toNat (v7l2))).amount))) (env' := [(8, _)]) rfl rfl rfl ⟨.inl rfl, trivial⟩ rfl (fun hg => OpQ.g (q_move rfl)) ?_
              refine .guardG (b := (!(decide (((nth ((nth v1 (Int.toNat (v6l1))).posts) (Int.toNat (v7l2))).amount) < (-1125899906842624))))) (x := .d (cB (decide (((nth ((nth v1 (Int.toNat (v6l1))).posts) (Int.toNat (v7l2))).amount) > 1125899906842624)))) (env' := [(91, _)]) rfl rfl rfl ⟨.inr (.inl rfl), trivial⟩ rfl (fun hg => OpQ.g (q_gtr rfl rfl)) ?_
              refine .q (x := .d (cB ((decide (((nth ((nth v1 (Int.toNat (v6l1))).posts) (Int.toNat (v7l2))).amount) < (-1125899906842624))) || (decide (((nth ((nth v1 (Int.toNat (v6l1))).posts) (Int.toNat (v7l2))).amount) > 1125899906842624))))) (q_pickOrB rfl rfl rfl) rfl ?_
              refine .nil ?_
              refine .cond rfl (fun hc => ?_) (fun hc => ?_)
              · replace H := ifT hc H; clear hc
                refine .seq ?_
                refine .region ?_
                obtain ⟨y8, hy8, H⟩ := bind_some' H
                refine .g (x := .d (cB y8)) (g_call en_10 rfl rfl (c_f_billinglaw54_awake (hy8))) rfl ?_
                refine .q (x := .d (cB y8)) (q_assign rfl) rfl ?_
                refine .nil ?_
                refine .retN [.tmp 4] [.d (cB y8)] Try.func8 Try.results8 ⟨rfl, trivial⟩ ?_
                cases H
                cases HK2
                cases HK1
                exact ⟨_, .rfl' _, rfl⟩
              · replace H := ifF hc H; clear hc
                refine .skip ?_
                refine .inBlock ?_
                refine .region ?_
                refine .q (x := .d (cI v7l2)) (q_move rfl) rfl ?_
                obtain ⟨hk6, H⟩ := ck_some H
                refine .q (x := .d (cI (v7l2 + 1))) (q_addI rfl rfl hk6.1 hk6.2) rfl ?_
                refine .q (x := .d (cI (v7l2 + 1))) (q_assign rfl) rfl ?_
                refine .nil ?_
                cases H
                exact .sub (.cons rfl (.rfl' _) (.cons rfl (.rfl' _) (.cons rfl (.rfl' _) (.cons rfl (.rfl' _) (.nil))))) (ih2 (n2, (v7l2 + 1)) HK2 hm2)
            · replace H := ifF hc H; clear hc
              refine .exit rfl ?_
              refine .inBlock ?_
              refine .region ?_
              refine .q (x := .d (cI v6l1)) (q_move rfl) rfl ?_
              obtain ⟨hk7, H⟩ := ck_some H
              refine .q (x := .d (cI (v6l1 + 1))) (q_addI rfl rfl hk7.1 hk7.2) rfl ?_
              refine .q (x := .d (cI (v6l1 + 1))) (q_assign rfl) rfl ?_
              refine .nil ?_
              cases H
              cases HK2
              exact .sub (.cons rfl (.rfl' _) (.cons rfl (.rfl' _) (.cons rfl (.rfl' _) (.nil)))) (ih1 (n1, (v6l1 + 1)) HK1 hm1)
        · replace H := ifF hc H; clear hc
          refine .exit rfl ?_
          obtain ⟨q0, H9, hq0⟩ := map_some' H; clear H; cases hq0
          cases HK1
          have H := H9
          exact .sub (.cons rfl (.rfl' _) (.cons rfl (.rfl' _) (.nil))) (hj2x () H)
    · intro hj1 hj1x
      obtain ⟨n3, H⟩ := loop_some H
      refine .loop (ι := Nat × (Int)) (fun p => [(0, .d (slOf 8 Invoice.row v0)), (1, .d (slOf 3 Entry.row v1)), (5, .d (cI p.2))]) (fun p => ⟨[], []⟩) (fun p => iter (fun s => f_billinglaw54_AssureBooks_l3 v0 v1 s) p.1 p.2 = some r) (·.1) (n3, 0) H (.cons rfl (.rfl' _) (.cons rfl (.rfl' _) (.cons rfl (.rfl' _) (.nil)))) rfl ?_
      rintro ⟨m1, v5l3⟩ HI ih1
      obtain ⟨n1, q1, hm1, H, HK1⟩ := iter_succ HI
      clear HI
      replace H : f_billinglaw54_AssureBooks_l3 v0 v1 v5l3 = some q1 := H
      unfold f_billinglaw54_AssureBooks_l3 at H
      change ARun _ _ _ _ _ _ [(0, .d (slOf 8 Invoice.row v0)), (1, .d (slOf 3 Entry.row v1)), (5, .d (cI v5l3))] ⟨[], []⟩
      refine .seq ?_
      refine .seq ?_
      refine .region ?_
      refine .q (x := .d (cI v5l3)) (q_move rfl) rfl ?_
      refine .q (x := .d (slOf 8 Invoice.row v0)) (q_move rfl) rfl ?_
      refine .q (x := .d (cI (v0.length : Int))) (q_lenL (l := v0) (row := Invoice.row) Try.underlying69 rfl rfl) rfl ?_
      refine .q (x := .d (cB (decide (v5l3 < (v0.length : Int))))) (q_lss rfl rfl) rfl ?_
      refine .nil ?_
      refine .cond rfl (fun hc => ?_) (fun hc => ?_)
      · replace H := ifT hc H; clear hc
        refine .skip ?_
        refine .seq ?_
        refine .block ?_
        refine .seq ?_
        refine .region ?_
        refine .q (x := .d (slOf 8 Invoice.row v0)) (q_move rfl) rfl ?_
        refine .q (x := .d (cI v5l3)) (q_move rfl) rfl ?_
        obtain ⟨hk8, H⟩ := ck_some H
        refine .q (x := .d (.ro (Invoice.row (nth v0 (Int.toNat (v5l3)))))) (q_idxL (row := Invoice.row) (l := v0) (i := v5l3) Try.underlying69 hi75 hs75 rfl rfl rfl hk8) rfl ?_
        refine .q (x := .d (.ro ((Invoice.row (nth v0 (Int.toNat (v5l3)))).drop 7))) (q_fieldRo fo_75_6 rfl) rfl ?_
        refine .q (x := .d (cI ((nth v0 (Int.toNat (v5l3))).total))) (q_load one_3 rfl) rfl ?_
        refine .q (x := .d (cB (decide (((nth v0 (Int.toNat (v5l3))).total) < (-1125899906842624))))) (q_lss rfl rfl) rfl ?_
        refine .q (x := .d (cB (decide (((nth v0 (Int.toNat (v5l3))).total) < (-1125899906842624))))) (q_move rfl) rfl ?_
        refine .guardG (b := (!(decide (((nth v0 (Int.toNat (v5l3))).total) < (-1125899906842624))))) (x := .d (slOf 8 Invoice.row v0)) (env' := [(0, _)]) rfl rfl rfl ⟨.inl rfl, trivial⟩ rfl (fun hg => OpQ.g (q_move rfl)) ?_
        refine .guardG (b := (!(decide (((nth v0 (Int.toNat (v5l3))).total) < (-1125899906842624))))) (x := .d (cI v5l3)) (env' := [(5, _)]) rfl rfl rfl ⟨.inl rfl, trivial⟩ rfl (fun hg => OpQ.g (q_move rfl)) ?_
        obtain ⟨hk9, H⟩ := ck_some H
        refine .guardG (b := (!(decide (((nth v0 (Int.toNat (v5l3))).total) < (-1125899906842624))))) (x := .d (.ro (Invoice.row (nth v0 (Int.toNat (v5l3)))))) (env' := [(31, _), (32, _)]) rfl rfl rfl ⟨.inr (.inl rfl), ⟨.inr (.inl rfl), trivial⟩⟩ rfl (fun hg => OpQ.g (q_idxL (row := Invoice.row) (l := v0) (i := v5l3) Try.underlying69 hi75 hs75 rfl rfl rfl (hk9 hg))) ?_
        refine .guardG (b := (!(decide (((nth v0 (Int.toNat (v5l3))).total) < (-1125899906842624))))) (x := .d (.ro ((Invoice.row (nth v0 (Int.toNat (v5l3)))).drop 7))) (env' := [(33, _)]) rfl rfl rfl ⟨.inr (.inl rfl), trivial⟩ rfl (fun hg => OpQ.g (q_fieldRo fo_75_6 rfl)) ?_
        refine .guardG (b := (!(decide (((nth v0 (Int.toNat (v5l3))).total) < (-1125899906842624))))) (x := .d (cI ((nth v0 (Int.toNat (v5l3))).total))) (env' := [(34, _)]) rfl rfl rfl ⟨.inr (.inl rfl), trivial⟩ rfl (fun hg => OpQ.g (q_load one_3 rfl)) ?_
        refine .guardG (b := (!(decide (((nth v0 (Int.toNat (v5l3))).total) < (-1125899906842624))))) (x := .d (cB (decide (((nth v0 (Int.toNat (v5l3))).total) > 1125899906842624)))) (env' := [(35, _)]) rfl rfl rfl ⟨.inr (.inl rfl), trivial⟩ rfl (fun hg => OpQ.g (q_gtr rfl rfl)) ?_
        refine .q (x := .d (cB ((decide (((nth v0 (Int.toNat (v5l3))).total) < (-1125899906842624))) || (decide (((nth v0 (Int.toNat (v5l3))).total) > 1125899906842624))))) (q_pickOrB rfl rfl rfl) rfl ?_
        refine .q (x := .d (cB ((decide (((nth v0 (Int.toNat (v5l3))).total) < (-1125899906842624))) || (decide (((nth v0 (Int.toNat (v5l3))).total) > 1125899906842624))))) (q_move rfl) rfl ?_
        refine .guardG (b := (!((decide (((nth v0 (Int.toNat (v5l3))).total) < (-1125899906842624))) || (decide (((nth v0 (Int.toNat (v5l3))).total) > 1125899906842624))))) (x := .d (slOf 8 Invoice.row v0)) (env' := [(0, _)]) rfl rfl rfl ⟨.inl rfl, trivial⟩ rfl (fun hg => OpQ.g (q_move rfl)) ?_
        refine .guardG (b := (!((decide (((nth v0 (Int.toNat (v5l3))).total) < (-1125899906842624))) || (decide (((nth v0 (Int.toNat (v5l3))).total) > 1125899906842624))))) (x := .d (cI v5l3)) (env' := [(5, _)]) rfl rfl rfl ⟨.inl rfl, trivial⟩ rfl (fun hg => OpQ.g (q_move rfl)) ?_
        obtain ⟨hk10, H⟩ := ck_some H
        refine .guardG (b := (!((decide (((nth v0 (Int.toNat (v5l3))).total) < (-1125899906842624))) || (decide (((nth v0 (Int.toNat (v5l3))).total) > 1125899906842624))))) (x := .d (.ro (Invoice.row (nth v0 (Int.toNat (v5l3)))))) (env' := [(39, _), (40, _)]) rfl rfl rfl ⟨.inr (.inl rfl), ⟨.inr (.inl rfl), trivial⟩⟩ rfl (fun hg => OpQ.g (q_idxL (row := Invoice.row) (l := v0) (i := v5l3) Try.underlying69 hi75 hs75 rfl rfl rfl (hk10 hg))) ?_
        refine .guardG (b := (!((decide (((nth v0 (Int.toNat (v5l3))).total) < (-1125899906842624))) || (decide (((nth v0 (Int.toNat (v5l3))).total) > 1125899906842624))))) (x := .d (.ro (Invoice.row (nth v0 (Int.toNat (v5l3)))))) (env' := [(41, _)]) rfl rfl rfl ⟨.inr (.inl rfl), trivial⟩ rfl (fun hg => OpQ.g (q_fieldRo fo_75_0 rfl)) ?_
        refine .guardG (b := (!((decide (((nth v0 (Int.toNat (v5l3))).total) < (-1125899906842624))) || (decide (((nth v0 (Int.toNat (v5l3))).total) > 1125899906842624))))) (x := .d (cI ((nth v0 (Int.toNat (v5l3))).account))) (env' := [(42, _)]) rfl rfl rfl ⟨.inr (.inl rfl), trivial⟩ rfl (fun hg => OpQ.g (q_load one_3 rfl)) ?_
        refine .guardG (b := (!((decide (((nth v0 (Int.toNat (v5l3))).total) < (-1125899906842624))) || (decide (((nth v0 (Int.toNat (v5l3))).total) > 1125899906842624))))) (x := .d (cB (decide (((nth v0 (Int.toNat (v5l3))).account) < 1)))) (env' := [(43, _)]) rfl rfl rfl ⟨.inr (.inl rfl), trivial⟩ rfl (fun hg => OpQ.g (q_lss rfl rfl)) ?_
        refine .q (x := .d (cB (((decide (((nth v0 (Int.toNat (v5l3))).total) < (-1125899906842624))) || (decide (((nth v0 (Int.toNat (v5l3))).total) > 1125899906842624))) || (decide (((nth v0 (Int.toNat (v5l3))).account) < 1))))) (q_pickOrB rfl rfl rfl) rfl ?_
        refine .q (x := .d (cB (((decide (((nth v0 (Int.toNat (v5l3))).total) < (-1125899906842624))) || (decide (((nth v0 (Int.toNat (v5l3))).total) > 1125899906842624))) || (decide (((nth v0 (Int.toNat (v5l3))).account) < 1))))) (q_move rfl) rfl ?_
        refine .guardG (b := (!(((decide (((nth v0 (Int.toNat (v5l3))).total) < (-1125899906842624))) || (decide (((nth v0 (Int.toNat (v5l3))).total) > 1125899906842624))) || (decide (((nth v0 (Int.toNat (v5l3))).account) < 1))))) (x := .d (slOf 8 Invoice.row v0)) (env' := [(0, _)]) rfl rfl rfl ⟨.inl rfl, trivial⟩ rfl (fun hg => OpQ.g (q_move rfl)) ?_
        refine .guardG (b := (!(((decide (((nth v0 (Int.toNat (v5l3))).total) < (-1125899906842624))) || (decide (((nth v0 (Int.toNat (v5l3))).total) > 1125899906842624))) || (decide (((nth v0 (Int.toNat (v5l3))).account) < 1))))) (x := .d (cI v5l3)) (env' := [(5, _)]) rfl rfl rfl ⟨.inl rfl, trivial⟩ rfl (fun hg => OpQ.g (q_move rfl)) ?_
        obtain ⟨hk11, H⟩ := ck_some H
        refine .guardG (b := (!(((decide (((nth v0 (Int.toNat (v5l3))).total) < (-1125899906842624))) || (decide (((nth v0 (Int.toNat (v5l3))).total) > 1125899906842624))) || (decide (((nth v0 (Int.toNat (v5l3))).account) < 1))))) (x := .d (.ro (Invoice.row (nth v0 (Int.toNat (v5l3)))))) (env' := [(47, _), (48, _)]) rfl rfl rfl ⟨.inr (.inl rfl), ⟨.inr (.inl rfl), trivial⟩⟩ rfl (fun hg => OpQ.g (q_idxL (row := Invoice.row) (l := v0) (i := v5l3) Try.underlying69 hi75 hs75 rfl rfl rfl (hk11 hg))) ?_
        refine .guardG (b := (!(((decide (((nth v0 (Int.toNat (v5l3))).total) < (-1125899906842624))) || (decide (((nth v0 (Int.toNat (v5l3))).total) > 1125899906842624))) || (decide (((nth v0 (Int.toNat (v5l3))).account) < 1))))) (x := .d (.ro (Invoice.row (nth v0 (Int.toNat (v5l3)))))) (env' := [(49, _)]) rfl rfl rfl ⟨.inr (.inl rfl), trivial⟩ rfl (fun hg => OpQ.g (q_fieldRo fo_75_0 rfl)) ?_
        refine .guardG (b := (!(((decide (((nth v0 (Int.toNat (v5l3))).total) < (-1125899906842624))) || (decide (((nth v0 (Int.toNat (v5l3))).total) > 1125899906842624))) || (decide (((nth v0 (Int.toNat (v5l3))).account) < 1))))) (x := .d (cI ((nth v0 (Int.toNat (v5l3))).account))) (env' := [(50, _)]) rfl rfl rfl ⟨.inr (.inl rfl), trivial⟩ rfl (fun hg => OpQ.g (q_load one_3 rfl)) ?_
        refine .guardG (b := (!(((decide (((nth v0 (Int.toNat (v5l3))).total) < (-1125899906842624))) || (decide (((nth v0 (Int.toNat (v5l3))).total) > 1125899906842624))) || (decide (((nth v0 (Int.toNat (v5l3))).account) < 1))))) (x := .d (cB (decide (((nth v0 (Int.toNat (v5l3))).account) > 9999)))) (env' := [(51, _)]) rfl rfl rfl ⟨.inr (.inl rfl), trivial⟩ rfl (fun hg => OpQ.g (q_gtr rfl rfl)) ?_
        refine .q (x := .d (cB ((((decide (((nth v0 (Int.toNat (v5l3))).total) < (-1125899906842624))) || (decide (((nth v0 (Int.toNat (v5l3))).total) > 1125899906842624))) || (decide (((nth v0 (Int.toNat (v5l3))).account) < 1))) || (decide (((nth v0 (Int.toNat (v5l3))).account) > 9999))))) (q_pickOrB rfl rfl rfl) rfl ?_
        refine .nil ?_
        refine .cond rfl (fun hc => ?_) (fun hc => ?_)
        · replace H := ifT hc H; clear hc
          refine .seq ?_
          refine .region ?_
          obtain ⟨y9, hy9, H⟩ := bind_some' H
          refine .g (x := .d (cB y9)) (g_call en_10 rfl rfl (c_f_billinglaw54_awake (hy9))) rfl ?_
          refine .q (x := .d (cB y9)) (q_assign rfl) rfl ?_
          refine .nil ?_
          refine .retN [.tmp 4] [.d (cB y9)] Try.func8 Try.results8 ⟨rfl, trivial⟩ ?_
          cases H
          cases HK1
          exact ⟨_, .rfl' _, rfl⟩
        · replace H := ifF hc H; clear hc
          refine .skip ?_
          refine .inBlock ?_
          refine .region ?_
          refine .q (x := .d (cI v5l3)) (q_move rfl) rfl ?_
          obtain ⟨hk12, H⟩ := ck_some H
          refine .q (x := .d (cI (v5l3 + 1))) (q_addI rfl rfl hk12.1 hk12.2) rfl ?_
          refine .q (x := .d (cI (v5l3 + 1))) (q_assign rfl) rfl ?_
          refine .nil ?_
          cases H
          exact .sub (.cons rfl (.rfl' _) (.cons rfl (.rfl' _) (.cons rfl (.rfl' _) (.nil)))) (ih1 (n1, (v5l3 + 1)) HK1 hm1)
      · replace H := ifF hc H; clear hc
        refine .exit rfl ?_
        obtain ⟨q0, H9, hq0⟩ := map_some' H; clear H; cases hq0
        cases HK1
        have H := H9
        exact .sub (.cons rfl (.rfl' _) (.cons rfl (.rfl' _) (.nil))) (hj1x () H)

end Go.Proofs.Ytpdanklncjopoaa
