/- Our own texts LW0 of this seat in one. -/
import Derived.Test.YtpdanklncjopoaaZ2
set_option linter.unusedSimpArgs false
set_option linter.unusedVariables false
namespace Go.Proofs.Ytpdanklncjopoaa
open Go.RowKit Go.Abs
set_option maxRecDepth 100000 in
set_option maxHeartbeats 1000000 in
theorem c_f_billinglaw54_usages {v0list : List Usage} {r : Bool} (H : f_billinglaw54_usages v0list = some r) : ACall Try.prog 17 [slOf 12 Usage.row v0list] (· = cB r) := by
  obtain ⟨i52, hi52, hz52, hs52, hb52⟩ := in_52
  refine ACall.enter' Try.func17 rfl Try.ntmps17 rfl fun S hS => ?_
  unfold f_billinglaw54_usages at H
  change ARun _ _ _ _ _ _ [(0, .d (slOf 12 Usage.row v0list))] _
  refine .seq ?_
  refine .region ?_
  refine .q (q_assign rfl) rfl ?_
  refine .nil ?_
  refine .seq ?_
  refine .seq ?_
  refine .region ?_
  refine .q (q_assign rfl) rfl ?_
  refine .nil ?_
  refine .blockJoin2 (ι := Unit) (fun s => [(0, .d (slOf 12 Usage.row v0list))]) (fun s => ⟨[], []⟩) (fun s => f_billinglaw54_usages_j1 v0list = some r) ?_ ?_
  · rintro _ H
    replace H : f_billinglaw54_usages_j1 v0list = some r := H
    unfold f_billinglaw54_usages_j1 at H
    change ARun _ _ _ _ _ _ [(0, .d (slOf 12 Usage.row v0list))] ⟨[], []⟩
    refine .seq ?_
    refine .region ?_
    refine .q (q_move rfl) rfl ?_
    refine .q (q_lenL (l := v0list) (row := Usage.row) Try.underlying31 rfl rfl) rfl ?_
    refine .q (q_leq rfl rfl) rfl ?_
    refine .q (q_assign rfl) rfl ?_
    refine .nil ?_
    refine .retN [.tmp 2] [.d (cB (decide ((v0list.length : Int) ≤ 24)))] Try.func17 Try.results17 ⟨rfl, trivial⟩ ?_
    cases H
    exact ⟨_, .rfl' _, rfl⟩
  · intro hj1 hj1x
    obtain ⟨n1, H⟩ := loop_some H
    refine .loop (ι := Nat × (Int)) (fun p => [(0, .d (slOf 12 Usage.row v0list)), (3, .d (cI p.2))]) (fun p => ⟨[], []⟩) (fun p => iter (fun s => f_billinglaw54_usages_l1 v0list s) p.1 p.2 = some r) (·.1) (n1, 0) H (.cons rfl (.rfl' _) (.cons rfl (.rfl' _) (.nil))) rfl ?_
    rintro ⟨m1, v3il1⟩ HI ih1
    obtain ⟨n1, q1, hm1, H, HK1⟩ := iter_succ HI
    clear HI
    replace H : f_billinglaw54_usages_l1 v0list v3il1 = some q1 := H
    unfold f_billinglaw54_usages_l1 at H
    change ARun _ _ _ _ _ _ [(0, .d (slOf 12 Usage.row v0list)), (3, .d (cI v3il1))] ⟨[], []⟩
    refine .seq ?_
    refine .seq ?_
    refine .region ?_
    refine .q (q_move rfl) rfl ?_
    refine .q (q_move rfl) rfl ?_
    refine .q (q_lenL (l := v0list) (row := Usage.row) Try.underlying31 rfl rfl) rfl ?_
    refine .q (q_lss rfl rfl) rfl ?_
    refine .q (q_move rfl) rfl ?_
    refine .guardG (env' := [(3, _)]) rfl rfl rfl ⟨.inl rfl, trivial⟩ rfl (fun hg => OpQ.g (q_move rfl)) ?_
    refine .guardG (env' := [(9, _)]) rfl rfl rfl ⟨.inr (.inl rfl), trivial⟩ rfl (fun hg => OpQ.g (q_leq rfl rfl)) ?_
    refine .q (q_pickAndB rfl rfl rfl) rfl ?_
    refine .nil ?_
    refine .cond rfl (fun hc => ?_) (fun hc => ?_)
    · replace H := ifT hc H; clear hc
      refine .skip ?_
      refine .seq ?_
      refine .block ?_
      refine .seq ?_
      refine .region ?_
      refine .q (q_move rfl) rfl ?_
      refine .q (q_move rfl) rfl ?_
      obtain ⟨hk1, H⟩ := ck_some H
      refine .q (x := .d (.ro (Usage.row (nth v0list (Int.toNat (v3il1)))))) (q_idxL (row := Usage.row) (l := v0list) (i := v3il1) Try.underlying31 hi52 hs52 rfl rfl rfl hk1) rfl ?_
      refine .q (q_fieldRo fo_52_7 rfl) rfl ?_
      refine .q (x := .d (cI ((nth v0list (Int.toNat (v3il1))).units))) (q_load one_3 rfl) rfl ?_
      refine .q (q_lss rfl rfl) rfl ?_
      refine .q (q_move rfl) rfl ?_
      refine .guardG (env' := [(0, _)]) rfl rfl rfl ⟨.inl rfl, trivial⟩ rfl (fun hg => OpQ.g (q_move rfl)) ?_
      refine .guardG (env' := [(3, _)]) rfl rfl rfl ⟨.inl rfl, trivial⟩ rfl (fun hg => OpQ.g (q_move rfl)) ?_
      obtain ⟨hk2, H⟩ := ck_some H
      refine .guardG (b := (!(decide (((nth v0list (Int.toNat (v3il1))).units) < 0)))) (x := .d (.ro (Usage.row (nth v0list (Int.toNat (v3il1)))))) (env' := [(21, _), (22, _)]) rfl rfl rfl ⟨.inr (.inl rfl), ⟨.inr (.inl rfl), trivial⟩⟩ rfl (fun hg => OpQ.g (q_idxL (row := Usage.row) (l := v0list) (i := v3il1) Try.underlying31 hi52 hs52 rfl rfl rfl (hk2 hg))) ?_
      refine .guardG (env' := [(23, _)]) rfl rfl rfl ⟨.inr (.inl rfl), trivial⟩ rfl (fun hg => OpQ.g (q_fieldRo fo_52_7 rfl)) ?_
      refine .guardG (b := (!(decide (((nth v0list (Int.toNat (v3il1))).units) < 0)))) (x := .d (cI ((nth v0list (Int.toNat (v3il1))).units))) (env' := [(24, _)]) rfl rfl rfl ⟨.inr (.inl rfl), trivial⟩ rfl (fun hg => OpQ.g (q_load one_3 rfl)) ?_
      refine .guardG (env' := [(25, _)]) rfl rfl rfl ⟨.inr (.inl rfl), trivial⟩ rfl (fun hg => OpQ.g (q_gtr rfl rfl)) ?_
      refine .q (q_pickOrB rfl rfl rfl) rfl ?_
      refine .nil ?_
      refine .cond rfl (fun hc => ?_) (fun hc => ?_)
      · replace H := ifT hc H; clear hc
        refine .seq ?_
        refine .region ?_
        refine .q (q_assign rfl) rfl ?_
        refine .nil ?_
        refine .retN [.tmp 2] [.d (cB false)] Try.func17 Try.results17 ⟨rfl, trivial⟩ ?_
        cases H
        cases HK1
        exact ⟨_, .rfl' _, rfl⟩
      · replace H := ifF hc H; clear hc
        refine .skip ?_
        refine .inBlock ?_
        refine .region ?_
        refine .q (q_move rfl) rfl ?_
        obtain ⟨hk3, H⟩ := ck_some H
        refine .q (q_addI rfl rfl hk3.1 hk3.2) rfl ?_
        refine .q (q_assign rfl) rfl ?_
        refine .nil ?_
        cases H
        exact .sub (.cons rfl (.rfl' _) (.cons rfl (.rfl' _) (.nil))) (ih1 (n1, (v3il1 + 1)) HK1 hm1)
    · replace H := ifF hc H; clear hc
      refine .exit rfl ?_
      obtain ⟨q0, H9, hq0⟩ := map_some' H; clear H; cases hq0
      cases HK1
      have H := H9
      exact .sub (.cons rfl (.rfl' _) (.nil)) (hj1x () H)

set_option maxRecDepth 100000 in
set_option maxHeartbeats 1000000 in
theorem c_f_assure_keys {v0list : List Int} {v1n : Int} {r : (List Int)} (H : f_assure_keys v0list v1n = some r) : ACall Try.prog 34 [slOf 1 rI v0list, cI v1n] (· = slOf 1 rI r) := by
  obtain ⟨i3, hi3, hz3, hs3, hb3⟩ := in_3
  refine ACall.enter' Try.func34 rfl Try.ntmps34 rfl fun S hS => ?_
  unfold f_assure_keys at H
  change ARun _ _ _ _ _ _ [(0, .d (slOf 1 rI v0list)), (1, .d (cI v1n))] _
  refine .seq ?_
  refine .region ?_
  refine .q (q_assign rfl) rfl ?_
  refine .nil ?_
  refine .seq ?_
  refine .region ?_
  refine .q (q_move rfl) rfl ?_
  refine .q (q_lenL (l := v0list) (row := rI) Try.underlying100 rfl rfl) rfl ?_
  refine .q (q_assign rfl) rfl ?_
  refine .q (q_assign rfl) rfl ?_
  refine .nil ?_
  refine .seq ?_
  refine .blockJoin2 (ι := Int) (fun s => [(0, .d (slOf 1 rI v0list)), (1, .d (cI v1n)), (5, .d (cI s))]) (fun s => ⟨[], []⟩) (fun s => f_assure_keys_j1 v0list v1n s = some r) ?_ ?_
  · rintro v5atj1 H
    replace H : f_assure_keys_j1 v0list v1n v5atj1 = some r := H
    unfold f_assure_keys_j1 at H
    change ARun _ _ _ _ _ _ [(0, .d (slOf 1 rI v0list)), (1, .d (cI v1n)), (5, .d (cI v5atj1))] ⟨[], []⟩
    refine .seq ?_
    refine .seq ?_
    refine .region ?_
    refine .q (q_move rfl) rfl ?_
    refine .q (q_move rfl) rfl ?_
    refine .q (q_lenL (l := v0list) (row := rI) Try.underlying100 rfl rfl) rfl ?_
    refine .q (q_lss rfl rfl) rfl ?_
    refine .q (q_move rfl) rfl ?_
    refine .guardG (env' := [(0, _)]) rfl rfl rfl ⟨.inl rfl, trivial⟩ rfl (fun hg => OpQ.g (q_move rfl)) ?_
    refine .guardG (env' := [(5, _)]) rfl rfl rfl ⟨.inl rfl, trivial⟩ rfl (fun hg => OpQ.g (q_move rfl)) ?_
    obtain ⟨hk1, H⟩ := ck_some H
    refine .guardG (b := decide (v5atj1 < (v0list.length : Int))) (x := .d (.ro (rI (nth v0list (Int.toNat (v5atj1)))))) (env' := [(32, _), (33, _)]) rfl rfl rfl ⟨.inr (.inl rfl), ⟨.inr (.inl rfl), trivial⟩⟩ rfl (fun hg => OpQ.g (q_idxL (row := rI) (l := v0list) (i := v5atj1) Try.underlying100 hi3 hs3 rfl rfl rfl (hk1 hg))) ?_
    refine .guardG (b := decide (v5atj1 < (v0list.length : Int))) (x := .d (cI (nth v0list (Int.toNat (v5atj1))))) (env' := [(34, _)]) rfl rfl rfl ⟨.inr (.inl rfl), trivial⟩ rfl (fun hg => OpQ.g (q_load one_3 rfl)) ?_
    refine .guardG (env' := [(1, _)]) rfl rfl rfl ⟨.inl rfl, trivial⟩ rfl (fun hg => OpQ.g (q_move rfl)) ?_
    refine .guardG (env' := [(35, _), (36, _)]) rfl rfl rfl ⟨.inr (.inl rfl), ⟨.inr (.inl rfl), trivial⟩⟩ rfl (fun hg => OpQ.g (q_eql rfl rfl)) ?_
    refine .q (q_pickAndB rfl rfl rfl) rfl ?_
    refine .nil ?_
    refine .cond rfl (fun hc => ?_) (fun hc => ?_)
    · replace H := ifT hc H; clear hc
      refine .seq ?_
      refine .region ?_
      refine .q (q_move rfl) rfl ?_
      refine .q (q_assign rfl) rfl ?_
      refine .nil ?_
      refine .retN [.tmp 4] [.d (slOf 1 rI v0list)] Try.func34 Try.results34 ⟨rfl, trivial⟩ ?_
      cases H
      exact ⟨_, .rfl' _, rfl⟩
    · replace H := ifF hc H; clear hc
      refine .skip ?_
      refine .seq ?_
      refine .region ?_
      refine .q (q_move rfl) rfl ?_
      refine .q (q_move rfl) rfl ?_
      obtain ⟨hk2, H⟩ := ck_some H
      refine .q (x := .d (slOf 1 rI (v0list.take (Int.toNat (v5atj1))))) (q_slHL (l := v0list) (row := rI) Try.underlying100 hi3 hs3 rfl rfl rfl hk2) rfl ?_
      obtain ⟨hk3, H⟩ := ck_some H
      refine .v (x := .tsl 1 ((v0list.take (Int.toNat (v5atj1))).map rI) 0) (v_appendNilL (l' := v0list.take (Int.toNat (v5atj1))) (row := rI) Try.underlying100 hi3 hz3 hs3 rfl (by rw [hb3]; decide) rfl rfl rfl hk3) rfl ?_
      refine .withSt (st' := ⟨[], [⟨3, 1, (v0list.take (Int.toNat (v5atj1))).length, none⟩]⟩) rfl ?_
      refine .q (q_assign rfl) rfl ?_
      refine .nil ?_
      refine .seq ?_
      refine .region ?_
      refine .q (q_move rfl) rfl ?_
      refine .q (q_move rfl) rfl ?_
      refine .g (x := .d (slOf 1 rI ([v1n] : List Int))) (g_buildSlice1 Try.underlying100 hi3 hs3 hz3 rfl rfl rfl rfl rfl) rfl ?_
      obtain ⟨hk4, H⟩ := ck_some H
      refine .v (x := .tsl 1 (((v0list.take (Int.toNat (v5atj1))) ++ ([v1n] : List Int)).map rI) 0) (v_appendL (l := v0list.take (Int.toNat (v5atj1))) (l' := ([v1n] : List Int)) (row := rI) Try.underlying100 hi3 hz3 hs3 rfl (by rw [hb3]; decide) rfl rfl rfl rfl hk4) rfl ?_
      refine .withSt (st' := ⟨[], [⟨3, 1, ((v0list.take (Int.toNat (v5atj1))) ++ ([v1n] : List Int)).length, none⟩]⟩) rfl ?_
      refine .q (q_assign rfl) rfl ?_
      refine .nil ?_
      refine .seq ?_
      refine .region ?_
      refine .q (q_move rfl) rfl ?_
      refine .q (q_move rfl) rfl ?_
      refine .q (q_move rfl) rfl ?_
      obtain ⟨hk5, H⟩ := ck_some H
      refine .q (x := .d (slOf 1 rI (v0list.drop (Int.toNat (v5atj1))))) (q_slLL (l := v0list) (row := rI) Try.underlying100 hi3 hs3 rfl rfl rfl hk5) rfl ?_
      obtain ⟨hk6, H⟩ := ck_some H
      refine .v (x := .tsl 1 ((((v0list.take (Int.toNat (v5atj1))) ++ ([v1n] : List Int)) ++ (v0list.drop (Int.toNat (v5atj1)))).map rI) 0) (v_appendL (l := (v0list.take (Int.toNat (v5atj1))) ++ ([v1n] : List Int)) (l' := v0list.drop (Int.toNat (v5atj1))) (row := rI) Try.underlying100 hi3 hz3 hs3 rfl (by rw [hb3]; decide) rfl rfl rfl rfl hk6) rfl ?_
      refine .withSt (st' := ⟨[], [⟨3, 1, (((v0list.take (Int.toNat (v5atj1))) ++ ([v1n] : List Int)) ++ (v0list.drop (Int.toNat (v5atj1)))).length, none⟩]⟩) rfl ?_
      refine .q (q_assign rfl) rfl ?_
      refine .nil ?_
      refine .retN [.tmp 4] [.tsl 1 ((((v0list.take (Int.toNat (v5atj1))) ++ ([v1n] : List Int)) ++ (v0list.drop (Int.toNat (v5atj1)))).map rI) 0] Try.func34 Try.results34 ⟨rfl, trivial⟩ ?_
      cases H
      exact ⟨_, .tsl _ _ _, rfl⟩
  · intro hj1 hj1x
    obtain ⟨n1, H⟩ := loop_some H
    refine .loop (ι := Nat × (Int × Int)) (fun p => [(0, .d (slOf 1 rI v0list)), (1, .d (cI v1n)), (5, .d (cI p.2.1)), (6, .d (cI p.2.2))]) (fun p => ⟨[], []⟩) (fun p => iter (fun s => f_assure_keys_l1 v0list v1n s.1 s.2) p.1 p.2 = some r) (·.1) (n1, (0, (v0list.length : Int))) H (.cons rfl (.rfl' _) (.cons rfl (.rfl' _) (.cons rfl (.rfl' _) (.cons rfl (.rfl' _) (.nil))))) rfl ?_
    rintro ⟨m1, v5atl1, v6endl1⟩ HI ih1
    obtain ⟨n1, q1, hm1, H, HK1⟩ := iter_succ HI
    clear HI
    replace H : f_assure_keys_l1 v0list v1n v5atl1 v6endl1 = some q1 := H
    unfold f_assure_keys_l1 at H
    change ARun _ _ _ _ _ _ [(0, .d (slOf 1 rI v0list)), (1, .d (cI v1n)), (5, .d (cI v5atl1)), (6, .d (cI v6endl1))] ⟨[], []⟩
    refine .seq ?_
    refine .seq ?_
    refine .region ?_
    refine .q (q_move rfl) rfl ?_
    refine .q (q_move rfl) rfl ?_
    refine .q (q_lss rfl rfl) rfl ?_
    refine .nil ?_
    refine .cond rfl (fun hc => ?_) (fun hc => ?_)
    · replace H := ifT hc H; clear hc
      refine .skip ?_
      refine .block ?_
      refine .seq ?_
      refine .region ?_
      refine .q (q_move rfl) rfl ?_
      refine .q (q_move rfl) rfl ?_
      obtain ⟨hk7, H⟩ := ck_some H
      refine .q (q_addI rfl rfl hk7.1 hk7.2) rfl ?_
      obtain ⟨hk8, H⟩ := ck_some H
      refine .q (x := .d (cI (Int.tdiv (v5atl1 + v6endl1) 2))) (q_quoT rfl rfl hk8) rfl ?_
      refine .q (q_assign rfl) rfl ?_
      refine .nil ?_
      refine .seq ?_
      refine .region ?_
      refine .q (q_move rfl) rfl ?_
      refine .q (q_move rfl) rfl ?_
      obtain ⟨hk9, H⟩ := ck_some H
      refine .q (x := .d (.ro (rI (nth v0list (Int.toNat (Int.tdiv (v5atl1 + v6endl1) 2)))))) (q_idxL (row := rI) (l := v0list) (i := Int.tdiv (v5atl1 + v6endl1) 2) Try.underlying100 hi3 hs3 rfl rfl rfl hk9) rfl ?_
      refine .q (x := .d (cI (nth v0list (Int.toNat (Int.tdiv (v5atl1 + v6endl1) 2))))) (q_load one_3 rfl) rfl ?_
      refine .q (q_move rfl) rfl ?_
      refine .q (q_lss rfl rfl) rfl ?_
      refine .nil ?_
      refine .cond rfl (fun hc => ?_) (fun hc => ?_)
      · replace H := ifT hc H; clear hc
        refine .region ?_
        refine .q (q_move rfl) rfl ?_
        obtain ⟨hk10, H⟩ := ck_some H
        refine .q (q_addI rfl rfl hk10.1 hk10.2) rfl ?_
        refine .q (q_assign rfl) rfl ?_
        refine .nil ?_
        refine .inBlock ?_
        cases H
        exact .sub (.cons rfl (.rfl' _) (.cons rfl (.rfl' _) (.cons rfl (.rfl' _) (.cons rfl (.rfl' _) (.nil))))) (ih1 (n1, ((Int.tdiv (v5atl1 + v6endl1) 2) + 1, v6endl1)) HK1 hm1)
      · replace H := ifF hc H; clear hc
        refine .region ?_
        refine .q (q_move rfl) rfl ?_
        refine .q (q_assign rfl) rfl ?_
        refine .nil ?_
        refine .inBlock ?_
        cases H
        exact .sub (.cons rfl (.rfl' _) (.cons rfl (.rfl' _) (.cons rfl (.rfl' _) (.cons rfl (.rfl' _) (.nil))))) (ih1 (n1, (v5atl1, Int.tdiv (v5atl1 + v6endl1) 2)) HK1 hm1)
    · replace H := ifF hc H; clear hc
      refine .exit rfl ?_
      obtain ⟨q0, H9, hq0⟩ := map_some' H; clear H; cases hq0
      cases HK1
      have H := H9
      exact .sub (.cons rfl (.rfl' _) (.cons rfl (.rfl' _) (.cons rfl (.rfl' _) (.nil)))) (hj1x v5atl1 H)

set_option maxRecDepth 100000 in
set_option maxHeartbeats 1000000 in
theorem c_f_assure_Usages {v0 : List Usage} {v1 : List Rated} {r : (List Leak)} (H : f_assure_Usages v0 v1 = some r) : ACall Try.prog 19 [slOf 12 Usage.row v0, slOf 24 Rated.row v1] (· = slOf 4 Leak.row r) := by
  obtain ⟨i3, hi3, hz3, hs3, hb3⟩ := in_3
  obtain ⟨i52, hi52, hz52, hs52, hb52⟩ := in_52
  obtain ⟨i58, hi58, hz58, hs58, hb58⟩ := in_58
  obtain ⟨i60, hi60, hz60, hs60, hb60⟩ := in_60
  refine ACall.enter' Try.func19 rfl Try.ntmps19 rfl fun S hS => ?_
  unfold f_assure_Usages at H
  change ARun _ _ _ _ _ _ [(0, .d (slOf 12 Usage.row v0)), (1, .d (slOf 24 Rated.row v1))] _
  refine .seq ?_
  refine .region ?_
  refine .q (q_assign rfl) rfl ?_
  refine .nil ?_
  refine .seq ?_
  refine .region ?_
  refine .q (q_assign rfl) rfl ?_
  refine .nil ?_
  refine .seq ?_
  refine .region ?_
  refine .v (x := .mp 0) (v_makeMap) rfl ?_
  refine .withSt (st' := ⟨[.map (mEnc (fun n => Value.int .i64 n) (fun x => cI x) ([] : List (Int × Int)))], []⟩) rfl ?_
  refine .v (x := .mp 1) (v_makeMap) rfl ?_
  refine .withSt (st' := ⟨[.map (mEnc (fun n => Value.int .i64 n) (fun x => cI x) ([] : List (Int × Int))), .map (mEnc (fun n => Value.int .i64 n) (fun x => cI x) ([] : List (Int × Int)))], []⟩) rfl ?_
  refine .q (q_assign rfl) rfl ?_
  refine .q (q_assign rfl) rfl ?_
  refine .nil ?_
  refine .seq ?_
  refine .region ?_
  refine .v (x := .mp 2) (v_makeMap) rfl ?_
  refine .withSt (st' := ⟨[.map (mEnc (fun n => Value.int .i64 n) (fun x => cI x) ([] : List (Int × Int))), .map (mEnc (fun n => Value.int .i64 n) (fun x => cI x) ([] : List (Int × Int))), .map (mEnc (fun n => Value.int .i64 n) (fun x => .agg (Usage.row x)) ([] : List (Int × Usage)))], []⟩) rfl ?_
  refine .v (x := .mp 3) (v_makeMap) rfl ?_
  refine .withSt (st' := ⟨[.map (mEnc (fun n => Value.int .i64 n) (fun x => cI x) ([] : List (Int × Int))), .map (mEnc (fun n => Value.int .i64 n) (fun x => cI x) ([] : List (Int × Int))), .map (mEnc (fun n => Value.int .i64 n) (fun x => .agg (Usage.row x)) ([] : List (Int × Usage))), .map (mEnc (fun n => Value.int .i64 n) (fun x => .agg (Usage.row x)) ([] : List (Int × Usage)))], []⟩) rfl ?_
  refine .q (q_assign rfl) rfl ?_
  refine .q (q_assign rfl) rfl ?_
  refine .nil ?_
  refine .seq ?_
  refine .seq ?_
  refine .region ?_
  refine .q (q_move rfl) rfl ?_
  refine .q (q_lenL (l := v0) (row := Usage.row) Try.underlying31 rfl rfl) rfl ?_
  refine .q (q_move rfl) rfl ?_
  refine .nil ?_
  refine .blockJoin2 (ι := List Int × (List (Int × Int)) × (List (Int × Usage))) (fun s => [(1, .d (slOf 24 Rated.row v1)), (5, .d (slOf 1 rI s.1)), (6, .mp 0), (7, .mp 1), (8, .mp 2), (9, .mp 3)]) (fun s => ⟨[.map (mEnc (fun n => Value.int .i64 n) (fun x => cI x) s.2.1), .map (mEnc (fun n => Value.int .i64 n) (fun x => cI x) ([] : List (Int × Int))), .map (mEnc (fun n => Value.int .i64 n) (fun x => .agg (Usage.row x)) s.2.2), .map (mEnc (fun n => Value.int .i64 n) (fun x => .agg (Usage.row x)) ([] : List (Int × Usage)))], []⟩) (fun s => f_assure_Usages_j1 v1 s.1 s.2.1 s.2.2 = some r) ?_ ?_
  · rintro ⟨v5j1, o0c0j1, o2c0j1⟩ H
    replace H : f_assure_Usages_j1 v1 v5j1 o0c0j1 o2c0j1 = some r := H
    unfold f_assure_Usages_j1 at H
    change ARun _ _ _ _ _ _ [(1, .d (slOf 24 Rated.row v1)), (5, .d (slOf 1 rI v5j1)), (6, .mp 0), (7, .mp 1), (8, .mp 2), (9, .mp 3)] ⟨[.map (mEnc (fun n => Value.int .i64 n) (fun x => cI x) o0c0j1), .map (mEnc (fun n => Value.int .i64 n) (fun x => cI x) ([] : List (Int × Int))), .map (mEnc (fun n => Value.int .i64 n) (fun x => .agg (Usage.row x)) o2c0j1), .map (mEnc (fun n => Value.int .i64 n) (fun x => .agg (Usage.row x)) ([] : List (Int × Usage)))], []⟩
    refine .seq ?_
    refine .seq ?_
    refine .region ?_
    refine .q (q_move rfl) rfl ?_
    refine .q (q_lenL (l := v1) (row := Rated.row) Try.underlying46 rfl rfl) rfl ?_
    refine .q (q_move rfl) rfl ?_
    refine .nil ?_
    refine .blockJoin2 (ι := List Int × (List (Int × Int)) × (List (Int × Usage))) (fun s => [(5, .d (slOf 1 rI s.1)), (6, .mp 0), (7, .mp 1), (8, .mp 2), (9, .mp 3)]) (fun s => ⟨[.map (mEnc (fun n => Value.int .i64 n) (fun x => cI x) o0c0j1), .map (mEnc (fun n => Value.int .i64 n) (fun x => cI x) s.2.1), .map (mEnc (fun n => Value.int .i64 n) (fun x => .agg (Usage.row x)) o2c0j1), .map (mEnc (fun n => Value.int .i64 n) (fun x => .agg (Usage.row x)) s.2.2)], []⟩) (fun s => f_assure_Usages_j2 o0c0j1 o2c0j1 s.1 s.2.1 s.2.2 = some r) ?_ ?_
    · rintro ⟨v5j2, o1c0j2, o3c0j2⟩ H
      replace H : f_assure_Usages_j2 o0c0j1 o2c0j1 v5j2 o1c0j2 o3c0j2 = some r := H
      unfold f_assure_Usages_j2 at H
      change ARun _ _ _ _ _ _ [(5, .d (slOf 1 rI v5j2)), (6, .mp 0), (7, .mp 1), (8, .mp 2), (9, .mp 3)] ⟨[.map (mEnc (fun n => Value.int .i64 n) (fun x => cI x) o0c0j1), .map (mEnc (fun n => Value.int .i64 n) (fun x => cI x) o1c0j2), .map (mEnc (fun n => Value.int .i64 n) (fun x => .agg (Usage.row x)) o2c0j1), .map (mEnc (fun n => Value.int .i64 n) (fun x => .agg (Usage.row x)) o3c0j2)], []⟩
      refine .seq ?_
      refine .region ?_
      refine .q (q_assign rfl) rfl ?_
      refine .nil ?_
      refine .seq ?_
      refine .seq ?_
      refine .region ?_
      refine .q (q_move rfl) rfl ?_
      refine .q (q_lenL (l := v5j2) (row := rI) Try.underlying100 rfl rfl) rfl ?_
      refine .q (q_move rfl) rfl ?_
      refine .nil ?_
      refine .block ?_
      refine .tok (i := 15) (e := 60) (sz := 4) rfl ?_
      refine .withSt (st' := ⟨[.map (mEnc (fun n => Value.int .i64 n) (fun x => cI x) o0c0j1), .map (mEnc (fun n => Value.int .i64 n) (fun x => cI x) o1c0j2), .map (mEnc (fun n => Value.int .i64 n) (fun x => .agg (Usage.row x)) o2c0j1), .map (mEnc (fun n => Value.int .i64 n) (fun x => .agg (Usage.row x)) o3c0j2)], [⟨60, 4, ([] : List Leak).length, none⟩]⟩) rfl ?_
      obtain ⟨n1, H⟩ := loop_some H
      refine .withSt (st' := ⟨[.map (mEnc (fun n => Value.int .i64 n) (fun x => cI x) o0c0j1), .map (mEnc (fun n => Value.int .i64 n) (fun x => cI x) o1c0j2), .map (mEnc (fun n => Value.int .i64 n) (fun x => .agg (Usage.row x)) o2c0j1), .map (mEnc (fun n => Value.int .i64 n) (fun x => .agg (Usage.row x)) o3c0j2)], [⟨60, 4, ([] : List Leak).length, none⟩]⟩) rfl <| .loop (ι := Nat × (List Leak × Int)) (fun p => [(6, .mp 0), (7, .mp 1), (8, .mp 2), (9, .mp 3), (15, .tsl 4 (p.2.1.map Leak.row) 0), (74, .d (slOf 1 rI v5j2)), (75, .d (cI (v5j2.length : Int))), (76, .d (cI p.2.2))]) (fun p => ⟨[.map (mEnc (fun n => Value.int .i64 n) (fun x => cI x) o0c0j1), .map (mEnc (fun n => Value.int .i64 n) (fun x => cI x) o1c0j2), .map (mEnc (fun n => Value.int .i64 n) (fun x => .agg (Usage.row x)) o2c0j1), .map (mEnc (fun n => Value.int .i64 n) (fun x => .agg (Usage.row x)) o3c0j2)], [⟨60, 4, p.2.1.length, none⟩]⟩) (fun p => iter (fun s => f_assure_Usages_l1 o0c0j1 o2c0j1 v5j2 o1c0j2 o3c0j2 s.1 s.2) p.1 p.2 = some r) (·.1) (n1, (([] : List Leak), 0)) H (.cons rfl (.rfl' _) (.cons rfl (.rfl' _) (.cons rfl (.rfl' _) (.cons rfl (.rfl' _) (.cons rfl (.rfl' _) (.cons rfl (.rfl' _) (.cons rfl (.rfl' _) (.cons rfl (.rfl' _) (.nil))))))))) rfl ?_
      rintro ⟨m1, v15l1, v76l1⟩ HI ih1
      obtain ⟨n1, q1, hm1, H, HK1⟩ := iter_succ HI
      clear HI
      replace H : f_assure_Usages_l1 o0c0j1 o2c0j1 v5j2 o1c0j2 o3c0j2 v15l1 v76l1 = some q1 := H
      unfold f_assure_Usages_l1 at H
      change ARun _ _ _ _ _ _ [(6, .mp 0), (7, .mp 1), (8, .mp 2), (9, .mp 3), (15, .tsl 4 (v15l1.map Leak.row) 0), (74, .d (slOf 1 rI v5j2)), (75, .d (cI (v5j2.length : Int))), (76, .d (cI v76l1))] ⟨[.map (mEnc (fun n => Value.int .i64 n) (fun x => cI x) o0c0j1), .map (mEnc (fun n => Value.int .i64 n) (fun x => cI x) o1c0j2), .map (mEnc (fun n => Value.int .i64 n) (fun x => .agg (Usage.row x)) o2c0j1), .map (mEnc (fun n => Value.int .i64 n) (fun x => .agg (Usage.row x)) o3c0j2)], [⟨60, 4, v15l1.length, none⟩]⟩
      refine .seq ?_
      refine .region ?_
      refine .q (q_lss rfl rfl) rfl ?_
      refine .nil ?_
      refine .seq ?_
      refine .cond rfl (fun hc => ?_) (fun hc => ?_)
      · replace H := ifT hc H; clear hc
        refine .skip ?_
        refine .seq ?_
        refine .block ?_
        refine .seq ?_
        refine .region ?_
        obtain ⟨hk1, H⟩ := ck_some H
        refine .q (x := .d (.ro (rI (nth v5j2 (Int.toNat (v76l1)))))) (q_idxL (row := rI) (l := v5j2) (i := v76l1) Try.underlying100 hi3 hs3 rfl rfl rfl hk1) rfl ?_
        refine .q (x := .d (cI (nth v5j2 (Int.toNat (v76l1))))) (q_load one_3 rfl) rfl ?_
        refine .q (q_assign rfl) rfl ?_
        refine .nil ?_
        refine .block ?_
        refine .seq ?_
        refine .region ?_
        refine .q (q_move rfl) rfl ?_
        refine .q (q_move rfl) rfl ?_
        refine .q (x := .d (cI ((alook o0c0j1 (nth v5j2 (Int.toNat (v76l1)))).getD 0))) (q_lookupD (intKF Try.underlying3) (l := o0c0j1) (val := (fun x => cI x)) (k := nth v5j2 (Int.toNat (v76l1))) (a0 := 0) Try.underlying101 hi3 hz3 (show DLe (cI 0) (cI 0) from .rfl' _) rfl rfl rfl (fun _ _ _ h => exKey h)) rfl ?_
        refine .q (q_move rfl) rfl ?_
        refine .q (q_move rfl) rfl ?_
        refine .q (x := .d (cI ((alook o1c0j2 (nth v5j2 (Int.toNat (v76l1)))).getD 0))) (q_lookupD (intKF Try.underlying3) (l := o1c0j2) (val := (fun x => cI x)) (k := nth v5j2 (Int.toNat (v76l1))) (a0 := 0) Try.underlying101 hi3 hz3 (show DLe (cI 0) (cI 0) from .rfl' _) rfl rfl rfl (fun _ _ _ h => exKey h)) rfl ?_
        refine .q (q_neq rfl rfl) rfl ?_
        refine .q (q_assign rfl) rfl ?_
        refine .nil ?_
        refine .cond rfl (fun hc => ?_) (fun hc => ?_)
        · replace H := ifT hc H; clear hc
          refine .region ?_
          refine .q (q_move rfl) rfl ?_
          refine .q (q_move rfl) rfl ?_
          refine .q (q_move rfl) rfl ?_
          refine .q (q_move rfl) rfl ?_
          refine .q (x := .d (cI ((alook o0c0j1 (nth v5j2 (Int.toNat (v76l1)))).getD 0))) (q_lookupD (intKF Try.underlying3) (l := o0c0j1) (val := (fun x => cI x)) (k := nth v5j2 (Int.toNat (v76l1))) (a0 := 0) Try.underlying101 hi3 hz3 (show DLe (cI 0) (cI 0) from .rfl' _) rfl rfl rfl (fun _ _ _ h => exKey h)) rfl ?_
          refine .q (q_move rfl) rfl ?_
          refine .q (q_move rfl) rfl ?_
          refine .q (x := .d (cI ((alook o1c0j2 (nth v5j2 (Int.toNat (v76l1)))).getD 0))) (q_lookupD (intKF Try.underlying3) (l := o1c0j2) (val := (fun x => cI x)) (k := nth v5j2 (Int.toNat (v76l1))) (a0 := 0) Try.underlying101 hi3 hz3 (show DLe (cI 0) (cI 0) from .rfl' _) rfl rfl rfl (fun _ _ _ h => exKey h)) rfl ?_
          refine .q (x := .d (.agg (Leak.row (⟨2, nth v5j2 (Int.toNat (v76l1)), (alook o0c0j1 (nth v5j2 (Int.toNat (v76l1)))).getD 0, (alook o1c0j2 (nth v5j2 (Int.toNat (v76l1)))).getD 0⟩ : Leak)))) (q_buildP pl_60 hi60 hz60 rfl rfl) rfl ?_
          refine .g (x := .d (slOf 4 Leak.row ([(⟨2, nth v5j2 (Int.toNat (v76l1)), (alook o0c0j1 (nth v5j2 (Int.toNat (v76l1)))).getD 0, (alook o1c0j2 (nth v5j2 (Int.toNat (v76l1)))).getD 0⟩ : Leak)] : List Leak))) (g_buildSlice1 Try.underlying42 hi60 hs60 hz60 rfl rfl rfl rfl rfl) rfl ?_
          obtain ⟨hk2, H⟩ := ck_some H
          refine .v (x := .tsl 4 ((v15l1 ++ ([(⟨2, nth v5j2 (Int.toNat (v76l1)), (alook o0c0j1 (nth v5j2 (Int.toNat (v76l1)))).getD 0, (alook o1c0j2 (nth v5j2 (Int.toNat (v76l1)))).getD 0⟩ : Leak)] : List Leak)).map Leak.row) 0) (v_appendL (l := v15l1) (l' := ([(⟨2, nth v5j2 (Int.toNat (v76l1)), (alook o0c0j1 (nth v5j2 (Int.toNat (v76l1)))).getD 0, (alook o1c0j2 (nth v5j2 (Int.toNat (v76l1)))).getD 0⟩ : Leak)] : List Leak)) (row := Leak.row) Try.underlying42 hi60 hz60 hs60 rfl (by rw [hb60]; decide) rfl rfl rfl rfl hk2) rfl ?_
          refine .withSt (st' := ⟨[.map (mEnc (fun n => Value.int .i64 n) (fun x => cI x) o0c0j1), .map (mEnc (fun n => Value.int .i64 n) (fun x => cI x) o1c0j2), .map (mEnc (fun n => Value.int .i64 n) (fun x => .agg (Usage.row x)) o2c0j1), .map (mEnc (fun n => Value.int .i64 n) (fun x => .agg (Usage.row x)) o3c0j2)], [⟨60, 4, (v15l1 ++ ([(⟨2, nth v5j2 (Int.toNat (v76l1)), (alook o0c0j1 (nth v5j2 (Int.toNat (v76l1)))).getD 0, (alook o1c0j2 (nth v5j2 (Int.toNat (v76l1)))).getD 0⟩ : Leak)] : List Leak)).length, none⟩]⟩) rfl ?_
          refine .q (q_assign rfl) rfl ?_
          refine .nil ?_
          refine .inBlock ?_
          refine .inBlock ?_
          refine .region ?_
          obtain ⟨hk3, H⟩ := ck_some H
          refine .q (q_addI rfl rfl hk3.1 hk3.2) rfl ?_
          refine .q (q_move rfl) rfl ?_
          refine .nil ?_
          cases H
          exact .withSt (st' := ⟨[.map (mEnc (fun n => Value.int .i64 n) (fun x => cI x) o0c0j1), .map (mEnc (fun n => Value.int .i64 n) (fun x => cI x) o1c0j2), .map (mEnc (fun n => Value.int .i64 n) (fun x => .agg (Usage.row x)) o2c0j1), .map (mEnc (fun n => Value.int .i64 n) (fun x => .agg (Usage.row x)) o3c0j2)], [⟨60, 4, (v15l1 ++ ([(⟨2, nth v5j2 (Int.toNat (v76l1)), (alook o0c0j1 (nth v5j2 (Int.toNat (v76l1)))).getD 0, (alook o1c0j2 (nth v5j2 (Int.toNat (v76l1)))).getD 0⟩ : Leak)] : List Leak)).length, none⟩]⟩) rfl <| .sub (.cons rfl (.rfl' _) (.cons rfl (.rfl' _) (.cons rfl (.rfl' _) (.cons rfl (.rfl' _) (.cons rfl (.rfl' _) (.cons rfl (.rfl' _) (.cons rfl (.rfl' _) (.cons rfl (.rfl' _) (.nil))))))))) (ih1 (n1, (v15l1 ++ ([(⟨2, nth v5j2 (Int.toNat (v76l1)), (alook o0c0j1 (nth v5j2 (Int.toNat (v76l1)))).getD 0, (alook o1c0j2 (nth v5j2 (Int.toNat (v76l1)))).getD 0⟩ : Leak)] : List Leak), v76l1 + 1)) HK1 hm1)
        · replace H := ifF hc H; clear hc
          refine .seq ?_
          refine .region ?_
          refine .q (q_move rfl) rfl ?_
          refine .q (q_move rfl) rfl ?_
          refine .q (x := .d (.agg (Usage.row ((alook o2c0j1 (nth v5j2 (Int.toNat (v76l1)))).getD (⟨0, 0, 0, 0, ([] : List UInt8), ([] : List UInt8), 0, 0, 0, false, 0, 0⟩ : Usage))))) (q_lookupD (intKF Try.underlying3) (l := o2c0j1) (val := (fun x => .agg (Usage.row x))) (k := nth v5j2 (Int.toNat (v76l1))) (a0 := (⟨0, 0, 0, 0, ([] : List UInt8), ([] : List UInt8), 0, 0, 0, false, 0, 0⟩ : Usage)) Try.underlying102 hi52 hz52 (show DLe (.agg (Usage.row (⟨0, 0, 0, 0, ([] : List UInt8), ([] : List UInt8), 0, 0, 0, false, 0, 0⟩ : Usage))) (.agg (Usage.row (⟨0, 0, 0, 0, ([] : List UInt8), ([] : List UInt8), 0, 0, 0, false, 0, 0⟩ : Usage))) from .rfl' _) rfl rfl rfl (fun _ _ _ h => exKey h)) rfl ?_
          refine .q (q_move rfl) rfl ?_
          refine .q (q_move rfl) rfl ?_
          refine .q (x := .d (.agg (Usage.row ((alook o3c0j2 (nth v5j2 (Int.toNat (v76l1)))).getD (⟨0, 0, 0, 0, ([] : List UInt8), ([] : List UInt8), 0, 0, 0, false, 0, 0⟩ : Usage))))) (q_lookupD (intKF Try.underlying3) (l := o3c0j2) (val := (fun x => .agg (Usage.row x))) (k := nth v5j2 (Int.toNat (v76l1))) (a0 := (⟨0, 0, 0, 0, ([] : List UInt8), ([] : List UInt8), 0, 0, 0, false, 0, 0⟩ : Usage)) Try.underlying102 hi52 hz52 (show DLe (.agg (Usage.row (⟨0, 0, 0, 0, ([] : List UInt8), ([] : List UInt8), 0, 0, 0, false, 0, 0⟩ : Usage))) (.agg (Usage.row (⟨0, 0, 0, 0, ([] : List UInt8), ([] : List UInt8), 0, 0, 0, false, 0, 0⟩ : Usage))) from .rfl' _) rfl rfl rfl (fun _ _ _ h => exKey h)) rfl ?_
          refine .q (x := .d (cB (!(eqVs (Usage.vals ((alook o2c0j1 (nth v5j2 (Int.toNat (v76l1)))).getD (⟨0, 0, 0, 0, ([] : List UInt8), ([] : List UInt8), 0, 0, 0, false, 0, 0⟩ : Usage))) (Usage.vals ((alook o3c0j2 (nth v5j2 (Int.toNat (v76l1)))).getD (⟨0, 0, 0, 0, ([] : List UInt8), ([] : List UInt8), 0, 0, 0, false, 0, 0⟩ : Usage))))))) (q_stneq fk_52 rfl rfl (xs := Usage.vals ((alook o2c0j1 (nth v5j2 (Int.toNat (v76l1)))).getD (⟨0, 0, 0, 0, ([] : List UInt8), ([] : List UInt8), 0, 0, 0, false, 0, 0⟩ : Usage))) (ys := Usage.vals ((alook o3c0j2 (nth v5j2 (Int.toNat (v76l1)))).getD (⟨0, 0, 0, 0, ([] : List UInt8), ([] : List UInt8), 0, 0, 0, false, 0, 0⟩ : Usage))) rfl rfl rfl rfl) rfl ?_
          refine .q (q_assign rfl) rfl ?_
          refine .nil ?_
          refine .cond rfl (fun hc => ?_) (fun hc => ?_)
          · replace H := ifT hc H; clear hc
            refine .region ?_
            refine .q (q_move rfl) rfl ?_
            refine .q (q_move rfl) rfl ?_
            refine .q (q_move rfl) rfl ?_
            refine .q (q_move rfl) rfl ?_
            refine .q (x := .d (.agg (Usage.row ((alook o2c0j1 (nth v5j2 (Int.toNat (v76l1)))).getD (⟨0, 0, 0, 0, ([] : List UInt8), ([] : List UInt8), 0, 0, 0, false, 0, 0⟩ : Usage))))) (q_lookupD (intKF Try.underlying3) (l := o2c0j1) (val := (fun x => .agg (Usage.row x))) (k := nth v5j2 (Int.toNat (v76l1))) (a0 := (⟨0, 0, 0, 0, ([] : List UInt8), ([] : List UInt8), 0, 0, 0, false, 0, 0⟩ : Usage)) Try.underlying102 hi52 hz52 (show DLe (.agg (Usage.row (⟨0, 0, 0, 0, ([] : List UInt8), ([] : List UInt8), 0, 0, 0, false, 0, 0⟩ : Usage))) (.agg (Usage.row (⟨0, 0, 0, 0, ([] : List UInt8), ([] : List UInt8), 0, 0, 0, false, 0, 0⟩ : Usage))) from .rfl' _) rfl rfl rfl (fun _ _ _ h => exKey h)) rfl ?_
            refine .q (x := .d (cI (((alook o2c0j1 (nth v5j2 (Int.toNat (v76l1)))).getD (⟨0, 0, 0, 0, ([] : List UInt8), ([] : List UInt8), 0, 0, 0, false, 0, 0⟩ : Usage)).units))) (q_field Try.underlying52 rfl one_3 rfl rfl rfl) rfl ?_
            refine .q (q_move rfl) rfl ?_
            refine .q (q_move rfl) rfl ?_
            refine .q (x := .d (.agg (Usage.row ((alook o3c0j2 (nth v5j2 (Int.toNat (v76l1)))).getD (⟨0, 0, 0, 0, ([] : List UInt8), ([] : List UInt8), 0, 0, 0, false, 0, 0⟩ : Usage))))) (q_lookupD (intKF Try.underlying3) (l := o3c0j2) (val := (fun x => .agg (Usage.row x))) (k := nth v5j2 (Int.toNat (v76l1))) (a0 := (⟨0, 0, 0, 0, ([] : List UInt8), ([] : List UInt8), 0, 0, 0, false, 0, 0⟩ : Usage)) Try.underlying102 hi52 hz52 (show DLe (.agg (Usage.row (⟨0, 0, 0, 0, ([] : List UInt8), ([] : List UInt8), 0, 0, 0, false, 0, 0⟩ : Usage))) (.agg (Usage.row (⟨0, 0, 0, 0, ([] : List UInt8), ([] : List UInt8), 0, 0, 0, false, 0, 0⟩ : Usage))) from .rfl' _) rfl rfl rfl (fun _ _ _ h => exKey h)) rfl ?_
            refine .q (x := .d (cI (((alook o3c0j2 (nth v5j2 (Int.toNat (v76l1)))).getD (⟨0, 0, 0, 0, ([] : List UInt8), ([] : List UInt8), 0, 0, 0, false, 0, 0⟩ : Usage)).units))) (q_field Try.underlying52 rfl one_3 rfl rfl rfl) rfl ?_
            refine .q (x := .d (.agg (Leak.row (⟨3, nth v5j2 (Int.toNat (v76l1)), ((alook o2c0j1 (nth v5j2 (Int.toNat (v76l1)))).getD (⟨0, 0, 0, 0, ([] : List UInt8), ([] : List UInt8), 0, 0, 0, false, 0, 0⟩ : Usage)).units, ((alook o3c0j2 (nth v5j2 (Int.toNat (v76l1)))).getD (⟨0, 0, 0, 0, ([] : List UInt8), ([] : List UInt8), 0, 0, 0, false, 0, 0⟩ : Usage)).units⟩ : Leak)))) (q_buildP pl_60 hi60 hz60 rfl rfl) rfl ?_
            refine .g (x := .d (slOf 4 Leak.row ([(⟨3, nth v5j2 (Int.toNat (v76l1)), ((alook o2c0j1 (nth v5j2 (Int.toNat (v76l1)))).getD (⟨0, 0, 0, 0, ([] : List UInt8), ([] : List UInt8), 0, 0, 0, false, 0, 0⟩ : Usage)).units, ((alook o3c0j2 (nth v5j2 (Int.toNat (v76l1)))).getD (⟨0, 0, 0, 0, ([] : List UInt8), ([] : List UInt8), 0, 0, 0, false, 0, 0⟩ : Usage)).units⟩ : Leak)] : List Leak))) (g_buildSlice1 Try.underlying42 hi60 hs60 hz60 rfl rfl rfl rfl rfl) rfl ?_
            obtain ⟨hk4, H⟩ := ck_some H
            refine .v (x := .tsl 4 ((v15l1 ++ ([(⟨3, nth v5j2 (Int.toNat (v76l1)), ((alook o2c0j1 (nth v5j2 (Int.toNat (v76l1)))).getD (⟨0, 0, 0, 0, ([] : List UInt8), ([] : List UInt8), 0, 0, 0, false, 0, 0⟩ : Usage)).units, ((alook o3c0j2 (nth v5j2 (Int.toNat (v76l1)))).getD (⟨0, 0, 0, 0, ([] : List UInt8), ([] : List UInt8), 0, 0, 0, false, 0, 0⟩ : Usage)).units⟩ : Leak)] : List Leak)).map Leak.row) 0) (v_appendL (l := v15l1) (l' := ([(⟨3, nth v5j2 (Int.toNat (v76l1)), ((alook o2c0j1 (nth v5j2 (Int.toNat (v76l1)))).getD (⟨0, 0, 0, 0, ([] : List UInt8), ([] : List UInt8), 0, 0, 0, false, 0, 0⟩ : Usage)).units, ((alook o3c0j2 (nth v5j2 (Int.toNat (v76l1)))).getD (⟨0, 0, 0, 0, ([] : List UInt8), ([] : List UInt8), 0, 0, 0, false, 0, 0⟩ : Usage)).units⟩ : Leak)] : List Leak)) (row := Leak.row) Try.underlying42 hi60 hz60 hs60 rfl (by rw [hb60]; decide) rfl rfl rfl rfl hk4) rfl ?_
            refine .withSt (st' := ⟨[.map (mEnc (fun n => Value.int .i64 n) (fun x => cI x) o0c0j1), .map (mEnc (fun n => Value.int .i64 n) (fun x => cI x) o1c0j2), .map (mEnc (fun n => Value.int .i64 n) (fun x => .agg (Usage.row x)) o2c0j1), .map (mEnc (fun n => Value.int .i64 n) (fun x => .agg (Usage.row x)) o3c0j2)], [⟨60, 4, (v15l1 ++ ([(⟨3, nth v5j2 (Int.toNat (v76l1)), ((alook o2c0j1 (nth v5j2 (Int.toNat (v76l1)))).getD (⟨0, 0, 0, 0, ([] : List UInt8), ([] : List UInt8), 0, 0, 0, false, 0, 0⟩ : Usage)).units, ((alook o3c0j2 (nth v5j2 (Int.toNat (v76l1)))).getD (⟨0, 0, 0, 0, ([] : List UInt8), ([] : List UInt8), 0, 0, 0, false, 0, 0⟩ : Usage)).units⟩ : Leak)] : List Leak)).length, none⟩]⟩) rfl ?_
            refine .q (q_assign rfl) rfl ?_
            refine .nil ?_
            refine .inBlock ?_
            refine .inBlock ?_
            refine .region ?_
            obtain ⟨hk5, H⟩ := ck_some H
            refine .q (q_addI rfl rfl hk5.1 hk5.2) rfl ?_
            refine .q (q_move rfl) rfl ?_
            refine .nil ?_
            cases H
            exact .withSt (st' := ⟨[.map (mEnc (fun n => Value.int .i64 n) (fun x => cI x) o0c0j1), .map (mEnc (fun n => Value.int .i64 n) (fun x => cI x) o1c0j2), .map (mEnc (fun n => Value.int .i64 n) (fun x => .agg (Usage.row x)) o2c0j1), .map (mEnc (fun n => Value.int .i64 n) (fun x => .agg (Usage.row x)) o3c0j2)], [⟨60, 4, (v15l1 ++ ([(⟨3, nth v5j2 (Int.toNat (v76l1)), ((alook o2c0j1 (nth v5j2 (Int.toNat (v76l1)))).getD (⟨0, 0, 0, 0, ([] : List UInt8), ([] : List UInt8), 0, 0, 0, false, 0, 0⟩ : Usage)).units, ((alook o3c0j2 (nth v5j2 (Int.toNat (v76l1)))).getD (⟨0, 0, 0, 0, ([] : List UInt8), ([] : List UInt8), 0, 0, 0, false, 0, 0⟩ : Usage)).units⟩ : Leak)] : List Leak)).length, none⟩]⟩) rfl <| .sub (.cons rfl (.rfl' _) (.cons rfl (.rfl' _) (.cons rfl (.rfl' _) (.cons rfl (.rfl' _) (.cons rfl (.rfl' _) (.cons rfl (.rfl' _) (.cons rfl (.rfl' _) (.cons rfl (.rfl' _) (.nil))))))))) (ih1 (n1, (v15l1 ++ ([(⟨3, nth v5j2 (Int.toNat (v76l1)), ((alook o2c0j1 (nth v5j2 (Int.toNat (v76l1)))).getD (⟨0, 0, 0, 0, ([] : List UInt8), ([] : List UInt8), 0, 0, 0, false, 0, 0⟩ : Usage)).units, ((alook o3c0j2 (nth v5j2 (Int.toNat (v76l1)))).getD (⟨0, 0, 0, 0, ([] : List UInt8), ([] : List UInt8), 0, 0, 0, false, 0, 0⟩ : Usage)).units⟩ : Leak)] : List Leak), v76l1 + 1)) HK1 hm1)
          · replace H := ifF hc H; clear hc
            refine .skip ?_
            refine .inBlock ?_
            refine .inBlock ?_
            refine .region ?_
            obtain ⟨hk6, H⟩ := ck_some H
            refine .q (q_addI rfl rfl hk6.1 hk6.2) rfl ?_
            refine .q (q_move rfl) rfl ?_
            refine .nil ?_
            cases H
            exact .sub (.cons rfl (.rfl' _) (.cons rfl (.rfl' _) (.cons rfl (.rfl' _) (.cons rfl (.rfl' _) (.cons rfl (.rfl' _) (.cons rfl (.rfl' _) (.cons rfl (.rfl' _) (.cons rfl (.rfl' _) (.nil))))))))) (ih1 (n1, (v15l1, v76l1 + 1)) HK1 hm1)
      · replace H := ifF hc H; clear hc
        refine .exit rfl ?_
        refine .seq ?_
        refine .region ?_
        refine .q (q_move rfl) rfl ?_
        refine .q (q_assign rfl) rfl ?_
        refine .nil ?_
        refine .retN [.tmp 4] [.tsl 4 (v15l1.map Leak.row) 0] Try.func19 Try.results19 ⟨rfl, trivial⟩ ?_
        cases H
        cases HK1
        exact ⟨_, .tsl _ _ _, rfl⟩
    · intro hj2 hj2x
      obtain ⟨n2, H⟩ := loop_some H
      refine .withSt (st' := ⟨[.map (mEnc (fun n => Value.int .i64 n) (fun x => cI x) o0c0j1), .map (mEnc (fun n => Value.int .i64 n) (fun x => cI x) ([] : List (Int × Int))), .map (mEnc (fun n => Value.int .i64 n) (fun x => .agg (Usage.row x)) o2c0j1), .map (mEnc (fun n => Value.int .i64 n) (fun x => .agg (Usage.row x)) ([] : List (Int × Usage)))], []⟩) rfl <| .loop (ι := Nat × (List Int × Int × (List (Int × Int)) × (List (Int × Usage)))) (fun p => [(5, .d (slOf 1 rI p.2.1)), (6, .mp 0), (7, .mp 1), (8, .mp 2), (9, .mp 3), (47, .d (slOf 24 Rated.row v1)), (48, .d (cI (v1.length : Int))), (49, .d (cI p.2.2.1))]) (fun p => ⟨[.map (mEnc (fun n => Value.int .i64 n) (fun x => cI x) o0c0j1), .map (mEnc (fun n => Value.int .i64 n) (fun x => cI x) p.2.2.2.1), .map (mEnc (fun n => Value.int .i64 n) (fun x => .agg (Usage.row x)) o2c0j1), .map (mEnc (fun n => Value.int .i64 n) (fun x => .agg (Usage.row x)) p.2.2.2.2)], []⟩) (fun p => iter (fun s => f_assure_Usages_l2 v1 o0c0j1 o2c0j1 s.1 s.2.1 s.2.2.1 s.2.2.2) p.1 p.2 = some r) (·.1) (n2, (v5j1, 0, ([] : List (Int × Int)), ([] : List (Int × Usage)))) H (.cons rfl (.rfl' _) (.cons rfl (.rfl' _) (.cons rfl (.rfl' _) (.cons rfl (.rfl' _) (.cons rfl (.rfl' _) (.cons rfl (.rfl' _) (.cons rfl (.rfl' _) (.cons rfl (.rfl' _) (.nil))))))))) rfl ?_
      rintro ⟨m1, v5l2, v49l2, o1c0l2, o3c0l2⟩ HI ih1
      obtain ⟨n1, q1, hm1, H, HK1⟩ := iter_succ HI
      clear HI
      replace H : f_assure_Usages_l2 v1 o0c0j1 o2c0j1 v5l2 v49l2 o1c0l2 o3c0l2 = some q1 := H
      unfold f_assure_Usages_l2 at H
      change ARun _ _ _ _ _ _ [(5, .d (slOf 1 rI v5l2)), (6, .mp 0), (7, .mp 1), (8, .mp 2), (9, .mp 3), (47, .d (slOf 24 Rated.row v1)), (48, .d (cI (v1.length : Int))), (49, .d (cI v49l2))] ⟨[.map (mEnc (fun n => Value.int .i64 n) (fun x => cI x) o0c0j1), .map (mEnc (fun n => Value.int .i64 n) (fun x => cI x) o1c0l2), .map (mEnc (fun n => Value.int .i64 n) (fun x => .agg (Usage.row x)) o2c0j1), .map (mEnc (fun n => Value.int .i64 n) (fun x => .agg (Usage.row x)) o3c0l2)], []⟩
      refine .seq ?_
      refine .region ?_
      refine .q (q_lss rfl rfl) rfl ?_
      refine .nil ?_
      refine .seq ?_
      refine .cond rfl (fun hc => ?_) (fun hc => ?_)
      · replace H := ifT hc H; clear hc
        refine .skip ?_
        refine .seq ?_
        refine .block ?_
        refine .seq ?_
        refine .region ?_
        obtain ⟨hk7, H⟩ := ck_some H
        refine .q (x := .d (.ro (Rated.row (nth v1 (Int.toNat (v49l2)))))) (q_idxL (row := Rated.row) (l := v1) (i := v49l2) Try.underlying46 hi58 hs58 rfl rfl rfl hk7) rfl ?_
        refine .q (x := .d (.agg (Rated.row (nth v1 (Int.toNat (v49l2)))))) (q_loadAll one_58 sz_58 rfl rfl) rfl ?_
        refine .v (x := .ref 4 0) (v_alloc zr_58 rfl) rfl ?_
        refine .withSt (st' := ⟨[.map (mEnc (fun n => Value.int .i64 n) (fun x => cI x) o0c0j1), .map (mEnc (fun n => Value.int .i64 n) (fun x => cI x) o1c0l2), .map (mEnc (fun n => Value.int .i64 n) (fun x => .agg (Usage.row x)) o2c0j1), .map (mEnc (fun n => Value.int .i64 n) (fun x => .agg (Usage.row x)) o3c0l2), .row 58 [.d (cI 0), .d (cI 0), .d (cI 0), .d (cI 0), .d (cS ([] : List UInt8)), .d (cS ([] : List UInt8)), .d (cI 0), .d (cI 0), .d (cI 0), .d (cB false), .d (cI 0), .d (cI 0), .d (cI 0), .d (cS ([] : List UInt8)), .d (cI 0), .d (cS ([] : List UInt8)), .d (nilD), .d (nilD), .d (cI 0), .d (cI 0), .d (cI 0), .d (nilD), .d (cI 0), .d (cI 0)]], []⟩) rfl ?_
        refine .u (u_store rfl rfl rfl rfl (Nat.le_of_ble_eq_true rfl) sz_58) rfl ?_
        refine .withSt (st' := ⟨[.map (mEnc (fun n => Value.int .i64 n) (fun x => cI x) o0c0j1), .map (mEnc (fun n => Value.int .i64 n) (fun x => cI x) o1c0l2), .map (mEnc (fun n => Value.int .i64 n) (fun x => .agg (Usage.row x)) o2c0j1), .map (mEnc (fun n => Value.int .i64 n) (fun x => .agg (Usage.row x)) o3c0l2), .row 58 [.d (cI (((nth v1 (Int.toNat (v49l2))).usage).id)), .d (cI (((nth v1 (Int.toNat (v49l2))).usage).kind)), .d (cI (((nth v1 (Int.toNat (v49l2))).usage).account)), .d (cI (((nth v1 (Int.toNat (v49l2))).usage).sub)), .d (cS (((nth v1 (Int.toNat (v49l2))).usage).a)), .d (cS (((nth v1 (Int.toNat (v49l2))).usage).b)), .d (cI (((nth v1 (Int.toNat (v49l2))).usage).start)), .d (cI (((nth v1 (Int.toNat (v49l2))).usage).units)), .d (cI (((nth v1 (Int.toNat (v49l2))).usage).trunk)), .d (cB (((nth v1 (Int.toNat (v49l2))).usage).inbound)), .d (cI (((nth v1 (Int.toNat (v49l2))).usage).source)), .d (cI (((nth v1 (Int.toNat (v49l2))).usage).serial)), .d (cI ((nth v1 (Int.toNat (v49l2))).err)), .d (cS ((nth v1 (Int.toNat (v49l2))).plan)), .d (cI ((nth v1 (Int.toNat (v49l2))).version)), .d (cS ((nth v1 (Int.toNat (v49l2))).zone)), .d (slOf 5 Take.row ((nth v1 (Int.toNat (v49l2))).takes)), .d (slOf 4 Segment.row ((nth v1 (Int.toNat (v49l2))).segments)), .d (cI ((nth v1 (Int.toNat (v49l2))).setup)), .d (cI ((nth v1 (Int.toNat (v49l2))).gross)), .d (cI ((nth v1 (Int.toNat (v49l2))).net)), .d (slOf 2 Given.row ((nth v1 (Int.toNat (v49l2))).given)), .d (cI ((nth v1 (Int.toNat (v49l2))).paid)), .d (cI ((nth v1 (Int.toNat (v49l2))).owed))]], []⟩) rfl ?_
        refine .nil ?_
        refine .seq ?_
        refine .region ?_
        refine .q (q_fieldRef fo_58_0 rfl) rfl ?_
        refine .q (x := .d (.agg (Usage.row ((nth v1 (Int.toNat (v49l2))).usage)))) (q_loadOA one_52 sz_52 rfl rfl (Nat.le_of_ble_eq_true rfl) rfl) rfl ?_
        refine .v (x := .ref 5 0) (v_alloc zr_52 rfl) rfl ?_
        refine .withSt (st' := ⟨[.map (mEnc (fun n => Value.int .i64 n) (fun x => cI x) o0c0j1), .map (mEnc (fun n => Value.int .i64 n) (fun x => cI x) o1c0l2), .map (mEnc (fun n => Value.int .i64 n) (fun x => .agg (Usage.row x)) o2c0j1), .map (mEnc (fun n => Value.int .i64 n) (fun x => .agg (Usage.row x)) o3c0l2), .row 58 [.d (cI (((nth v1 (Int.toNat (v49l2))).usage).id)), .d (cI (((nth v1 (Int.toNat (v49l2))).usage).kind)), .d (cI (((nth v1 (Int.toNat (v49l2))).usage).account)), .d (cI (((nth v1 (Int.toNat (v49l2))).usage).sub)), .d (cS (((nth v1 (Int.toNat (v49l2))).usage).a)), .d (cS (((nth v1 (Int.toNat (v49l2))).usage).b)), .d (cI (((nth v1 (Int.toNat (v49l2))).usage).start)), .d (cI (((nth v1 (Int.toNat (v49l2))).usage).units)), .d (cI (((nth v1 (Int.toNat (v49l2))).usage).trunk)), .d (cB (((nth v1 (Int.toNat (v49l2))).usage).inbound)), .d (cI (((nth v1 (Int.toNat (v49l2))).usage).source)), .d (cI (((nth v1 (Int.toNat (v49l2))).usage).serial)), .d (cI ((nth v1 (Int.toNat (v49l2))).err)), .d (cS ((nth v1 (Int.toNat (v49l2))).plan)), .d (cI ((nth v1 (Int.toNat (v49l2))).version)), .d (cS ((nth v1 (Int.toNat (v49l2))).zone)), .d (slOf 5 Take.row ((nth v1 (Int.toNat (v49l2))).takes)), .d (slOf 4 Segment.row ((nth v1 (Int.toNat (v49l2))).segments)), .d (cI ((nth v1 (Int.toNat (v49l2))).setup)), .d (cI ((nth v1 (Int.toNat (v49l2))).gross)), .d (cI ((nth v1 (Int.toNat (v49l2))).net)), .d (slOf 2 Given.row ((nth v1 (Int.toNat (v49l2))).given)), .d (cI ((nth v1 (Int.toNat (v49l2))).paid)), .d (cI ((nth v1 (Int.toNat (v49l2))).owed))], .row 52 [.d (cI 0), .d (cI 0), .d (cI 0), .d (cI 0), .d (cS ([] : List UInt8)), .d (cS ([] : List UInt8)), .d (cI 0), .d (cI 0), .d (cI 0), .d (cB false), .d (cI 0), .d (cI 0)]], []⟩) rfl ?_
        refine .u (u_store rfl rfl rfl rfl (Nat.le_of_ble_eq_true rfl) sz_52) rfl ?_
        refine .withSt (st' := ⟨[.map (mEnc (fun n => Value.int .i64 n) (fun x => cI x) o0c0j1), .map (mEnc (fun n => Value.int .i64 n) (fun x => cI x) o1c0l2), .map (mEnc (fun n => Value.int .i64 n) (fun x => .agg (Usage.row x)) o2c0j1), .map (mEnc (fun n => Value.int .i64 n) (fun x => .agg (Usage.row x)) o3c0l2), .row 58 [.d (cI (((nth v1 (Int.toNat (v49l2))).usage).id)), .d (cI (((nth v1 (Int.toNat (v49l2))).usage).kind)), .d (cI (((nth v1 (Int.toNat (v49l2))).usage).account)), .d (cI (((nth v1 (Int.toNat (v49l2))).usage).sub)), .d (cS (((nth v1 (Int.toNat (v49l2))).usage).a)), .d (cS (((nth v1 (Int.toNat (v49l2))).usage).b)), .d (cI (((nth v1 (Int.toNat (v49l2))).usage).start)), .d (cI (((nth v1 (Int.toNat (v49l2))).usage).units)), .d (cI (((nth v1 (Int.toNat (v49l2))).usage).trunk)), .d (cB (((nth v1 (Int.toNat (v49l2))).usage).inbound)), .d (cI (((nth v1 (Int.toNat (v49l2))).usage).source)), .d (cI (((nth v1 (Int.toNat (v49l2))).usage).serial)), .d (cI ((nth v1 (Int.toNat (v49l2))).err)), .d (cS ((nth v1 (Int.toNat (v49l2))).plan)), .d (cI ((nth v1 (Int.toNat (v49l2))).version)), .d (cS ((nth v1 (Int.toNat (v49l2))).zone)), .d (slOf 5 Take.row ((nth v1 (Int.toNat (v49l2))).takes)), .d (slOf 4 Segment.row ((nth v1 (Int.toNat (v49l2))).segments)), .d (cI ((nth v1 (Int.toNat (v49l2))).setup)), .d (cI ((nth v1 (Int.toNat (v49l2))).gross)), .d (cI ((nth v1 (Int.toNat (v49l2))).net)), .d (slOf 2 Given.row ((nth v1 (Int.toNat (v49l2))).given)), .d (cI ((nth v1 (Int.toNat (v49l2))).paid)), .d (cI ((nth v1 (Int.toNat (v49l2))).owed))], .row 52 [.d (cI (((nth v1 (Int.toNat (v49l2))).usage).id)), .d (cI (((nth v1 (Int.toNat (v49l2))).usage).kind)), .d (cI (((nth v1 (Int.toNat (v49l2))).usage).account)), .d (cI (((nth v1 (Int.toNat (v49l2))).usage).sub)), .d (cS (((nth v1 (Int.toNat (v49l2))).usage).a)), .d (cS (((nth v1 (Int.toNat (v49l2))).usage).b)), .d (cI (((nth v1 (Int.toNat (v49l2))).usage).start)), .d (cI (((nth v1 (Int.toNat (v49l2))).usage).units)), .d (cI (((nth v1 (Int.toNat (v49l2))).usage).trunk)), .d (cB (((nth v1 (Int.toNat (v49l2))).usage).inbound)), .d (cI (((nth v1 (Int.toNat (v49l2))).usage).source)), .d (cI (((nth v1 (Int.toNat (v49l2))).usage).serial))]], []⟩) rfl ?_
        refine .nil ?_
        refine .seq ?_
        refine .region ?_
        refine .q (q_move rfl) rfl ?_
        refine .q (q_fieldRef fo_52_0 rfl) rfl ?_
        refine .q (x := .d (cI (((nth v1 (Int.toNat (v49l2))).usage).id))) (q_loadO one_3 rfl rfl rfl) rfl ?_
        obtain ⟨y1, hy1, H⟩ := bind_some' H
        refine .g (x := .d (slOf 1 rI y1)) (g_call en_34 rfl rfl (c_f_assure_keys (hy1))) rfl ?_
        refine .q (q_assign rfl) rfl ?_
        refine .nil ?_
        refine .seqJoin (ι := (List (Int × Usage))) (fun s => [(5, .d (slOf 1 rI y1)), (6, .mp 0), (7, .mp 1), (8, .mp 2), (9, .mp 3), (14, .ref 5 0), (47, .d (slOf 24 Rated.row v1)), (48, .d (cI (v1.length : Int))), (49, .d (cI v49l2))]) (fun s => ⟨[.map (mEnc (fun n => Value.int .i64 n) (fun x => cI x) o0c0j1), .map (mEnc (fun n => Value.int .i64 n) (fun x => cI x) o1c0l2), .map (mEnc (fun n => Value.int .i64 n) (fun x => .agg (Usage.row x)) o2c0j1), .map (mEnc (fun n => Value.int .i64 n) (fun x => .agg (Usage.row x)) s), .row 58 [.d (cI (((nth v1 (Int.toNat (v49l2))).usage).id)), .d (cI (((nth v1 (Int.toNat (v49l2))).usage).kind)), .d (cI (((nth v1 (Int.toNat (v49l2))).usage).account)), .d (cI (((nth v1 (Int.toNat (v49l2))).usage).sub)), .d (cS (((nth v1 (Int.toNat (v49l2))).usage).a)), .d (cS (((nth v1 (Int.toNat (v49l2))).usage).b)), .d (cI (((nth v1 (Int.toNat (v49l2))).usage).start)), .d (cI (((nth v1 (Int.toNat (v49l2))).usage).units)), .d (cI (((nth v1 (Int.toNat (v49l2))).usage).trunk)), .d (cB (((nth v1 (Int.toNat (v49l2))).usage).inbound)), .d (cI (((nth v1 (Int.toNat (v49l2))).usage).source)), .d (cI (((nth v1 (Int.toNat (v49l2))).usage).serial)), .d (cI ((nth v1 (Int.toNat (v49l2))).err)), .d (cS ((nth v1 (Int.toNat (v49l2))).plan)), .d (cI ((nth v1 (Int.toNat (v49l2))).version)), .d (cS ((nth v1 (Int.toNat (v49l2))).zone)), .d (slOf 5 Take.row ((nth v1 (Int.toNat (v49l2))).takes)), .d (slOf 4 Segment.row ((nth v1 (Int.toNat (v49l2))).segments)), .d (cI ((nth v1 (Int.toNat (v49l2))).setup)), .d (cI ((nth v1 (Int.toNat (v49l2))).gross)), .d (cI ((nth v1 (Int.toNat (v49l2))).net)), .d (slOf 2 Given.row ((nth v1 (Int.toNat (v49l2))).given)), .d (cI ((nth v1 (Int.toNat (v49l2))).paid)), .d (cI ((nth v1 (Int.toNat (v49l2))).owed))], .row 52 [.d (cI (((nth v1 (Int.toNat (v49l2))).usage).id)), .d (cI (((nth v1 (Int.toNat (v49l2))).usage).kind)), .d (cI (((nth v1 (Int.toNat (v49l2))).usage).account)), .d (cI (((nth v1 (Int.toNat (v49l2))).usage).sub)), .d (cS (((nth v1 (Int.toNat (v49l2))).usage).a)), .d (cS (((nth v1 (Int.toNat (v49l2))).usage).b)), .d (cI (((nth v1 (Int.toNat (v49l2))).usage).start)), .d (cI (((nth v1 (Int.toNat (v49l2))).usage).units)), .d (cI (((nth v1 (Int.toNat (v49l2))).usage).trunk)), .d (cB (((nth v1 (Int.toNat (v49l2))).usage).inbound)), .d (cI (((nth v1 (Int.toNat (v49l2))).usage).source)), .d (cI (((nth v1 (Int.toNat (v49l2))).usage).serial))]], []⟩) (fun s => f_assure_Usages_j3 v1 v49l2 o1c0l2 y1 s = some q1) ?_ ?_
        · rintro o3c0j3 H
          replace H : f_assure_Usages_j3 v1 v49l2 o1c0l2 y1 o3c0j3 = some q1 := H
          unfold f_assure_Usages_j3 at H
          change ARun _ _ _ _ _ _ [(5, .d (slOf 1 rI y1)), (6, .mp 0), (7, .mp 1), (8, .mp 2), (9, .mp 3), (14, .ref 5 0), (47, .d (slOf 24 Rated.row v1)), (48, .d (cI (v1.length : Int))), (49, .d (cI v49l2))] ⟨[.map (mEnc (fun n => Value.int .i64 n) (fun x => cI x) o0c0j1), .map (mEnc (fun n => Value.int .i64 n) (fun x => cI x) o1c0l2), .map (mEnc (fun n => Value.int .i64 n) (fun x => .agg (Usage.row x)) o2c0j1), .map (mEnc (fun n => Value.int .i64 n) (fun x => .agg (Usage.row x)) o3c0j3), .row 58 [.d (cI (((nth v1 (Int.toNat (v49l2))).usage).id)), .d (cI (((nth v1 (Int.toNat (v49l2))).usage).kind)), .d (cI (((nth v1 (Int.toNat (v49l2))).usage).account)), .d (cI (((nth v1 (Int.toNat (v49l2))).usage).sub)), .d (cS (((nth v1 (Int.toNat (v49l2))).usage).a)), .d (cS (((nth v1 (Int.toNat (v49l2))).usage).b)), .d (cI (((nth v1 (Int.toNat (v49l2))).usage).start)), .d (cI (((nth v1 (Int.toNat (v49l2))).usage).units)), .d (cI (((nth v1 (Int.toNat (v49l2))).usage).trunk)), .d (cB (((nth v1 (Int.toNat (v49l2))).usage).inbound)), .d (cI (((nth v1 (Int.toNat (v49l2))).usage).source)), .d (cI (((nth v1 (Int.toNat (v49l2))).usage).serial)), .d (cI ((nth v1 (Int.toNat (v49l2))).err)), .d (cS ((nth v1 (Int.toNat (v49l2))).plan)), .d (cI ((nth v1 (Int.toNat (v49l2))).version)), .d (cS ((nth v1 (Int.toNat (v49l2))).zone)), .d (slOf 5 Take.row ((nth v1 (Int.toNat (v49l2))).takes)), .d (slOf 4 Segment.row ((nth v1 (Int.toNat (v49l2))).segments)), .d (cI ((nth v1 (Int.toNat (v49l2))).setup)), .d (cI ((nth v1 (Int.toNat (v49l2))).gross)), .d (cI ((nth v1 (Int.toNat (v49l2))).net)), .d (slOf 2 Given.row ((nth v1 (Int.toNat (v49l2))).given)), .d (cI ((nth v1 (Int.toNat (v49l2))).paid)), .d (cI ((nth v1 (Int.toNat (v49l2))).owed))], .row 52 [.d (cI (((nth v1 (Int.toNat (v49l2))).usage).id)), .d (cI (((nth v1 (Int.toNat (v49l2))).usage).kind)), .d (cI (((nth v1 (Int.toNat (v49l2))).usage).account)), .d (cI (((nth v1 (Int.toNat (v49l2))).usage).sub)), .d (cS (((nth v1 (Int.toNat (v49l2))).usage).a)), .d (cS (((nth v1 (Int.toNat (v49l2))).usage).b)), .d (cI (((nth v1 (Int.toNat (v49l2))).usage).start)), .d (cI (((nth v1 (Int.toNat (v49l2))).usage).units)), .d (cI (((nth v1 (Int.toNat (v49l2))).usage).trunk)), .d (cB (((nth v1 (Int.toNat (v49l2))).usage).inbound)), .d (cI (((nth v1 (Int.toNat (v49l2))).usage).source)), .d (cI (((nth v1 (Int.toNat (v49l2))).usage).serial))]], []⟩
          refine .region ?_
          refine .q (q_move rfl) rfl ?_
          refine .q (q_fieldRef fo_52_0 rfl) rfl ?_
          refine .q (x := .d (cI (((nth v1 (Int.toNat (v49l2))).usage).id))) (q_loadO one_3 rfl rfl rfl) rfl ?_
          refine .q (x := .d (cI ((alook o1c0l2 (((nth v1 (Int.toNat (v49l2))).usage).id)).getD 0))) (q_lookupD (intKF Try.underlying3) (l := o1c0l2) (val := (fun x => cI x)) (k := ((nth v1 (Int.toNat (v49l2))).usage).id) (a0 := 0) Try.underlying101 hi3 hz3 (show DLe (cI 0) (cI 0) from .rfl' _) rfl rfl rfl (fun _ _ _ h => exKey h)) rfl ?_
          obtain ⟨hk8, H⟩ := ck_some H
          refine .q (q_addI rfl rfl hk8.1 hk8.2) rfl ?_
          refine .u (u_mapUpdateD (intKF Try.underlying3) (l := o1c0l2) (val := (fun x => cI x)) (k := ((nth v1 (Int.toNat (v49l2))).usage).id) (a := ((alook o1c0l2 (((nth v1 (Int.toNat (v49l2))).usage).id)).getD 0) + 1) Try.underlying101 rfl rfl rfl (fun _ _ _ h => exKey h) rfl (.rfl' _)) rfl ?_
          refine .withSt (st' := ⟨[.map (mEnc (fun n => Value.int .i64 n) (fun x => cI x) o0c0j1), .map (mEnc (fun n => Value.int .i64 n) (fun x => cI x) (aset o1c0l2 (((nth v1 (Int.toNat (v49l2))).usage).id) (((alook o1c0l2 (((nth v1 (Int.toNat (v49l2))).usage).id)).getD 0) + 1))), .map (mEnc (fun n => Value.int .i64 n) (fun x => .agg (Usage.row x)) o2c0j1), .map (mEnc (fun n => Value.int .i64 n) (fun x => .agg (Usage.row x)) o3c0j3), .row 58 [.d (cI (((nth v1 (Int.toNat (v49l2))).usage).id)), .d (cI (((nth v1 (Int.toNat (v49l2))).usage).kind)), .d (cI (((nth v1 (Int.toNat (v49l2))).usage).account)), .d (cI (((nth v1 (Int.toNat (v49l2))).usage).sub)), .d (cS (((nth v1 (Int.toNat (v49l2))).usage).a)), .d (cS (((nth v1 (Int.toNat (v49l2))).usage).b)), .d (cI (((nth v1 (Int.toNat (v49l2))).usage).start)), .d (cI (((nth v1 (Int.toNat (v49l2))).usage).units)), .d (cI (((nth v1 (Int.toNat (v49l2))).usage).trunk)), .d (cB (((nth v1 (Int.toNat (v49l2))).usage).inbound)), .d (cI (((nth v1 (Int.toNat (v49l2))).usage).source)), .d (cI (((nth v1 (Int.toNat (v49l2))).usage).serial)), .d (cI ((nth v1 (Int.toNat (v49l2))).err)), .d (cS ((nth v1 (Int.toNat (v49l2))).plan)), .d (cI ((nth v1 (Int.toNat (v49l2))).version)), .d (cS ((nth v1 (Int.toNat (v49l2))).zone)), .d (slOf 5 Take.row ((nth v1 (Int.toNat (v49l2))).takes)), .d (slOf 4 Segment.row ((nth v1 (Int.toNat (v49l2))).segments)), .d (cI ((nth v1 (Int.toNat (v49l2))).setup)), .d (cI ((nth v1 (Int.toNat (v49l2))).gross)), .d (cI ((nth v1 (Int.toNat (v49l2))).net)), .d (slOf 2 Given.row ((nth v1 (Int.toNat (v49l2))).given)), .d (cI ((nth v1 (Int.toNat (v49l2))).paid)), .d (cI ((nth v1 (Int.toNat (v49l2))).owed))], .row 52 [.d (cI (((nth v1 (Int.toNat (v49l2))).usage).id)), .d (cI (((nth v1 (Int.toNat (v49l2))).usage).kind)), .d (cI (((nth v1 (Int.toNat (v49l2))).usage).account)), .d (cI (((nth v1 (Int.toNat (v49l2))).usage).sub)), .d (cS (((nth v1 (Int.toNat (v49l2))).usage).a)), .d (cS (((nth v1 (Int.toNat (v49l2))).usage).b)), .d (cI (((nth v1 (Int.toNat (v49l2))).usage).start)), .d (cI (((nth v1 (Int.toNat (v49l2))).usage).units)), .d (cI (((nth v1 (Int.toNat (v49l2))).usage).trunk)), .d (cB (((nth v1 (Int.toNat (v49l2))).usage).inbound)), .d (cI (((nth v1 (Int.toNat (v49l2))).usage).source)), .d (cI (((nth v1 (Int.toNat (v49l2))).usage).serial))]], []⟩) rfl ?_
          refine .nil ?_
          refine .inBlock ?_
          refine .region ?_
          obtain ⟨hk9, H⟩ := ck_some H
          refine .q (q_addI rfl rfl hk9.1 hk9.2) rfl ?_
          refine .q (q_move rfl) rfl ?_
          refine .nil ?_
          cases H
          exact .to 4 0 (env' := [(5, .d (slOf 1 rI y1)), (6, .mp 0), (7, .mp 1), (8, .mp 2), (9, .mp 3), (47, .d (slOf 24 Rated.row v1)), (48, .d (cI (v1.length : Int))), (49, .d (cI (v49l2 + 1)))]) (st' := ⟨[.map (mEnc (fun n => Value.int .i64 n) (fun x => cI x) o0c0j1), .map (mEnc (fun n => Value.int .i64 n) (fun x => cI x) (aset o1c0l2 (((nth v1 (Int.toNat (v49l2))).usage).id) (((alook o1c0l2 (((nth v1 (Int.toNat (v49l2))).usage).id)).getD 0) + 1))), .map (mEnc (fun n => Value.int .i64 n) (fun x => .agg (Usage.row x)) o2c0j1), .map (mEnc (fun n => Value.int .i64 n) (fun x => .agg (Usage.row x)) o3c0j3)], []⟩) (.cons rfl (.rfl' _) (.cons rfl (.rfl' _) (.cons rfl (.rfl' _) (.cons rfl (.rfl' _) (.cons rfl (.rfl' _) (.cons rfl (.rfl' _) (.cons rfl (.rfl' _) (.cons rfl (.rfl' _) (.nil))))))))) rfl rfl rfl rfl (okBoth rfl (okCons okMap (okCons okMap (okCons okMap (okCons okMap rfl))))) (by rw [hS]; exact Nat.le_of_ble_eq_true rfl) (by rw [hS]; exact Nat.le_of_ble_eq_true rfl) <| .sub (.cons rfl (.rfl' _) (.cons rfl (.rfl' _) (.cons rfl (.rfl' _) (.cons rfl (.rfl' _) (.cons rfl (.rfl' _) (.cons rfl (.rfl' _) (.cons rfl (.rfl' _) (.cons rfl (.rfl' _) (.nil))))))))) (ih1 (n1, (y1, v49l2 + 1, aset o1c0l2 (((nth v1 (Int.toNat (v49l2))).usage).id) (((alook o1c0l2 (((nth v1 (Int.toNat (v49l2))).usage).id)).getD 0) + 1), o3c0j3)) HK1 hm1)
        · intro hj3
          refine .seq ?_
          refine .region ?_
          refine .q (q_move rfl) rfl ?_
          refine .q (q_fieldRef fo_52_0 rfl) rfl ?_
          refine .q (x := .d (cI (((nth v1 (Int.toNat (v49l2))).usage).id))) (q_loadO one_3 rfl rfl rfl) rfl ?_
          refine .q (x := .d (cI ((alook o1c0l2 (((nth v1 (Int.toNat (v49l2))).usage).id)).getD 0))) (q_lookupD (intKF Try.underlying3) (l := o1c0l2) (val := (fun x => cI x)) (k := ((nth v1 (Int.toNat (v49l2))).usage).id) (a0 := 0) Try.underlying101 hi3 hz3 (show DLe (cI 0) (cI 0) from .rfl' _) rfl rfl rfl (fun _ _ _ h => exKey h)) rfl ?_
          refine .q (q_eql rfl rfl) rfl ?_
          refine .nil ?_
          refine .cond rfl (fun hc => ?_) (fun hc => ?_)
          · replace H := ifT hc H; clear hc
            refine .region ?_
            refine .q (q_move rfl) rfl ?_
            refine .q (q_fieldRef fo_52_0 rfl) rfl ?_
            refine .q (x := .d (cI (((nth v1 (Int.toNat (v49l2))).usage).id))) (q_loadO one_3 rfl rfl rfl) rfl ?_
            refine .q (x := .d (.agg (Usage.row ((nth v1 (Int.toNat (v49l2))).usage)))) (q_loadOA one_52 sz_52 rfl rfl (Nat.le_of_ble_eq_true rfl) rfl) rfl ?_
            refine .u (u_mapUpdateD (intKF Try.underlying3) (l := o3c0l2) (val := (fun x => .agg (Usage.row x))) (k := ((nth v1 (Int.toNat (v49l2))).usage).id) (a := (nth v1 (Int.toNat (v49l2))).usage) Try.underlying102 rfl rfl rfl (fun _ _ _ h => exKey h) rfl (.rfl' _)) rfl ?_
            refine .withSt (st' := ⟨[.map (mEnc (fun n => Value.int .i64 n) (fun x => cI x) o0c0j1), .map (mEnc (fun n => Value.int .i64 n) (fun x => cI x) o1c0l2), .map (mEnc (fun n => Value.int .i64 n) (fun x => .agg (Usage.row x)) o2c0j1), .map (mEnc (fun n => Value.int .i64 n) (fun x => .agg (Usage.row x)) (aset o3c0l2 (((nth v1 (Int.toNat (v49l2))).usage).id) ((nth v1 (Int.toNat (v49l2))).usage))), .row 58 [.d (cI (((nth v1 (Int.toNat (v49l2))).usage).id)), .d (cI (((nth v1 (Int.toNat (v49l2))).usage).kind)), .d (cI (((nth v1 (Int.toNat (v49l2))).usage).account)), .d (cI (((nth v1 (Int.toNat (v49l2))).usage).sub)), .d (cS (((nth v1 (Int.toNat (v49l2))).usage).a)), .d (cS (((nth v1 (Int.toNat (v49l2))).usage).b)), .d (cI (((nth v1 (Int.toNat (v49l2))).usage).start)), .d (cI (((nth v1 (Int.toNat (v49l2))).usage).units)), .d (cI (((nth v1 (Int.toNat (v49l2))).usage).trunk)), .d (cB (((nth v1 (Int.toNat (v49l2))).usage).inbound)), .d (cI (((nth v1 (Int.toNat (v49l2))).usage).source)), .d (cI (((nth v1 (Int.toNat (v49l2))).usage).serial)), .d (cI ((nth v1 (Int.toNat (v49l2))).err)), .d (cS ((nth v1 (Int.toNat (v49l2))).plan)), .d (cI ((nth v1 (Int.toNat (v49l2))).version)), .d (cS ((nth v1 (Int.toNat (v49l2))).zone)), .d (slOf 5 Take.row ((nth v1 (Int.toNat (v49l2))).takes)), .d (slOf 4 Segment.row ((nth v1 (Int.toNat (v49l2))).segments)), .d (cI ((nth v1 (Int.toNat (v49l2))).setup)), .d (cI ((nth v1 (Int.toNat (v49l2))).gross)), .d (cI ((nth v1 (Int.toNat (v49l2))).net)), .d (slOf 2 Given.row ((nth v1 (Int.toNat (v49l2))).given)), .d (cI ((nth v1 (Int.toNat (v49l2))).paid)), .d (cI ((nth v1 (Int.toNat (v49l2))).owed))], .row 52 [.d (cI (((nth v1 (Int.toNat (v49l2))).usage).id)), .d (cI (((nth v1 (Int.toNat (v49l2))).usage).kind)), .d (cI (((nth v1 (Int.toNat (v49l2))).usage).account)), .d (cI (((nth v1 (Int.toNat (v49l2))).usage).sub)), .d (cS (((nth v1 (Int.toNat (v49l2))).usage).a)), .d (cS (((nth v1 (Int.toNat (v49l2))).usage).b)), .d (cI (((nth v1 (Int.toNat (v49l2))).usage).start)), .d (cI (((nth v1 (Int.toNat (v49l2))).usage).units)), .d (cI (((nth v1 (Int.toNat (v49l2))).usage).trunk)), .d (cB (((nth v1 (Int.toNat (v49l2))).usage).inbound)), .d (cI (((nth v1 (Int.toNat (v49l2))).usage).source)), .d (cI (((nth v1 (Int.toNat (v49l2))).usage).serial))]], []⟩) rfl ?_
            refine .nil ?_
            exact .withSt (st' := ⟨[.map (mEnc (fun n => Value.int .i64 n) (fun x => cI x) o0c0j1), .map (mEnc (fun n => Value.int .i64 n) (fun x => cI x) o1c0l2), .map (mEnc (fun n => Value.int .i64 n) (fun x => .agg (Usage.row x)) o2c0j1), .map (mEnc (fun n => Value.int .i64 n) (fun x => .agg (Usage.row x)) (aset o3c0l2 (((nth v1 (Int.toNat (v49l2))).usage).id) ((nth v1 (Int.toNat (v49l2))).usage))), .row 58 [.d (cI (((nth v1 (Int.toNat (v49l2))).usage).id)), .d (cI (((nth v1 (Int.toNat (v49l2))).usage).kind)), .d (cI (((nth v1 (Int.toNat (v49l2))).usage).account)), .d (cI (((nth v1 (Int.toNat (v49l2))).usage).sub)), .d (cS (((nth v1 (Int.toNat (v49l2))).usage).a)), .d (cS (((nth v1 (Int.toNat (v49l2))).usage).b)), .d (cI (((nth v1 (Int.toNat (v49l2))).usage).start)), .d (cI (((nth v1 (Int.toNat (v49l2))).usage).units)), .d (cI (((nth v1 (Int.toNat (v49l2))).usage).trunk)), .d (cB (((nth v1 (Int.toNat (v49l2))).usage).inbound)), .d (cI (((nth v1 (Int.toNat (v49l2))).usage).source)), .d (cI (((nth v1 (Int.toNat (v49l2))).usage).serial)), .d (cI ((nth v1 (Int.toNat (v49l2))).err)), .d (cS ((nth v1 (Int.toNat (v49l2))).plan)), .d (cI ((nth v1 (Int.toNat (v49l2))).version)), .d (cS ((nth v1 (Int.toNat (v49l2))).zone)), .d (slOf 5 Take.row ((nth v1 (Int.toNat (v49l2))).takes)), .d (slOf 4 Segment.row ((nth v1 (Int.toNat (v49l2))).segments)), .d (cI ((nth v1 (Int.toNat (v49l2))).setup)), .d (cI ((nth v1 (Int.toNat (v49l2))).gross)), .d (cI ((nth v1 (Int.toNat (v49l2))).net)), .d (slOf 2 Given.row ((nth v1 (Int.toNat (v49l2))).given)), .d (cI ((nth v1 (Int.toNat (v49l2))).paid)), .d (cI ((nth v1 (Int.toNat (v49l2))).owed))], .row 52 [.d (cI (((nth v1 (Int.toNat (v49l2))).usage).id)), .d (cI (((nth v1 (Int.toNat (v49l2))).usage).kind)), .d (cI (((nth v1 (Int.toNat (v49l2))).usage).account)), .d (cI (((nth v1 (Int.toNat (v49l2))).usage).sub)), .d (cS (((nth v1 (Int.toNat (v49l2))).usage).a)), .d (cS (((nth v1 (Int.toNat (v49l2))).usage).b)), .d (cI (((nth v1 (Int.toNat (v49l2))).usage).start)), .d (cI (((nth v1 (Int.toNat (v49l2))).usage).units)), .d (cI (((nth v1 (Int.toNat (v49l2))).usage).trunk)), .d (cB (((nth v1 (Int.toNat (v49l2))).usage).inbound)), .d (cI (((nth v1 (Int.toNat (v49l2))).usage).source)), .d (cI (((nth v1 (Int.toNat (v49l2))).usage).serial))]], []⟩) rfl <| .sub (.cons rfl (.rfl' _) (.cons rfl (.rfl' _) (.cons rfl (.rfl' _) (.cons rfl (.rfl' _) (.cons rfl (.rfl' _) (.cons rfl (.rfl' _) (.cons rfl (.rfl' _) (.cons rfl (.rfl' _) (.cons rfl (.rfl' _) (.nil)))))))))) (hj3 (aset o3c0l2 (((nth v1 (Int.toNat (v49l2))).usage).id) ((nth v1 (Int.toNat (v49l2))).usage)) H)
          · replace H := ifF hc H; clear hc
            refine .skip ?_
            exact .withSt (st' := ⟨[.map (mEnc (fun n => Value.int .i64 n) (fun x => cI x) o0c0j1), .map (mEnc (fun n => Value.int .i64 n) (fun x => cI x) o1c0l2), .map (mEnc (fun n => Value.int .i64 n) (fun x => .agg (Usage.row x)) o2c0j1), .map (mEnc (fun n => Value.int .i64 n) (fun x => .agg (Usage.row x)) o3c0l2), .row 58 [.d (cI (((nth v1 (Int.toNat (v49l2))).usage).id)), .d (cI (((nth v1 (Int.toNat (v49l2))).usage).kind)), .d (cI (((nth v1 (Int.toNat (v49l2))).usage).account)), .d (cI (((nth v1 (Int.toNat (v49l2))).usage).sub)), .d (cS (((nth v1 (Int.toNat (v49l2))).usage).a)), .d (cS (((nth v1 (Int.toNat (v49l2))).usage).b)), .d (cI (((nth v1 (Int.toNat (v49l2))).usage).start)), .d (cI (((nth v1 (Int.toNat (v49l2))).usage).units)), .d (cI (((nth v1 (Int.toNat (v49l2))).usage).trunk)), .d (cB (((nth v1 (Int.toNat (v49l2))).usage).inbound)), .d (cI (((nth v1 (Int.toNat (v49l2))).usage).source)), .d (cI (((nth v1 (Int.toNat (v49l2))).usage).serial)), .d (cI ((nth v1 (Int.toNat (v49l2))).err)), .d (cS ((nth v1 (Int.toNat (v49l2))).plan)), .d (cI ((nth v1 (Int.toNat (v49l2))).version)), .d (cS ((nth v1 (Int.toNat (v49l2))).zone)), .d (slOf 5 Take.row ((nth v1 (Int.toNat (v49l2))).takes)), .d (slOf 4 Segment.row ((nth v1 (Int.toNat (v49l2))).segments)), .d (cI ((nth v1 (Int.toNat (v49l2))).setup)), .d (cI ((nth v1 (Int.toNat (v49l2))).gross)), .d (cI ((nth v1 (Int.toNat (v49l2))).net)), .d (slOf 2 Given.row ((nth v1 (Int.toNat (v49l2))).given)), .d (cI ((nth v1 (Int.toNat (v49l2))).paid)), .d (cI ((nth v1 (Int.toNat (v49l2))).owed))], .row 52 [.d (cI (((nth v1 (Int.toNat (v49l2))).usage).id)), .d (cI (((nth v1 (Int.toNat (v49l2))).usage).kind)), .d (cI (((nth v1 (Int.toNat (v49l2))).usage).account)), .d (cI (((nth v1 (Int.toNat (v49l2))).usage).sub)), .d (cS (((nth v1 (Int.toNat (v49l2))).usage).a)), .d (cS (((nth v1 (Int.toNat (v49l2))).usage).b)), .d (cI (((nth v1 (Int.toNat (v49l2))).usage).start)), .d (cI (((nth v1 (Int.toNat (v49l2))).usage).units)), .d (cI (((nth v1 (Int.toNat (v49l2))).usage).trunk)), .d (cB (((nth v1 (Int.toNat (v49l2))).usage).inbound)), .d (cI (((nth v1 (Int.toNat (v49l2))).usage).source)), .d (cI (((nth v1 (Int.toNat (v49l2))).usage).serial))]], []⟩) rfl <| .sub (.cons rfl (.rfl' _) (.cons rfl (.rfl' _) (.cons rfl (.rfl' _) (.cons rfl (.rfl' _) (.cons rfl (.rfl' _) (.cons rfl (.rfl' _) (.cons rfl (.rfl' _) (.cons rfl (.rfl' _) (.cons rfl (.rfl' _) (.nil)))))))))) (hj3 o3c0l2 H)
      · replace H := ifF hc H; clear hc
        refine .exit rfl ?_
        obtain ⟨q0, H9, hq0⟩ := map_some' H; clear H; cases hq0
        cases HK1
        have H := H9
        exact .withSt (st' := ⟨[.map (mEnc (fun n => Value.int .i64 n) (fun x => cI x) o0c0j1), .map (mEnc (fun n => Value.int .i64 n) (fun x => cI x) o1c0l2), .map (mEnc (fun n => Value.int .i64 n) (fun x => .agg (Usage.row x)) o2c0j1), .map (mEnc (fun n => Value.int .i64 n) (fun x => .agg (Usage.row x)) o3c0l2)], []⟩) rfl <| .sub (.cons rfl (.rfl' _) (.cons rfl (.rfl' _) (.cons rfl (.rfl' _) (.cons rfl (.rfl' _) (.cons rfl (.rfl' _) (.nil)))))) (hj2x (v5l2, o1c0l2, o3c0l2) H)
  · intro hj1 hj1x
    obtain ⟨n3, H⟩ := loop_some H
    refine .withSt (st' := ⟨[.map (mEnc (fun n => Value.int .i64 n) (fun x => cI x) ([] : List (Int × Int))), .map (mEnc (fun n => Value.int .i64 n) (fun x => cI x) ([] : List (Int × Int))), .map (mEnc (fun n => Value.int .i64 n) (fun x => .agg (Usage.row x)) ([] : List (Int × Usage))), .map (mEnc (fun n => Value.int .i64 n) (fun x => .agg (Usage.row x)) ([] : List (Int × Usage)))], []⟩) rfl <| .loop (ι := Nat × (List Int × Int × (List (Int × Int)) × (List (Int × Usage)))) (fun p => [(1, .d (slOf 24 Rated.row v1)), (5, .d (slOf 1 rI p.2.1)), (6, .mp 0), (7, .mp 1), (8, .mp 2), (9, .mp 3), (22, .d (slOf 12 Usage.row v0)), (23, .d (cI (v0.length : Int))), (24, .d (cI p.2.2.1))]) (fun p => ⟨[.map (mEnc (fun n => Value.int .i64 n) (fun x => cI x) p.2.2.2.1), .map (mEnc (fun n => Value.int .i64 n) (fun x => cI x) ([] : List (Int × Int))), .map (mEnc (fun n => Value.int .i64 n) (fun x => .agg (Usage.row x)) p.2.2.2.2), .map (mEnc (fun n => Value.int .i64 n) (fun x => .agg (Usage.row x)) ([] : List (Int × Usage)))], []⟩) (fun p => iter (fun s => f_assure_Usages_l3 v0 v1 s.1 s.2.1 s.2.2.1 s.2.2.2) p.1 p.2 = some r) (·.1) (n3, ([], 0, ([] : List (Int × Int)), ([] : List (Int × Usage)))) H (.cons rfl (.rfl' _) (.cons rfl (.nil 1) (.cons rfl (.rfl' _) (.cons rfl (.rfl' _) (.cons rfl (.rfl' _) (.cons rfl (.rfl' _) (.cons rfl (.rfl' _) (.cons rfl (.rfl' _) (.cons rfl (.rfl' _) (.nil)))))))))) rfl ?_
    rintro ⟨m1, v5l3, v24l3, o0c0l3, o2c0l3⟩ HI ih1
    obtain ⟨n1, q1, hm1, H, HK1⟩ := iter_succ HI
    clear HI
    replace H : f_assure_Usages_l3 v0 v1 v5l3 v24l3 o0c0l3 o2c0l3 = some q1 := H
    unfold f_assure_Usages_l3 at H
    change ARun _ _ _ _ _ _ [(1, .d (slOf 24 Rated.row v1)), (5, .d (slOf 1 rI v5l3)), (6, .mp 0), (7, .mp 1), (8, .mp 2), (9, .mp 3), (22, .d (slOf 12 Usage.row v0)), (23, .d (cI (v0.length : Int))), (24, .d (cI v24l3))] ⟨[.map (mEnc (fun n => Value.int .i64 n) (fun x => cI x) o0c0l3), .map (mEnc (fun n => Value.int .i64 n) (fun x => cI x) ([] : List (Int × Int))), .map (mEnc (fun n => Value.int .i64 n) (fun x => .agg (Usage.row x)) o2c0l3), .map (mEnc (fun n => Value.int .i64 n) (fun x => .agg (Usage.row x)) ([] : List (Int × Usage)))], []⟩
    refine .seq ?_
    refine .region ?_
    refine .q (q_lss rfl rfl) rfl ?_
    refine .nil ?_
    refine .seq ?_
    refine .cond rfl (fun hc => ?_) (fun hc => ?_)
    · replace H := ifT hc H; clear hc
      refine .skip ?_
      refine .seq ?_
      refine .block ?_
      refine .seq ?_
      refine .region ?_
      obtain ⟨hk10, H⟩ := ck_some H
      refine .q (x := .d (.ro (Usage.row (nth v0 (Int.toNat (v24l3)))))) (q_idxL (row := Usage.row) (l := v0) (i := v24l3) Try.underlying31 hi52 hs52 rfl rfl rfl hk10) rfl ?_
      refine .q (x := .d (.agg (Usage.row (nth v0 (Int.toNat (v24l3)))))) (q_loadAll one_52 sz_52 rfl rfl) rfl ?_
      refine .v (x := .ref 4 0) (v_alloc zr_52 rfl) rfl ?_
      refine .withSt (st' := ⟨[.map (mEnc (fun n => Value.int .i64 n) (fun x => cI x) o0c0l3), .map (mEnc (fun n => Value.int .i64 n) (fun x => cI x) ([] : List (Int × Int))), .map (mEnc (fun n => Value.int .i64 n) (fun x => .agg (Usage.row x)) o2c0l3), .map (mEnc (fun n => Value.int .i64 n) (fun x => .agg (Usage.row x)) ([] : List (Int × Usage))), .row 52 [.d (cI 0), .d (cI 0), .d (cI 0), .d (cI 0), .d (cS ([] : List UInt8)), .d (cS ([] : List UInt8)), .d (cI 0), .d (cI 0), .d (cI 0), .d (cB false), .d (cI 0), .d (cI 0)]], []⟩) rfl ?_
      refine .u (u_store rfl rfl rfl rfl (Nat.le_of_ble_eq_true rfl) sz_52) rfl ?_
      refine .withSt (st' := ⟨[.map (mEnc (fun n => Value.int .i64 n) (fun x => cI x) o0c0l3), .map (mEnc (fun n => Value.int .i64 n) (fun x => cI x) ([] : List (Int × Int))), .map (mEnc (fun n => Value.int .i64 n) (fun x => .agg (Usage.row x)) o2c0l3), .map (mEnc (fun n => Value.int .i64 n) (fun x => .agg (Usage.row x)) ([] : List (Int × Usage))), .row 52 [.d (cI ((nth v0 (Int.toNat (v24l3))).id)), .d (cI ((nth v0 (Int.toNat (v24l3))).kind)), .d (cI ((nth v0 (Int.toNat (v24l3))).account)), .d (cI ((nth v0 (Int.toNat (v24l3))).sub)), .d (cS ((nth v0 (Int.toNat (v24l3))).a)), .d (cS ((nth v0 (Int.toNat (v24l3))).b)), .d (cI ((nth v0 (Int.toNat (v24l3))).start)), .d (cI ((nth v0 (Int.toNat (v24l3))).units)), .d (cI ((nth v0 (Int.toNat (v24l3))).trunk)), .d (cB ((nth v0 (Int.toNat (v24l3))).inbound)), .d (cI ((nth v0 (Int.toNat (v24l3))).source)), .d (cI ((nth v0 (Int.toNat (v24l3))).serial))]], []⟩) rfl ?_
      refine .nil ?_
      refine .seq ?_
      refine .region ?_
      refine .q (q_move rfl) rfl ?_
      refine .q (q_fieldRef fo_52_0 rfl) rfl ?_
      refine .q (x := .d (cI ((nth v0 (Int.toNat (v24l3))).id))) (q_loadO one_3 rfl rfl rfl) rfl ?_
      obtain ⟨y2, hy2, H⟩ := bind_some' H
      refine .g (x := .d (slOf 1 rI y2)) (g_call en_34 rfl rfl (c_f_assure_keys (hy2))) rfl ?_
      refine .q (q_assign rfl) rfl ?_
      refine .nil ?_
      refine .seqJoin (ι := (List (Int × Usage))) (fun s => [(1, .d (slOf 24 Rated.row v1)), (5, .d (slOf 1 rI y2)), (6, .mp 0), (7, .mp 1), (8, .mp 2), (9, .mp 3), (11, .ref 4 0), (22, .d (slOf 12 Usage.row v0)), (23, .d (cI (v0.length : Int))), (24, .d (cI v24l3))]) (fun s => ⟨[.map (mEnc (fun n => Value.int .i64 n) (fun x => cI x) o0c0l3), .map (mEnc (fun n => Value.int .i64 n) (fun x => cI x) ([] : List (Int × Int))), .map (mEnc (fun n => Value.int .i64 n) (fun x => .agg (Usage.row x)) s), .map (mEnc (fun n => Value.int .i64 n) (fun x => .agg (Usage.row x)) ([] : List (Int × Usage))), .row 52 [.d (cI ((nth v0 (Int.toNat (v24l3))).id)), .d (cI ((nth v0 (Int.toNat (v24l3))).kind)), .d (cI ((nth v0 (Int.toNat (v24l3))).account)), .d (cI ((nth v0 (Int.toNat (v24l3))).sub)), .d (cS ((nth v0 (Int.toNat (v24l3))).a)), .d (cS ((nth v0 (Int.toNat (v24l3))).b)), .d (cI ((nth v0 (Int.toNat (v24l3))).start)), .d (cI ((nth v0 (Int.toNat (v24l3))).units)), .d (cI ((nth v0 (Int.toNat (v24l3))).trunk)), .d (cB ((nth v0 (Int.toNat (v24l3))).inbound)), .d (cI ((nth v0 (Int.toNat (v24l3))).source)), .d (cI ((nth v0 (Int.toNat (v24l3))).serial))]], []⟩) (fun s => f_assure_Usages_j4 v0 v24l3 o0c0l3 y2 s = some q1) ?_ ?_
      · rintro o2c0j4 H
        replace H : f_assure_Usages_j4 v0 v24l3 o0c0l3 y2 o2c0j4 = some q1 := H
        unfold f_assure_Usages_j4 at H
        change ARun _ _ _ _ _ _ [(1, .d (slOf 24 Rated.row v1)), (5, .d (slOf 1 rI y2)), (6, .mp 0), (7, .mp 1), (8, .mp 2), (9, .mp 3), (11, .ref 4 0), (22, .d (slOf 12 Usage.row v0)), (23, .d (cI (v0.length : Int))), (24, .d (cI v24l3))] ⟨[.map (mEnc (fun n => Value.int .i64 n) (fun x => cI x) o0c0l3), .map (mEnc (fun n => Value.int .i64 n) (fun x => cI x) ([] : List (Int × Int))), .map (mEnc (fun n => Value.int .i64 n) (fun x => .agg (Usage.row x)) o2c0j4), .map (mEnc (fun n => Value.int .i64 n) (fun x => .agg (Usage.row x)) ([] : List (Int × Usage))), .row 52 [.d (cI ((nth v0 (Int.toNat (v24l3))).id)), .d (cI ((nth v0 (Int.toNat (v24l3))).kind)), .d (cI ((nth v0 (Int.toNat (v24l3))).account)), .d (cI ((nth v0 (Int.toNat (v24l3))).sub)), .d (cS ((nth v0 (Int.toNat (v24l3))).a)), .d (cS ((nth v0 (Int.toNat (v24l3))).b)), .d (cI ((nth v0 (Int.toNat (v24l3))).start)), .d (cI ((nth v0 (Int.toNat (v24l3))).units)), .d (cI ((nth v0 (Int.toNat (v24l3))).trunk)), .d (cB ((nth v0 (Int.toNat (v24l3))).inbound)), .d (cI ((nth v0 (Int.toNat (v24l3))).source)), .d (cI ((nth v0 (Int.toNat (v24l3))).serial))]], []⟩
        refine .region ?_
        refine .q (q_move rfl) rfl ?_
        refine .q (q_fieldRef fo_52_0 rfl) rfl ?_
        refine .q (x := .d (cI ((nth v0 (Int.toNat (v24l3))).id))) (q_loadO one_3 rfl rfl rfl) rfl ?_
        refine .q (x := .d (cI ((alook o0c0l3 ((nth v0 (Int.toNat (v24l3))).id)).getD 0))) (q_lookupD (intKF Try.underlying3) (l := o0c0l3) (val := (fun x => cI x)) (k := (nth v0 (Int.toNat (v24l3))).id) (a0 := 0) Try.underlying101 hi3 hz3 (show DLe (cI 0) (cI 0) from .rfl' _) rfl rfl rfl (fun _ _ _ h => exKey h)) rfl ?_
        obtain ⟨hk11, H⟩ := ck_some H
        refine .q (q_addI rfl rfl hk11.1 hk11.2) rfl ?_
        refine .u (u_mapUpdateD (intKF Try.underlying3) (l := o0c0l3) (val := (fun x => cI x)) (k := (nth v0 (Int.toNat (v24l3))).id) (a := ((alook o0c0l3 ((nth v0 (Int.toNat (v24l3))).id)).getD 0) + 1) Try.underlying101 rfl rfl rfl (fun _ _ _ h => exKey h) rfl (.rfl' _)) rfl ?_
        refine .withSt (st' := ⟨[.map (mEnc (fun n => Value.int .i64 n) (fun x => cI x) (aset o0c0l3 ((nth v0 (Int.toNat (v24l3))).id) (((alook o0c0l3 ((nth v0 (Int.toNat (v24l3))).id)).getD 0) + 1))), .map (mEnc (fun n => Value.int .i64 n) (fun x => cI x) ([] : List (Int × Int))), .map (mEnc (fun n => Value.int .i64 n) (fun x => .agg (Usage.row x)) o2c0j4), .map (mEnc (fun n => Value.int .i64 n) (fun x => .agg (Usage.row x)) ([] : List (Int × Usage))), .row 52 [.d (cI ((nth v0 (Int.toNat (v24l3))).id)), .d (cI ((nth v0 (Int.toNat (v24l3))).kind)), .d (cI ((nth v0 (Int.toNat (v24l3))).account)), .d (cI ((nth v0 (Int.toNat (v24l3))).sub)), .d (cS ((nth v0 (Int.toNat (v24l3))).a)), .d (cS ((nth v0 (Int.toNat (v24l3))).b)), .d (cI ((nth v0 (Int.toNat (v24l3))).start)), .d (cI ((nth v0 (Int.toNat (v24l3))).units)), .d (cI ((nth v0 (Int.toNat (v24l3))).trunk)), .d (cB ((nth v0 (Int.toNat (v24l3))).inbound)), .d (cI ((nth v0 (Int.toNat (v24l3))).source)), .d (cI ((nth v0 (Int.toNat (v24l3))).serial))]], []⟩) rfl ?_
        refine .nil ?_
        refine .inBlock ?_
        refine .region ?_
        obtain ⟨hk12, H⟩ := ck_some H
        refine .q (q_addI rfl rfl hk12.1 hk12.2) rfl ?_
        refine .q (q_move rfl) rfl ?_
        refine .nil ?_
        cases H
        exact .to 4 0 (env' := [(1, .d (slOf 24 Rated.row v1)), (5, .d (slOf 1 rI y2)), (6, .mp 0), (7, .mp 1), (8, .mp 2), (9, .mp 3), (22, .d (slOf 12 Usage.row v0)), (23, .d (cI (v0.length : Int))), (24, .d (cI (v24l3 + 1)))]) (st' := ⟨[.map (mEnc (fun n => Value.int .i64 n) (fun x => cI x) (aset o0c0l3 ((nth v0 (Int.toNat (v24l3))).id) (((alook o0c0l3 ((nth v0 (Int.toNat (v24l3))).id)).getD 0) + 1))), .map (mEnc (fun n => Value.int .i64 n) (fun x => cI x) ([] : List (Int × Int))), .map (mEnc (fun n => Value.int .i64 n) (fun x => .agg (Usage.row x)) o2c0j4), .map (mEnc (fun n => Value.int .i64 n) (fun x => .agg (Usage.row x)) ([] : List (Int × Usage)))], []⟩) (.cons rfl (.rfl' _) (.cons rfl (.rfl' _) (.cons rfl (.rfl' _) (.cons rfl (.rfl' _) (.cons rfl (.rfl' _) (.cons rfl (.rfl' _) (.cons rfl (.rfl' _) (.cons rfl (.rfl' _) (.cons rfl (.rfl' _) (.nil)))))))))) rfl rfl rfl rfl (okBoth rfl (okCons okMap (okCons okMap (okCons okMap (okCons okMap rfl))))) (by rw [hS]; exact Nat.le_of_ble_eq_true rfl) (by rw [hS]; exact Nat.le_of_ble_eq_true rfl) <| .sub (.cons rfl (.rfl' _) (.cons rfl (.rfl' _) (.cons rfl (.rfl' _) (.cons rfl (.rfl' _) (.cons rfl (.rfl' _) (.cons rfl (.rfl' _) (.cons rfl (.rfl' _) (.cons rfl (.rfl' _) (.cons rfl (.rfl' _) (.nil)))))))))) (ih1 (n1, (y2, v24l3 + 1, aset o0c0l3 ((nth v0 (Int.toNat (v24l3))).id) (((alook o0c0l3 ((nth v0 (Int.toNat (v24l3))).id)).getD 0) + 1), o2c0j4)) HK1 hm1)
      · intro hj4
        refine .seq ?_
        refine .region ?_
        refine .q (q_move rfl) rfl ?_
        refine .q (q_fieldRef fo_52_0 rfl) rfl ?_
        refine .q (x := .d (cI ((nth v0 (Int.toNat (v24l3))).id))) (q_loadO one_3 rfl rfl rfl) rfl ?_
        refine .q (x := .d (cI ((alook o0c0l3 ((nth v0 (Int.toNat (v24l3))).id)).getD 0))) (q_lookupD (intKF Try.underlying3) (l := o0c0l3) (val := (fun x => cI x)) (k := (nth v0 (Int.toNat (v24l3))).id) (a0 := 0) Try.underlying101 hi3 hz3 (show DLe (cI 0) (cI 0) from .rfl' _) rfl rfl rfl (fun _ _ _ h => exKey h)) rfl ?_
        refine .q (q_eql rfl rfl) rfl ?_
        refine .nil ?_
        refine .cond rfl (fun hc => ?_) (fun hc => ?_)
        · replace H := ifT hc H; clear hc
          refine .region ?_
          refine .q (q_move rfl) rfl ?_
          refine .q (q_fieldRef fo_52_0 rfl) rfl ?_
          refine .q (x := .d (cI ((nth v0 (Int.toNat (v24l3))).id))) (q_loadO one_3 rfl rfl rfl) rfl ?_
          refine .q (x := .d (.agg (Usage.row (nth v0 (Int.toNat (v24l3)))))) (q_loadOA one_52 sz_52 rfl rfl (Nat.le_of_ble_eq_true rfl) rfl) rfl ?_
          refine .u (u_mapUpdateD (intKF Try.underlying3) (l := o2c0l3) (val := (fun x => .agg (Usage.row x))) (k := (nth v0 (Int.toNat (v24l3))).id) (a := nth v0 (Int.toNat (v24l3))) Try.underlying102 rfl rfl rfl (fun _ _ _ h => exKey h) rfl (.rfl' _)) rfl ?_
          refine .withSt (st' := ⟨[.map (mEnc (fun n => Value.int .i64 n) (fun x => cI x) o0c0l3), .map (mEnc (fun n => Value.int .i64 n) (fun x => cI x) ([] : List (Int × Int))), .map (mEnc (fun n => Value.int .i64 n) (fun x => .agg (Usage.row x)) (aset o2c0l3 ((nth v0 (Int.toNat (v24l3))).id) (nth v0 (Int.toNat (v24l3))))), .map (mEnc (fun n => Value.int .i64 n) (fun x => .agg (Usage.row x)) ([] : List (Int × Usage))), .row 52 [.d (cI ((nth v0 (Int.toNat (v24l3))).id)), .d (cI ((nth v0 (Int.toNat (v24l3))).kind)), .d (cI ((nth v0 (Int.toNat (v24l3))).account)), .d (cI ((nth v0 (Int.toNat (v24l3))).sub)), .d (cS ((nth v0 (Int.toNat (v24l3))).a)), .d (cS ((nth v0 (Int.toNat (v24l3))).b)), .d (cI ((nth v0 (Int.toNat (v24l3))).start)), .d (cI ((nth v0 (Int.toNat (v24l3))).units)), .d (cI ((nth v0 (Int.toNat (v24l3))).trunk)), .d (cB ((nth v0 (Int.toNat (v24l3))).inbound)), .d (cI ((nth v0 (Int.toNat (v24l3))).source)), .d (cI ((nth v0 (Int.toNat (v24l3))).serial))]], []⟩) rfl ?_
          refine .nil ?_
          exact .withSt (st' := ⟨[.map (mEnc (fun n => Value.int .i64 n) (fun x => cI x) o0c0l3), .map (mEnc (fun n => Value.int .i64 n) (fun x => cI x) ([] : List (Int × Int))), .map (mEnc (fun n => Value.int .i64 n) (fun x => .agg (Usage.row x)) (aset o2c0l3 ((nth v0 (Int.toNat (v24l3))).id) (nth v0 (Int.toNat (v24l3))))), .map (mEnc (fun n => Value.int .i64 n) (fun x => .agg (Usage.row x)) ([] : List (Int × Usage))), .row 52 [.d (cI ((nth v0 (Int.toNat (v24l3))).id)), .d (cI ((nth v0 (Int.toNat (v24l3))).kind)), .d (cI ((nth v0 (Int.toNat (v24l3))).account)), .d (cI ((nth v0 (Int.toNat (v24l3))).sub)), .d (cS ((nth v0 (Int.toNat (v24l3))).a)), .d (cS ((nth v0 (Int.toNat (v24l3))).b)), .d (cI ((nth v0 (Int.toNat (v24l3))).start)), .d (cI ((nth v0 (Int.toNat (v24l3))).units)), .d (cI ((nth v0 (Int.toNat (v24l3))).trunk)), .d (cB ((nth v0 (Int.toNat (v24l3))).inbound)), .d (cI ((nth v0 (Int.toNat (v24l3))).source)), .d (cI ((nth v0 (Int.toNat (v24l3))).serial))]], []⟩) rfl <| .sub (.cons rfl (.rfl' _) (.cons rfl (.rfl' _) (.cons rfl (.rfl' _) (.cons rfl (.rfl' _) (.cons rfl (.rfl' _) (.cons rfl (.rfl' _) (.cons rfl (.rfl' _) (.cons rfl (.rfl' _) (.cons rfl (.rfl' _) (.cons rfl (.rfl' _) (.nil))))))))))) (hj4 (aset o2c0l3 ((nth v0 (Int.toNat (v24l3))).id) (nth v0 (Int.toNat (v24l3)))) H)
        · replace H := ifF hc H; clear hc
          refine .skip ?_
          exact .withSt (st' := ⟨[.map (mEnc (fun n => Value.int .i64 n) (fun x => cI x) o0c0l3), .map (mEnc (fun n => Value.int .i64 n) (fun x => cI x) ([] : List (Int × Int))), .map (mEnc (fun n => Value.int .i64 n) (fun x => .agg (Usage.row x)) o2c0l3), .map (mEnc (fun n => Value.int .i64 n) (fun x => .agg (Usage.row x)) ([] : List (Int × Usage))), .row 52 [.d (cI ((nth v0 (Int.toNat (v24l3))).id)), .d (cI ((nth v0 (Int.toNat (v24l3))).kind)), .d (cI ((nth v0 (Int.toNat (v24l3))).account)), .d (cI ((nth v0 (Int.toNat (v24l3))).sub)), .d (cS ((nth v0 (Int.toNat (v24l3))).a)), .d (cS ((nth v0 (Int.toNat (v24l3))).b)), .d (cI ((nth v0 (Int.toNat (v24l3))).start)), .d (cI ((nth v0 (Int.toNat (v24l3))).units)), .d (cI ((nth v0 (Int.toNat (v24l3))).trunk)), .d (cB ((nth v0 (Int.toNat (v24l3))).inbound)), .d (cI ((nth v0 (Int.toNat (v24l3))).source)), .d (cI ((nth v0 (Int.toNat (v24l3))).serial))]], []⟩) rfl <| .sub (.cons rfl (.rfl' _) (.cons rfl (.rfl' _) (.cons rfl (.rfl' _) (.cons rfl (.rfl' _) (.cons rfl (.rfl' _) (.cons rfl (.rfl' _) (.cons rfl (.rfl' _) (.cons rfl (.rfl' _) (.cons rfl (.rfl' _) (.cons rfl (.rfl' _) (.nil))))))))))) (hj4 o2c0l3 H)
    · replace H := ifF hc H; clear hc
      refine .exit rfl ?_
      obtain ⟨q0, H9, hq0⟩ := map_some' H; clear H; cases hq0
      cases HK1
      have H := H9
      exact .withSt (st' := ⟨[.map (mEnc (fun n => Value.int .i64 n) (fun x => cI x) o0c0l3), .map (mEnc (fun n => Value.int .i64 n) (fun x => cI x) ([] : List (Int × Int))), .map (mEnc (fun n => Value.int .i64 n) (fun x => .agg (Usage.row x)) o2c0l3), .map (mEnc (fun n => Value.int .i64 n) (fun x => .agg (Usage.row x)) ([] : List (Int × Usage)))], []⟩) rfl <| .sub (.cons rfl (.rfl' _) (.cons rfl (.rfl' _) (.cons rfl (.rfl' _) (.cons rfl (.rfl' _) (.cons rfl (.rfl' _) (.cons rfl (.rfl' _) (.nil))))))) (hj1x (v5l3, o0c0l3, o2c0l3) H)

set_option maxRecDepth 100000 in
set_option maxHeartbeats 1000000 in
theorem c_g_assure_differing {v0control : Int} {v1ids : List Int} {o0c0p : List (Int × Int)} {o1c0p : List (Int × Int)} {r : (List Leak)} (H : g_assure_differing v0control v1ids o0c0p o1c0p = some r) : ACallS Try.prog 36 [.d (cI v0control), .d (slOf 1 rI v1ids), .mp 0, .mp 1] ⟨[.map (mEnc (fun n => Value.int .i64 n) (fun x => cI x) o0c0p), .map (mEnc (fun n => Value.int .i64 n) (fun x => cI x) o1c0p)], []⟩ (QE (.d (slOf 4 Leak.row r)) ⟨[.map (mEnc (fun n => Value.int .i64 n) (fun x => cI x) o0c0p), .map (mEnc (fun n => Value.int .i64 n) (fun x => cI x) o1c0p)], []⟩) := by
  obtain ⟨i3, hi3, hz3, hs3, hb3⟩ := in_3
  obtain ⟨i60, hi60, hz60, hs60, hb60⟩ := in_60
  refine ACallS.keep ?_
  refine ACallS.enter Try.func36 rfl Try.ntmps36 rfl fun S hS => ?_
  unfold g_assure_differing at H
  change ARun _ _ _ _ _ _ [(0, .d (cI v0control)), (1, .d (slOf 1 rI v1ids)), (2, .mp 0), (3, .mp 1)] _
  refine .seq ?_
  refine .region ?_
  refine .q (q_assign rfl) rfl ?_
  refine .nil ?_
  refine .seq ?_
  refine .region ?_
  refine .q (q_assign rfl) rfl ?_
  refine .nil ?_
  refine .seq ?_
  refine .seq ?_
  refine .region ?_
  refine .q (q_move rfl) rfl ?_
  refine .q (q_lenL (l := v1ids) (row := rI) Try.underlying100 rfl rfl) rfl ?_
  refine .q (q_move rfl) rfl ?_
  refine .nil ?_
  refine .block ?_
  refine .tok (i := 9) (e := 60) (sz := 4) rfl ?_
  refine .withSt (st' := ⟨[.map (mEnc (fun n => Value.int .i64 n) (fun x => cI x) o0c0p), .map (mEnc (fun n => Value.int .i64 n) (fun x => cI x) o1c0p)], [⟨60, 4, ([] : List Leak).length, none⟩]⟩) rfl ?_
  obtain ⟨n1, H⟩ := loop_some H
  refine .withSt (st' := ⟨[.map (mEnc (fun n => Value.int .i64 n) (fun x => cI x) o0c0p), .map (mEnc (fun n => Value.int .i64 n) (fun x => cI x) o1c0p)], [⟨60, 4, ([] : List Leak).length, none⟩]⟩) rfl <| .loop (ι := Nat × (List Leak × Int)) (fun p => [(0, .d (cI v0control)), (2, .mp 0), (3, .mp 1), (9, .tsl 4 (p.2.1.map Leak.row) 0), (12, .d (slOf 1 rI v1ids)), (13, .d (cI (v1ids.length : Int))), (14, .d (cI p.2.2))]) (fun p => ⟨[.map (mEnc (fun n => Value.int .i64 n) (fun x => cI x) o0c0p), .map (mEnc (fun n => Value.int .i64 n) (fun x => cI x) o1c0p)], [⟨60, 4, p.2.1.length, none⟩]⟩) (fun p => iter (fun s => g_assure_differing_l1 v0control v1ids o0c0p o1c0p s.1 s.2) p.1 p.2 = some r) (·.1) (n1, (([] : List Leak), 0)) H (.cons rfl (.rfl' _) (.cons rfl (.rfl' _) (.cons rfl (.rfl' _) (.cons rfl (.rfl' _) (.cons rfl (.rfl' _) (.cons rfl (.rfl' _) (.cons rfl (.rfl' _) (.nil)))))))) rfl ?_
  rintro ⟨m1, v9outl1, v14l1⟩ HI ih1
  obtain ⟨n1, q1, hm1, H, HK1⟩ := iter_succ HI
  clear HI
  replace H : g_assure_differing_l1 v0control v1ids o0c0p o1c0p v9outl1 v14l1 = some q1 := H
  unfold g_assure_differing_l1 at H
  change ARun _ _ _ _ _ _ [(0, .d (cI v0control)), (2, .mp 0), (3, .mp 1), (9, .tsl 4 (v9outl1.map Leak.row) 0), (12, .d (slOf 1 rI v1ids)), (13, .d (cI (v1ids.length : Int))), (14, .d (cI v14l1))] ⟨[.map (mEnc (fun n => Value.int .i64 n) (fun x => cI x) o0c0p), .map (mEnc (fun n => Value.int .i64 n) (fun x => cI x) o1c0p)], [⟨60, 4, v9outl1.length, none⟩]⟩
  refine .seq ?_
  refine .region ?_
  refine .q (q_lss rfl rfl) rfl ?_
  refine .nil ?_
  refine .seq ?_
  refine .cond rfl (fun hc => ?_) (fun hc => ?_)
  · replace H := ifT hc H; clear hc
    refine .skip ?_
    refine .seq ?_
    refine .block ?_
    refine .seq ?_
    refine .region ?_
    obtain ⟨hk1, H⟩ := ck_some H
    refine .q (x := .d (.ro (rI (nth v1ids (Int.toNat (v14l1)))))) (q_idxL (row := rI) (l := v1ids) (i := v14l1) Try.underlying100 hi3 hs3 rfl rfl rfl hk1) rfl ?_
    refine .q (x := .d (cI (nth v1ids (Int.toNat (v14l1))))) (q_load one_3 rfl) rfl ?_
    refine .q (q_assign rfl) rfl ?_
    refine .nil ?_
    refine .seq ?_
    refine .region ?_
    refine .q (q_move rfl) rfl ?_
    refine .q (q_move rfl) rfl ?_
    refine .q (x := .d (cI ((alook o0c0p (nth v1ids (Int.toNat (v14l1)))).getD 0))) (q_lookupD (intKF Try.underlying3) (l := o0c0p) (val := (fun x => cI x)) (k := nth v1ids (Int.toNat (v14l1))) (a0 := 0) Try.underlying101 hi3 hz3 (show DLe (cI 0) (cI 0) from .rfl' _) rfl rfl rfl (fun _ _ _ h => exKey h)) rfl ?_
    refine .q (q_move rfl) rfl ?_
    refine .q (q_move rfl) rfl ?_
    refine .q (x := .d (cI ((alook o1c0p (nth v1ids (Int.toNat (v14l1)))).getD 0))) (q_lookupD (intKF Try.underlying3) (l := o1c0p) (val := (fun x => cI x)) (k := nth v1ids (Int.toNat (v14l1))) (a0 := 0) Try.underlying101 hi3 hz3 (show DLe (cI 0) (cI 0) from .rfl' _) rfl rfl rfl (fun _ _ _ h => exKey h)) rfl ?_
    refine .q (q_neq rfl rfl) rfl ?_
    refine .nil ?_
    refine .cond rfl (fun hc => ?_) (fun hc => ?_)
    · replace H := ifT hc H; clear hc
      refine .region ?_
      refine .q (q_move rfl) rfl ?_
      refine .q (q_move rfl) rfl ?_
      refine .q (q_move rfl) rfl ?_
      refine .q (q_move rfl) rfl ?_
      refine .q (q_move rfl) rfl ?_
      refine .q (x := .d (cI ((alook o0c0p (nth v1ids (Int.toNat (v14l1)))).getD 0))) (q_lookupD (intKF Try.underlying3) (l := o0c0p) (val := (fun x => cI x)) (k := nth v1ids (Int.toNat (v14l1))) (a0 := 0) Try.underlying101 hi3 hz3 (show DLe (cI 0) (cI 0) from .rfl' _) rfl rfl rfl (fun _ _ _ h => exKey h)) rfl ?_
      refine .q (q_move rfl) rfl ?_
      refine .q (q_move rfl) rfl ?_
      refine .q (x := .d (cI ((alook o1c0p (nth v1ids (Int.toNat (v14l1)))).getD 0))) (q_lookupD (intKF Try.underlying3) (l := o1c0p) (val := (fun x => cI x)) (k := nth v1ids (Int.toNat (v14l1))) (a0 := 0) Try.underlying101 hi3 hz3 (show DLe (cI 0) (cI 0) from .rfl' _) rfl rfl rfl (fun _ _ _ h => exKey h)) rfl ?_
      refine .q (x := .d (.agg (Leak.row (⟨v0control, nth v1ids (Int.toNat (v14l1)), (alook o0c0p (nth v1ids (Int.toNat (v14l1)))).getD 0, (alook o1c0p (nth v1ids (Int.toNat (v14l1)))).getD 0⟩ : Leak)))) (q_buildP pl_60 hi60 hz60 rfl rfl) rfl ?_
      refine .g (x := .d (slOf 4 Leak.row ([(⟨v0control, nth v1ids (Int.toNat (v14l1)), (alook o0c0p (nth v1ids (Int.toNat (v14l1)))).getD 0, (alook o1c0p (nth v1ids (Int.toNat (v14l1)))).getD 0⟩ : Leak)] : List Leak))) (g_buildSlice1 Try.underlying42 hi60 hs60 hz60 rfl rfl rfl rfl rfl) rfl ?_
      obtain ⟨hk2, H⟩ := ck_some H
      refine .v (x := .tsl 4 ((v9outl1 ++ ([(⟨v0control, nth v1ids (Int.toNat (v14l1)), (alook o0c0p (nth v1ids (Int.toNat (v14l1)))).getD 0, (alook o1c0p (nth v1ids (Int.toNat (v14l1)))).getD 0⟩ : Leak)] : List Leak)).map Leak.row) 0) (v_appendL (l := v9outl1) (l' := ([(⟨v0control, nth v1ids (Int.toNat (v14l1)), (alook o0c0p (nth v1ids (Int.toNat (v14l1)))).getD 0, (alook o1c0p (nth v1ids (Int.toNat (v14l1)))).getD 0⟩ : Leak)] : List Leak)) (row := Leak.row) Try.underlying42 hi60 hz60 hs60 rfl (by rw [hb60]; decide) rfl rfl rfl rfl hk2) rfl ?_
      refine .withSt (st' := ⟨[.map (mEnc (fun n => Value.int .i64 n) (fun x => cI x) o0c0p), .map (mEnc (fun n => Value.int .i64 n) (fun x => cI x) o1c0p)], [⟨60, 4, (v9outl1 ++ ([(⟨v0control, nth v1ids (Int.toNat (v14l1)), (alook o0c0p (nth v1ids (Int.toNat (v14l1)))).getD 0, (alook o1c0p (nth v1ids (Int.toNat (v14l1)))).getD 0⟩ : Leak)] : List Leak)).length, none⟩]⟩) rfl ?_
      refine .q (q_assign rfl) rfl ?_
      refine .nil ?_
      refine .inBlock ?_
      refine .region ?_
      obtain ⟨hk3, H⟩ := ck_some H
      refine .q (q_addI rfl rfl hk3.1 hk3.2) rfl ?_
      refine .q (q_move rfl) rfl ?_
      refine .nil ?_
      cases H
      exact .withSt (st' := ⟨[.map (mEnc (fun n => Value.int .i64 n) (fun x => cI x) o0c0p), .map (mEnc (fun n => Value.int .i64 n) (fun x => cI x) o1c0p)], [⟨60, 4, (v9outl1 ++ ([(⟨v0control, nth v1ids (Int.toNat (v14l1)), (alook o0c0p (nth v1ids (Int.toNat (v14l1)))).getD 0, (alook o1c0p (nth v1ids (Int.toNat (v14l1)))).getD 0⟩ : Leak)] : List Leak)).length, none⟩]⟩) rfl <| .sub (.cons rfl (.rfl' _) (.cons rfl (.rfl' _) (.cons rfl (.rfl' _) (.cons rfl (.rfl' _) (.cons rfl (.rfl' _) (.cons rfl (.rfl' _) (.cons rfl (.rfl' _) (.nil)))))))) (ih1 (n1, (v9outl1 ++ ([(⟨v0control, nth v1ids (Int.toNat (v14l1)), (alook o0c0p (nth v1ids (Int.toNat (v14l1)))).getD 0, (alook o1c0p (nth v1ids (Int.toNat (v14l1)))).getD 0⟩ : Leak)] : List Leak), v14l1 + 1)) HK1 hm1)
    · replace H := ifF hc H; clear hc
      refine .skip ?_
      refine .inBlock ?_
      refine .region ?_
      obtain ⟨hk4, H⟩ := ck_some H
      refine .q (q_addI rfl rfl hk4.1 hk4.2) rfl ?_
      refine .q (q_move rfl) rfl ?_
      refine .nil ?_
      cases H
      exact .sub (.cons rfl (.rfl' _) (.cons rfl (.rfl' _) (.cons rfl (.rfl' _) (.cons rfl (.rfl' _) (.cons rfl (.rfl' _) (.cons rfl (.rfl' _) (.cons rfl (.rfl' _) (.nil)))))))) (ih1 (n1, (v9outl1, v14l1 + 1)) HK1 hm1)
  · replace H := ifF hc H; clear hc
    refine .exit rfl ?_
    refine .seq ?_
    refine .region ?_
    refine .q (q_move rfl) rfl ?_
    refine .q (q_assign rfl) rfl ?_
    refine .nil ?_
    refine .retN [.tmp 8] [.tsl 4 (v9outl1.map Leak.row) 0] Try.func36 Try.results36 ⟨rfl, trivial⟩ ?_
    cases H
    cases HK1
    exact ⟨[0, 1], [], rfl, (okCons okMap (okCons okMap rfl)), (by first | rfl | (simp only [List.map_cons, List.map_nil, renMap, renArr, mergeSt]; rfl)), (by first | rfl | (simp only [List.map_cons, List.map_nil, renMap, renArr, mergeSt]; rfl)), (by first | rfl | (simp only [List.map_cons, List.map_nil, renMap, renArr, mergeSt]; rfl)), (by first | rfl | (simp only [List.map_cons, List.map_nil, renMap, renArr, mergeSt]; rfl)), (by first | rfl | (simp only [List.map_cons, List.map_nil, renMap, renArr, mergeSt]; rfl)), (by first | rfl | (simp only [List.map_cons, List.map_nil, renMap, renArr, mergeSt]; rfl)), .tsl _ _ _⟩

set_option maxRecDepth 100000 in
set_option maxHeartbeats 1000000 in
theorem c_f_assure_Invoices {v0rated : List Rated} {v1lines : List Line} {r : (List Leak)} (H : f_assure_Invoices v0rated v1lines = some r) : ACall Try.prog 21 [slOf 24 Rated.row v0rated, slOf 8 Line.row v1lines] (· = slOf 4 Leak.row r) := by
  obtain ⟨i3, hi3, hz3, hs3, hb3⟩ := in_3
  obtain ⟨i58, hi58, hz58, hs58, hb58⟩ := in_58
  obtain ⟨i64, hi64, hz64, hs64, hb64⟩ := in_64
  refine ACall.enter' Try.func21 rfl Try.ntmps21 rfl fun S hS => ?_
  unfold f_assure_Invoices at H
  change ARun _ _ _ _ _ _ [(0, .d (slOf 24 Rated.row v0rated)), (1, .d (slOf 8 Line.row v1lines))] _
  refine .seq ?_
  refine .region ?_
  refine .q (q_assign rfl) rfl ?_
  refine .nil ?_
  refine .seq ?_
  refine .region ?_
  refine .q (q_assign rfl) rfl ?_
  refine .nil ?_
  refine .seq ?_
  refine .region ?_
  refine .v (x := .mp 0) (v_makeMap) rfl ?_
  refine .withSt (st' := ⟨[.map (mEnc (fun n => Value.int .i64 n) (fun x => cI x) ([] : List (Int × Int)))], []⟩) rfl ?_
  refine .v (x := .mp 1) (v_makeMap) rfl ?_
  refine .withSt (st' := ⟨[.map (mEnc (fun n => Value.int .i64 n) (fun x => cI x) ([] : List (Int × Int))), .map (mEnc (fun n => Value.int .i64 n) (fun x => cI x) ([] : List (Int × Int)))], []⟩) rfl ?_
  refine .q (q_assign rfl) rfl ?_
  refine .q (q_assign rfl) rfl ?_
  refine .nil ?_
  refine .seq ?_
  refine .seq ?_
  refine .region ?_
  refine .q (q_move rfl) rfl ?_
  refine .q (q_lenL (l := v0rated) (row := Rated.row) Try.underlying46 rfl rfl) rfl ?_
  refine .q (q_move rfl) rfl ?_
  refine .nil ?_
  refine .blockJoin2 (ι := List Int × (List (Int × Int))) (fun s => [(1, .d (slOf 8 Line.row v1lines)), (5, .d (slOf 1 rI s.1)), (6, .mp 0), (7, .mp 1)]) (fun s => ⟨[.map (mEnc (fun n => Value.int .i64 n) (fun x => cI x) s.2), .map (mEnc (fun n => Value.int .i64 n) (fun x => cI x) ([] : List (Int × Int)))], []⟩) (fun s => f_assure_Invoices_j1 v1lines s.1 s.2 = some r) ?_ ?_
  · rintro ⟨v5idsj1, o0c0j1⟩ H
    replace H : f_assure_Invoices_j1 v1lines v5idsj1 o0c0j1 = some r := H
    unfold f_assure_Invoices_j1 at H
    change ARun _ _ _ _ _ _ [(1, .d (slOf 8 Line.row v1lines)), (5, .d (slOf 1 rI v5idsj1)), (6, .mp 0), (7, .mp 1)] ⟨[.map (mEnc (fun n => Value.int .i64 n) (fun x => cI x) o0c0j1), .map (mEnc (fun n => Value.int .i64 n) (fun x => cI x) ([] : List (Int × Int)))], []⟩
    refine .seq ?_
    refine .seq ?_
    refine .region ?_
    refine .q (q_move rfl) rfl ?_
    refine .q (q_lenL (l := v1lines) (row := Line.row) Try.underlying62 rfl rfl) rfl ?_
    refine .q (q_move rfl) rfl ?_
    refine .nil ?_
    refine .blockJoin2 (ι := List Int × (List (Int × Int))) (fun s => [(5, .d (slOf 1 rI s.1)), (6, .mp 0), (7, .mp 1)]) (fun s => ⟨[.map (mEnc (fun n => Value.int .i64 n) (fun x => cI x) o0c0j1), .map (mEnc (fun n => Value.int .i64 n) (fun x => cI x) s.2)], []⟩) (fun s => f_assure_Invoices_j2 o0c0j1 s.1 s.2 = some r) ?_ ?_
    · rintro ⟨v5idsj2, o1c0j2⟩ H
      replace H : f_assure_Invoices_j2 o0c0j1 v5idsj2 o1c0j2 = some r := H
      unfold f_assure_Invoices_j2 at H
      change ARun _ _ _ _ _ _ [(5, .d (slOf 1 rI v5idsj2)), (6, .mp 0), (7, .mp 1)] ⟨[.map (mEnc (fun n => Value.int .i64 n) (fun x => cI x) o0c0j1), .map (mEnc (fun n => Value.int .i64 n) (fun x => cI x) o1c0j2)], []⟩
      refine .seq ?_
      refine .region ?_
      refine .q (q_move rfl) rfl ?_
      refine .q (q_move rfl) rfl ?_
      refine .q (q_move rfl) rfl ?_
      obtain ⟨y1, hy1, H⟩ := bind_some' H
      refine .callF en_36 rfl [0, 1] [] (x := .d (slOf 4 Leak.row y1)) (st' := ⟨[.map (mEnc (fun n => Value.int .i64 n) (fun x => cI x) o0c0j1), .map (mEnc (fun n => Value.int .i64 n) (fun x => cI x) o1c0j2)], []⟩) rfl (c_g_assure_differing (hy1)) ⟨.rfl' _, .rfl' _, .rfl' _, .rfl' _, trivial⟩ rfl (okCons okMap (okCons okMap rfl)) (by first | rfl | (simp only [List.map_cons, List.map_nil, renMap, renArr, mergeSt]; rfl)) rfl rfl (by first | rfl | (simp only [List.map_cons, List.map_nil, renMap, renArr, mergeSt]; rfl)) ?_
      refine .withSt (st' := ⟨[.map (mEnc (fun n => Value.int .i64 n) (fun x => cI x) o0c0j1), .map (mEnc (fun n => Value.int .i64 n) (fun x => cI x) o1c0j2)], []⟩) rfl ?_
      refine .q (q_assign rfl) rfl ?_
      refine .nil ?_
      refine .retN [.tmp 4] [.d (slOf 4 Leak.row y1)] Try.func21 Try.results21 ⟨rfl, trivial⟩ ?_
      cases H
      exact ⟨_, .rfl' _, rfl⟩
    · intro hj2 hj2x
      obtain ⟨n1, H⟩ := loop_some H
      refine .withSt (st' := ⟨[.map (mEnc (fun n => Value.int .i64 n) (fun x => cI x) o0c0j1), .map (mEnc (fun n => Value.int .i64 n) (fun x => cI x) ([] : List (Int × Int)))], []⟩) rfl <| .loop (ι := Nat × (List Int × Int × (List (Int × Int)))) (fun p => [(5, .d (slOf 1 rI p.2.1)), (6, .mp 0), (7, .mp 1), (34, .d (slOf 8 Line.row v1lines)), (35, .d (cI (v1lines.length : Int))), (36, .d (cI p.2.2.1))]) (fun p => ⟨[.map (mEnc (fun n => Value.int .i64 n) (fun x => cI x) o0c0j1), .map (mEnc (fun n => Value.int .i64 n) (fun x => cI x) p.2.2.2)], []⟩) (fun p => iter (fun s => f_assure_Invoices_l1 v1lines o0c0j1 s.1 s.2.1 s.2.2) p.1 p.2 = some r) (·.1) (n1, (v5idsj1, 0, ([] : List (Int × Int)))) H (.cons rfl (.rfl' _) (.cons rfl (.rfl' _) (.cons rfl (.rfl' _) (.cons rfl (.rfl' _) (.cons rfl (.rfl' _) (.cons rfl (.rfl' _) (.nil))))))) rfl ?_
      rintro ⟨m1, v5idsl1, v36l1, o1c0l1⟩ HI ih1
      obtain ⟨n1, q1, hm1, H, HK1⟩ := iter_succ HI
      clear HI
      replace H : f_assure_Invoices_l1 v1lines o0c0j1 v5idsl1 v36l1 o1c0l1 = some q1 := H
      unfold f_assure_Invoices_l1 at H
      change ARun _ _ _ _ _ _ [(5, .d (slOf 1 rI v5idsl1)), (6, .mp 0), (7, .mp 1), (34, .d (slOf 8 Line.row v1lines)), (35, .d (cI (v1lines.length : Int))), (36, .d (cI v36l1))] ⟨[.map (mEnc (fun n => Value.int .i64 n) (fun x => cI x) o0c0j1), .map (mEnc (fun n => Value.int .i64 n) (fun x => cI x) o1c0l1)], []⟩
      refine .seq ?_
      refine .region ?_
      refine .q (q_lss rfl rfl) rfl ?_
      refine .nil ?_
      refine .seq ?_
      refine .cond rfl (fun hc => ?_) (fun hc => ?_)
      · replace H := ifT hc H; clear hc
        refine .skip ?_
        refine .seq ?_
        refine .block ?_
        refine .seq ?_
        refine .region ?_
        obtain ⟨hk1, H⟩ := ck_some H
        refine .q (x := .d (.ro (Line.row (nth v1lines (Int.toNat (v36l1)))))) (q_idxL (row := Line.row) (l := v1lines) (i := v36l1) Try.underlying62 hi64 hs64 rfl rfl rfl hk1) rfl ?_
        refine .q (x := .d (.agg (Line.row (nth v1lines (Int.toNat (v36l1)))))) (q_loadAll one_64 sz_64 rfl rfl) rfl ?_
        refine .v (x := .ref 2 0) (v_alloc zr_64 rfl) rfl ?_
        refine .withSt (st' := ⟨[.map (mEnc (fun n => Value.int .i64 n) (fun x => cI x) o0c0j1), .map (mEnc (fun n => Value.int .i64 n) (fun x => cI x) o1c0l1), .row 64 [.d (cI 0), .d (cI 0), .d (cS ([] : List UInt8)), .d (cS ([] : List UInt8)), .d (cI 0), .d (cI 0), .d (cI 0), .d (cI 0)]], []⟩) rfl ?_
        refine .u (u_store rfl rfl rfl rfl (Nat.le_of_ble_eq_true rfl) sz_64) rfl ?_
        refine .withSt (st' := ⟨[.map (mEnc (fun n => Value.int .i64 n) (fun x => cI x) o0c0j1), .map (mEnc (fun n => Value.int .i64 n) (fun x => cI x) o1c0l1), .row 64 [.d (cI ((nth v1lines (Int.toNat (v36l1))).kind)), .d (cI ((nth v1lines (Int.toNat (v36l1))).sub)), .d (cS ((nth v1lines (Int.toNat (v36l1))).name)), .d (cS ((nth v1lines (Int.toNat (v36l1))).category)), .d (cI ((nth v1lines (Int.toNat (v36l1))).count)), .d (cI ((nth v1lines (Int.toNat (v36l1))).units)), .d (cI ((nth v1lines (Int.toNat (v36l1))).amount)), .d (cI ((nth v1lines (Int.toNat (v36l1))).rounded))]], []⟩) rfl ?_
        refine .nil ?_
        refine .seq ?_
        refine .region ?_
        refine .q (q_fieldRef fo_64_0 rfl) rfl ?_
        refine .q (x := .d (cI ((nth v1lines (Int.toNat (v36l1))).kind))) (q_loadO one_3 rfl rfl rfl) rfl ?_
        refine .q (q_eql rfl rfl) rfl ?_
        refine .q (q_move rfl) rfl ?_
        refine .guardG (env' := [(11, _)]) rfl rfl rfl ⟨.inl rfl, trivial⟩ rfl (fun hg => OpQ.g (q_fieldRef fo_64_0 rfl)) ?_
        refine .guardG (b := (!(((nth v1lines (Int.toNat (v36l1))).kind) == 1))) (x := .d (cI ((nth v1lines (Int.toNat (v36l1))).kind))) (env' := [(44, _)]) rfl rfl rfl ⟨.inr (.inl rfl), trivial⟩ rfl (fun hg => OpQ.g (q_loadO one_3 rfl rfl rfl)) ?_
        refine .guardG (env' := [(45, _)]) rfl rfl rfl ⟨.inr (.inl rfl), trivial⟩ rfl (fun hg => OpQ.g (q_eql rfl rfl)) ?_
        refine .q (q_pickOrB rfl rfl rfl) rfl ?_
        refine .nil ?_
        refine .cond rfl (fun hc => ?_) (fun hc => ?_)
        · replace H := ifT hc H; clear hc
          refine .seq ?_
          refine .region ?_
          refine .q (q_move rfl) rfl ?_
          refine .q (q_fieldRef fo_64_1 rfl) rfl ?_
          refine .q (x := .d (cI ((nth v1lines (Int.toNat (v36l1))).sub))) (q_loadO one_3 rfl rfl rfl) rfl ?_
          obtain ⟨y2, hy2, H⟩ := bind_some' H
          refine .g (x := .d (slOf 1 rI y2)) (g_call en_34 rfl rfl (c_f_assure_keys (hy2))) rfl ?_
          refine .q (q_assign rfl) rfl ?_
          refine .nil ?_
          refine .region ?_
          refine .q (q_move rfl) rfl ?_
          refine .q (q_fieldRef fo_64_1 rfl) rfl ?_
          refine .q (x := .d (cI ((nth v1lines (Int.toNat (v36l1))).sub))) (q_loadO one_3 rfl rfl rfl) rfl ?_
          refine .q (x := .d (cI ((alook o1c0l1 ((nth v1lines (Int.toNat (v36l1))).sub)).getD 0))) (q_lookupD (intKF Try.underlying3) (l := o1c0l1) (val := (fun x => cI x)) (k := (nth v1lines (Int.toNat (v36l1))).sub) (a0 := 0) Try.underlying101 hi3 hz3 (show DLe (cI 0) (cI 0) from .rfl' _) rfl rfl rfl (fun _ _ _ h => exKey h)) rfl ?_
          refine .q (q_fieldRef fo_64_6 rfl) rfl ?_
          refine .q (x := .d (cI ((nth v1lines (Int.toNat (v36l1))).amount))) (q_loadO one_3 rfl rfl rfl) rfl ?_
          obtain ⟨hk2, H⟩ := ck_some H
          refine .q (q_addI rfl rfl hk2.1 hk2.2) rfl ?_
          refine .u (u_mapUpdateD (intKF Try.underlying3) (l := o1c0l1) (val := (fun x => cI x)) (k := (nth v1lines (Int.toNat (v36l1))).sub) (a := ((alook o1c0l1 ((nth v1lines (Int.toNat (v36l1))).sub)).getD 0) + ((nth v1lines (Int.toNat (v36l1))).amount)) Try.underlying101 rfl rfl rfl (fun _ _ _ h => exKey h) rfl (.rfl' _)) rfl ?_
          refine .withSt (st' := ⟨[.map (mEnc (fun n => Value.int .i64 n) (fun x => cI x) o0c0j1), .map (mEnc (fun n => Value.int .i64 n) (fun x => cI x) (aset o1c0l1 ((nth v1lines (Int.toNat (v36l1))).sub) (((alook o1c0l1 ((nth v1lines (Int.toNat (v36l1))).sub)).getD 0) + ((nth v1lines (Int.toNat (v36l1))).amount)))), .row 64 [.d (cI ((nth v1lines (Int.toNat (v36l1))).kind)), .d (cI ((nth v1lines (Int.toNat (v36l1))).sub)), .d (cS ((nth v1lines (Int.toNat (v36l1))).name)), .d (cS ((nth v1lines (Int.toNat (v36l1))).category)), .d (cI ((nth v1lines (Int.toNat (v36l1))).count)), .d (cI ((nth v1lines (Int.toNat (v36l1))).units)), .d (cI ((nth v1lines (Int.toNat (v36l1))).amount)), .d (cI ((nth v1lines (Int.toNat (v36l1))).rounded))]], []⟩) rfl ?_
          refine .nil ?_
          refine .inBlock ?_
          refine .region ?_
          obtain ⟨hk3, H⟩ := ck_some H
          refine .q (q_addI rfl rfl hk3.1 hk3.2) rfl ?_
          refine .q (q_move rfl) rfl ?_
          refine .nil ?_
          cases H
          exact .to 2 0 (env' := [(5, .d (slOf 1 rI y2)), (6, .mp 0), (7, .mp 1), (34, .d (slOf 8 Line.row v1lines)), (35, .d (cI (v1lines.length : Int))), (36, .d (cI (v36l1 + 1)))]) (st' := ⟨[.map (mEnc (fun n => Value.int .i64 n) (fun x => cI x) o0c0j1), .map (mEnc (fun n => Value.int .i64 n) (fun x => cI x) (aset o1c0l1 ((nth v1lines (Int.toNat (v36l1))).sub) (((alook o1c0l1 ((nth v1lines (Int.toNat (v36l1))).sub)).getD 0) + ((nth v1lines (Int.toNat (v36l1))).amount))))], []⟩) (.cons rfl (.rfl' _) (.cons rfl (.rfl' _) (.cons rfl (.rfl' _) (.cons rfl (.rfl' _) (.cons rfl (.rfl' _) (.cons rfl (.rfl' _) (.nil))))))) rfl rfl rfl rfl (okBoth rfl (okCons okMap (okCons okMap rfl))) (by rw [hS]; exact Nat.le_of_ble_eq_true rfl) (by rw [hS]; exact Nat.le_of_ble_eq_true rfl) <| .sub (.cons rfl (.rfl' _) (.cons rfl (.rfl' _) (.cons rfl (.rfl' _) (.cons rfl (.rfl' _) (.cons rfl (.rfl' _) (.cons rfl (.rfl' _) (.nil))))))) (ih1 (n1, (y2, v36l1 + 1, aset o1c0l1 ((nth v1lines (Int.toNat (v36l1))).sub) (((alook o1c0l1 ((nth v1lines (Int.toNat (v36l1))).sub)).getD 0) + ((nth v1lines (Int.toNat (v36l1))).amount)))) HK1 hm1)
        · replace H := ifF hc H; clear hc
          refine .skip ?_
          refine .inBlock ?_
          refine .region ?_
          obtain ⟨hk4, H⟩ := ck_some H
          refine .q (q_addI rfl rfl hk4.1 hk4.2) rfl ?_
          refine .q (q_move rfl) rfl ?_
          refine .nil ?_
          cases H
          exact .to 2 0 (env' := [(5, .d (slOf 1 rI v5idsl1)), (6, .mp 0), (7, .mp 1), (34, .d (slOf 8 Line.row v1lines)), (35, .d (cI (v1lines.length : Int))), (36, .d (cI (v36l1 + 1)))]) (st' := ⟨[.map (mEnc (fun n => Value.int .i64 n) (fun x => cI x) o0c0j1), .map (mEnc (fun n => Value.int .i64 n) (fun x => cI x) o1c0l1)], []⟩) (.cons rfl (.rfl' _) (.cons rfl (.rfl' _) (.cons rfl (.rfl' _) (.cons rfl (.rfl' _) (.cons rfl (.rfl' _) (.cons rfl (.rfl' _) (.nil))))))) rfl rfl rfl rfl (okBoth rfl (okCons okMap (okCons okMap rfl))) (by rw [hS]; exact Nat.le_of_ble_eq_true rfl) (by rw [hS]; exact Nat.le_of_ble_eq_true rfl) <| .sub (.cons rfl (.rfl' _) (.cons rfl (.rfl' _) (.cons rfl (.rfl' _) (.cons rfl (.rfl' _) (.cons rfl (.rfl' _) (.cons rfl (.rfl' _) (.nil))))))) (ih1 (n1, (v5idsl1, v36l1 + 1, o1c0l1)) HK1 hm1)
      · replace H := ifF hc H; clear hc
        refine .exit rfl ?_
        obtain ⟨q0, H9, hq0⟩ := map_some' H; clear H; cases hq0
        cases HK1
        have H := H9
        exact .withSt (st' := ⟨[.map (mEnc (fun n => Value.int .i64 n) (fun x => cI x) o0c0j1), .map (mEnc (fun n => Value.int .i64 n) (fun x => cI x) o1c0l1)], []⟩) rfl <| .sub (.cons rfl (.rfl' _) (.cons rfl (.rfl' _) (.cons rfl (.rfl' _) (.nil)))) (hj2x (v5idsl1, o1c0l1) H)
  · intro hj1 hj1x
    obtain ⟨n2, H⟩ := loop_some H
    refine .withSt (st' := ⟨[.map (mEnc (fun n => Value.int .i64 n) (fun x => cI x) ([] : List (Int × Int))), .map (mEnc (fun n => Value.int .i64 n) (fun x => cI x) ([] : List (Int × Int)))], []⟩) rfl <| .loop (ι := Nat × (List Int × Int × (List (Int × Int)))) (fun p => [(1, .d (slOf 8 Line.row v1lines)), (5, .d (slOf 1 rI p.2.1)), (6, .mp 0), (7, .mp 1), (14, .d (slOf 24 Rated.row v0rated)), (15, .d (cI (v0rated.length : Int))), (16, .d (cI p.2.2.1))]) (fun p => ⟨[.map (mEnc (fun n => Value.int .i64 n) (fun x => cI x) p.2.2.2), .map (mEnc (fun n => Value.int .i64 n) (fun x => cI x) ([] : List (Int × Int)))], []⟩) (fun p => iter (fun s => f_assure_Invoices_l2 v0rated v1lines s.1 s.2.1 s.2.2) p.1 p.2 = some r) (·.1) (n2, ([], 0, ([] : List (Int × Int)))) H (.cons rfl (.rfl' _) (.cons rfl (.nil 1) (.cons rfl (.rfl' _) (.cons rfl (.rfl' _) (.cons rfl (.rfl' _) (.cons rfl (.rfl' _) (.cons rfl (.rfl' _) (.nil)))))))) rfl ?_
    rintro ⟨m1, v5idsl2, v16l2, o0c0l2⟩ HI ih1
    obtain ⟨n1, q1, hm1, H, HK1⟩ := iter_succ HI
    clear HI
    replace H : f_assure_Invoices_l2 v0rated v1lines v5idsl2 v16l2 o0c0l2 = some q1 := H
    unfold f_assure_Invoices_l2 at H
    change ARun _ _ _ _ _ _ [(1, .d (slOf 8 Line.row v1lines)), (5, .d (slOf 1 rI v5idsl2)), (6, .mp 0), (7, .mp 1), (14, .d (slOf 24 Rated.row v0rated)), (15, .d (cI (v0rated.length : Int))), (16, .d (cI v16l2))] ⟨[.map (mEnc (fun n => Value.int .i64 n) (fun x => cI x) o0c0l2), .map (mEnc (fun n => Value.int .i64 n) (fun x => cI x) ([] : List (Int × Int)))], []⟩
    refine .seq ?_
    refine .region ?_
    refine .q (q_lss rfl rfl) rfl ?_
    refine .nil ?_
    refine .seq ?_
    refine .cond rfl (fun hc => ?_) (fun hc => ?_)
    · replace H := ifT hc H; clear hc
      refine .skip ?_
      refine .seq ?_
      refine .block ?_
      refine .seq ?_
      refine .region ?_
      obtain ⟨hk5, H⟩ := ck_some H
      refine .q (x := .d (.ro (Rated.row (nth v0rated (Int.toNat (v16l2)))))) (q_idxL (row := Rated.row) (l := v0rated) (i := v16l2) Try.underlying46 hi58 hs58 rfl rfl rfl hk5) rfl ?_
      refine .q (x := .d (.agg (Rated.row (nth v0rated (Int.toNat (v16l2)))))) (q_loadAll one_58 sz_58 rfl rfl) rfl ?_
      refine .v (x := .ref 2 0) (v_alloc zr_58 rfl) rfl ?_
      refine .withSt (st' := ⟨[.map (mEnc (fun n => Value.int .i64 n) (fun x => cI x) o0c0l2), .map (mEnc (fun n => Value.int .i64 n) (fun x => cI x) ([] : List (Int × Int))), .row 58 [.d (cI 0), .d (cI 0), .d (cI 0), .d (cI 0), .d (cS ([] : List UInt8)), .d (cS ([] : List UInt8)), .d (cI 0), .d (cI 0), .d (cI 0), .d (cB false), .d (cI 0), .d (cI 0), .d (cI 0), .d (cS ([] : List UInt8)), .d (cI 0), .d (cS ([] : List UInt8)), .d (nilD), .d (nilD), .d (cI 0), .d (cI 0), .d (cI 0), .d (nilD), .d (cI 0), .d (cI 0)]], []⟩) rfl ?_
      refine .u (u_store rfl rfl rfl rfl (Nat.le_of_ble_eq_true rfl) sz_58) rfl ?_
      refine .withSt (st' := ⟨[.map (mEnc (fun n => Value.int .i64 n) (fun x => cI x) o0c0l2), .map (mEnc (fun n => Value.int .i64 n) (fun x => cI x) ([] : List (Int × Int))), .row 58 [.d (cI (((nth v0rated (Int.toNat (v16l2))).usage).id)), .d (cI (((nth v0rated (Int.toNat (v16l2))).usage).kind)), .d (cI (((nth v0rated (Int.toNat (v16l2))).usage).account)), .d (cI (((nth v0rated (Int.toNat (v16l2))).usage).sub)), .d (cS (((nth v0rated (Int.toNat (v16l2))).usage).a)), .d (cS (((nth v0rated (Int.toNat (v16l2))).usage).b)), .d (cI (((nth v0rated (Int.toNat (v16l2))).usage).start)), .d (cI (((nth v0rated (Int.toNat (v16l2))).usage).units)), .d (cI (((nth v0rated (Int.toNat (v16l2))).usage).trunk)), .d (cB (((nth v0rated (Int.toNat (v16l2))).usage).inbound)), .d (cI (((nth v0rated (Int.toNat (v16l2))).usage).source)), .d (cI (((nth v0rated (Int.toNat (v16l2))).usage).serial)), .d (cI ((nth v0rated (Int.toNat (v16l2))).err)), .d (cS ((nth v0rated (Int.toNat (v16l2))).plan)), .d (cI ((nth v0rated (Int.toNat (v16l2))).version)), .d (cS ((nth v0rated (Int.toNat (v16l2))).zone)), .d (slOf 5 Take.row ((nth v0rated (Int.toNat (v16l2))).takes)), .d (slOf 4 Segment.row ((nth v0rated (Int.toNat (v16l2))).segments)), .d (cI ((nth v0rated (Int.toNat (v16l2))).setup)), .d (cI ((nth v0rated (Int.toNat (v16l2))).gross)), .d (cI ((nth v0rated (Int.toNat (v16l2))).net)), .d (slOf 2 Given.row ((nth v0rated (Int.toNat (v16l2))).given)), .d (cI ((nth v0rated (Int.toNat (v16l2))).paid)), .d (cI ((nth v0rated (Int.toNat (v16l2))).owed))]], []⟩) rfl ?_
      refine .nil ?_
      refine .seq ?_
      refine .region ?_
      refine .q (q_move rfl) rfl ?_
      refine .q (q_fieldRef fo_58_0 rfl) rfl ?_
      refine .q (q_fieldRef fo_52_3 rfl) rfl ?_
      refine .q (x := .d (cI (((nth v0rated (Int.toNat (v16l2))).usage).sub))) (q_loadO one_3 rfl rfl rfl) rfl ?_
      obtain ⟨y3, hy3, H⟩ := bind_some' H
      refine .g (x := .d (slOf 1 rI y3)) (g_call en_34 rfl rfl (c_f_assure_keys (hy3))) rfl ?_
      refine .q (q_assign rfl) rfl ?_
      refine .nil ?_
      refine .region ?_
      refine .q (q_move rfl) rfl ?_
      refine .q (q_fieldRef fo_58_0 rfl) rfl ?_
      refine .q (q_fieldRef fo_52_3 rfl) rfl ?_
      refine .q (x := .d (cI (((nth v0rated (Int.toNat (v16l2))).usage).sub))) (q_loadO one_3 rfl rfl rfl) rfl ?_
      refine .q (x := .d (cI ((alook o0c0l2 (((nth v0rated (Int.toNat (v16l2))).usage).sub)).getD 0))) (q_lookupD (intKF Try.underlying3) (l := o0c0l2) (val := (fun x => cI x)) (k := ((nth v0rated (Int.toNat (v16l2))).usage).sub) (a0 := 0) Try.underlying101 hi3 hz3 (show DLe (cI 0) (cI 0) from .rfl' _) rfl rfl rfl (fun _ _ _ h => exKey h)) rfl ?_
      refine .q (q_fieldRef fo_58_12 rfl) rfl ?_
      refine .q (x := .d (cI ((nth v0rated (Int.toNat (v16l2))).owed))) (q_loadO one_3 rfl rfl rfl) rfl ?_
      obtain ⟨hk6, H⟩ := ck_some H
      refine .q (q_addI rfl rfl hk6.1 hk6.2) rfl ?_
      refine .u (u_mapUpdateD (intKF Try.underlying3) (l := o0c0l2) (val := (fun x => cI x)) (k := ((nth v0rated (Int.toNat (v16l2))).usage).sub) (a := ((alook o0c0l2 (((nth v0rated (Int.toNat (v16l2))).usage).sub)).getD 0) + ((nth v0rated (Int.toNat (v16l2))).owed)) Try.underlying101 rfl rfl rfl (fun _ _ _ h => exKey h) rfl (.rfl' _)) rfl ?_
      refine .withSt (st' := ⟨[.map (mEnc (fun n => Value.int .i64 n) (fun x => cI x) (aset o0c0l2 (((nth v0rated (Int.toNat (v16l2))).usage).sub) (((alook o0c0l2 (((nth v0rated (Int.toNat (v16l2))).usage).sub)).getD 0) + ((nth v0rated (Int.toNat (v16l2))).owed)))), .map (mEnc (fun n => Value.int .i64 n) (fun x => cI x) ([] : List (Int × Int))), .row 58 [.d (cI (((nth v0rated (Int.toNat (v16l2))).usage).id)), .d (cI (((nth v0rated (Int.toNat (v16l2))).usage).kind)), .d (cI (((nth v0rated (Int.toNat (v16l2))).usage).account)), .d (cI (((nth v0rated (Int.toNat (v16l2))).usage).sub)), .d (cS (((nth v0rated (Int.toNat (v16l2))).usage).a)), .d (cS (((nth v0rated (Int.toNat (v16l2))).usage).b)), .d (cI (((nth v0rated (Int.toNat (v16l2))).usage).start)), .d (cI (((nth v0rated (Int.toNat (v16l2))).usage).units)), .d (cI (((nth v0rated (Int.toNat (v16l2))).usage).trunk)), .d (cB (((nth v0rated (Int.toNat (v16l2))).usage).inbound)), .d (cI (((nth v0rated (Int.toNat (v16l2))).usage).source)), .d (cI (((nth v0rated (Int.toNat (v16l2))).usage).serial)), .d (cI ((nth v0rated (Int.toNat (v16l2))).err)), .d (cS ((nth v0rated (Int.toNat (v16l2))).plan)), .d (cI ((nth v0rated (Int.toNat (v16l2))).version)), .d (cS ((nth v0rated (Int.toNat (v16l2))).zone)), .d (slOf 5 Take.row ((nth v0rated (Int.toNat (v16l2))).takes)), .d (slOf 4 Segment.row ((nth v0rated (Int.toNat (v16l2))).segments)), .d (cI ((nth v0rated (Int.toNat (v16l2))).setup)), .d (cI ((nth v0rated (Int.toNat (v16l2))).gross)), .d (cI ((nth v0rated (Int.toNat (v16l2))).net)), .d (slOf 2 Given.row ((nth v0rated (Int.toNat (v16l2))).given)), .d (cI ((nth v0rated (Int.toNat (v16l2))).paid)), .d (cI ((nth v0rated (Int.toNat (v16l2))).owed))]], []⟩) rfl ?_
      refine .nil ?_
      refine .inBlock ?_
      refine .region ?_
      obtain ⟨hk7, H⟩ := ck_some H
      refine .q (q_addI rfl rfl hk7.1 hk7.2) rfl ?_
      refine .q (q_move rfl) rfl ?_
      refine .nil ?_
      cases H
      exact .to 2 0 (env' := [(1, .d (slOf 8 Line.row v1lines)), (5, .d (slOf 1 rI y3)), (6, .mp 0), (7, .mp 1), (14, .d (slOf 24 Rated.row v0rated)), (15, .d (cI (v0rated.length : Int))), (16, .d (cI (v16l2 + 1)))]) (st' := ⟨[.map (mEnc (fun n => Value.int .i64 n) (fun x => cI x) (aset o0c0l2 (((nth v0rated (Int.toNat (v16l2))).usage).sub) (((alook o0c0l2 (((nth v0rated (Int.toNat (v16l2))).usage).sub)).getD 0) + ((nth v0rated (Int.toNat (v16l2))).owed)))), .map (mEnc (fun n => Value.int .i64 n) (fun x => cI x) ([] : List (Int × Int)))], []⟩) (.cons rfl (.rfl' _) (.cons rfl (.rfl' _) (.cons rfl (.rfl' _) (.cons rfl (.rfl' _) (.cons rfl (.rfl' _) (.cons rfl (.rfl' _) (.cons rfl (.rfl' _) (.nil)))))))) rfl rfl rfl rfl (okBoth rfl (okCons okMap (okCons okMap rfl))) (by rw [hS]; exact Nat.le_of_ble_eq_true rfl) (by rw [hS]; exact Nat.le_of_ble_eq_true rfl) <| .sub (.cons rfl (.rfl' _) (.cons rfl (.rfl' _) (.cons rfl (.rfl' _) (.cons rfl (.rfl' _) (.cons rfl (.rfl' _) (.cons rfl (.rfl' _) (.cons rfl (.rfl' _) (.nil)))))))) (ih1 (n1, (y3, v16l2 + 1, aset o0c0l2 (((nth v0rated (Int.toNat (v16l2))).usage).sub) (((alook o0c0l2 (((nth v0rated (Int.toNat (v16l2))).usage).sub)).getD 0) + ((nth v0rated (Int.toNat (v16l2))).owed)))) HK1 hm1)
    · replace H := ifF hc H; clear hc
      refine .exit rfl ?_
      obtain ⟨q0, H9, hq0⟩ := map_some' H; clear H; cases hq0
      cases HK1
      have H := H9
      exact .withSt (st' := ⟨[.map (mEnc (fun n => Value.int .i64 n) (fun x => cI x) o0c0l2), .map (mEnc (fun n => Value.int .i64 n) (fun x => cI x) ([] : List (Int × Int)))], []⟩) rfl <| .sub (.cons rfl (.rfl' _) (.cons rfl (.rfl' _) (.cons rfl (.rfl' _) (.cons rfl (.rfl' _) (.nil))))) (hj1x (v5idsl2, o0c0l2) H)

set_option maxRecDepth 100000 in
set_option maxHeartbeats 1000000 in
theorem c_f_billingref54_Same {v0a : List Leak} {v1b : List Leak} {r : Bool} (H : f_billingref54_Same v0a v1b = some r) : ACall Try.prog 13 [slOf 4 Leak.row v0a, slOf 4 Leak.row v1b] (· = cB r) := by
  obtain ⟨i60, hi60, hz60, hs60, hb60⟩ := in_60
  refine ACall.enter' Try.func13 rfl Try.ntmps13 rfl fun S hS => ?_
  unfold f_billingref54_Same at H
  change ARun _ _ _ _ _ _ [(0, .d (slOf 4 Leak.row v0a)), (1, .d (slOf 4 Leak.row v1b))] _
  refine .seq ?_
  refine .region ?_
  refine .q (q_assign rfl) rfl ?_
  refine .nil ?_
  refine .seq ?_
  refine .seq ?_
  refine .region ?_
  refine .q (q_move rfl) rfl ?_
  refine .q (q_lenL (l := v0a) (row := Leak.row) Try.underlying42 rfl rfl) rfl ?_
  refine .q (q_move rfl) rfl ?_
  refine .q (q_lenL (l := v1b) (row := Leak.row) Try.underlying42 rfl rfl) rfl ?_
  refine .q (q_neq rfl rfl) rfl ?_
  refine .nil ?_
  refine .cond rfl (fun hc => ?_) (fun hc => ?_)
  · replace H := ifT hc H; clear hc
    refine .seq ?_
    refine .region ?_
    refine .q (q_assign rfl) rfl ?_
    refine .nil ?_
    refine .retN [.tmp 4] [.d (cB false)] Try.func13 Try.results13 ⟨rfl, trivial⟩ ?_
    cases H
    exact ⟨_, .rfl' _, rfl⟩
  · replace H := ifF hc H; clear hc
    refine .skip ?_
    refine .seq ?_
    refine .seq ?_
    refine .region ?_
    refine .q (q_assign rfl) rfl ?_
    refine .nil ?_
    refine .block ?_
    obtain ⟨n1, H⟩ := loop_some H
    refine .loop (ι := Nat × (Int)) (fun p => [(0, .d (slOf 4 Leak.row v0a)), (1, .d (slOf 4 Leak.row v1b)), (5, .d (cI p.2))]) (fun p => ⟨[], []⟩) (fun p => iter (fun s => f_billingref54_Same_l1 v0a v1b s) p.1 p.2 = some r) (·.1) (n1, 0) H (.cons rfl (.rfl' _) (.cons rfl (.rfl' _) (.cons rfl (.rfl' _) (.nil)))) rfl ?_
    rintro ⟨m1, v5il1⟩ HI ih1
    obtain ⟨n1, q1, hm1, H, HK1⟩ := iter_succ HI
    clear HI
    replace H : f_billingref54_Same_l1 v0a v1b v5il1 = some q1 := H
    unfold f_billingref54_Same_l1 at H
    change ARun _ _ _ _ _ _ [(0, .d (slOf 4 Leak.row v0a)), (1, .d (slOf 4 Leak.row v1b)), (5, .d (cI v5il1))] ⟨[], []⟩
    refine .seq ?_
    refine .seq ?_
    refine .region ?_
    refine .q (q_move rfl) rfl ?_
    refine .q (q_move rfl) rfl ?_
    refine .q (q_lenL (l := v0a) (row := Leak.row) Try.underlying42 rfl rfl) rfl ?_
    refine .q (q_lss rfl rfl) rfl ?_
    refine .nil ?_
    refine .cond rfl (fun hc => ?_) (fun hc => ?_)
    · replace H := ifT hc H; clear hc
      refine .skip ?_
      refine .seq ?_
      refine .block ?_
      refine .seq ?_
      refine .drawn 9 hMix (by kernel_rfl) ?_
      show DOps _ _ _ _ _ _ _ (_ :: _) _ _ _
      refine .q (q_move rfl) rfl ?_
      refine .q (q_move rfl) rfl ?_
      obtain ⟨hk1, H⟩ := ck_some H
      refine .q (x := .d (.ro (Leak.row (nth v0a (Int.toNat (v5il1)))))) (q_idxL (row := Leak.row) (l := v0a) (i := v5il1) Try.underlying42 hi60 hs60 rfl rfl rfl hk1) rfl ?_
      refine .q (x := .d (.agg (Leak.row (nth v0a (Int.toNat (v5il1)))))) (q_loadAll one_60 sz_60 rfl rfl) rfl ?_
      refine .q (q_move rfl) rfl ?_
      refine .q (q_move rfl) rfl ?_
      obtain ⟨hk2, H⟩ := ck_some H
      refine .q (x := .d (.ro (Leak.row (nth v1b (Int.toNat (v5il1)))))) (q_idxL (row := Leak.row) (l := v1b) (i := v5il1) Try.underlying42 hi60 hs60 rfl rfl rfl hk2) rfl ?_
      refine .q (x := .d (.agg (Leak.row (nth v1b (Int.toNat (v5il1)))))) (q_loadAll one_60 sz_60 rfl rfl) rfl ?_
      refine .q (x := .d (cB (!(eqVs (Leak.vals (nth v0a (Int.toNat (v5il1)))) (Leak.vals (nth v1b (Int.toNat (v5il1)))))))) (q_stneq fk_60 rfl rfl (xs := Leak.vals (nth v0a (Int.toNat (v5il1)))) (ys := Leak.vals (nth v1b (Int.toNat (v5il1)))) rfl rfl rfl rfl) rfl ?_
      refine .nil ?_
      show AOps _ _ _ _ _ _ [] _ _ _
      refine .nil ?_
      refine .cond rfl (fun hc => ?_) (fun hc => ?_)
      · replace H := ifT hc H; clear hc
        refine .seq ?_
        refine .region ?_
        refine .q (q_assign rfl) rfl ?_
        refine .nil ?_
        refine .retN [.tmp 4] [.d (cB false)] Try.func13 Try.results13 ⟨rfl, trivial⟩ ?_
        cases H
        cases HK1
        exact ⟨_, .rfl' _, rfl⟩
      · replace H := ifF hc H; clear hc
        refine .skip ?_
        refine .inBlock ?_
        refine .region ?_
        refine .q (q_move rfl) rfl ?_
        obtain ⟨hk3, H⟩ := ck_some H
        refine .q (q_addI rfl rfl hk3.1 hk3.2) rfl ?_
        refine .q (q_assign rfl) rfl ?_
        refine .nil ?_
        cases H
        exact .sub (.cons rfl (.rfl' _) (.cons rfl (.rfl' _) (.cons rfl (.rfl' _) (.nil)))) (ih1 (n1, (v5il1 + 1)) HK1 hm1)
    · replace H := ifF hc H; clear hc
      refine .exit rfl ?_
      refine .seq ?_
      refine .region ?_
      refine .q (q_assign rfl) rfl ?_
      refine .nil ?_
      refine .retN [.tmp 4] [.d (cB true)] Try.func13 Try.results13 ⟨rfl, trivial⟩ ?_
      cases H
      cases HK1
      exact ⟨_, .rfl' _, rfl⟩

set_option maxRecDepth 100000 in
set_option maxHeartbeats 1000000 in
theorem c_f_assure_name {v0control : Int} {r : (List UInt8)} (H : f_assure_name v0control = some r) : ACall Try.prog 38 [cI v0control] (· = cS r) := by
  refine ACall.enter' Try.func38 rfl Try.ntmps38 rfl fun S hS => ?_
  unfold f_assure_name at H
  change ARun _ _ _ _ _ _ [(0, .d (cI v0control))] _
  refine .seq ?_
  refine .region ?_
  refine .q (q_assign rfl) rfl ?_
  refine .nil ?_
  refine .seq ?_
  refine .seq ?_
  refine .region ?_
  refine .q (q_move rfl) rfl ?_
  refine .nil ?_
  refine .block ?_
  refine .seq ?_
  refine .region ?_
  refine .q (q_eql rfl rfl) rfl ?_
  refine .q (q_assign rfl) rfl ?_
  refine .nil ?_
  refine .cond rfl (fun hc => ?_) (fun hc => ?_)
  · replace H := ifT hc H; clear hc
    refine .seq ?_
    refine .region ?_
    refine .q (q_assign rfl) rfl ?_
    refine .nil ?_
    refine .retN [.tmp 2] [.d (cS ([105, 110, 116, 97, 107, 101] : List UInt8))] Try.func38 Try.results38 ⟨rfl, trivial⟩ ?_
    cases H
    exact ⟨_, .rfl' _, rfl⟩
  · replace H := ifF hc H; clear hc
    refine .seq ?_
    refine .region ?_
    refine .q (q_eql rfl rfl) rfl ?_
    refine .q (q_assign rfl) rfl ?_
    refine .nil ?_
    refine .cond rfl (fun hc => ?_) (fun hc => ?_)
    · replace H := ifT hc H; clear hc
      refine .seq ?_
      refine .region ?_
      refine .q (q_assign rfl) rfl ?_
      refine .nil ?_
      refine .retN [.tmp 2] [.d (cS ([117, 115, 97, 103, 101] : List UInt8))] Try.func38 Try.results38 ⟨rfl, trivial⟩ ?_
      cases H
      exact ⟨_, .rfl' _, rfl⟩
    · replace H := ifF hc H; clear hc
      refine .seq ?_
      refine .region ?_
      refine .q (q_eql rfl rfl) rfl ?_
      refine .q (q_assign rfl) rfl ?_
      refine .nil ?_
      refine .cond rfl (fun hc => ?_) (fun hc => ?_)
      · replace H := ifT hc H; clear hc
        refine .seq ?_
        refine .region ?_
        refine .q (q_assign rfl) rfl ?_
        refine .nil ?_
        refine .retN [.tmp 2] [.d (cS ([117, 110, 105, 116, 115] : List UInt8))] Try.func38 Try.results38 ⟨rfl, trivial⟩ ?_
        cases H
        exact ⟨_, .rfl' _, rfl⟩
      · replace H := ifF hc H; clear hc
        refine .seq ?_
        refine .region ?_
        refine .q (q_eql rfl rfl) rfl ?_
        refine .q (q_assign rfl) rfl ?_
        refine .nil ?_
        refine .cond rfl (fun hc => ?_) (fun hc => ?_)
        · replace H := ifT hc H; clear hc
          refine .seq ?_
          refine .region ?_
          refine .q (q_assign rfl) rfl ?_
          refine .nil ?_
          refine .retN [.tmp 2] [.d (cS ([109, 111, 110, 101, 121] : List UInt8))] Try.func38 Try.results38 ⟨rfl, trivial⟩ ?_
          cases H
          exact ⟨_, .rfl' _, rfl⟩
        · replace H := ifF hc H; clear hc
          refine .seq ?_
          refine .region ?_
          refine .q (q_eql rfl rfl) rfl ?_
          refine .q (q_assign rfl) rfl ?_
          refine .nil ?_
          refine .cond rfl (fun hc => ?_) (fun hc => ?_)
          · replace H := ifT hc H; clear hc
            refine .seq ?_
            refine .region ?_
            refine .q (q_assign rfl) rfl ?_
            refine .nil ?_
            refine .retN [.tmp 2] [.d (cS ([105, 110, 118, 111, 105, 99, 101] : List UInt8))] Try.func38 Try.results38 ⟨rfl, trivial⟩ ?_
            cases H
            exact ⟨_, .rfl' _, rfl⟩
          · replace H := ifF hc H; clear hc
            refine .seq ?_
            refine .region ?_
            refine .q (q_eql rfl rfl) rfl ?_
            refine .q (q_assign rfl) rfl ?_
            refine .nil ?_
            refine .cond rfl (fun hc => ?_) (fun hc => ?_)
            · replace H := ifT hc H; clear hc
              refine .seq ?_
              refine .region ?_
              refine .q (q_assign rfl) rfl ?_
              refine .nil ?_
              refine .retN [.tmp 2] [.d (cS ([108, 101, 100, 103, 101, 114] : List UInt8))] Try.func38 Try.results38 ⟨rfl, trivial⟩ ?_
              cases H
              exact ⟨_, .rfl' _, rfl⟩
            · replace H := ifF hc H; clear hc
              refine .skip ?_
              refine .inBlock ?_
              refine .seq ?_
              refine .region ?_
              refine .q (q_assign rfl) rfl ?_
              refine .nil ?_
              refine .retN [.tmp 2] [.d (cS ([63] : List UInt8))] Try.func38 Try.results38 ⟨rfl, trivial⟩ ?_
              cases H
              exact ⟨_, .rfl' _, rfl⟩

set_option maxRecDepth 100000 in
set_option maxHeartbeats 1000000 in
theorem c_f_assure_decimal {v0n : Int} {r : (List UInt8)} (H : f_assure_decimal v0n = some r) : ACall Try.prog 39 [cI v0n] (· = cS r) := by
  obtain ⟨i5, hi5, hz5, hs5, hb5⟩ := in_5
  refine ACall.enter' Try.func39 rfl Try.ntmps39 rfl fun S hS => ?_
  unfold f_assure_decimal at H
  change ARun _ _ _ _ _ _ [(0, .d (cI v0n))] _
  refine .seq ?_
  refine .region ?_
  refine .q (q_assign rfl) rfl ?_
  refine .nil ?_
  refine .seq ?_
  refine .region ?_
  refine .q (q_move rfl) rfl ?_
  refine .q (x := .d (cK .u64 (IntKind.wrap .u64 v0n))) (q_conv Try.underlying3 Try.underlying127 rfl rfl) rfl ?_
  refine .q (q_assign rfl) rfl ?_
  refine .nil ?_
  refine .seqJoin (ι := Int) (fun s => [(0, .d (cI v0n)), (3, .d (cK .u64 s))]) (fun s => ⟨[], []⟩) (fun s => f_assure_decimal_j1 v0n s = some r) ?_ ?_
  · rintro v3uj1 H
    replace H : f_assure_decimal_j1 v0n v3uj1 = some r := H
    unfold f_assure_decimal_j1 at H
    change ARun _ _ _ _ _ _ [(0, .d (cI v0n)), (3, .d (cK .u64 v3uj1))] ⟨[], []⟩
    refine .seq ?_
    refine .region ?_
    refine .v (x := .ref 0 0) (v_alloc zr_128 rfl) rfl ?_
    refine .withSt (st' := ⟨[.row 128 ((List.replicate 20 0 : List UInt8).map fun b => EV.d (cU8 b))], []⟩) rfl ?_
    refine .nil ?_
    refine .seq ?_
    refine .region ?_
    refine .q (q_assign rfl) rfl ?_
    refine .nil ?_
    refine .seq ?_
    refine .blockJoin2 (ι := Int × List UInt8) (fun s => [(0, .d (cI v0n)), (4, .ref 0 0), (5, .d (cI s.1))]) (fun s => ⟨[.row 128 (s.2.map fun b => EV.d (cU8 b))], []⟩) (fun s => f_assure_decimal_j2 v0n s.1 s.2 = some r) ?_ ?_
    · rintro ⟨v5ij2, o0c0j2⟩ H
      replace H : f_assure_decimal_j2 v0n v5ij2 o0c0j2 = some r := H
      unfold f_assure_decimal_j2 at H
      change ARun _ _ _ _ _ _ [(0, .d (cI v0n)), (4, .ref 0 0), (5, .d (cI v5ij2))] ⟨[.row 128 (o0c0j2.map fun b => EV.d (cU8 b))], []⟩
      refine .seq ?_
      refine .seq ?_
      refine .region ?_
      refine .q (q_move rfl) rfl ?_
      refine .q (q_lss rfl rfl) rfl ?_
      refine .nil ?_
      refine .cond rfl (fun hc => ?_) (fun hc => ?_)
      · replace H := ifT hc H; clear hc
        refine .seq ?_
        refine .region ?_
        refine .q (q_move rfl) rfl ?_
        obtain ⟨hk1, H⟩ := ck_some H
        refine .q (x := .osl 0 (0 + (Int.toNat (v5ij2)) * 1) (20 - (Int.toNat (v5ij2))) (20 - (Int.toNat (v5ij2)))) (q_arrL (m := Int.toNat (v5ij2)) Try.underlying128 ⟨_, hi5, hs5⟩ rfl rfl (by have h := hk1; omega) (by have h := hk1; omega)) rfl ?_
        obtain ⟨hk2, H⟩ := ck_some H
        refine .q (x := .d (cS (o0c0j2.drop (Int.toNat (v5ij2))))) (q_arrStr (l := o0c0j2) (m := Int.toNat (v5ij2)) (n := 20) Try.underlying84 Try.underlying5 Try.underlying9 rfl rfl hk2) rfl ?_
        obtain ⟨hk3, H⟩ := ck_some H
        refine .q (x := .d (cS (([45] : List UInt8) ++ (o0c0j2.drop (Int.toNat (v5ij2)))))) (q_sadd rfl rfl hk3) rfl ?_
        refine .q (q_assign rfl) rfl ?_
        refine .nil ?_
        refine .retN [.tmp 2] [.d (cS (([45] : List UInt8) ++ (o0c0j2.drop (Int.toNat (v5ij2)))))] Try.func39 Try.results39 ⟨rfl, trivial⟩ ?_
        cases H
        exact ⟨_, .rfl' _, rfl⟩
      · replace H := ifF hc H; clear hc
        refine .skip ?_
        refine .seq ?_
        refine .region ?_
        refine .q (q_move rfl) rfl ?_
        obtain ⟨hk4, H⟩ := ck_some H
        refine .q (x := .osl 0 (0 + (Int.toNat (v5ij2)) * 1) (20 - (Int.toNat (v5ij2))) (20 - (Int.toNat (v5ij2)))) (q_arrL (m := Int.toNat (v5ij2)) Try.underlying128 ⟨_, hi5, hs5⟩ rfl rfl (by have h := hk4; omega) (by have h := hk4; omega)) rfl ?_
        obtain ⟨hk5, H⟩ := ck_some H
        refine .q (x := .d (cS (o0c0j2.drop (Int.toNat (v5ij2))))) (q_arrStr (l := o0c0j2) (m := Int.toNat (v5ij2)) (n := 20) Try.underlying84 Try.underlying5 Try.underlying9 rfl rfl hk5) rfl ?_
        refine .q (q_assign rfl) rfl ?_
        refine .nil ?_
        refine .retN [.tmp 2] [.d (cS (o0c0j2.drop (Int.toNat (v5ij2))))] Try.func39 Try.results39 ⟨rfl, trivial⟩ ?_
        cases H
        exact ⟨_, .rfl' _, rfl⟩
    · intro hj2 hj2x
      obtain ⟨n1, H⟩ := loop_some H
      refine .withSt (st' := ⟨[.row 128 ((List.replicate 20 0 : List UInt8).map fun b => EV.d (cU8 b))], []⟩) rfl <| .loop (ι := Nat × (Int × Int × List UInt8)) (fun p => [(0, .d (cI v0n)), (3, .d (cK .u64 p.2.1)), (4, .ref 0 0), (5, .d (cI p.2.2.1))]) (fun p => ⟨[.row 128 (p.2.2.2.map fun b => EV.d (cU8 b))], []⟩) (fun p => iter (fun s => f_assure_decimal_l1 v0n s.1 s.2.1 s.2.2) p.1 p.2 = some r) (·.1) (n1, (v3uj1, 20, (List.replicate 20 0 : List UInt8))) H (.cons rfl (.rfl' _) (.cons rfl (.rfl' _) (.cons rfl (.rfl' _) (.cons rfl (.rfl' _) (.nil))))) rfl ?_
      rintro ⟨m1, v3ul1, v5il1, o0c0l1⟩ HI ih1
      obtain ⟨n1, q1, hm1, H, HK1⟩ := iter_succ HI
      clear HI
      replace H : f_assure_decimal_l1 v0n v3ul1 v5il1 o0c0l1 = some q1 := H
      unfold f_assure_decimal_l1 at H
      change ARun _ _ _ _ _ _ [(0, .d (cI v0n)), (3, .d (cK .u64 v3ul1)), (4, .ref 0 0), (5, .d (cI v5il1))] ⟨[.row 128 (o0c0l1.map fun b => EV.d (cU8 b))], []⟩
      refine .seq ?_
      refine .seq ?_
      refine .region ?_
      refine .q (q_move rfl) rfl ?_
      refine .q (q_gtr rfl rfl) rfl ?_
      refine .q (q_move rfl) rfl ?_
      refine .guardG (env' := [(5, _)]) rfl rfl rfl ⟨.inl rfl, trivial⟩ rfl (fun hg => OpQ.g (q_move rfl)) ?_
      refine .guardG (env' := [(15, _)]) rfl rfl rfl ⟨.inr (.inl rfl), trivial⟩ rfl (fun hg => OpQ.g (q_eql rfl rfl)) ?_
      refine .q (q_pickOrB rfl rfl rfl) rfl ?_
      refine .nil ?_
      refine .cond rfl (fun hc => ?_) (fun hc => ?_)
      · replace H := ifT hc H; clear hc
        refine .skip ?_
        refine .block ?_
        refine .seq ?_
        refine .region ?_
        refine .q (q_move rfl) rfl ?_
        obtain ⟨hk6, H⟩ := ck_some H
        refine .q (q_subI rfl rfl hk6.1 hk6.2) rfl ?_
        refine .q (q_assign rfl) rfl ?_
        refine .nil ?_
        refine .seq ?_
        refine .region ?_
        refine .q (q_move rfl) rfl ?_
        refine .q (q_move rfl) rfl ?_
        obtain ⟨hk7, H⟩ := ck_some H
        refine .q (x := .d (cK .u64 (Int.tmod v3ul1 10))) (q_rem rfl rfl hk7 rfl) rfl ?_
        refine .q (x := .d (cK .u64 (IntKind.wrap .u64 (48 + (Int.tmod v3ul1 10))))) (q_add rfl rfl rfl) rfl ?_
        refine .q (x := .d (cU8 (UInt8.ofInt (IntKind.wrap .u64 (48 + (Int.tmod v3ul1 10)))))) (q_conv8 Try.underlying127 Try.underlying5 rfl) rfl ?_
        obtain ⟨hk8, H⟩ := ck_some H
        refine .q (x := .ref 0 (Int.toNat (v5il1 - 1))) (q_idxArrS (i := v5il1 - 1) Try.underlying128 ⟨_, hi5, hs5⟩ rfl rfl hk8) rfl ?_
        obtain ⟨hk9, H⟩ := ck_some H
        refine .u (u_storeArr (l := o0c0l1) (c1 := cU8) (a := UInt8.ofInt (IntKind.wrap .u64 (48 + (Int.tmod v3ul1 10)))) rfl rfl rfl rfl hk9 sz_5) rfl ?_
        refine .withSt (st' := ⟨[.row 128 ((o0c0l1.set (Int.toNat (v5il1 - 1)) (UInt8.ofInt (IntKind.wrap .u64 (48 + (Int.tmod v3ul1 10))))).map fun b => EV.d (cU8 b))], []⟩) rfl ?_
        refine .nil ?_
        refine .region ?_
        refine .q (q_move rfl) rfl ?_
        obtain ⟨hk10, H⟩ := ck_some H
        refine .q (x := .d (cK .u64 (IntKind.wrap .u64 (Int.tdiv v3ul1 10)))) (q_quo rfl rfl hk10 rfl) rfl ?_
        refine .q (q_assign rfl) rfl ?_
        refine .nil ?_
        refine .inBlock ?_
        cases H
        exact .withSt (st' := ⟨[.row 128 ((o0c0l1.set (Int.toNat (v5il1 - 1)) (UInt8.ofInt (IntKind.wrap .u64 (48 + (Int.tmod v3ul1 10))))).map fun b => EV.d (cU8 b))], []⟩) rfl <| .sub (.cons rfl (.rfl' _) (.cons rfl (.rfl' _) (.cons rfl (.rfl' _) (.cons rfl (.rfl' _) (.nil))))) (ih1 (n1, (IntKind.wrap .u64 (Int.tdiv v3ul1 10), v5il1 - 1, o0c0l1.set (Int.toNat (v5il1 - 1)) (UInt8.ofInt (IntKind.wrap .u64 (48 + (Int.tmod v3ul1 10)))))) HK1 hm1)
      · replace H := ifF hc H; clear hc
        refine .exit rfl ?_
        obtain ⟨q0, H9, hq0⟩ := map_some' H; clear H; cases hq0
        cases HK1
        have H := H9
        exact .withSt (st' := ⟨[.row 128 (o0c0l1.map fun b => EV.d (cU8 b))], []⟩) rfl <| .sub (.cons rfl (.rfl' _) (.cons rfl (.rfl' _) (.cons rfl (.rfl' _) (.nil)))) (hj2x (v5il1, o0c0l1) H)
  · intro hj1
    refine .seq ?_
    refine .region ?_
    refine .q (q_move rfl) rfl ?_
    refine .q (q_lss rfl rfl) rfl ?_
    refine .nil ?_
    refine .cond rfl (fun hc => ?_) (fun hc => ?_)
    · replace H := ifT hc H; clear hc
      refine .region ?_
      refine .q (q_move rfl) rfl ?_
      refine .q (x := .d (cK .u64 (IntKind.wrap .u64 (0 - (IntKind.wrap .u64 v0n))))) (q_neg rfl rfl) rfl ?_
      refine .q (q_assign rfl) rfl ?_
      refine .nil ?_
      exact .sub (.cons rfl (.rfl' _) (.cons rfl (.rfl' _) (.nil))) (hj1 (IntKind.wrap .u64 (0 - (IntKind.wrap .u64 v0n))) H)
    · replace H := ifF hc H; clear hc
      refine .skip ?_
      exact .sub (.cons rfl (.rfl' _) (.cons rfl (.rfl' _) (.nil))) (hj1 (IntKind.wrap .u64 v0n) H)

set_option maxRecDepth 100000 in
set_option maxHeartbeats 1000000 in
theorem c_f_assure_Text {v0list : List Leak} {r : (List UInt8)} (H : f_assure_Text v0list = some r) : ACall Try.prog 23 [slOf 4 Leak.row v0list] (· = cS r) := by
  obtain ⟨i3, hi3, hz3, hs3, hb3⟩ := in_3
  obtain ⟨i5, hi5, hz5, hs5, hb5⟩ := in_5
  obtain ⟨i60, hi60, hz60, hs60, hb60⟩ := in_60
  obtain ⟨i107, hi107, hz107, hs107, hb107⟩ := in_107
  refine ACall.enter' Try.func23 rfl Try.ntmps23 rfl fun S hS => ?_
  unfold f_assure_Text at H
  change ARun _ _ _ _ _ _ [(0, .d (slOf 4 Leak.row v0list))] _
  refine .seq ?_
  refine .region ?_
  refine .q (q_assign rfl) rfl ?_
  refine .nil ?_
  refine .seq ?_
  refine .region ?_
  refine .q (q_assign rfl) rfl ?_
  refine .nil ?_
  refine .seq ?_
  refine .seq ?_
  refine .region ?_
  refine .q (q_move rfl) rfl ?_
  refine .q (q_lenL (l := v0list) (row := Leak.row) Try.underlying42 rfl rfl) rfl ?_
  refine .q (q_move rfl) rfl ?_
  refine .nil ?_
  refine .block ?_
  refine .tok (i := 3) (e := 5) (sz := 1) rfl ?_
  refine .withSt (st' := ⟨[], [⟨5, 1, ([] : List UInt8).length, none⟩]⟩) rfl ?_
  obtain ⟨n1, H⟩ := loop_some H
  refine .withSt (st' := ⟨[], [⟨5, 1, ([] : List UInt8).length, none⟩]⟩) rfl <| .loop (ι := Nat × (List UInt8 × Int)) (fun p => [(3, .tsl 1 (p.2.1.map rB8) 0), (8, .d (slOf 4 Leak.row v0list)), (9, .d (cI (v0list.length : Int))), (10, .d (cI p.2.2))]) (fun p => ⟨[], [⟨5, 1, p.2.1.length, none⟩]⟩) (fun p => iter (fun s => f_assure_Text_l1 v0list s.1 s.2) p.1 p.2 = some r) (·.1) (n1, (([] : List UInt8), 0)) H (.cons rfl (.rfl' _) (.cons rfl (.rfl' _) (.cons rfl (.rfl' _) (.cons rfl (.rfl' _) (.nil))))) rfl ?_
  rintro ⟨m1, v3bl1, v10l1⟩ HI ih1
  obtain ⟨n1, q1, hm1, H, HK1⟩ := iter_succ HI
  clear HI
  replace H : f_assure_Text_l1 v0list v3bl1 v10l1 = some q1 := H
  unfold f_assure_Text_l1 at H
  change ARun _ _ _ _ _ _ [(3, .tsl 1 (v3bl1.map rB8) 0), (8, .d (slOf 4 Leak.row v0list)), (9, .d (cI (v0list.length : Int))), (10, .d (cI v10l1))] ⟨[], [⟨5, 1, v3bl1.length, none⟩]⟩
  refine .seq ?_
  refine .region ?_
  refine .q (q_lss rfl rfl) rfl ?_
  refine .nil ?_
  refine .seq ?_
  refine .cond rfl (fun hc => ?_) (fun hc => ?_)
  · replace H := ifT hc H; clear hc
    refine .skip ?_
    refine .seq ?_
    refine .block ?_
    refine .seq ?_
    refine .region ?_
    obtain ⟨hk1, H⟩ := ck_some H
    refine .q (x := .d (.ro (Leak.row (nth v0list (Int.toNat (v10l1)))))) (q_idxL (row := Leak.row) (l := v0list) (i := v10l1) Try.underlying42 hi60 hs60 rfl rfl rfl hk1) rfl ?_
    refine .q (x := .d (.agg (Leak.row (nth v0list (Int.toNat (v10l1)))))) (q_loadAll one_60 sz_60 rfl rfl) rfl ?_
    refine .v (x := .ref 0 0) (v_alloc zr_60 rfl) rfl ?_
    refine .withSt (st' := ⟨[.row 60 [.d (cI 0), .d (cI 0), .d (cI 0), .d (cI 0)]], [⟨5, 1, v3bl1.length, none⟩]⟩) rfl ?_
    refine .u (u_store rfl rfl rfl rfl (Nat.le_of_ble_eq_true rfl) sz_60) rfl ?_
    refine .withSt (st' := ⟨[.row 60 [.d (cI ((nth v0list (Int.toNat (v10l1))).ctl)), .d (cI ((nth v0list (Int.toNat (v10l1))).key)), .d (cI ((nth v0list (Int.toNat (v10l1))).left)), .d (cI ((nth v0list (Int.toNat (v10l1))).right))]], [⟨5, 1, v3bl1.length, none⟩]⟩) rfl ?_
    refine .nil ?_
    refine .seq ?_
    refine .region ?_
    refine .q (q_move rfl) rfl ?_
    refine .q (q_fieldRef fo_60_0 rfl) rfl ?_
    refine .q (x := .d (cI ((nth v0list (Int.toNat (v10l1))).ctl))) (q_loadO one_3 rfl rfl rfl) rfl ?_
    obtain ⟨y1, hy1, H⟩ := bind_some' H
    refine .g (x := .d (cS y1)) (g_call en_38 rfl rfl (c_f_assure_name (hy1))) rfl ?_
    obtain ⟨hk2, H⟩ := ck_some H
    refine .v (x := .tsl 1 ((v3bl1 ++ y1).map rB8) 0) (v_appendStrL (l := v3bl1) (a := y1) Try.underlying84 Try.underlying9 hi5 hz5 hs5 rfl (by rw [hb5]; decide) rfl rfl rfl hk2) rfl ?_
    refine .withSt (st' := ⟨[.row 60 [.d (cI ((nth v0list (Int.toNat (v10l1))).ctl)), .d (cI ((nth v0list (Int.toNat (v10l1))).key)), .d (cI ((nth v0list (Int.toNat (v10l1))).left)), .d (cI ((nth v0list (Int.toNat (v10l1))).right))]], [⟨5, 1, (v3bl1 ++ y1).length, none⟩]⟩) rfl ?_
    refine .q (q_assign rfl) rfl ?_
    refine .nil ?_
    refine .seq ?_
    refine .seq ?_
    refine .region ?_
    refine .q (q_fieldRef fo_60_1 rfl) rfl ?_
    refine .q (x := .d (cI ((nth v0list (Int.toNat (v10l1))).key))) (q_loadO one_3 rfl rfl rfl) rfl ?_
    refine .q (q_fieldRef fo_60_2 rfl) rfl ?_
    refine .q (x := .d (cI ((nth v0list (Int.toNat (v10l1))).left))) (q_loadO one_3 rfl rfl rfl) rfl ?_
    refine .q (q_fieldRef fo_60_3 rfl) rfl ?_
    refine .q (x := .d (cI ((nth v0list (Int.toNat (v10l1))).right))) (q_loadO one_3 rfl rfl rfl) rfl ?_
    refine .q (x := .d (.agg (([(nth v0list (Int.toNat (v10l1))).key, (nth v0list (Int.toNat (v10l1))).left, (nth v0list (Int.toNat (v10l1))).right] : List Int).map cI))) (q_buildArr Try.underlying107 hi107 hz107 hi3 hs3 rfl rfl) rfl ?_
    refine .q (q_move rfl) rfl ?_
    refine .nil ?_
    refine .blockJoin2 (ι := List UInt8) (fun s => [(3, .tsl 1 (s.map rB8) 0), (8, .d (slOf 4 Leak.row v0list)), (9, .d (cI (v0list.length : Int))), (10, .d (cI v10l1))]) (fun s => ⟨[.row 60 [.d (cI ((nth v0list (Int.toNat (v10l1))).ctl)), .d (cI ((nth v0list (Int.toNat (v10l1))).key)), .d (cI ((nth v0list (Int.toNat (v10l1))).left)), .d (cI ((nth v0list (Int.toNat (v10l1))).right))]], [⟨5, 1, s.length, none⟩]⟩) (fun s => f_assure_Text_j1 v10l1 s = some q1) ?_ ?_
    · rintro v3bj1 H
      replace H : f_assure_Text_j1 v10l1 v3bj1 = some q1 := H
      unfold f_assure_Text_j1 at H
      change ARun _ _ _ _ _ _ [(3, .tsl 1 (v3bj1.map rB8) 0), (8, .d (slOf 4 Leak.row v0list)), (9, .d (cI (v0list.length : Int))), (10, .d (cI v10l1))] ⟨[.row 60 [.d (cI ((nth v0list (Int.toNat (v10l1))).ctl)), .d (cI ((nth v0list (Int.toNat (v10l1))).key)), .d (cI ((nth v0list (Int.toNat (v10l1))).left)), .d (cI ((nth v0list (Int.toNat (v10l1))).right))]], [⟨5, 1, v3bj1.length, none⟩]⟩
      refine .region ?_
      refine .q (q_move rfl) rfl ?_
      refine .g (x := .d (slOf 1 rB8 ([10] : List UInt8))) (g_buildSlice1 Try.underlying84 hi5 hs5 hz5 rfl rfl rfl rfl rfl) rfl ?_
      obtain ⟨hk3, H⟩ := ck_some H
      refine .v (x := .tsl 1 ((v3bj1 ++ ([10] : List UInt8)).map rB8) 0) (v_appendL (l := v3bj1) (l' := ([10] : List UInt8)) (row := rB8) Try.underlying84 hi5 hz5 hs5 rfl (by rw [hb5]; decide) rfl rfl rfl rfl hk3) rfl ?_
      refine .withSt (st' := ⟨[.row 60 [.d (cI ((nth v0list (Int.toNat (v10l1))).ctl)), .d (cI ((nth v0list (Int.toNat (v10l1))).key)), .d (cI ((nth v0list (Int.toNat (v10l1))).left)), .d (cI ((nth v0list (Int.toNat (v10l1))).right))]], [⟨5, 1, (v3bj1 ++ ([10] : List UInt8)).length, none⟩]⟩) rfl ?_
      refine .q (q_assign rfl) rfl ?_
      refine .nil ?_
      refine .inBlock ?_
      refine .region ?_
      obtain ⟨hk4, H⟩ := ck_some H
      refine .q (q_addI rfl rfl hk4.1 hk4.2) rfl ?_
      refine .q (q_move rfl) rfl ?_
      refine .nil ?_
      cases H
      exact .to 0 1 (env' := [(3, .tsl 1 ((v3bj1 ++ ([10] : List UInt8)).map rB8) 0), (8, .d (slOf 4 Leak.row v0list)), (9, .d (cI (v0list.length : Int))), (10, .d (cI (v10l1 + 1)))]) (st' := ⟨[], [⟨5, 1, (v3bj1 ++ ([10] : List UInt8)).length, none⟩]⟩) (.cons rfl (.rfl' _) (.cons rfl (.rfl' _) (.cons rfl (.rfl' _) (.cons rfl (.rfl' _) (.nil))))) rfl rfl rfl rfl rfl (by rw [hS]; exact Nat.le_of_ble_eq_true rfl) (by rw [hS]; exact Nat.le_of_ble_eq_true rfl) <| .sub (.cons rfl (.rfl' _) (.cons rfl (.rfl' _) (.cons rfl (.rfl' _) (.cons rfl (.rfl' _) (.nil))))) (ih1 (n1, (v3bj1 ++ ([10] : List UInt8), v10l1 + 1)) HK1 hm1)
    · intro hj1 hj1x
      obtain ⟨n2, H⟩ := loop_some H
      refine .withSt (st' := ⟨[.row 60 [.d (cI ((nth v0list (Int.toNat (v10l1))).ctl)), .d (cI ((nth v0list (Int.toNat (v10l1))).key)), .d (cI ((nth v0list (Int.toNat (v10l1))).left)), .d (cI ((nth v0list (Int.toNat (v10l1))).right))]], [⟨5, 1, (v3bl1 ++ y1).length, none⟩]⟩) rfl <| .loop (ι := Nat × (List UInt8 × Int)) (fun p => [(3, .tsl 1 (p.2.1.map rB8) 0), (8, .d (slOf 4 Leak.row v0list)), (9, .d (cI (v0list.length : Int))), (10, .d (cI v10l1)), (25, .d (.agg (([(nth v0list (Int.toNat (v10l1))).key, (nth v0list (Int.toNat (v10l1))).left, (nth v0list (Int.toNat (v10l1))).right] : List Int).map cI))), (26, .d (cI p.2.2))]) (fun p => ⟨[.row 60 [.d (cI ((nth v0list (Int.toNat (v10l1))).ctl)), .d (cI ((nth v0list (Int.toNat (v10l1))).key)), .d (cI ((nth v0list (Int.toNat (v10l1))).left)), .d (cI ((nth v0list (Int.toNat (v10l1))).right))]], [⟨5, 1, p.2.1.length, none⟩]⟩) (fun p => iter (fun s => f_assure_Text_l2 v0list v10l1 s.1 s.2) p.1 p.2 = some q1) (·.1) (n2, (v3bl1 ++ y1, 0)) H (.cons rfl (.rfl' _) (.cons rfl (.rfl' _) (.cons rfl (.rfl' _) (.cons rfl (.rfl' _) (.cons rfl (.rfl' _) (.cons rfl (.rfl' _) (.nil))))))) rfl ?_
      rintro ⟨m2, v3bl2, v26l2⟩ HI ih2
      obtain ⟨n2, q2, hm2, H, HK2⟩ := iter_succ HI
      clear HI
      replace H : f_assure_Text_l2 v0list v10l1 v3bl2 v26l2 = some q2 := H
      unfold f_assure_Text_l2 at H
      change ARun _ _ _ _ _ _ [(3, .tsl 1 (v3bl2.map rB8) 0), (8, .d (slOf 4 Leak.row v0list)), (9, .d (cI (v0list.length : Int))), (10, .d (cI v10l1)), (25, .d (.agg (([(nth v0list (Int.toNat (v10l1))).key, (nth v0list (Int.toNat (v10l1))).left, (nth v0list (Int.toNat (v10l1))).right] : List Int).map cI))), (26, .d (cI v26l2))] ⟨[.row 60 [.d (cI ((nth v0list (Int.toNat (v10l1))).ctl)), .d (cI ((nth v0list (Int.toNat (v10l1))).key)), .d (cI ((nth v0list (Int.toNat (v10l1))).left)), .d (cI ((nth v0list (Int.toNat (v10l1))).right))]], [⟨5, 1, v3bl2.length, none⟩]⟩
      refine .seq ?_
      refine .region ?_
      refine .q (q_lss rfl rfl) rfl ?_
      refine .nil ?_
      refine .seq ?_
      refine .cond rfl (fun hc => ?_) (fun hc => ?_)
      · replace H := ifT hc H; clear hc
        refine .skip ?_
        refine .seq ?_
        refine .block ?_
        refine .seq ?_
        refine .region ?_
        obtain ⟨hk5, H⟩ := ck_some H
        refine .q (x := .d (cI (nth ([(nth v0list (Int.toNat (v10l1))).key, (nth v0list (Int.toNat (v10l1))).left, (nth v0list (Int.toNat (v10l1))).right] : List Int) (Int.toNat (v26l2))))) (q_indexAV (l := ([(nth v0list (Int.toNat (v10l1))).key, (nth v0list (Int.toNat (v10l1))).left, (nth v0list (Int.toNat (v10l1))).right] : List Int)) (c1 := cI) (i := v26l2) Try.underlying107 one_3 hi3 hs3 rfl rfl hk5.1 hk5.2) rfl ?_
        refine .q (q_assign rfl) rfl ?_
        refine .nil ?_
        refine .seq ?_
        refine .region ?_
        refine .q (q_move rfl) rfl ?_
        refine .g (x := .d (slOf 1 rB8 ([32] : List UInt8))) (g_buildSlice1 Try.underlying84 hi5 hs5 hz5 rfl rfl rfl rfl rfl) rfl ?_
        obtain ⟨hk6, H⟩ := ck_some H
        refine .v (x := .tsl 1 ((v3bl2 ++ ([32] : List UInt8)).map rB8) 0) (v_appendL (l := v3bl2) (l' := ([32] : List UInt8)) (row := rB8) Try.underlying84 hi5 hz5 hs5 rfl (by rw [hb5]; decide) rfl rfl rfl rfl hk6) rfl ?_
        refine .withSt (st' := ⟨[.row 60 [.d (cI ((nth v0list (Int.toNat (v10l1))).ctl)), .d (cI ((nth v0list (Int.toNat (v10l1))).key)), .d (cI ((nth v0list (Int.toNat (v10l1))).left)), .d (cI ((nth v0list (Int.toNat (v10l1))).right))]], [⟨5, 1, (v3bl2 ++ ([32] : List UInt8)).length, none⟩]⟩) rfl ?_
        refine .q (q_assign rfl) rfl ?_
        refine .nil ?_
        refine .region ?_
        refine .q (q_move rfl) rfl ?_
        refine .q (q_move rfl) rfl ?_
        obtain ⟨y2, hy2, H⟩ := bind_some' H
        refine .g (x := .d (cS y2)) (g_call en_39 rfl rfl (c_f_assure_decimal (hy2))) rfl ?_
        obtain ⟨hk7, H⟩ := ck_some H
        refine .v (x := .tsl 1 (((v3bl2 ++ ([32] : List UInt8)) ++ y2).map rB8) 0) (v_appendStrL (l := v3bl2 ++ ([32] : List UInt8)) (a := y2) Try.underlying84 Try.underlying9 hi5 hz5 hs5 rfl (by rw [hb5]; decide) rfl rfl rfl hk7) rfl ?_
        refine .withSt (st' := ⟨[.row 60 [.d (cI ((nth v0list (Int.toNat (v10l1))).ctl)), .d (cI ((nth v0list (Int.toNat (v10l1))).key)), .d (cI ((nth v0list (Int.toNat (v10l1))).left)), .d (cI ((nth v0list (Int.toNat (v10l1))).right))]], [⟨5, 1, ((v3bl2 ++ ([32] : List UInt8)) ++ y2).length, none⟩]⟩) rfl ?_
        refine .q (q_assign rfl) rfl ?_
        refine .nil ?_
        refine .inBlock ?_
        refine .region ?_
        obtain ⟨hk8, H⟩ := ck_some H
        refine .q (q_addI rfl rfl hk8.1 hk8.2) rfl ?_
        refine .q (q_move rfl) rfl ?_
        refine .nil ?_
        cases H
        exact .withSt (st' := ⟨[.row 60 [.d (cI ((nth v0list (Int.toNat (v10l1))).ctl)), .d (cI ((nth v0list (Int.toNat (v10l1))).key)), .d (cI ((nth v0list (Int.toNat (v10l1))).left)), .d (cI ((nth v0list (Int.toNat (v10l1))).right))]], [⟨5, 1, ((v3bl2 ++ ([32] : List UInt8)) ++ y2).length, none⟩]⟩) rfl <| .sub (.cons rfl (.rfl' _) (.cons rfl (.rfl' _) (.cons rfl (.rfl' _) (.cons rfl (.rfl' _) (.cons rfl (.rfl' _) (.cons rfl (.rfl' _) (.nil))))))) (ih2 (n2, ((v3bl2 ++ ([32] : List UInt8)) ++ y2, v26l2 + 1)) HK2 hm2)
      · replace H := ifF hc H; clear hc
        refine .exit rfl ?_
        obtain ⟨q0, H9, hq0⟩ := map_some' H; clear H; cases hq0
        cases HK2
        have H := H9
        exact .withSt (st' := ⟨[.row 60 [.d (cI ((nth v0list (Int.toNat (v10l1))).ctl)), .d (cI ((nth v0list (Int.toNat (v10l1))).key)), .d (cI ((nth v0list (Int.toNat (v10l1))).left)), .d (cI ((nth v0list (Int.toNat (v10l1))).right))]], [⟨5, 1, v3bl2.length, none⟩]⟩) rfl <| .sub (.cons rfl (.rfl' _) (.cons rfl (.rfl' _) (.cons rfl (.rfl' _) (.cons rfl (.rfl' _) (.nil))))) (hj1x v3bl2 H)
  · replace H := ifF hc H; clear hc
    refine .exit rfl ?_
    refine .seq ?_
    refine .region ?_
    refine .q (q_move rfl) rfl ?_
    refine .q (x := .d (cS v3bl1)) (q_bytesStrL (a := v3bl1) Try.underlying84 Try.underlying5 Try.underlying9 rfl rfl) rfl ?_
    refine .q (q_assign rfl) rfl ?_
    refine .nil ?_
    refine .retN [.tmp 2] [.d (cS v3bl1)] Try.func23 Try.results23 ⟨rfl, trivial⟩ ?_
    cases H
    cases HK1
    exact ⟨_, .rfl' _, rfl⟩

set_option maxRecDepth 100000 in
set_option maxHeartbeats 1000000 in
theorem c_f_dedup_Count {v0seen : List Range} {r : Int} (H : f_dedup_Count v0seen = some r) : ACall Try.prog 49 [slOf 3 Range.row v0seen] (· = cI r) := by
  obtain ⟨i126, hi126, hz126, hs126, hb126⟩ := in_126
  refine ACall.enter' Try.func49 rfl Try.ntmps49 rfl fun S hS => ?_
  unfold f_dedup_Count at H
  change ARun _ _ _ _ _ _ [(0, .d (slOf 3 Range.row v0seen))] _
  refine .seq ?_
  refine .region ?_
  refine .q (q_assign rfl) rfl ?_
  refine .nil ?_
  refine .seq ?_
  refine .region ?_
  refine .q (q_assign rfl) rfl ?_
  refine .nil ?_
  refine .seq ?_
  refine .seq ?_
  refine .region ?_
  refine .q (q_move rfl) rfl ?_
  refine .q (q_lenL (l := v0seen) (row := Range.row) Try.underlying26 rfl rfl) rfl ?_
  refine .q (q_move rfl) rfl ?_
  refine .nil ?_
  refine .block ?_
  obtain ⟨n1, H⟩ := loop_some H
  refine .loop (ι := Nat × (Int × Int)) (fun p => [(3, .d (cI p.2.1)), (6, .d (slOf 3 Range.row v0seen)), (7, .d (cI (v0seen.length : Int))), (8, .d (cI p.2.2))]) (fun p => ⟨[], []⟩) (fun p => iter (fun s => f_dedup_Count_l1 v0seen s.1 s.2) p.1 p.2 = some r) (·.1) (n1, (0, 0)) H (.cons rfl (.rfl' _) (.cons rfl (.rfl' _) (.cons rfl (.rfl' _) (.cons rfl (.rfl' _) (.nil))))) rfl ?_
  rintro ⟨m1, v3nl1, v8l1⟩ HI ih1
  obtain ⟨n1, q1, hm1, H, HK1⟩ := iter_succ HI
  clear HI
  replace H : f_dedup_Count_l1 v0seen v3nl1 v8l1 = some q1 := H
  unfold f_dedup_Count_l1 at H
  change ARun _ _ _ _ _ _ [(3, .d (cI v3nl1)), (6, .d (slOf 3 Range.row v0seen)), (7, .d (cI (v0seen.length : Int))), (8, .d (cI v8l1))] ⟨[], []⟩
  refine .seq ?_
  refine .region ?_
  refine .q (q_lss rfl rfl) rfl ?_
  refine .nil ?_
  refine .seq ?_
  refine .cond rfl (fun hc => ?_) (fun hc => ?_)
  · replace H := ifT hc H; clear hc
    refine .skip ?_
    refine .seq ?_
    refine .block ?_
    refine .seq ?_
    refine .region ?_
    obtain ⟨hk1, H⟩ := ck_some H
    refine .q (x := .d (.ro (Range.row (nth v0seen (Int.toNat (v8l1)))))) (q_idxL (row := Range.row) (l := v0seen) (i := v8l1) Try.underlying26 hi126 hs126 rfl rfl rfl hk1) rfl ?_
    refine .q (x := .d (.agg (Range.row (nth v0seen (Int.toNat (v8l1)))))) (q_loadAll one_126 sz_126 rfl rfl) rfl ?_
    refine .v (x := .ref 0 0) (v_alloc zr_126 rfl) rfl ?_
    refine .withSt (st' := ⟨[.row 126 [.d (cI 0), .d (cI 0), .d (cI 0)]], []⟩) rfl ?_
    refine .u (u_store rfl rfl rfl rfl (Nat.le_of_ble_eq_true rfl) sz_126) rfl ?_
    refine .withSt (st' := ⟨[.row 126 [.d (cI ((nth v0seen (Int.toNat (v8l1))).source)), .d (cI ((nth v0seen (Int.toNat (v8l1))).from_)), .d (cI ((nth v0seen (Int.toNat (v8l1))).to_))]], []⟩) rfl ?_
    refine .nil ?_
    refine .region ?_
    refine .q (q_move rfl) rfl ?_
    refine .q (q_fieldRef fo_126_2 rfl) rfl ?_
    refine .q (x := .d (cI ((nth v0seen (Int.toNat (v8l1))).to_))) (q_loadO one_3 rfl rfl rfl) rfl ?_
    refine .q (q_fieldRef fo_126_1 rfl) rfl ?_
    refine .q (x := .d (cI ((nth v0seen (Int.toNat (v8l1))).from_))) (q_loadO one_3 rfl rfl rfl) rfl ?_
    obtain ⟨hk2, H⟩ := ck_some H
    refine .q (q_subI rfl rfl hk2.1 hk2.2) rfl ?_
    obtain ⟨hk3, H⟩ := ck_some H
    refine .q (q_addI rfl rfl hk3.1 hk3.2) rfl ?_
    obtain ⟨hk4, H⟩ := ck_some H
    refine .q (q_addI rfl rfl hk4.1 hk4.2) rfl ?_
    refine .q (q_assign rfl) rfl ?_
    refine .nil ?_
    refine .inBlock ?_
    refine .region ?_
    obtain ⟨hk5, H⟩ := ck_some H
    refine .q (q_addI rfl rfl hk5.1 hk5.2) rfl ?_
    refine .q (q_move rfl) rfl ?_
    refine .nil ?_
    cases H
    exact .to 0 0 (env' := [(3, .d (cI (v3nl1 + ((((nth v0seen (Int.toNat (v8l1))).to_) - ((nth v0seen (Int.toNat (v8l1))).from_)) + 1)))), (6, .d (slOf 3 Range.row v0seen)), (7, .d (cI (v0seen.length : Int))), (8, .d (cI (v8l1 + 1)))]) (st' := ⟨[], []⟩) (.cons rfl (.rfl' _) (.cons rfl (.rfl' _) (.cons rfl (.rfl' _) (.cons rfl (.rfl' _) (.nil))))) rfl rfl rfl rfl rfl (by rw [hS]; exact Nat.le_of_ble_eq_true rfl) (by rw [hS]; exact Nat.le_of_ble_eq_true rfl) <| .sub (.cons rfl (.rfl' _) (.cons rfl (.rfl' _) (.cons rfl (.rfl' _) (.cons rfl (.rfl' _) (.nil))))) (ih1 (n1, (v3nl1 + ((((nth v0seen (Int.toNat (v8l1))).to_) - ((nth v0seen (Int.toNat (v8l1))).from_)) + 1), v8l1 + 1)) HK1 hm1)
  · replace H := ifF hc H; clear hc
    refine .exit rfl ?_
    refine .seq ?_
    refine .region ?_
    refine .q (q_move rfl) rfl ?_
    refine .q (q_assign rfl) rfl ?_
    refine .nil ?_
    refine .retN [.tmp 2] [.d (cI v3nl1)] Try.func49 Try.results49 ⟨rfl, trivial⟩ ?_
    cases H
    cases HK1
    exact ⟨_, .rfl' _, rfl⟩

end Go.Proofs.Ytpdanklncjopoaa
