import Derived.Test.YtpdanklncjopoabW4
import Derived.Test.YtpdanklncjopoabPl3
set_option linter.unusedSimpArgs false
set_option linter.unusedVariables false
namespace Go.Proofs.Ytpdanklncjopoab
open Go.RowKit Go.Abs

set_option maxRecDepth 100000 in
set_option maxHeartbeats 400000 in
theorem c_differing (c : Int) (ids : List Int) (ea eb : List (Int × Int)) (hl : ids.length ≤ 1000000) : ACallS Try.prog 18 [.d (cI c), .d (slOf 1 rI ids), .mp 0, .mp 1] ⟨[.map (mEnc iK cI ea), .map (mEnc iK cI eb)], []⟩ (QD (· = slOf 4 Leak.row (diffF c ea eb ids))) := by
  refine ACallS.enter Try.func18 rfl Try.ntmps18 rfl fun S hS => ?_
  obtain ⟨i3, hi3, hz3, hs3, hb3⟩ := in_3
  obtain ⟨i51, hi51, hz51, hs51, hb51⟩ := in_51
  refine .seq ?_
  refine .region ?_
  refine .q (q_assign rfl) rfl ?_
  refine .nil ?_
  refine .seq ?_
  refine .region ?_
  refine .q (q_assign rfl) rfl ?_
  refine .nil ?_
  refine .seq ?_
  refine .seq ?_
  refine .region ?_
  refine .q (q_move rfl) rfl ?_
  refine .q (q_lenA Try.underlying63 rfl rfl) rfl ?_
  refine .q (q_move rfl) rfl ?_
  refine .nil ?_
  refine .block ?_
  refine .tok (i := 9) (e := 51) (sz := 4) rfl ?_
  refine .loop (ι := Nat × List (List D)) (fun (k, rows) => [(0, .d (cI c)), (2, .mp 0), (3, .mp 1), (9, .tsl 4 rows 0), (12, .d (slOf 1 rI ids)), (13, .d (cI ids.length)), (14, .d (cI k))]) (fun (k, rows) => ⟨[.map (mEnc iK cI ea), .map (mEnc iK cI eb)], [⟨51, 4, rows.length⟩]⟩) (fun (k, rows) => k ≤ ids.length ∧ rows = (((ids.take k).map (diffOf c ea eb)).flatten).map Leak.row) (fun (k, rows) => ids.length - k) (0, []) ⟨Nat.zero_le _, rfl⟩ (.cons rfl (.rfl' _) (.cons rfl (.rfl' _) (.cons rfl (.rfl' _) (.cons rfl (.rfl' _) (.cons rfl (.rfl' _) (.cons rfl (.eq (by simp)) (.cons rfl (.rfl' _) (.nil)))))))) rfl ?_
  rintro ⟨k, rows⟩ hI ih
  have hk : k ≤ ids.length := hI.1
  have hr : rows.length ≤ 1000000 := by (have h1 := flat_take_len (diffOf_len c ea eb) ids k; rw [hI.2, List.length_map]; omega)
  refine .seq ?_
  refine .region ?_
  refine .q (q_lss rfl rfl) rfl ?_
  refine .nil ?_
  refine .seq ?_
  refine .cond rfl (fun hc1 => ?_) (fun hc1 => ?_)
  · try simp at hc1
    refine .skip ?_
    refine .seq ?_
    refine .block ?_
    refine .seq ?_
    refine .region ?_
    refine .q (q_idxN Try.underlying63 hi3 hs3 rfl rfl rfl (by first | rfl | omega) (mapnth (by omega))) rfl ?_
    refine .q (q_load one_3 rfl) rfl ?_
    refine .q (q_assign rfl) rfl ?_
    refine .nil ?_
    refine .seq ?_
    refine .region ?_
    refine .q (q_move rfl) rfl ?_
    refine .q (q_move rfl) rfl ?_
    refine .q (q_lookup (intKeys Try.underlying3) (a0 := default) Try.underlying64 hi3 hz3 rfl rfl rfl rfl) rfl ?_
    refine .q (q_move rfl) rfl ?_
    refine .q (q_move rfl) rfl ?_
    refine .q (q_lookup (intKeys Try.underlying3) (a0 := default) Try.underlying64 hi3 hz3 rfl rfl rfl rfl) rfl ?_
    refine .q (q_neq rfl rfl) rfl ?_
    refine .nil ?_
    refine .cond rfl (fun hc2 => ?_) (fun hc2 => ?_)
    · try simp at hc2
      refine .region ?_
      refine .q (q_move rfl) rfl ?_
      refine .q (q_move rfl) rfl ?_
      refine .q (q_move rfl) rfl ?_
      refine .q (q_move rfl) rfl ?_
      refine .q (q_move rfl) rfl ?_
      refine .q (q_lookup (intKeys Try.underlying3) (a0 := default) Try.underlying64 hi3 hz3 rfl rfl rfl rfl) rfl ?_
      refine .q (q_move rfl) rfl ?_
      refine .q (q_move rfl) rfl ?_
      refine .q (q_lookup (intKeys Try.underlying3) (a0 := default) Try.underlying64 hi3 hz3 rfl rfl rfl rfl) rfl ?_
      refine .q (q_buildP pl_51 hi51 hz51 rfl rfl) rfl ?_
      refine .g (g_buildSlice1 Try.underlying26 hi51 hs51 hz51 rfl rfl rfl rfl rfl) rfl ?_
      refine .v (v_append Try.underlying26 hi51 hz51 hs51 rfl rfl rfl rfl rfl (by first | omega | (simp only [hb51]; simp; omega) | (simp; omega) | (simp only [hb51]; omega) | (simp only [hb51]; simp) | simp) (by first | omega | (simp only [hb51]; simp; omega) | (simp; omega) | (simp only [hb51]; omega) | (simp only [hb51]; simp) | simp)) rfl ?_
      refine .q (q_assign rfl) rfl ?_
      refine .nil ?_
      refine .inBlock ?_
      refine .region ?_
      refine .q (q_addI rfl rfl (by first | omega | (simp; omega)) (by first | omega | (simp; omega))) rfl ?_
      refine .q (q_move rfl) rfl ?_
      refine .nil ?_
      refine .sub (.cons rfl (.rfl' _) (.cons rfl (.rfl' _) (.cons rfl (.rfl' _) (.cons rfl (.rfl' _) (.cons rfl (.rfl' _) (.cons rfl (.rfl' _) (.cons rfl (.rfl' _) (.nil)))))))) (ih (k + 1, _) ?_ (by show _ - (k + 1) < _ - k; omega))
      refine ⟨by show k + 1 ≤ _; omega, ?_⟩
      rw [hI.2, flat_take (by omega), diffOf, if_neg hc2, List.map_append]; rfl
    · try simp at hc2
      refine .skip ?_
      refine .inBlock ?_
      refine .region ?_
      refine .q (q_addI rfl rfl (by first | omega | (simp; omega)) (by first | omega | (simp; omega))) rfl ?_
      refine .q (q_move rfl) rfl ?_
      refine .nil ?_
      refine .sub (.cons rfl (.rfl' _) (.cons rfl (.rfl' _) (.cons rfl (.rfl' _) (.cons rfl (.rfl' _) (.cons rfl (.rfl' _) (.cons rfl (.rfl' _) (.cons rfl (.rfl' _) (.nil)))))))) (ih (k + 1, _) ?_ (by show _ - (k + 1) < _ - k; omega))
      refine ⟨by show k + 1 ≤ _; omega, ?_⟩
      rw [hI.2, flat_take (by omega), diffOf, if_pos hc2, List.append_nil]
  · try simp at hc1
    refine .exit rfl ?_
    refine .seq ?_
    refine .region ?_
    refine .q (q_move rfl) rfl ?_
    refine .q (q_assign rfl) rfl ?_
    refine .nil ?_
    refine .ret1 Try.func18 Try.results18 rfl ?_
    have hkl : k = ids.length := by omega
    subst hkl
    exact .tsl (by rw [hI.2, List.take_length]; rfl)

set_option maxRecDepth 100000 in
set_option maxHeartbeats 400000 in
theorem c_Usages (us : List Usage) (rs : List Rated) (hu : us.length ≤ 100000) (hr : rs.length ≤ 100000) : ACall Try.prog 10 [slOf 12 Usage.row us, slOf 24 Rated.row rs] (· = slOf 4 Leak.row (usagesF us (rs.map (·.usage)))) := by
  refine ACall.enter' Try.func10 rfl Try.ntmps10 rfl fun S hS => ?_
  obtain ⟨i3, hi3, hz3, hs3, hb3⟩ := in_3
  obtain ⟨i30, hi30, hz30, hs30, hb30⟩ := in_30
  obtain ⟨i36, hi36, hz36, hs36, hb36⟩ := in_36
  obtain ⟨i51, hi51, hz51, hs51, hb51⟩ := in_51
  refine .seq ?_
  refine .region ?_
  refine .q (q_assign rfl) rfl ?_
  refine .nil ?_
  refine .seq ?_
  refine .region ?_
  refine .q (q_assign rfl) rfl ?_
  refine .nil ?_
  refine .seq ?_
  refine .region ?_
  refine .v (v_makeMap) rfl ?_
  refine .v (v_makeMap) rfl ?_
  refine .q (q_assign rfl) rfl ?_
  refine .q (q_assign rfl) rfl ?_
  refine .nil ?_
  refine .seq ?_
  refine .region ?_
  refine .v (v_makeMap) rfl ?_
  refine .v (v_makeMap) rfl ?_
  refine .q (q_assign rfl) rfl ?_
  refine .q (q_assign rfl) rfl ?_
  refine .nil ?_
  refine .seq ?_
  refine .seq ?_
  refine .region ?_
  refine .q (q_move rfl) rfl ?_
  refine .q (q_lenA Try.underlying45 rfl rfl) rfl ?_
  refine .q (q_move rfl) rfl ?_
  refine .nil ?_
  refine .block ?_
  refine .loop (ι := Nat × List (Int × Int) × List (Int × Usage)) (fun (k, e6, e8) => [(1, .d (slOf 24 Rated.row rs)), (5, .d (slOf 1 rI (keysOn ((us.map (·.id)).take k) []))), (6, .mp 0), (7, .mp 1), (8, .mp 2), (9, .mp 3), (22, .d (slOf 12 Usage.row us)), (23, .d (cI us.length)), (24, .d (cI k))]) (fun (k, e6, e8) => ⟨[.map (mEnc iK cI e6), .map [], .map (mEnc iK uD e8), .map []], []⟩) (fun (k, e6, e8) => k ≤ us.length ∧ CountU us k e6 e8) (fun (k, e6, e8) => us.length - k) (0, [], []) ⟨Nat.zero_le _, CountU.zero us⟩ (.cons rfl (.rfl' _) (.cons rfl (.nil 1) (.cons rfl (.rfl' _) (.cons rfl (.rfl' _) (.cons rfl (.rfl' _) (.cons rfl (.rfl' _) (.cons rfl (.rfl' _) (.cons rfl (.eq (by simp)) (.cons rfl (.rfl' _) (.nil)))))))))) rfl ?_
  rintro ⟨k, e6, e8⟩ hI ih
  have hk : k ≤ us.length := hI.1
  have hcl := hI.2.len (nth us k).id
  refine .seq ?_
  refine .region ?_
  refine .q (q_lss rfl rfl) rfl ?_
  refine .nil ?_
  refine .seq ?_
  refine .cond rfl (fun hc1 => ?_) (fun hc1 => ?_)
  · try simp at hc1
    refine .skip ?_
    refine .seq ?_
    refine .block ?_
    refine .seq ?_
    refine .region ?_
    refine .q (q_idxN Try.underlying45 hi30 hs30 rfl rfl rfl (by first | rfl | omega) (mapnth (by omega))) rfl ?_
    refine .q (q_loadAll one_30 sz_30 rfl rfl) rfl ?_
    refine .v (v_alloc zr_30 rfl) rfl ?_
    refine .u (u_store rfl rfl rfl rfl (Nat.le_of_ble_eq_true rfl) sz_30) rfl ?_
    refine .nil ?_
    refine .seq ?_
    refine .region ?_
    refine .q (q_move rfl) rfl ?_
    refine .q (q_fieldRef fo_30_0 rfl) rfl ?_
    refine .q (q_loadO one_3 rfl rfl rfl) rfl ?_
    refine .g (g_call en_17 rfl rfl (c_keys (keysOn ((us.map (·.id)).take k) []) (nth us k).id (by have h := keysOn_take_len (l := us.map (·.id)) (s := []) (k := k); simp at h; omega) (keysOn_asc asc_nil))) rfl ?_
    refine .q (q_assign rfl) rfl ?_
    refine .nil ?_
    refine .seq ?_
    refine .seq ?_
    refine .region ?_
    refine .q (q_move rfl) rfl ?_
    refine .q (q_fieldRef fo_30_0 rfl) rfl ?_
    refine .q (q_loadO one_3 rfl rfl rfl) rfl ?_
    refine .q (q_lookup (intKeys Try.underlying3) (a0 := default) Try.underlying64 hi3 hz3 rfl rfl rfl rfl) rfl ?_
    refine .q (q_eql rfl rfl) rfl ?_
    refine .nil ?_
    refine .cond rfl (fun hc2 => ?_) (fun hc2 => ?_)
    · try simp at hc2
      refine .region ?_
      refine .q (q_move rfl) rfl ?_
      refine .q (q_fieldRef fo_30_0 rfl) rfl ?_
      refine .q (q_loadO one_3 rfl rfl rfl) rfl ?_
      refine .q (q_loadOA one_30 sz_30 rfl rfl (Nat.le_of_ble_eq_true rfl) rfl) rfl ?_
      refine .u (u_mapUpdate (intKeys Try.underlying3) Try.underlying65 rfl rfl rfl rfl rfl) rfl ?_
      refine .nil ?_
      refine .region ?_
      refine .q (q_move rfl) rfl ?_
      refine .q (q_fieldRef fo_30_0 rfl) rfl ?_
      refine .q (q_loadO one_3 rfl rfl rfl) rfl ?_
      refine .q (q_lookup (intKeys Try.underlying3) (a0 := default) Try.underlying64 hi3 hz3 rfl rfl rfl rfl) rfl ?_
      refine .q (q_addI rfl rfl (by first | omega | (simp; omega)) (by first | omega | (simp; omega))) rfl ?_
      refine .u (u_mapUpdate (intKeys Try.underlying3) Try.underlying64 rfl rfl rfl rfl rfl) rfl ?_
      refine .nil ?_
      refine .inBlock ?_
      refine .region ?_
      refine .q (q_addI rfl rfl (by first | omega | (simp; omega)) (by first | omega | (simp; omega))) rfl ?_
      refine .q (q_move rfl) rfl ?_
      refine .nil ?_
      refine .to 4 0 (.cons rfl (.rfl' _) (.cons rfl (.eq (by rw [keysOn_take (by simp; omega), nth_map (by omega)])) (.cons rfl (.rfl' _) (.cons rfl (.rfl' _) (.cons rfl (.rfl' _) (.cons rfl (.rfl' _) (.cons rfl (.rfl' _) (.cons rfl (.rfl' _) (.cons rfl (.rfl' _) (.nil)))))))))) rfl rfl rfl rfl (by refine Bool.and_eq_true_iff.2 ⟨rfl, ?_⟩; simp [okObj_mEnc, okObj_nil]) (by rw [hS]; exact Nat.zero_le _) (by rw [hS]; exact Nat.zero_le _) (ih (k + 1, _, _) ?_ (by show _ - (k + 1) < _ - k; omega))
      exact ⟨by show k + 1 ≤ _; omega, CountU.first hI.2 (by omega) hc2⟩
    · try simp at hc2
      refine .skip ?_
      refine .region ?_
      refine .q (q_move rfl) rfl ?_
      refine .q (q_fieldRef fo_30_0 rfl) rfl ?_
      refine .q (q_loadO one_3 rfl rfl rfl) rfl ?_
      refine .q (q_lookup (intKeys Try.underlying3) (a0 := default) Try.underlying64 hi3 hz3 rfl rfl rfl rfl) rfl ?_
      refine .q (q_addI rfl rfl (by first | omega | (simp; omega)) (by first | omega | (simp; omega))) rfl ?_
      refine .u (u_mapUpdate (intKeys Try.underlying3) Try.underlying64 rfl rfl rfl rfl rfl) rfl ?_
      refine .nil ?_
      refine .inBlock ?_
      refine .region ?_
      refine .q (q_addI rfl rfl (by first | omega | (simp; omega)) (by first | omega | (simp; omega))) rfl ?_
      refine .q (q_move rfl) rfl ?_
      refine .nil ?_
      refine .to 4 0 (.cons rfl (.rfl' _) (.cons rfl (.eq (by rw [keysOn_take (by simp; omega), nth_map (by omega)])) (.cons rfl (.rfl' _) (.cons rfl (.rfl' _) (.cons rfl (.rfl' _) (.cons rfl (.rfl' _) (.cons rfl (.rfl' _) (.cons rfl (.rfl' _) (.cons rfl (.rfl' _) (.nil)))))))))) rfl rfl rfl rfl (by refine Bool.and_eq_true_iff.2 ⟨rfl, ?_⟩; simp [okObj_mEnc, okObj_nil]) (by rw [hS]; exact Nat.zero_le _) (by rw [hS]; exact Nat.zero_le _) (ih (k + 1, _, _) ?_ (by show _ - (k + 1) < _ - k; omega))
      exact ⟨by show k + 1 ≤ _; omega, CountU.again hI.2 (by omega) hc2⟩
  · try simp at hc1
    refine .exit rfl ?_
    refine .seq ?_
    refine .seq ?_
    refine .region ?_
    refine .q (q_move rfl) rfl ?_
    refine .q (q_lenA Try.underlying22 rfl rfl) rfl ?_
    refine .q (q_move rfl) rfl ?_
    refine .nil ?_
    refine .block ?_
    have hk1 : k = us.length := by omega
    subst hk1
    refine .loop (ι := Nat × List (Int × Int) × List (Int × Usage)) (fun (k2, e7, e9) => [(5, .d (slOf 1 rI (keysOn (((rs.map (·.usage)).map (·.id)).take k2) (keysOn (us.map (·.id)) [])))), (6, .mp 0), (7, .mp 1), (8, .mp 2), (9, .mp 3), (47, .d (slOf 24 Rated.row rs)), (48, .d (cI rs.length)), (49, .d (cI k2))]) (fun (k2, e7, e9) => ⟨[.map (mEnc iK cI e6), .map (mEnc iK cI e7), .map (mEnc iK uD e8), .map (mEnc iK uD e9)], []⟩) (fun (k2, e7, e9) => k2 ≤ rs.length ∧ CountU (rs.map (·.usage)) k2 e7 e9) (fun (k2, e7, e9) => rs.length - k2) (0, [], []) ⟨Nat.zero_le _, CountU.zero _⟩ (.cons rfl (.eq (by rw [List.take_of_length_le (by simp)]; rfl)) (.cons rfl (.rfl' _) (.cons rfl (.rfl' _) (.cons rfl (.rfl' _) (.cons rfl (.rfl' _) (.cons rfl (.rfl' _) (.cons rfl (.eq (by simp)) (.cons rfl (.rfl' _) (.nil))))))))) rfl ?_
    rintro ⟨k2, e7, e9⟩ hJ ih2
    have hk2 : k2 ≤ rs.length := hJ.1
    have hcl2 := hJ.2.len (nth rs k2).usage.id
    simp only [List.length_map] at hcl2
    have hrn : k2 < rs.length → nth (rs.map (·.usage)) k2 = (nth rs k2).usage := fun h => nth_map h
    refine .seq ?_
    refine .region ?_
    refine .q (q_lss rfl rfl) rfl ?_
    refine .nil ?_
    refine .seq ?_
    refine .cond rfl (fun hc3 => ?_) (fun hc3 => ?_)
    · try simp at hc3
      refine .skip ?_
      refine .seq ?_
      refine .block ?_
      refine .seq ?_
      refine .region ?_
      refine .q (q_idxN Try.underlying22 hi36 hs36 rfl rfl rfl (by first | rfl | omega) (mapnth (by omega))) rfl ?_
      refine .q (q_loadAll one_36 sz_36 rfl rfl) rfl ?_
      refine .v (v_alloc zr_36 rfl) rfl ?_
      refine .u (u_store rfl rfl rfl rfl (Nat.le_of_ble_eq_true rfl) sz_36) rfl ?_
      refine .nil ?_
      refine .seq ?_
      refine .region ?_
      refine .q (q_fieldRef fo_36_0 rfl) rfl ?_
      refine .q (q_loadOA one_30 sz_30 rfl rfl (Nat.le_of_ble_eq_true rfl) rfl) rfl ?_
      refine .v (v_alloc zr_30 rfl) rfl ?_
      refine .u (u_store rfl rfl rfl rfl (Nat.le_of_ble_eq_true rfl) sz_30) rfl ?_
      refine .nil ?_
      refine .seq ?_
      refine .region ?_
      refine .q (q_move rfl) rfl ?_
      refine .q (q_fieldRef fo_30_0 rfl) rfl ?_
      refine .q (q_loadO one_3 rfl rfl rfl) rfl ?_
      refine .g (g_call en_17 rfl rfl (c_keys (keysOn (((rs.map (·.usage)).map (·.id)).take k2) (keysOn (us.map (·.id)) [])) (nth rs k2).usage.id (by have h := keysOn_take_len (l := (rs.map (·.usage)).map (·.id)) (s := keysOn (us.map (·.id)) []) (k := k2); have h2 := keysOn_len (us.map (·.id)) []; simp only [List.length_map, List.length_nil] at h h2; omega) (keysOn_asc (keysOn_asc asc_nil)))) rfl ?_
      refine .q (q_assign rfl) rfl ?_
      refine .nil ?_
      refine .seq ?_
      refine .seq ?_
      refine .region ?_
      refine .q (q_move rfl) rfl ?_
      refine .q (q_fieldRef fo_30_0 rfl) rfl ?_
      refine .q (q_loadO one_3 rfl rfl rfl) rfl ?_
      refine .q (q_lookup (intKeys Try.underlying3) (a0 := default) Try.underlying64 hi3 hz3 rfl rfl rfl rfl) rfl ?_
      refine .q (q_eql rfl rfl) rfl ?_
      refine .nil ?_
      refine .cond rfl (fun hc4 => ?_) (fun hc4 => ?_)
      · try simp at hc4
        refine .region ?_
        refine .q (q_move rfl) rfl ?_
        refine .q (q_fieldRef fo_30_0 rfl) rfl ?_
        refine .q (q_loadO one_3 rfl rfl rfl) rfl ?_
        refine .q (q_loadOA one_30 sz_30 rfl rfl (Nat.le_of_ble_eq_true rfl) rfl) rfl ?_
        refine .u (u_mapUpdate (intKeys Try.underlying3) Try.underlying65 rfl rfl rfl rfl rfl) rfl ?_
        refine .nil ?_
        refine .region ?_
        refine .q (q_move rfl) rfl ?_
        refine .q (q_fieldRef fo_30_0 rfl) rfl ?_
        refine .q (q_loadO one_3 rfl rfl rfl) rfl ?_
        refine .q (q_lookup (intKeys Try.underlying3) (a0 := default) Try.underlying64 hi3 hz3 rfl rfl rfl rfl) rfl ?_
        refine .q (q_addI rfl rfl (by first | omega | (simp; omega)) (by first | omega | (simp; omega))) rfl ?_
        refine .u (u_mapUpdate (intKeys Try.underlying3) Try.underlying64 rfl rfl rfl rfl rfl) rfl ?_
        refine .nil ?_
        refine .inBlock ?_
        refine .region ?_
        refine .q (q_addI rfl rfl (by first | omega | (simp; omega)) (by first | omega | (simp; omega))) rfl ?_
        refine .q (q_move rfl) rfl ?_
        refine .nil ?_
        refine .to 4 0 (.cons rfl (.eq (by rw [keysOn_take (by simp; omega), nth_map (by simp; omega), nth_map (by omega)])) (.cons rfl (.rfl' _) (.cons rfl (.rfl' _) (.cons rfl (.rfl' _) (.cons rfl (.rfl' _) (.cons rfl (.rfl' _) (.cons rfl (.rfl' _) (.cons rfl (.rfl' _) (.nil))))))))) rfl rfl rfl rfl (by refine Bool.and_eq_true_iff.2 ⟨rfl, ?_⟩; simp [okObj_mEnc, okObj_nil]) (by rw [hS]; exact Nat.zero_le _) (by rw [hS]; exact Nat.zero_le _) (ih2 (k2 + 1, _, _) ?_ (by show _ - (k2 + 1) < _ - k2; omega))
        refine ⟨by show k2 + 1 ≤ _; omega, ?_⟩
        have h9 := CountU.first hJ.2 (by simp; omega) (by rw [hrn (by omega)]; exact hc4)
        rw [hrn (by omega)] at h9
        exact h9
      · try simp at hc4
        refine .skip ?_
        refine .region ?_
        refine .q (q_move rfl) rfl ?_
        refine .q (q_fieldRef fo_30_0 rfl) rfl ?_
        refine .q (q_loadO one_3 rfl rfl rfl) rfl ?_
        refine .q (q_lookup (intKeys Try.underlying3) (a0 := default) Try.underlying64 hi3 hz3 rfl rfl rfl rfl) rfl ?_
        refine .q (q_addI rfl rfl (by first | omega | (simp; omega)) (by first | omega | (simp; omega))) rfl ?_
        refine .u (u_mapUpdate (intKeys Try.underlying3) Try.underlying64 rfl rfl rfl rfl rfl) rfl ?_
        refine .nil ?_
        refine .inBlock ?_
        refine .region ?_
        refine .q (q_addI rfl rfl (by first | omega | (simp; omega)) (by first | omega | (simp; omega))) rfl ?_
        refine .q (q_move rfl) rfl ?_
        refine .nil ?_
        refine .to 4 0 (.cons rfl (.eq (by rw [keysOn_take (by simp; omega), nth_map (by simp; omega), nth_map (by omega)])) (.cons rfl (.rfl' _) (.cons rfl (.rfl' _) (.cons rfl (.rfl' _) (.cons rfl (.rfl' _) (.cons rfl (.rfl' _) (.cons rfl (.rfl' _) (.cons rfl (.rfl' _) (.nil))))))))) rfl rfl rfl rfl (by refine Bool.and_eq_true_iff.2 ⟨rfl, ?_⟩; simp [okObj_mEnc, okObj_nil]) (by rw [hS]; exact Nat.zero_le _) (by rw [hS]; exact Nat.zero_le _) (ih2 (k2 + 1, _, _) ?_ (by show _ - (k2 + 1) < _ - k2; omega))
        refine ⟨by show k2 + 1 ≤ _; omega, ?_⟩
        have h9 := CountU.again hJ.2 (by simp; omega) (by rw [hrn (by omega)]; exact hc4)
        rw [hrn (by omega)] at h9
        exact h9
    · try simp at hc3
      refine .exit rfl ?_
      refine .seq ?_
      refine .region ?_
      refine .q (q_assign rfl) rfl ?_
      refine .nil ?_
      refine .seq ?_
      refine .seq ?_
      refine .region ?_
      refine .q (q_move rfl) rfl ?_
      refine .q (q_lenA Try.underlying63 rfl rfl) rfl ?_
      refine .q (q_move rfl) rfl ?_
      refine .nil ?_
      refine .block ?_
      have hk2' : k2 = rs.length := by omega
      subst hk2'
      have hks : keysOn (((rs.map (·.usage)).map (·.id)).take rs.length) (keysOn (us.map (·.id)) []) = keysU us (rs.map (·.usage)) := by rw [List.take_of_length_le (by simp)]; rfl
      have hkl := keysU_len us (rs.map (·.usage))
      simp only [List.length_map] at hkl
      refine .tok (i := 15) (e := 51) (sz := 4) rfl ?_
      refine .loop (ι := Nat × List (List D)) (fun (k3, rows) => [(6, .mp 0), (7, .mp 1), (8, .mp 2), (9, .mp 3), (15, .tsl 4 rows 0), (74, .d (slOf 1 rI (keysU us (rs.map (·.usage))))), (75, .d (cI (keysU us (rs.map (·.usage))).length)), (76, .d (cI k3))]) (fun (k3, rows) => ⟨[.map (mEnc iK cI e6), .map (mEnc iK cI e7), .map (mEnc iK uD e8), .map (mEnc iK uD e9)], [⟨51, 4, rows.length⟩]⟩) (fun (k3, rows) => k3 ≤ (keysU us (rs.map (·.usage))).length ∧ rows = ((((keysU us (rs.map (·.usage))).take k3).map (leakU us (rs.map (·.usage)))).flatten).map Leak.row) (fun (k3, rows) => (keysU us (rs.map (·.usage))).length - k3) (0, []) ⟨Nat.zero_le _, rfl⟩ (.cons rfl (.rfl' _) (.cons rfl (.rfl' _) (.cons rfl (.rfl' _) (.cons rfl (.rfl' _) (.cons rfl (.rfl' _) (.cons rfl (.eq (by rw [hks])) (.cons rfl (.eq (by rw [hks]; simp)) (.cons rfl (.rfl' _) (.nil))))))))) rfl ?_
      rintro ⟨k3, rows⟩ hL ih3
      have hk3 : k3 ≤ (keysU us (rs.map (·.usage))).length := hL.1
      have hrl : rows.length ≤ 1000000 := by (have h1 := flat_take_len (leakU_len us (rs.map (·.usage))) (keysU us (rs.map (·.usage))) k3; rw [hL.2, List.length_map]; omega)
      have hA := hI.2.all (nth (keysU us (rs.map (·.usage))) k3)
      have hB := CountU.all (us := (rs.map (·.usage))) (by simpa using hJ.2) (nth (keysU us (rs.map (·.usage))) k3)
      refine .seq ?_
      refine .region ?_
      refine .q (q_lss rfl rfl) rfl ?_
      refine .nil ?_
      refine .seq ?_
      refine .cond rfl (fun hc5 => ?_) (fun hc5 => ?_)
      · try simp at hc5
        refine .skip ?_
        refine .seq ?_
        refine .block ?_
        refine .seq ?_
        refine .region ?_
        refine .q (q_idxN Try.underlying63 hi3 hs3 rfl rfl rfl (by first | rfl | omega) (mapnth (by omega))) rfl ?_
        refine .q (q_load one_3 rfl) rfl ?_
        refine .q (q_assign rfl) rfl ?_
        refine .nil ?_
        refine .block ?_
        refine .seq ?_
        refine .region ?_
        refine .q (q_move rfl) rfl ?_
        refine .q (q_move rfl) rfl ?_
        refine .q (q_lookup (intKeys Try.underlying3) (a0 := default) Try.underlying64 hi3 hz3 rfl rfl rfl rfl) rfl ?_
        refine .q (q_move rfl) rfl ?_
        refine .q (q_move rfl) rfl ?_
        refine .q (q_lookup (intKeys Try.underlying3) (a0 := default) Try.underlying64 hi3 hz3 rfl rfl rfl rfl) rfl ?_
        refine .q (q_neq rfl rfl) rfl ?_
        refine .q (q_assign rfl) rfl ?_
        refine .nil ?_
        refine .cond rfl (fun hc6 => ?_) (fun hc6 => ?_)
        · try simp at hc6
          refine .region ?_
          refine .q (q_move rfl) rfl ?_
          refine .q (q_move rfl) rfl ?_
          refine .q (q_move rfl) rfl ?_
          refine .q (q_move rfl) rfl ?_
          refine .q (q_lookup (intKeys Try.underlying3) (a0 := default) Try.underlying64 hi3 hz3 rfl rfl rfl rfl) rfl ?_
          refine .q (q_move rfl) rfl ?_
          refine .q (q_move rfl) rfl ?_
          refine .q (q_lookup (intKeys Try.underlying3) (a0 := default) Try.underlying64 hi3 hz3 rfl rfl rfl rfl) rfl ?_
          refine .q (q_buildP pl_51 hi51 hz51 rfl rfl) rfl ?_
          refine .g (g_buildSlice1 Try.underlying26 hi51 hs51 hz51 rfl rfl rfl rfl rfl) rfl ?_
          refine .v (v_append Try.underlying26 hi51 hz51 hs51 rfl rfl rfl rfl rfl (by first | omega | (simp only [hb51]; simp; omega) | (simp; omega) | (simp only [hb51]; omega) | (simp only [hb51]; simp) | simp) (by first | omega | (simp only [hb51]; simp; omega) | (simp; omega) | (simp only [hb51]; omega) | (simp only [hb51]; simp) | simp)) rfl ?_
          refine .q (q_assign rfl) rfl ?_
          refine .nil ?_
          refine .inBlock ?_
          refine .inBlock ?_
          refine .region ?_
          refine .q (q_addI rfl rfl (by first | omega | (simp; omega)) (by first | omega | (simp; omega))) rfl ?_
          refine .q (q_move rfl) rfl ?_
          refine .nil ?_
          refine .sub (.cons rfl (.rfl' _) (.cons rfl (.rfl' _) (.cons rfl (.rfl' _) (.cons rfl (.rfl' _) (.cons rfl (.rfl' _) (.cons rfl (.rfl' _) (.cons rfl (.rfl' _) (.cons rfl (.rfl' _) (.nil))))))))) (ih3 (k3 + 1, _) ?_ (by show _ - (k3 + 1) < _ - k3; omega))
          refine ⟨by show k3 + 1 ≤ _; omega, ?_⟩
          rw [hL.2, flat_take (by omega), List.map_append]
          rw [leakU_ne hA.1 hB.1 hc6]; rfl
        · try simp at hc6
          refine .seq ?_
          refine .region ?_
          refine .q (q_move rfl) rfl ?_
          refine .q (q_move rfl) rfl ?_
          refine .q (q_lookup (intKeys Try.underlying3) (a0 := default) Try.underlying65 hi30 hz30 rfl rfl rfl rfl) rfl ?_
          refine .q (q_move rfl) rfl ?_
          refine .q (q_move rfl) rfl ?_
          refine .q (q_lookup (intKeys Try.underlying3) (a0 := default) Try.underlying65 hi30 hz30 rfl rfl rfl rfl) rfl ?_
          refine .q (q_stneq fk_30 rfl rfl (xs := ((alook e8 (nth (keysU us (rs.map (·.usage))) k3)).getD default).vals) (ys := ((alook e9 (nth (keysU us (rs.map (·.usage))) k3)).getD default).vals) rfl rfl rfl rfl) rfl ?_
          refine .q (q_assign rfl) rfl ?_
          refine .nil ?_
          refine .cond rfl (fun hc7 => ?_) (fun hc7 => ?_)
          · try simp at hc7
            refine .region ?_
            refine .q (q_move rfl) rfl ?_
            refine .q (q_move rfl) rfl ?_
            refine .q (q_move rfl) rfl ?_
            refine .q (q_move rfl) rfl ?_
            refine .q (q_lookup (intKeys Try.underlying3) (a0 := default) Try.underlying65 hi30 hz30 rfl rfl rfl rfl) rfl ?_
            refine .q (q_field Try.underlying30 rfl one_3 rfl rfl rfl) rfl ?_
            refine .q (q_move rfl) rfl ?_
            refine .q (q_move rfl) rfl ?_
            refine .q (q_lookup (intKeys Try.underlying3) (a0 := default) Try.underlying65 hi30 hz30 rfl rfl rfl rfl) rfl ?_
            refine .q (q_field Try.underlying30 rfl one_3 rfl rfl rfl) rfl ?_
            refine .q (q_buildP pl_51 hi51 hz51 rfl rfl) rfl ?_
            refine .g (g_buildSlice1 Try.underlying26 hi51 hs51 hz51 rfl rfl rfl rfl rfl) rfl ?_
            refine .v (v_append Try.underlying26 hi51 hz51 hs51 rfl rfl rfl rfl rfl (by first | omega | (simp only [hb51]; simp; omega) | (simp; omega) | (simp only [hb51]; omega) | (simp only [hb51]; simp) | simp) (by first | omega | (simp only [hb51]; simp; omega) | (simp; omega) | (simp only [hb51]; omega) | (simp only [hb51]; simp) | simp)) rfl ?_
            refine .q (q_assign rfl) rfl ?_
            refine .nil ?_
            refine .inBlock ?_
            refine .inBlock ?_
            refine .region ?_
            refine .q (q_addI rfl rfl (by first | omega | (simp; omega)) (by first | omega | (simp; omega))) rfl ?_
            refine .q (q_move rfl) rfl ?_
            refine .nil ?_
            refine .sub (.cons rfl (.rfl' _) (.cons rfl (.rfl' _) (.cons rfl (.rfl' _) (.cons rfl (.rfl' _) (.cons rfl (.rfl' _) (.cons rfl (.rfl' _) (.cons rfl (.rfl' _) (.cons rfl (.rfl' _) (.nil))))))))) (ih3 (k3 + 1, _) ?_ (by show _ - (k3 + 1) < _ - k3; omega))
            refine ⟨by show k3 + 1 ≤ _; omega, ?_⟩
            rw [hL.2, flat_take (by omega), List.map_append]
            rw [leakU_ch hA hB hc6 hc7]; rfl
          · try simp at hc7
            refine .skip ?_
            refine .inBlock ?_
            refine .inBlock ?_
            refine .region ?_
            refine .q (q_addI rfl rfl (by first | omega | (simp; omega)) (by first | omega | (simp; omega))) rfl ?_
            refine .q (q_move rfl) rfl ?_
            refine .nil ?_
            refine .sub (.cons rfl (.rfl' _) (.cons rfl (.rfl' _) (.cons rfl (.rfl' _) (.cons rfl (.rfl' _) (.cons rfl (.rfl' _) (.cons rfl (.rfl' _) (.cons rfl (.rfl' _) (.cons rfl (.rfl' _) (.nil))))))))) (ih3 (k3 + 1, _) ?_ (by show _ - (k3 + 1) < _ - k3; omega))
            refine ⟨by show k3 + 1 ≤ _; omega, ?_⟩
            rw [hL.2, flat_take (by omega), List.map_append]
            rw [leakU_eq hA hB hc6 hc7, List.append_nil]
      · try simp at hc5
        refine .exit rfl ?_
        refine .seq ?_
        refine .region ?_
        refine .q (q_move rfl) rfl ?_
        refine .q (q_assign rfl) rfl ?_
        refine .nil ?_
        refine .ret1 Try.func10 Try.results10 rfl ?_
        have hkl3 : k3 = (keysU us (rs.map (·.usage))).length := by omega
        subst hkl3
        exact .tsl (by rw [hL.2, List.take_length]; rfl)

end Go.Proofs.Ytpdanklncjopoab
