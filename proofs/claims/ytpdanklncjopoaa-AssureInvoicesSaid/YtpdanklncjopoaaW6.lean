import Derived.Test.YtpdanklncjopoaaW5
set_option linter.unusedSimpArgs false
set_option linter.unusedVariables false
namespace Go.Proofs.Ytpdanklncjopoaa
open Go.RowKit Go.Abs

set_option maxRecDepth 100000 in
set_option maxHeartbeats 400000 in
theorem c_rUsages (us : List Usage) (rs : List Rated) (hu : us.length ≤ 100000) (hr : rs.length ≤ 100000) : ACall Try.prog 20 [slOf 12 Usage.row us, slOf 24 Rated.row rs] (· = slOf 4 Leak.row (usagesF us (rs.map (·.usage)))) := by
  refine ACall.enter' Try.func20 rfl Try.ntmps20 rfl fun S hS => ?_
  obtain ⟨i3, hi3, hz3, hs3, hb3⟩ := in_3
  obtain ⟨i52, hi52, hz52, hs52, hb52⟩ := in_52
  obtain ⟨i58, hi58, hz58, hs58, hb58⟩ := in_58
  obtain ⟨i60, hi60, hz60, hs60, hb60⟩ := in_60
  refine .seq ?_
  refine .region ?_
  refine .q (q_assign rfl) rfl ?_
  refine .nil ?_
  refine .seq ?_
  refine .region ?_
  refine .g (g_buildSlice0 Try.underlying100 hi3) rfl ?_
  refine .q (q_assign rfl) rfl ?_
  refine .nil ?_
  refine .seq ?_
  refine .seq ?_
  refine .region ?_
  refine .q (q_assign rfl) rfl ?_
  refine .nil ?_
  refine .block ?_
  refine .loop (ι := Nat) (fun k => [(0, .d (slOf 12 Usage.row us)), (1, .d (slOf 24 Rated.row rs)), (5, .d (slOf 1 rI (keysOn ((us.map (·.id)).take k) []))), (6, .d (cI k))]) (fun _ => ⟨[], []⟩) (fun k => k ≤ us.length) (fun k => us.length - k) 0 (Nat.zero_le _) (.cons rfl (.rfl' _) (.cons rfl (.rfl' _) (.cons rfl (by rw [hs3]; exact .e0 1) (.cons rfl (.rfl' _) (.nil))))) rfl ?_
  rintro k hI ih
  have hk : k ≤ us.length := hI
  refine .seq ?_
  refine .seq ?_
  refine .region ?_
  refine .q (q_move rfl) rfl ?_
  refine .q (q_move rfl) rfl ?_
  refine .q (q_lenA Try.underlying31 rfl rfl) rfl ?_
  refine .q (q_lss rfl rfl) rfl ?_
  refine .nil ?_
  refine .cond rfl (fun hc1 => ?_) (fun hc1 => ?_)
  · try simp at hc1
    refine .skip ?_
    refine .seq ?_
    refine .block ?_
    refine .region ?_
    refine .q (q_move rfl) rfl ?_
    refine .q (q_move rfl) rfl ?_
    refine .q (q_move rfl) rfl ?_
    refine .q (q_idxN Try.underlying31 hi52 hs52 rfl rfl rfl (by first | rfl | omega) (mapnth (by omega))) rfl ?_
    refine .q (q_fieldRo fo_52_0 rfl) rfl ?_
    refine .q (q_load one_3 rfl) rfl ?_
    refine .g (g_call en_35 rfl rfl (c_Keys (keysOn ((us.map (·.id)).take k) []) (nth us k).id (by have h := keysOn_take_len (l := us.map (·.id)) (s := []) (k := k); simp only [List.length_map, List.length_nil] at h; omega))) rfl ?_
    refine .q (q_assign rfl) rfl ?_
    refine .nil ?_
    refine .inBlock ?_
    refine .region ?_
    refine .q (q_move rfl) rfl ?_
    refine .q (q_addI rfl rfl (by first | omega | (simp; omega)) (by first | omega | (simp; omega))) rfl ?_
    refine .q (q_assign rfl) rfl ?_
    refine .nil ?_
    refine .sub (.cons rfl (.rfl' _) (.cons rfl (.rfl' _) (.cons rfl (.eq (by rw [keysOn_take (by simp; omega), nth_map (by omega)])) (.cons rfl (.rfl' _) (.nil))))) (ih (k + 1) ?_ (by show _ - _ < _ - _; omega))
    omega
  · try simp at hc1
    refine .exit rfl ?_
    refine .seq ?_
    refine .seq ?_
    refine .region ?_
    refine .q (q_assign rfl) rfl ?_
    refine .nil ?_
    refine .block ?_
    have hk1 : k = us.length := by omega
    subst hk1
    refine .loop (ι := Nat) (fun k2 => [(0, .d (slOf 12 Usage.row us)), (1, .d (slOf 24 Rated.row rs)), (5, .d (slOf 1 rI (keysOn (((rs.map (·.usage)).map (·.id)).take k2) (keysOn (us.map (·.id)) [])))), (7, .d (cI k2))]) (fun _ => ⟨[], []⟩) (fun k2 => k2 ≤ rs.length) (fun k2 => rs.length - k2) 0 (Nat.zero_le _) (.cons rfl (.rfl' _) (.cons rfl (.rfl' _) (.cons rfl (.eq (by rw [List.take_of_length_le (by simp)]; rfl)) (.cons rfl (.rfl' _) (.nil))))) rfl ?_
    rintro k2 hJ ih2
    have hk2 : k2 ≤ rs.length := hJ
    refine .seq ?_
    refine .seq ?_
    refine .region ?_
    refine .q (q_move rfl) rfl ?_
    refine .q (q_move rfl) rfl ?_
    refine .q (q_lenA Try.underlying46 rfl rfl) rfl ?_
    refine .q (q_lss rfl rfl) rfl ?_
    refine .nil ?_
    refine .cond rfl (fun hc2 => ?_) (fun hc2 => ?_)
    · try simp at hc2
      refine .skip ?_
      refine .seq ?_
      refine .block ?_
      refine .region ?_
      refine .q (q_move rfl) rfl ?_
      refine .q (q_move rfl) rfl ?_
      refine .q (q_move rfl) rfl ?_
      refine .q (q_idxN Try.underlying46 hi58 hs58 rfl rfl rfl (by first | rfl | omega) (mapnth (by omega))) rfl ?_
      refine .q (q_fieldRo fo_58_0 rfl) rfl ?_
      refine .q (q_fieldRo fo_52_0 rfl) rfl ?_
      refine .q (q_load one_3 rfl) rfl ?_
      refine .g (g_call en_35 rfl rfl (c_Keys (keysOn (((rs.map (·.usage)).map (·.id)).take k2) (keysOn (us.map (·.id)) [])) (nth rs k2).usage.id (by have h := keysOn_take_len (l := (rs.map (·.usage)).map (·.id)) (s := keysOn (us.map (·.id)) []) (k := k2); have h2 := keysOn_len (us.map (·.id)) []; simp only [List.length_map, List.length_nil] at h h2; omega))) rfl ?_
      refine .q (q_assign rfl) rfl ?_
      refine .nil ?_
      refine .inBlock ?_
      refine .region ?_
      refine .q (q_move rfl) rfl ?_
      refine .q (q_addI rfl rfl (by first | omega | (simp; omega)) (by first | omega | (simp; omega))) rfl ?_
      refine .q (q_assign rfl) rfl ?_
      refine .nil ?_
      refine .sub (.cons rfl (.rfl' _) (.cons rfl (.rfl' _) (.cons rfl (.eq (by rw [keysOn_take (by simp; omega), nth_map (by simp; omega), nth_map (by omega)])) (.cons rfl (.rfl' _) (.nil))))) (ih2 (k2 + 1) ?_ (by show _ - _ < _ - _; omega))
      omega
    · try simp at hc2
      refine .exit rfl ?_
      refine .seq ?_
      refine .region ?_
      refine .v (v_build0T Try.underlying42 hi60 hs60) rfl ?_
      refine .q (q_assign rfl) rfl ?_
      refine .nil ?_
      refine .seq ?_
      refine .seq ?_
      refine .region ?_
      refine .q (q_assign rfl) rfl ?_
      refine .nil ?_
      refine .block ?_
      have hk2' : k2 = rs.length := by omega
      subst hk2'
      have hks : keysOn (((rs.map (·.usage)).map (·.id)).take rs.length) (keysOn (us.map (·.id)) []) = keysU us (rs.map (·.usage)) := by rw [List.take_of_length_le (by simp)]; rfl
      have hkl := keysU_len us (rs.map (·.usage))
      simp only [List.length_map] at hkl
      refine .loop (ι := Nat × List (List D)) (fun (k3, rows) => [(0, .d (slOf 12 Usage.row us)), (1, .d (slOf 24 Rated.row rs)), (5, .d (slOf 1 rI (keysU us (rs.map (·.usage))))), (8, .tsl 4 rows 0), (9, .d (cI k3))]) (fun (k3, rows) => ⟨[], [⟨60, 4, rows.length⟩]⟩) (fun (k3, rows) => k3 ≤ (keysU us (rs.map (·.usage))).length ∧ rows = ((((keysU us (rs.map (·.usage))).take k3).map (leakU us (rs.map (·.usage)))).flatten).map Leak.row) (fun (k3, rows) => (keysU us (rs.map (·.usage))).length - k3) (0, []) ⟨Nat.zero_le _, rfl⟩ (.cons rfl (.rfl' _) (.cons rfl (.rfl' _) (.cons rfl (.eq (by rw [hks])) (.cons rfl (.rfl' _) (.cons rfl (.rfl' _) (.nil)))))) rfl ?_
      rintro ⟨k3, rows⟩ hL ih3
      have hk3 : k3 ≤ (keysU us (rs.map (·.usage))).length := hL.1
      have hrl : rows.length ≤ 1000000 := by (have h1 := flat_take_len (leakU_len us (rs.map (·.usage))) (keysU us (rs.map (·.usage))) k3; rw [hL.2, List.length_map]; omega)
      refine .seq ?_
      refine .seq ?_
      refine .region ?_
      refine .q (q_move rfl) rfl ?_
      refine .q (q_move rfl) rfl ?_
      refine .q (q_lenA Try.underlying100 rfl rfl) rfl ?_
      refine .q (q_lss rfl rfl) rfl ?_
      refine .nil ?_
      refine .cond rfl (fun hc3 => ?_) (fun hc3 => ?_)
      · try simp at hc3
        refine .skip ?_
        refine .seq ?_
        refine .block ?_
        refine .seq ?_
        refine .region ?_
        refine .v (v_build0T Try.underlying31 hi52 hs52) rfl ?_
        refine .v (v_build0T Try.underlying31 hi52 hs52) rfl ?_
        refine .q (q_assign rfl) rfl ?_
        refine .q (q_assign rfl) rfl ?_
        refine .nil ?_
        refine .seq ?_
        refine .seq ?_
        refine .region ?_
        refine .q (q_assign rfl) rfl ?_
        refine .nil ?_
        refine .block ?_
        refine .loop (ι := Nat × List (List D)) (fun (k4, ra) => [(0, .d (slOf 12 Usage.row us)), (1, .d (slOf 24 Rated.row rs)), (5, .d (slOf 1 rI (keysU us (rs.map (·.usage))))), (8, .tsl 4 rows 0), (9, .d (cI k3)), (10, .tsl 12 ra 1), (11, .tsl 12 [] 2), (12, .d (cI k4))]) (fun (k4, ra) => ⟨[], [⟨60, 4, rows.length⟩, ⟨52, 12, ra.length⟩, ⟨52, 12, 0⟩]⟩) (fun (k4, ra) => k4 ≤ us.length ∧ ra = ((us.take k4).filter (idP (nth (keysU us (rs.map (·.usage))) k3))).map Usage.row) (fun (k4, ra) => us.length - k4) (0, []) ⟨Nat.zero_le _, rfl⟩ (.cons rfl (.rfl' _) (.cons rfl (.rfl' _) (.cons rfl (.rfl' _) (.cons rfl (.rfl' _) (.cons rfl (.rfl' _) (.cons rfl (.rfl' _) (.cons rfl (.rfl' _) (.cons rfl (.rfl' _) (.nil))))))))) rfl ?_
        rintro ⟨k4, ra⟩ hM ih4
        have hk4 : k4 ≤ us.length := hM.1
        have hral : ra.length ≤ 100000 := by rw [hM.2, List.length_map]; exact Nat.le_trans filter_take_le hu
        refine .seq ?_
        refine .seq ?_
        refine .region ?_
        refine .q (q_move rfl) rfl ?_
        refine .q (q_move rfl) rfl ?_
        refine .q (q_lenA Try.underlying31 rfl rfl) rfl ?_
        refine .q (q_lss rfl rfl) rfl ?_
        refine .nil ?_
        refine .cond rfl (fun hc4 => ?_) (fun hc4 => ?_)
        · try simp at hc4
          refine .skip ?_
          refine .seq ?_
          refine .block ?_
          refine .seq ?_
          refine .drawn 10 hMix (by kernel_rfl) ?_
          show DOps _ _ _ _ _ _ _ (_ :: _) _ _ _
          refine .q (q_move rfl) rfl ?_
          refine .q (q_move rfl) rfl ?_
          refine .q (q_idxN Try.underlying31 hi52 hs52 rfl rfl rfl (by first | rfl | omega) (mapnth (by omega))) rfl ?_
          refine .q (q_fieldRo fo_52_0 rfl) rfl ?_
          refine .q (q_load one_3 rfl) rfl ?_
          refine .q (q_move rfl) rfl ?_
          refine .q (q_move rfl) rfl ?_
          refine .q (q_idxN Try.underlying100 hi3 hs3 rfl rfl rfl (by first | rfl | omega) (mapnth (by omega))) rfl ?_
          refine .q (q_load one_3 rfl) rfl ?_
          refine .q (q_eql rfl rfl) rfl ?_
          refine .nil ?_
          show AOps _ _ _ _ _ _ [] _ _ _
          refine .nil ?_
          refine .cond rfl (fun hc5 => ?_) (fun hc5 => ?_)
          · try simp at hc5
            refine .region ?_
            refine .q (q_move rfl) rfl ?_
            refine .q (q_move rfl) rfl ?_
            refine .q (q_move rfl) rfl ?_
            refine .q (q_idxN Try.underlying31 hi52 hs52 rfl rfl rfl (by first | rfl | omega) (mapnth (by omega))) rfl ?_
            refine .q (q_loadAll one_52 sz_52 rfl rfl) rfl ?_
            refine .g (g_buildSlice1 Try.underlying31 hi52 hs52 hz52 rfl rfl rfl rfl rfl) rfl ?_
            refine .v (v_append Try.underlying31 hi52 hz52 hs52 rfl rfl rfl rfl rfl (by first | omega | (simp only [hb52]; simp; omega) | (simp; omega) | (simp only [hb52]; omega) | (simp only [hb52]; simp) | simp) (by first | omega | (simp only [hb52]; simp; omega) | (simp; omega) | (simp only [hb52]; omega) | (simp only [hb52]; simp) | simp)) rfl ?_
            refine .q (q_assign rfl) rfl ?_
            refine .nil ?_
            refine .inBlock ?_
            refine .region ?_
            refine .q (q_move rfl) rfl ?_
            refine .q (q_addI rfl rfl (by first | omega | (simp; omega)) (by first | omega | (simp; omega))) rfl ?_
            refine .q (q_assign rfl) rfl ?_
            refine .nil ?_
            refine .sub (.cons rfl (.rfl' _) (.cons rfl (.rfl' _) (.cons rfl (.rfl' _) (.cons rfl (.rfl' _) (.cons rfl (.rfl' _) (.cons rfl (.rfl' _) (.cons rfl (.rfl' _) (.cons rfl (.rfl' _) (.nil))))))))) (ih4 (k4 + 1, _) ?_ (by show _ - (k4 + 1) < _ - k4; omega))
            refine ⟨by show k4 + 1 ≤ _; omega, ?_⟩
            rw [hM.2, filter_yes (by omega) (by simp [idP, hc5]), List.map_append]; rfl
          · try simp at hc5
            refine .skip ?_
            refine .inBlock ?_
            refine .region ?_
            refine .q (q_move rfl) rfl ?_
            refine .q (q_addI rfl rfl (by first | omega | (simp; omega)) (by first | omega | (simp; omega))) rfl ?_
            refine .q (q_assign rfl) rfl ?_
            refine .nil ?_
            refine .sub (.cons rfl (.rfl' _) (.cons rfl (.rfl' _) (.cons rfl (.rfl' _) (.cons rfl (.rfl' _) (.cons rfl (.rfl' _) (.cons rfl (.rfl' _) (.cons rfl (.rfl' _) (.cons rfl (.rfl' _) (.nil))))))))) (ih4 (k4 + 1, _) ?_ (by show _ - (k4 + 1) < _ - k4; omega))
            refine ⟨by show k4 + 1 ≤ _; omega, ?_⟩
            rw [hM.2, filter_no (by omega) (by simp [idP, hc5])]
        · try simp at hc4
          refine .exit rfl ?_
          refine .seq ?_
          refine .seq ?_
          refine .region ?_
          refine .q (q_assign rfl) rfl ?_
          refine .nil ?_
          refine .block ?_
          have hk4' : k4 = us.length := by omega
          subst hk4'
          have hra : ra = (us.filter (idP (nth (keysU us (rs.map (·.usage))) k3))).map Usage.row := by rw [hM.2, List.take_length]
          subst hra
          refine .loop (ι := Nat × List (List D)) (fun (k5, rb) => [(0, .d (slOf 12 Usage.row us)), (1, .d (slOf 24 Rated.row rs)), (5, .d (slOf 1 rI (keysU us (rs.map (·.usage))))), (8, .tsl 4 rows 0), (9, .d (cI k3)), (10, .tsl 12 ((us.filter (idP (nth (keysU us (rs.map (·.usage))) k3))).map Usage.row) 1), (11, .tsl 12 rb 2), (13, .d (cI k5))]) (fun (k5, rb) => ⟨[], [⟨60, 4, rows.length⟩, ⟨52, 12, ((us.filter (idP (nth (keysU us (rs.map (·.usage))) k3))).map Usage.row).length⟩, ⟨52, 12, rb.length⟩]⟩) (fun (k5, rb) => k5 ≤ rs.length ∧ rb = (((rs.map (·.usage)).take k5).filter (idP (nth (keysU us (rs.map (·.usage))) k3))).map Usage.row) (fun (k5, rb) => rs.length - k5) (0, []) ⟨Nat.zero_le _, rfl⟩ (.cons rfl (.rfl' _) (.cons rfl (.rfl' _) (.cons rfl (.rfl' _) (.cons rfl (.rfl' _) (.cons rfl (.rfl' _) (.cons rfl (.rfl' _) (.cons rfl (.rfl' _) (.cons rfl (.rfl' _) (.nil))))))))) rfl ?_
          rintro ⟨k5, rb⟩ hN ih5
          have hk5 : k5 ≤ rs.length := hN.1
          have hrn : k5 < rs.length → nth (rs.map (·.usage)) k5 = (nth rs k5).usage := fun h => nth_map h
          have hrbl : rb.length ≤ 100000 := by rw [hN.2, List.length_map]; exact Nat.le_trans filter_take_le (by simpa using hr)
          refine .seq ?_
          refine .seq ?_
          refine .region ?_
          refine .q (q_move rfl) rfl ?_
          refine .q (q_move rfl) rfl ?_
          refine .q (q_lenA Try.underlying46 rfl rfl) rfl ?_
          refine .q (q_lss rfl rfl) rfl ?_
          refine .nil ?_
          refine .cond rfl (fun hc6 => ?_) (fun hc6 => ?_)
          · try simp at hc6
            refine .skip ?_
            refine .seq ?_
            refine .block ?_
            refine .seq ?_
            refine .drawn 11 hMix (by kernel_rfl) ?_
            show DOps _ _ _ _ _ _ _ (_ :: _) _ _ _
            refine .q (q_move rfl) rfl ?_
            refine .q (q_move rfl) rfl ?_
            refine .q (q_idxN Try.underlying46 hi58 hs58 rfl rfl rfl (by first | rfl | omega) (mapnth (by omega))) rfl ?_
            refine .q (q_fieldRo fo_58_0 rfl) rfl ?_
            refine .q (q_fieldRo fo_52_0 rfl) rfl ?_
            refine .q (q_load one_3 rfl) rfl ?_
            refine .q (q_move rfl) rfl ?_
            refine .q (q_move rfl) rfl ?_
            refine .q (q_idxN Try.underlying100 hi3 hs3 rfl rfl rfl (by first | rfl | omega) (mapnth (by omega))) rfl ?_
            refine .q (q_load one_3 rfl) rfl ?_
            refine .q (q_eql rfl rfl) rfl ?_
            refine .nil ?_
            show AOps _ _ _ _ _ _ [] _ _ _
            refine .nil ?_
            refine .cond rfl (fun hc7 => ?_) (fun hc7 => ?_)
            · try simp at hc7
              refine .region ?_
              refine .q (q_move rfl) rfl ?_
              refine .q (q_move rfl) rfl ?_
              refine .q (q_move rfl) rfl ?_
              refine .q (q_idxN Try.underlying46 hi58 hs58 rfl rfl rfl (by first | rfl | omega) (mapnth (by omega))) rfl ?_
              refine .q (q_fieldRo fo_58_0 rfl) rfl ?_
              refine .q (q_loadA (cs := (nth rs k5).row.drop 0) (n := 12) one_52 sz_52 (Nat.le_of_ble_eq_true rfl) rfl) rfl ?_
              refine .g (g_buildSlice1 Try.underlying31 hi52 hs52 hz52 rfl rfl rfl rfl rfl) rfl ?_
              refine .v (v_append Try.underlying31 hi52 hz52 hs52 rfl rfl rfl rfl rfl (by first | omega | (simp only [hb52]; simp; omega) | (simp; omega) | (simp only [hb52]; omega) | (simp only [hb52]; simp) | simp) (by first | omega | (simp only [hb52]; simp; omega) | (simp; omega) | (simp only [hb52]; omega) | (simp only [hb52]; simp) | simp)) rfl ?_
              refine .q (q_assign rfl) rfl ?_
              refine .nil ?_
              refine .inBlock ?_
              refine .region ?_
              refine .q (q_move rfl) rfl ?_
              refine .q (q_addI rfl rfl (by first | omega | (simp; omega)) (by first | omega | (simp; omega))) rfl ?_
              refine .q (q_assign rfl) rfl ?_
              refine .nil ?_
              refine .sub (.cons rfl (.rfl' _) (.cons rfl (.rfl' _) (.cons rfl (.rfl' _) (.cons rfl (.rfl' _) (.cons rfl (.rfl' _) (.cons rfl (.rfl' _) (.cons rfl (.rfl' _) (.cons rfl (.rfl' _) (.nil))))))))) (ih5 (k5 + 1, _) ?_ (by show _ - (k5 + 1) < _ - k5; omega))
              refine ⟨by show k5 + 1 ≤ _; omega, ?_⟩
              rw [hN.2, filter_yes (by simp; omega) (by rw [hrn (by omega)]; simp [idP, hc7]), List.map_append, hrn (by omega)]; rfl
            · try simp at hc7
              refine .skip ?_
              refine .inBlock ?_
              refine .region ?_
              refine .q (q_move rfl) rfl ?_
              refine .q (q_addI rfl rfl (by first | omega | (simp; omega)) (by first | omega | (simp; omega))) rfl ?_
              refine .q (q_assign rfl) rfl ?_
              refine .nil ?_
              refine .sub (.cons rfl (.rfl' _) (.cons rfl (.rfl' _) (.cons rfl (.rfl' _) (.cons rfl (.rfl' _) (.cons rfl (.rfl' _) (.cons rfl (.rfl' _) (.cons rfl (.rfl' _) (.cons rfl (.rfl' _) (.nil))))))))) (ih5 (k5 + 1, _) ?_ (by show _ - (k5 + 1) < _ - k5; omega))
              refine ⟨by show k5 + 1 ≤ _; omega, ?_⟩
              rw [hN.2, filter_no (by simp; omega) (by rw [hrn (by omega)]; simp [idP, hc7])]
          · try simp at hc6
            have hk5' : k5 = rs.length := by omega
            subst hk5'
            have hrb : rb = ((rs.map (·.usage)).filter (idP (nth (keysU us (rs.map (·.usage))) k3))).map Usage.row := by rw [hN.2, List.take_of_length_le (by simp)]
            subst hrb
            refine .exit rfl ?_
            refine .block ?_
            refine .seq ?_
            refine .region ?_
            refine .q (q_move rfl) rfl ?_
            refine .q (q_lenA Try.underlying31 rfl rfl) rfl ?_
            refine .q (q_move rfl) rfl ?_
            refine .q (q_lenA Try.underlying31 rfl rfl) rfl ?_
            refine .q (q_neq rfl rfl) rfl ?_
            refine .q (q_assign rfl) rfl ?_
            refine .nil ?_
            refine .cond rfl (fun hc8 => ?_) (fun hc8 => ?_)
            · skip
              have hne : ¬ ((us.filter (idP (nth (keysU us (rs.map (·.usage))) k3))).length : Int) = (((rs.map (·.usage)).filter (idP (nth (keysU us (rs.map (·.usage))) k3))).length : Int) := by simpa only [List.length_map, bne_iff_ne, ne_eq] using hc8
              refine .region ?_
              refine .q (q_move rfl) rfl ?_
              refine .q (q_move rfl) rfl ?_
              refine .q (q_move rfl) rfl ?_
              refine .q (q_idxN Try.underlying100 hi3 hs3 rfl rfl rfl (by first | rfl | omega) (mapnth (by omega))) rfl ?_
              refine .q (q_load one_3 rfl) rfl ?_
              refine .q (q_move rfl) rfl ?_
              refine .q (q_lenA Try.underlying31 rfl rfl) rfl ?_
              refine .q (q_move rfl) rfl ?_
              refine .q (q_lenA Try.underlying31 rfl rfl) rfl ?_
              refine .q (q_buildP pl_60 hi60 hz60 rfl rfl) rfl ?_
              refine .g (g_buildSlice1 Try.underlying42 hi60 hs60 hz60 rfl rfl rfl rfl rfl) rfl ?_
              refine .v (v_append Try.underlying42 hi60 hz60 hs60 rfl rfl rfl rfl rfl (by first | omega | (simp only [hb60]; simp; omega) | (simp; omega) | (simp only [hb60]; omega) | (simp only [hb60]; simp) | simp) (by first | omega | (simp only [hb60]; simp; omega) | (simp; omega) | (simp only [hb60]; omega) | (simp only [hb60]; simp) | simp)) rfl ?_
              refine .q (q_assign rfl) rfl ?_
              refine .nil ?_
              refine .inBlock ?_
              refine .inBlock ?_
              refine .region ?_
              refine .q (q_move rfl) rfl ?_
              refine .q (q_addI rfl rfl (by first | omega | (simp; omega)) (by first | omega | (simp; omega))) rfl ?_
              refine .q (q_assign rfl) rfl ?_
              refine .nil ?_
              refine .to 0 1 (.cons rfl (.rfl' _) (.cons rfl (.rfl' _) (.cons rfl (.rfl' _) (.cons rfl (.rfl' _) (.cons rfl (.rfl' _) (.nil)))))) rfl rfl rfl rfl (rfl) (by rw [hS]; exact Nat.zero_le _) (by rw [hS]; exact Nat.zero_le _) (ih3 (k3 + 1, _) ?_ (by show _ - (k3 + 1) < _ - k3; omega))
              refine ⟨by show k3 + 1 ≤ _; omega, ?_⟩
              rw [hL.2, flat_take (by omega), List.map_append]
              rw [leakU_ne rfl rfl hne]; simp [Leak.row]; rfl
            · skip
              have heq : ((us.filter (idP (nth (keysU us (rs.map (·.usage))) k3))).length : Int) = (((rs.map (·.usage)).filter (idP (nth (keysU us (rs.map (·.usage))) k3))).length : Int) := by simpa only [List.length_map, bne_eq_false_iff_eq] using hc8
              have hpos := keysU_pos (us := us) (ru := (rs.map (·.usage))) (k := k3) (by omega)
              have hp1 : 0 < (us.filter (idP (nth (keysU us (rs.map (·.usage))) k3))).length := by omega
              have hp2 : 0 < ((rs.map (·.usage)).filter (idP (nth (keysU us (rs.map (·.usage))) k3))).length := by omega
              refine .seq ?_
              refine .drawn 8 hMix (by kernel_rfl) ?_
              show DOps _ _ _ _ _ _ _ (_ :: _) _ _ _
              refine .q (q_move rfl) rfl ?_
              refine .q (q_idxN (n := 0) Try.underlying31 hi52 hs52 rfl rfl rfl (by first | rfl | omega) (mapnth (by omega))) rfl ?_
              refine .q (q_loadAll one_52 sz_52 rfl rfl) rfl ?_
              refine .q (q_move rfl) rfl ?_
              refine .q (q_idxN (n := 0) Try.underlying31 hi52 hs52 rfl rfl rfl (by first | rfl | omega) (mapnth (by omega))) rfl ?_
              refine .q (q_loadAll one_52 sz_52 rfl rfl) rfl ?_
              refine .q (q_stneq fk_52 rfl rfl (xs := (nth (us.filter (idP (nth (keysU us (rs.map (·.usage))) k3))) 0).vals) (ys := (nth ((rs.map (·.usage)).filter (idP (nth (keysU us (rs.map (·.usage))) k3))) 0).vals) rfl rfl rfl rfl) rfl ?_
              refine .q (q_assign rfl) rfl ?_
              refine .nil ?_
              show AOps _ _ _ _ _ _ [] _ _ _
              refine .nil ?_
              refine .cond rfl (fun hc9 => ?_) (fun hc9 => ?_)
              · try simp at hc9
                refine .drawn 15 hMix (by kernel_rfl) ?_
                show DOps _ _ _ _ _ _ _ (_ :: _) _ _ _
                refine .q (q_move rfl) rfl ?_
                refine .q (q_move rfl) rfl ?_
                refine .q (q_move rfl) rfl ?_
                refine .q (q_idxN Try.underlying100 hi3 hs3 rfl rfl rfl (by first | rfl | omega) (mapnth (by omega))) rfl ?_
                refine .q (q_load one_3 rfl) rfl ?_
                refine .q (q_move rfl) rfl ?_
                refine .q (q_idxN (n := 0) Try.underlying31 hi52 hs52 rfl rfl rfl (by first | rfl | omega) (mapnth (by omega))) rfl ?_
                refine .q (q_fieldRo fo_52_7 rfl) rfl ?_
                refine .q (q_load one_3 rfl) rfl ?_
                refine .q (q_move rfl) rfl ?_
                refine .q (q_idxN (n := 0) Try.underlying31 hi52 hs52 rfl rfl rfl (by first | rfl | omega) (mapnth (by omega))) rfl ?_
                refine .q (q_fieldRo fo_52_7 rfl) rfl ?_
                refine .q (q_load one_3 rfl) rfl ?_
                refine .q (q_buildP pl_60 hi60 hz60 rfl rfl) rfl ?_
                refine .g (g_buildSlice1 Try.underlying42 hi60 hs60 hz60 rfl rfl rfl rfl rfl) rfl ?_
                refine .nil ?_
                show AOps _ _ _ _ _ _ (_ :: _) _ _ _
                refine .v (v_append Try.underlying42 hi60 hz60 hs60 rfl rfl rfl rfl rfl (by first | omega | (simp only [hb60]; simp; omega) | (simp; omega) | (simp only [hb60]; omega) | (simp only [hb60]; simp) | simp) (by first | omega | (simp only [hb60]; simp; omega) | (simp; omega) | (simp only [hb60]; omega) | (simp only [hb60]; simp) | simp)) rfl ?_
                refine .q (q_assign rfl) rfl ?_
                refine .nil ?_
                refine .inBlock ?_
                refine .inBlock ?_
                refine .region ?_
                refine .q (q_move rfl) rfl ?_
                refine .q (q_addI rfl rfl (by first | omega | (simp; omega)) (by first | omega | (simp; omega))) rfl ?_
                refine .q (q_assign rfl) rfl ?_
                refine .nil ?_
                refine .to 0 1 (.cons rfl (.rfl' _) (.cons rfl (.rfl' _) (.cons rfl (.rfl' _) (.cons rfl (.rfl' _) (.cons rfl (.rfl' _) (.nil)))))) rfl rfl rfl rfl (rfl) (by rw [hS]; exact Nat.zero_le _) (by rw [hS]; exact Nat.zero_le _) (ih3 (k3 + 1, _) ?_ (by show _ - (k3 + 1) < _ - k3; omega))
                refine ⟨by show k3 + 1 ≤ _; omega, ?_⟩
                rw [hL.2, flat_take (by omega), List.map_append]
                rw [leakU_ch ⟨rfl, rfl⟩ ⟨rfl, rfl⟩ heq hc9]; rfl
              · try simp at hc9
                refine .skip ?_
                refine .inBlock ?_
                refine .inBlock ?_
                refine .region ?_
                refine .q (q_move rfl) rfl ?_
                refine .q (q_addI rfl rfl (by first | omega | (simp; omega)) (by first | omega | (simp; omega))) rfl ?_
                refine .q (q_assign rfl) rfl ?_
                refine .nil ?_
                refine .to 0 1 (.cons rfl (.rfl' _) (.cons rfl (.rfl' _) (.cons rfl (.rfl' _) (.cons rfl (.rfl' _) (.cons rfl (.rfl' _) (.nil)))))) rfl rfl rfl rfl (rfl) (by rw [hS]; exact Nat.zero_le _) (by rw [hS]; exact Nat.zero_le _) (ih3 (k3 + 1, _) ?_ (by show _ - (k3 + 1) < _ - k3; omega))
                refine ⟨by show k3 + 1 ≤ _; omega, ?_⟩
                rw [hL.2, flat_take (by omega), List.map_append]
                rw [leakU_eq ⟨rfl, rfl⟩ ⟨rfl, rfl⟩ heq hc9, List.append_nil]
      · try simp at hc3
        refine .exit rfl ?_
        refine .seq ?_
        refine .region ?_
        refine .q (q_move rfl) rfl ?_
        refine .q (q_assign rfl) rfl ?_
        refine .nil ?_
        refine .ret1 Try.func20 Try.results20 rfl ?_
        have hkl3 : k3 = (keysU us (rs.map (·.usage))).length := by omega
        subst hkl3
        exact .tsl (by rw [hL.2, List.take_length]; rfl)

end Go.Proofs.Ytpdanklncjopoaa
