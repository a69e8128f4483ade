import Derived.Test.YtpdanklncjopoaaW7
import Derived.Test.YtpdanklncjopoaaPl5
set_option linter.unusedSimpArgs false
set_option linter.unusedVariables false
namespace Go.Proofs.Ytpdanklncjopoaa
open Go.RowKit Go.Abs

set_option maxRecDepth 100000 in
set_option maxHeartbeats 400000 in
theorem c_Invoices (rs : List Rated) (ls : List Line) (hr : rs.length ≤ 100000) (hl : ls.length ≤ 100000) : ACall Try.prog 21 [slOf 24 Rated.row rs, slOf 8 Line.row ls] (· = slOf 4 Leak.row (invF rs ls)) := by
  refine ACall.enter' Try.func21 rfl Try.ntmps21 rfl fun S hS => ?_
  obtain ⟨i3, hi3, hz3, hs3, hb3⟩ := in_3
  obtain ⟨i58, hi58, hz58, hs58, hb58⟩ := in_58
  obtain ⟨i64, hi64, hz64, hs64, hb64⟩ := in_64
  refine .seq ?_
  refine .region ?_
  refine .q (q_assign rfl) rfl ?_
  refine .nil ?_
  refine .seq ?_
  refine .region ?_
  refine .q (q_assign rfl) rfl ?_
  refine .nil ?_
  refine .seq ?_
  refine .region ?_
  refine .v (v_makeMap) rfl ?_
  refine .v (v_makeMap) rfl ?_
  refine .q (q_assign rfl) rfl ?_
  refine .q (q_assign rfl) rfl ?_
  refine .nil ?_
  refine .seq ?_
  refine .seq ?_
  refine .region ?_
  refine .q (q_move rfl) rfl ?_
  refine .q (q_lenA Try.underlying46 rfl rfl) rfl ?_
  refine .q (q_move rfl) rfl ?_
  refine .nil ?_
  refine .block ?_
  refine .loop (ι := Nat × List (Int × Int)) (fun (k, e6) => [(1, .d (slOf 8 Line.row ls)), (5, .d (slOf 1 rI (keysOn (fsts (owedL (rs.take k))) []))), (6, .mp 0), (7, .mp 1), (14, .d (slOf 24 Rated.row rs)), (15, .d (cI rs.length)), (16, .d (cI k))]) (fun (k, e6) => ⟨[.map (mEnc iK cI e6), .map []], []⟩) (fun (k, e6) => k ≤ rs.length ∧ SumA (owedL (rs.take k)) e6) (fun (k, e6) => rs.length - k) (0, []) ⟨Nat.zero_le _, SumA.nil⟩ (.cons rfl (.rfl' _) (.cons rfl (.nil 1) (.cons rfl (.rfl' _) (.cons rfl (.rfl' _) (.cons rfl (.rfl' _) (.cons rfl (.eq (by simp)) (.cons rfl (.rfl' _) (.nil)))))))) rfl ?_
  rintro ⟨k, e6⟩ hI ih
  have hk : k ≤ rs.length := hI.1
  refine .seq ?_
  refine .region ?_
  refine .q (q_lss rfl rfl) rfl ?_
  refine .nil ?_
  refine .seq ?_
  refine .cond rfl (fun hc1 => ?_) (fun hc1 => ?_)
  · try simp at hc1
    refine .skip ?_
    refine .seq ?_
    refine .block ?_
    refine .seq ?_
    refine .region ?_
    refine .q (q_idxN Try.underlying46 hi58 hs58 rfl rfl rfl (by first | rfl | omega) (mapnth (by omega))) rfl ?_
    refine .q (q_loadAll one_58 sz_58 rfl rfl) rfl ?_
    refine .v (v_alloc zr_58 rfl) rfl ?_
    refine .u (u_store rfl rfl rfl rfl (Nat.le_of_ble_eq_true rfl) sz_58) rfl ?_
    refine .nil ?_
    refine .seq ?_
    refine .region ?_
    refine .q (q_move rfl) rfl ?_
    refine .q (q_fieldRef fo_58_0 rfl) rfl ?_
    refine .q (q_fieldRef fo_52_3 rfl) rfl ?_
    refine .q (q_loadO one_3 rfl rfl rfl) rfl ?_
    refine .g (g_call en_34 rfl rfl (c_keys (keysOn (fsts (owedL (rs.take k))) []) (nth rs k).usage.sub (by have h := owedL_len (rs := rs) (k := k); omega) (keysOn_asc asc_nil))) rfl ?_
    refine .q (q_assign rfl) rfl ?_
    refine .nil ?_
    refine .region ?_
    refine .q (q_move rfl) rfl ?_
    refine .q (q_fieldRef fo_58_0 rfl) rfl ?_
    refine .q (q_fieldRef fo_52_3 rfl) rfl ?_
    refine .q (q_loadO one_3 rfl rfl rfl) rfl ?_
    refine .q (q_lookup (intKeys Try.underlying3) (a0 := default) Try.underlying101 hi3 hz3 rfl rfl rfl rfl) rfl ?_
    refine .q (q_fieldRef fo_58_12 rfl) rfl ?_
    refine .q (q_loadO one_3 rfl rfl rfl) rfl ?_
    refine .q (q_add rfl rfl rfl) rfl ?_
    refine .u (u_mapUpdate (intKeys Try.underlying3) Try.underlying101 rfl rfl rfl rfl rfl) rfl ?_
    refine .nil ?_
    refine .inBlock ?_
    refine .region ?_
    refine .q (q_addI rfl rfl (by first | omega | (simp; omega)) (by first | omega | (simp; omega))) rfl ?_
    refine .q (q_move rfl) rfl ?_
    refine .nil ?_
    refine .to 2 0 (.cons rfl (.rfl' _) (.cons rfl (.eq (by rw [owedL_take (by omega), fsts_snoc, keysOn_snoc])) (.cons rfl (.rfl' _) (.cons rfl (.rfl' _) (.cons rfl (.rfl' _) (.cons rfl (.rfl' _) (.cons rfl (.rfl' _) (.nil)))))))) rfl rfl rfl rfl (by refine Bool.and_eq_true_iff.2 ⟨rfl, ?_⟩; simp [okObj_mEnc, okObj_nil]) (by rw [hS]; exact Nat.zero_le _) (by rw [hS]; exact Nat.zero_le _) (ih (k + 1, _) ?_ (by show _ - (k + 1) < _ - k; omega))
    exact ⟨by show k + 1 ≤ _; omega, by rw [owedL_take (by omega)]; exact hI.2.snoc⟩
  · try simp at hc1
    refine .exit rfl ?_
    refine .seq ?_
    refine .seq ?_
    refine .region ?_
    refine .q (q_move rfl) rfl ?_
    refine .q (q_lenA Try.underlying62 rfl rfl) rfl ?_
    refine .q (q_move rfl) rfl ?_
    refine .nil ?_
    refine .block ?_
    have hk1 : k = rs.length := by omega
    subst hk1
    have hsA : SumA (owedL rs) e6 := by have h := hI.2; rw [List.take_length] at h; exact h
    refine .loop (ι := Nat × List (Int × Int)) (fun (k2, e7) => [(5, .d (slOf 1 rI (keysOn (fsts (lineL (ls.take k2))) (keysOn (fsts (owedL rs)) [])))), (6, .mp 0), (7, .mp 1), (34, .d (slOf 8 Line.row ls)), (35, .d (cI ls.length)), (36, .d (cI k2))]) (fun (k2, e7) => ⟨[.map (mEnc iK cI e6), .map (mEnc iK cI e7)], []⟩) (fun (k2, e7) => k2 ≤ ls.length ∧ SumA (lineL (ls.take k2)) e7) (fun (k2, e7) => ls.length - k2) (0, []) ⟨Nat.zero_le _, SumA.nil⟩ (.cons rfl (.eq (by rw [List.take_length]; rfl)) (.cons rfl (.rfl' _) (.cons rfl (.rfl' _) (.cons rfl (.rfl' _) (.cons rfl (.eq (by simp)) (.cons rfl (.rfl' _) (.nil))))))) rfl ?_
    rintro ⟨k2, e7⟩ hJ ih2
    have hk2 : k2 ≤ ls.length := hJ.1
    refine .seq ?_
    refine .region ?_
    refine .q (q_lss rfl rfl) rfl ?_
    refine .nil ?_
    refine .seq ?_
    refine .cond rfl (fun hc2 => ?_) (fun hc2 => ?_)
    · try simp at hc2
      refine .skip ?_
      refine .seq ?_
      refine .block ?_
      refine .seq ?_
      refine .region ?_
      refine .q (q_idxN Try.underlying62 hi64 hs64 rfl rfl rfl (by first | rfl | omega) (mapnth (by omega))) rfl ?_
      refine .q (q_loadAll one_64 sz_64 rfl rfl) rfl ?_
      refine .v (v_alloc zr_64 rfl) rfl ?_
      refine .u (u_store rfl rfl rfl rfl (Nat.le_of_ble_eq_true rfl) sz_64) rfl ?_
      refine .nil ?_
      refine .seq ?_
      refine .region ?_
      refine .q (q_fieldRef fo_64_0 rfl) rfl ?_
      refine .q (q_loadO one_3 rfl rfl rfl) rfl ?_
      refine .q (q_eql rfl rfl) rfl ?_
      refine .q (q_move rfl) rfl ?_
      refine .guardG (env' := [(11, _)]) rfl rfl rfl ⟨.inl rfl, trivial⟩ rfl (fun _ => (q_fieldRef fo_64_0 rfl).g) ?_
      refine .guardG (env' := [(44, _)]) rfl rfl rfl ⟨.inr (.inl rfl), trivial⟩ rfl (fun _ => (q_loadO one_3 rfl rfl rfl).g) ?_
      refine .guardG (env' := [(45, _)]) rfl rfl rfl ⟨.inr (.inl rfl), trivial⟩ rfl (fun _ => (q_eql rfl rfl).g) ?_
      refine .q (q_pickOr rfl rfl rfl) rfl ?_
      refine .nil ?_
      refine .cond rfl (fun hc3 => ?_) (fun hc3 => ?_)
      · skip
        have hch : charged (nth ls k2) = true := hc3
        refine .seq ?_
        refine .region ?_
        refine .q (q_move rfl) rfl ?_
        refine .q (q_fieldRef fo_64_1 rfl) rfl ?_
        refine .q (q_loadO one_3 rfl rfl rfl) rfl ?_
        refine .g (g_call en_34 rfl rfl (c_keys (keysOn (fsts (lineL (ls.take k2))) (keysOn (fsts (owedL rs)) [])) (nth ls k2).sub (by have h := lineL_len (rs := rs) (ls := ls) (k := k2); omega) (keysOn_asc (keysOn_asc asc_nil)))) rfl ?_
        refine .q (q_assign rfl) rfl ?_
        refine .nil ?_
        refine .region ?_
        refine .q (q_move rfl) rfl ?_
        refine .q (q_fieldRef fo_64_1 rfl) rfl ?_
        refine .q (q_loadO one_3 rfl rfl rfl) rfl ?_
        refine .q (q_lookup (intKeys Try.underlying3) (a0 := default) Try.underlying101 hi3 hz3 rfl rfl rfl rfl) rfl ?_
        refine .q (q_fieldRef fo_64_6 rfl) rfl ?_
        refine .q (q_loadO one_3 rfl rfl rfl) rfl ?_
        refine .q (q_add rfl rfl rfl) rfl ?_
        refine .u (u_mapUpdate (intKeys Try.underlying3) Try.underlying101 rfl rfl rfl rfl rfl) rfl ?_
        refine .nil ?_
        refine .inBlock ?_
        refine .region ?_
        refine .q (q_addI rfl rfl (by first | omega | (simp; omega)) (by first | omega | (simp; omega))) rfl ?_
        refine .q (q_move rfl) rfl ?_
        refine .nil ?_
        refine .to 2 0 (.cons rfl (.eq (by rw [lineL_yes (by omega) hch, fsts_snoc, keysOn_snoc])) (.cons rfl (.rfl' _) (.cons rfl (.rfl' _) (.cons rfl (.rfl' _) (.cons rfl (.rfl' _) (.cons rfl (.rfl' _) (.nil))))))) rfl rfl rfl rfl (by refine Bool.and_eq_true_iff.2 ⟨rfl, ?_⟩; simp [okObj_mEnc, okObj_nil]) (by rw [hS]; exact Nat.zero_le _) (by rw [hS]; exact Nat.zero_le _) (ih2 (k2 + 1, _) ?_ (by show _ - (k2 + 1) < _ - k2; omega))
        exact ⟨by show k2 + 1 ≤ _; omega, by rw [lineL_yes (by omega) hch]; exact hJ.2.snoc⟩
      · skip
        have hch : charged (nth ls k2) = false := hc3
        refine .skip ?_
        refine .inBlock ?_
        refine .region ?_
        refine .q (q_addI rfl rfl (by first | omega | (simp; omega)) (by first | omega | (simp; omega))) rfl ?_
        refine .q (q_move rfl) rfl ?_
        refine .nil ?_
        refine .to 2 0 (.cons rfl (.eq (by rw [lineL_no (by omega) hch])) (.cons rfl (.rfl' _) (.cons rfl (.rfl' _) (.cons rfl (.rfl' _) (.cons rfl (.rfl' _) (.cons rfl (.rfl' _) (.nil))))))) rfl rfl rfl rfl (by refine Bool.and_eq_true_iff.2 ⟨rfl, ?_⟩; simp [okObj_mEnc, okObj_nil]) (by rw [hS]; exact Nat.zero_le _) (by rw [hS]; exact Nat.zero_le _) (ih2 (k2 + 1, _) ?_ (by show _ - (k2 + 1) < _ - k2; omega))
        exact ⟨by show k2 + 1 ≤ _; omega, by rw [lineL_no (by omega) hch]; exact hJ.2⟩
    · try simp at hc2
      refine .exit rfl ?_
      refine .seq ?_
      refine .region ?_
      refine .q (q_move rfl) rfl ?_
      refine .q (q_move rfl) rfl ?_
      refine .q (q_move rfl) rfl ?_
      have hk2' : k2 = ls.length := by omega
      subst hk2'
      have hsB : SumA (lineL ls) e7 := by have h := hJ.2; rw [List.take_length] at h; exact h
      have hks : (keysOn (fsts (lineL (ls.take ls.length))) (keysOn (fsts (owedL rs)) [])) = keysI rs ls := by rw [List.take_length]; rfl
      have hkl := keysI_len rs ls
      refine .callS en_36 rfl rfl (c_differing 5 (keysOn (fsts (lineL (ls.take ls.length))) (keysOn (fsts (owedL rs)) [])) e6 e7 (by rw [hks]; omega)) (fun x st' hq => ?_)
      refine .q (q_assign rfl) rfl ?_
      refine .nil ?_
      refine .ret1 Try.func21 Try.results21 rfl ?_
      rw [hks, diff_inv hsA hsB] at hq
      exact hq

set_option maxRecDepth 100000 in
set_option maxHeartbeats 400000 in
theorem c_rInvoices (rs : List Rated) (ls : List Line) (hr : rs.length ≤ 100000) (hl : ls.length ≤ 100000) : ACall Try.prog 22 [slOf 24 Rated.row rs, slOf 8 Line.row ls] (· = slOf 4 Leak.row (invF rs ls)) := by
  refine ACall.enter' Try.func22 rfl Try.ntmps22 rfl fun S hS => ?_
  obtain ⟨i3, hi3, hz3, hs3, hb3⟩ := in_3
  obtain ⟨i58, hi58, hz58, hs58, hb58⟩ := in_58
  obtain ⟨i60, hi60, hz60, hs60, hb60⟩ := in_60
  obtain ⟨i64, hi64, hz64, hs64, hb64⟩ := in_64
  refine .seq ?_
  refine .region ?_
  refine .q (q_assign rfl) rfl ?_
  refine .nil ?_
  refine .seq ?_
  refine .region ?_
  refine .g (g_buildSlice0 Try.underlying100 hi3) rfl ?_
  refine .q (q_assign rfl) rfl ?_
  refine .nil ?_
  refine .seq ?_
  refine .seq ?_
  refine .region ?_
  refine .q (q_assign rfl) rfl ?_
  refine .nil ?_
  refine .block ?_
  refine .loop (ι := Nat) (fun k => [(0, .d (slOf 24 Rated.row rs)), (1, .d (slOf 8 Line.row ls)), (5, .d (slOf 1 rI (keysOn (fsts (owedL (rs.take k))) []))), (6, .d (cI k))]) (fun _ => ⟨[], []⟩) (fun k => k ≤ rs.length) (fun k => rs.length - k) 0 (Nat.zero_le _) (.cons rfl (.rfl' _) (.cons rfl (.rfl' _) (.cons rfl (by rw [hs3]; exact .e0 1) (.cons rfl (.rfl' _) (.nil))))) rfl ?_
  rintro k hI ih
  have hk : k ≤ rs.length := hI
  refine .seq ?_
  refine .seq ?_
  refine .region ?_
  refine .q (q_move rfl) rfl ?_
  refine .q (q_move rfl) rfl ?_
  refine .q (q_lenA Try.underlying46 rfl rfl) rfl ?_
  refine .q (q_lss rfl rfl) rfl ?_
  refine .nil ?_
  refine .cond rfl (fun hc1 => ?_) (fun hc1 => ?_)
  · try simp at hc1
    refine .skip ?_
    refine .seq ?_
    refine .block ?_
    refine .region ?_
    refine .q (q_move rfl) rfl ?_
    refine .q (q_move rfl) rfl ?_
    refine .q (q_move rfl) rfl ?_
    refine .q (q_idxN Try.underlying46 hi58 hs58 rfl rfl rfl (by first | rfl | omega) (mapnth (by omega))) rfl ?_
    refine .q (q_fieldRo fo_58_0 rfl) rfl ?_
    refine .q (q_fieldRo fo_52_3 rfl) rfl ?_
    refine .q (q_load one_3 rfl) rfl ?_
    refine .g (g_call en_35 rfl rfl (c_Keys (keysOn (fsts (owedL (rs.take k))) []) (nth rs k).usage.sub (by have h := owedL_len (rs := rs) (k := k); omega))) rfl ?_
    refine .q (q_assign rfl) rfl ?_
    refine .nil ?_
    refine .inBlock ?_
    refine .region ?_
    refine .q (q_move rfl) rfl ?_
    refine .q (q_addI rfl rfl (by first | omega | (simp; omega)) (by first | omega | (simp; omega))) rfl ?_
    refine .q (q_assign rfl) rfl ?_
    refine .nil ?_
    refine .sub (.cons rfl (.rfl' _) (.cons rfl (.rfl' _) (.cons rfl (.eq (by rw [owedL_take (by omega), fsts_snoc, keysOn_snoc])) (.cons rfl (.rfl' _) (.nil))))) (ih (k + 1) ?_ (by show _ - _ < _ - _; omega))
    omega
  · try simp at hc1
    refine .exit rfl ?_
    refine .seq ?_
    refine .seq ?_
    refine .region ?_
    refine .q (q_assign rfl) rfl ?_
    refine .nil ?_
    refine .block ?_
    have hk1 : k = rs.length := by omega
    subst hk1
    refine .loop (ι := Nat) (fun k2 => [(0, .d (slOf 24 Rated.row rs)), (1, .d (slOf 8 Line.row ls)), (5, .d (slOf 1 rI (keysOn (fsts (lineL (ls.take k2))) (keysOn (fsts (owedL rs)) [])))), (7, .d (cI k2))]) (fun _ => ⟨[], []⟩) (fun k2 => k2 ≤ ls.length) (fun k2 => ls.length - k2) 0 (Nat.zero_le _) (.cons rfl (.rfl' _) (.cons rfl (.rfl' _) (.cons rfl (.eq (by rw [List.take_length]; rfl)) (.cons rfl (.rfl' _) (.nil))))) rfl ?_
    rintro k2 hJ ih2
    have hk2 : k2 ≤ ls.length := hJ
    refine .seq ?_
    refine .seq ?_
    refine .region ?_
    refine .q (q_move rfl) rfl ?_
    refine .q (q_move rfl) rfl ?_
    refine .q (q_lenA Try.underlying62 rfl rfl) rfl ?_
    refine .q (q_lss rfl rfl) rfl ?_
    refine .nil ?_
    refine .cond rfl (fun hc2 => ?_) (fun hc2 => ?_)
    · try simp at hc2
      refine .skip ?_
      refine .seq ?_
      refine .block ?_
      refine .seq ?_
      refine .region ?_
      refine .q (q_move rfl) rfl ?_
      refine .q (q_move rfl) rfl ?_
      refine .q (q_idxN Try.underlying62 hi64 hs64 rfl rfl rfl (by first | rfl | omega) (mapnth (by omega))) rfl ?_
      refine .q (q_loadAll one_64 sz_64 rfl rfl) rfl ?_
      refine .g (g_call en_37 rfl rfl (c_rcharged (nth ls k2))) rfl ?_
      refine .nil ?_
      refine .cond rfl (fun hc3 => ?_) (fun hc3 => ?_)
      · skip
        have hch : charged (nth ls k2) = true := hc3
        refine .region ?_
        refine .q (q_move rfl) rfl ?_
        refine .q (q_move rfl) rfl ?_
        refine .q (q_move rfl) rfl ?_
        refine .q (q_idxN Try.underlying62 hi64 hs64 rfl rfl rfl (by first | rfl | omega) (mapnth (by omega))) rfl ?_
        refine .q (q_fieldRo fo_64_1 rfl) rfl ?_
        refine .q (q_load one_3 rfl) rfl ?_
        refine .g (g_call en_35 rfl rfl (c_Keys (keysOn (fsts (lineL (ls.take k2))) (keysOn (fsts (owedL rs)) [])) (nth ls k2).sub (by have h := lineL_len (rs := rs) (ls := ls) (k := k2); omega))) rfl ?_
        refine .q (q_assign rfl) rfl ?_
        refine .nil ?_
        refine .inBlock ?_
        refine .region ?_
        refine .q (q_move rfl) rfl ?_
        refine .q (q_addI rfl rfl (by first | omega | (simp; omega)) (by first | omega | (simp; omega))) rfl ?_
        refine .q (q_assign rfl) rfl ?_
        refine .nil ?_
        refine .sub (.cons rfl (.rfl' _) (.cons rfl (.rfl' _) (.cons rfl (.eq (by rw [lineL_yes (by omega) hch, fsts_snoc, keysOn_snoc])) (.cons rfl (.rfl' _) (.nil))))) (ih2 (k2 + 1) ?_ (by show _ - (k2 + 1) < _ - k2; omega))
        show k2 + 1 ≤ _; omega
      · skip
        have hch : charged (nth ls k2) = false := hc3
        refine .skip ?_
        refine .inBlock ?_
        refine .region ?_
        refine .q (q_move rfl) rfl ?_
        refine .q (q_addI rfl rfl (by first | omega | (simp; omega)) (by first | omega | (simp; omega))) rfl ?_
        refine .q (q_assign rfl) rfl ?_
        refine .nil ?_
        refine .sub (.cons rfl (.rfl' _) (.cons rfl (.rfl' _) (.cons rfl (.eq (by rw [lineL_no (by omega) hch])) (.cons rfl (.rfl' _) (.nil))))) (ih2 (k2 + 1) ?_ (by show _ - (k2 + 1) < _ - k2; omega))
        show k2 + 1 ≤ _; omega
    · try simp at hc2
      refine .exit rfl ?_
      refine .seq ?_
      refine .region ?_
      refine .v (v_build0T Try.underlying42 hi60 hs60) rfl ?_
      refine .q (q_assign rfl) rfl ?_
      refine .nil ?_
      refine .seq ?_
      refine .seq ?_
      refine .region ?_
      refine .q (q_assign rfl) rfl ?_
      refine .nil ?_
      refine .block ?_
      have hk2' : k2 = ls.length := by omega
      subst hk2'
      have hks : (keysOn (fsts (lineL (ls.take ls.length))) (keysOn (fsts (owedL rs)) [])) = keysI rs ls := by rw [List.take_length]; rfl
      have hkl := keysI_len rs ls
      refine .loop (ι := Nat × List (List D)) (fun (k3, rows) => [(0, .d (slOf 24 Rated.row rs)), (1, .d (slOf 8 Line.row ls)), (5, .d (slOf 1 rI (keysI rs ls))), (8, .tsl 4 rows 0), (9, .d (cI k3))]) (fun (k3, rows) => ⟨[], [⟨60, 4, rows.length⟩]⟩) (fun (k3, rows) => k3 ≤ (keysI rs ls).length ∧ rows = ((((keysI rs ls).take k3).map (leakS rs ls)).flatten).map Leak.row) (fun (k3, rows) => (keysI rs ls).length - k3) (0, []) ⟨Nat.zero_le _, rfl⟩ (.cons rfl (.rfl' _) (.cons rfl (.rfl' _) (.cons rfl (.eq (by rw [hks])) (.cons rfl (.rfl' _) (.cons rfl (.rfl' _) (.nil)))))) rfl ?_
      rintro ⟨k3, rows⟩ hL ih3
      have hk3 : k3 ≤ (keysI rs ls).length := hL.1
      have hrl : rows.length ≤ 1000000 := by (have h1 := flat_take_len (leakS_len rs ls) (keysI rs ls) k3; rw [hL.2, List.length_map]; omega)
      refine .seq ?_
      refine .seq ?_
      refine .region ?_
      refine .q (q_move rfl) rfl ?_
      refine .q (q_move rfl) rfl ?_
      refine .q (q_lenA Try.underlying100 rfl rfl) rfl ?_
      refine .q (q_lss rfl rfl) rfl ?_
      refine .nil ?_
      refine .cond rfl (fun hc4 => ?_) (fun hc4 => ?_)
      · try simp at hc4
        refine .skip ?_
        refine .seq ?_
        refine .block ?_
        refine .seq ?_
        refine .region ?_
        refine .q (q_assign rfl) rfl ?_
        refine .q (q_assign rfl) rfl ?_
        refine .nil ?_
        refine .seq ?_
        refine .seq ?_
        refine .region ?_
        refine .q (q_assign rfl) rfl ?_
        refine .nil ?_
        refine .block ?_
        refine .loop (ι := Nat) (fun k4 => [(0, .d (slOf 24 Rated.row rs)), (1, .d (slOf 8 Line.row ls)), (5, .d (slOf 1 rI (keysI rs ls))), (8, .tsl 4 rows 0), (9, .d (cI k3)), (10, .d (cI (sumOn (owedL (rs.take k4)) (nth (keysI rs ls) k3)))), (11, .d (cI 0)), (12, .d (cI k4))]) (fun _ => ⟨[], [⟨60, 4, rows.length⟩]⟩) (fun k4 => k4 ≤ rs.length) (fun k4 => rs.length - k4) 0 (Nat.zero_le _) (.cons rfl (.rfl' _) (.cons rfl (.rfl' _) (.cons rfl (.rfl' _) (.cons rfl (.rfl' _) (.cons rfl (.rfl' _) (.cons rfl (.rfl' _) (.cons rfl (.rfl' _) (.cons rfl (.rfl' _) (.nil))))))))) rfl ?_
        rintro k4 hM ih4
        have hk4 : k4 ≤ rs.length := hM
        refine .seq ?_
        refine .seq ?_
        refine .region ?_
        refine .q (q_move rfl) rfl ?_
        refine .q (q_move rfl) rfl ?_
        refine .q (q_lenA Try.underlying46 rfl rfl) rfl ?_
        refine .q (q_lss rfl rfl) rfl ?_
        refine .nil ?_
        refine .cond rfl (fun hc5 => ?_) (fun hc5 => ?_)
        · try simp at hc5
          refine .skip ?_
          refine .seq ?_
          refine .block ?_
          refine .seq ?_
          refine .drawn 11 hMix (by kernel_rfl) ?_
          show DOps _ _ _ _ _ _ _ (_ :: _) _ _ _
          refine .q (q_move rfl) rfl ?_
          refine .q (q_move rfl) rfl ?_
          refine .q (q_idxN Try.underlying46 hi58 hs58 rfl rfl rfl (by first | rfl | omega) (mapnth (by omega))) rfl ?_
          refine .q (q_fieldRo fo_58_0 rfl) rfl ?_
          refine .q (q_fieldRo fo_52_3 rfl) rfl ?_
          refine .q (q_load one_3 rfl) rfl ?_
          refine .q (q_move rfl) rfl ?_
          refine .q (q_move rfl) rfl ?_
          refine .q (q_idxN Try.underlying100 hi3 hs3 rfl rfl rfl (by first | rfl | omega) (mapnth (by omega))) rfl ?_
          refine .q (q_load one_3 rfl) rfl ?_
          refine .q (q_eql rfl rfl) rfl ?_
          refine .nil ?_
          show AOps _ _ _ _ _ _ [] _ _ _
          refine .nil ?_
          refine .cond rfl (fun hc6 => ?_) (fun hc6 => ?_)
          · try simp at hc6
            refine .region ?_
            refine .q (q_move rfl) rfl ?_
            refine .q (q_move rfl) rfl ?_
            refine .q (q_move rfl) rfl ?_
            refine .q (q_idxN Try.underlying46 hi58 hs58 rfl rfl rfl (by first | rfl | omega) (mapnth (by omega))) rfl ?_
            refine .q (q_fieldRo fo_58_12 rfl) rfl ?_
            refine .q (q_load one_3 rfl) rfl ?_
            refine .q (q_add rfl rfl rfl) rfl ?_
            refine .q (q_assign rfl) rfl ?_
            refine .nil ?_
            refine .inBlock ?_
            refine .region ?_
            refine .q (q_move rfl) rfl ?_
            refine .q (q_addI rfl rfl (by first | omega | (simp; omega)) (by first | omega | (simp; omega))) rfl ?_
            refine .q (q_assign rfl) rfl ?_
            refine .nil ?_
            refine .sub (.cons rfl (.rfl' _) (.cons rfl (.rfl' _) (.cons rfl (.rfl' _) (.cons rfl (.rfl' _) (.cons rfl (.rfl' _) (.cons rfl (.eq (by rw [owedL_take (by omega), sumOn_yes hc6])) (.cons rfl (.rfl' _) (.cons rfl (.rfl' _) (.nil))))))))) (ih4 (k4 + 1) ?_ (by show _ - (k4 + 1) < _ - k4; omega))
            show k4 + 1 ≤ _; omega
          · try simp at hc6
            refine .skip ?_
            refine .inBlock ?_
            refine .region ?_
            refine .q (q_move rfl) rfl ?_
            refine .q (q_addI rfl rfl (by first | omega | (simp; omega)) (by first | omega | (simp; omega))) rfl ?_
            refine .q (q_assign rfl) rfl ?_
            refine .nil ?_
            refine .sub (.cons rfl (.rfl' _) (.cons rfl (.rfl' _) (.cons rfl (.rfl' _) (.cons rfl (.rfl' _) (.cons rfl (.rfl' _) (.cons rfl (.eq (by rw [owedL_take (by omega), sumOn_no hc6])) (.cons rfl (.rfl' _) (.cons rfl (.rfl' _) (.nil))))))))) (ih4 (k4 + 1) ?_ (by show _ - (k4 + 1) < _ - k4; omega))
            show k4 + 1 ≤ _; omega
        · try simp at hc5
          refine .exit rfl ?_
          refine .seq ?_
          refine .seq ?_
          refine .region ?_
          refine .q (q_assign rfl) rfl ?_
          refine .nil ?_
          refine .block ?_
          have hk4' : k4 = rs.length := by omega
          subst hk4'
          refine .loop (ι := Nat) (fun k5 => [(0, .d (slOf 24 Rated.row rs)), (1, .d (slOf 8 Line.row ls)), (5, .d (slOf 1 rI (keysI rs ls))), (8, .tsl 4 rows 0), (9, .d (cI k3)), (10, .d (cI (sumOn (owedL rs) (nth (keysI rs ls) k3)))), (11, .d (cI (sumOn (lineL (ls.take k5)) (nth (keysI rs ls) k3)))), (13, .d (cI k5))]) (fun _ => ⟨[], [⟨60, 4, rows.length⟩]⟩) (fun k5 => k5 ≤ ls.length) (fun k5 => ls.length - k5) 0 (Nat.zero_le _) (.cons rfl (.rfl' _) (.cons rfl (.rfl' _) (.cons rfl (.rfl' _) (.cons rfl (.rfl' _) (.cons rfl (.rfl' _) (.cons rfl (.eq (by rw [List.take_length])) (.cons rfl (.rfl' _) (.cons rfl (.rfl' _) (.nil))))))))) rfl ?_
          rintro k5 hN ih5
          have hk5 : k5 ≤ ls.length := hN
          refine .seq ?_
          refine .seq ?_
          refine .region ?_
          refine .q (q_move rfl) rfl ?_
          refine .q (q_move rfl) rfl ?_
          refine .q (q_lenA Try.underlying62 rfl rfl) rfl ?_
          refine .q (q_lss rfl rfl) rfl ?_
          refine .nil ?_
          refine .cond rfl (fun hc7 => ?_) (fun hc7 => ?_)
          · try simp at hc7
            refine .skip ?_
            refine .seq ?_
            refine .block ?_
            refine .seq ?_
            refine .drawn 17 hMix (by kernel_rfl) ?_
            show DOps _ _ _ _ _ _ _ (_ :: _) _ _ _
            refine .q (q_move rfl) rfl ?_
            refine .q (q_move rfl) rfl ?_
            refine .q (q_idxN Try.underlying62 hi64 hs64 rfl rfl rfl (by first | rfl | omega) (mapnth (by omega))) rfl ?_
            refine .q (q_loadAll one_64 sz_64 rfl rfl) rfl ?_
            refine .g (g_call en_37 rfl rfl (c_rcharged (nth ls k5))) rfl ?_
            refine .q (q_move rfl) rfl ?_
            refine .guardG (env' := [(1, _)]) rfl rfl rfl ⟨.inl rfl, trivial⟩ rfl (fun _ => (q_move rfl).g) ?_
            refine .guardG (env' := [(13, _)]) rfl rfl rfl ⟨.inl rfl, trivial⟩ rfl (fun _ => (q_move rfl).g) ?_
            refine .guardG (env' := [(90, _), (91, _)]) rfl rfl rfl ⟨.inr (.inl rfl), ⟨.inr (.inl rfl), trivial⟩⟩ rfl (fun hg92 => by (try simp at hg92); exact (q_idxN Try.underlying62 hi64 hs64 rfl rfl rfl (by first | rfl | omega) (mapnth (by omega))).g) ?_
            refine .guardG (env' := [(92, _)]) rfl rfl rfl ⟨.inr (.inl rfl), trivial⟩ rfl (fun _ => (q_fieldRo fo_64_1 rfl).g) ?_
            refine .guardG (env' := [(93, _)]) rfl rfl rfl ⟨.inr (.inl rfl), trivial⟩ rfl (fun _ => (q_load one_3 rfl).g) ?_
            refine .guardG (env' := [(5, _)]) rfl rfl rfl ⟨.inl rfl, trivial⟩ rfl (fun _ => (q_move rfl).g) ?_
            refine .guardG (env' := [(9, _)]) rfl rfl rfl ⟨.inl rfl, trivial⟩ rfl (fun _ => (q_move rfl).g) ?_
            refine .guardG (env' := [(95, _), (96, _)]) rfl rfl rfl ⟨.inr (.inl rfl), ⟨.inr (.inl rfl), trivial⟩⟩ rfl (fun hg97 => by (try simp at hg97); exact (q_idxN Try.underlying100 hi3 hs3 rfl rfl rfl (by first | rfl | omega) (mapnth (by omega))).g) ?_
            refine .guardG (env' := [(97, _)]) rfl rfl rfl ⟨.inr (.inl rfl), trivial⟩ rfl (fun _ => (q_load one_3 rfl).g) ?_
            refine .guardG (env' := [(94, _), (98, _)]) rfl rfl rfl ⟨.inr (.inl rfl), ⟨.inr (.inl rfl), trivial⟩⟩ rfl (fun _ => (q_eql rfl rfl).g) ?_
            refine .q (q_pickAnd rfl rfl rfl) rfl ?_
            refine .nil ?_
            show AOps _ _ _ _ _ _ [] _ _ _
            refine .nil ?_
            refine .cond rfl (fun hc8 => ?_) (fun hc8 => ?_)
            · try simp at hc8
              refine .region ?_
              refine .q (q_move rfl) rfl ?_
              refine .q (q_move rfl) rfl ?_
              refine .q (q_move rfl) rfl ?_
              refine .q (q_idxN Try.underlying62 hi64 hs64 rfl rfl rfl (by first | rfl | omega) (mapnth (by omega))) rfl ?_
              refine .q (q_fieldRo fo_64_6 rfl) rfl ?_
              refine .q (q_load one_3 rfl) rfl ?_
              refine .q (q_add rfl rfl rfl) rfl ?_
              refine .q (q_assign rfl) rfl ?_
              refine .nil ?_
              refine .inBlock ?_
              refine .region ?_
              refine .q (q_move rfl) rfl ?_
              refine .q (q_addI rfl rfl (by first | omega | (simp; omega)) (by first | omega | (simp; omega))) rfl ?_
              refine .q (q_assign rfl) rfl ?_
              refine .nil ?_
              refine .sub (.cons rfl (.rfl' _) (.cons rfl (.rfl' _) (.cons rfl (.rfl' _) (.cons rfl (.rfl' _) (.cons rfl (.rfl' _) (.cons rfl (.rfl' _) (.cons rfl (.eq (by rw [lineL_yes (by omega) hc8.1, sumOn_yes hc8.2])) (.cons rfl (.rfl' _) (.nil))))))))) (ih5 (k5 + 1) ?_ (by show _ - (k5 + 1) < _ - k5; omega))
              show k5 + 1 ≤ _; omega
            · try simp at hc8
              refine .skip ?_
              refine .inBlock ?_
              refine .region ?_
              refine .q (q_move rfl) rfl ?_
              refine .q (q_addI rfl rfl (by first | omega | (simp; omega)) (by first | omega | (simp; omega))) rfl ?_
              refine .q (q_assign rfl) rfl ?_
              refine .nil ?_
              refine .sub (.cons rfl (.rfl' _) (.cons rfl (.rfl' _) (.cons rfl (.rfl' _) (.cons rfl (.rfl' _) (.cons rfl (.rfl' _) (.cons rfl (.rfl' _) (.cons rfl (.eq (by cases hch : charged (nth ls k5) with | true => rw [lineL_yes (by omega) hch, sumOn_no (hc8 hch)] | false => rw [lineL_no (by omega) hch])) (.cons rfl (.rfl' _) (.nil))))))))) (ih5 (k5 + 1) ?_ (by show _ - (k5 + 1) < _ - k5; omega))
              show k5 + 1 ≤ _; omega
          · try simp at hc7
            have hk5' : k5 = ls.length := by omega
            subst hk5'
            rw [List.take_length]
            refine .exit rfl ?_
            refine .seq ?_
            refine .region ?_
            refine .q (q_move rfl) rfl ?_
            refine .q (q_move rfl) rfl ?_
            refine .q (q_neq rfl rfl) rfl ?_
            refine .nil ?_
            refine .cond rfl (fun hc9 => ?_) (fun hc9 => ?_)
            · try simp at hc9
              refine .region ?_
              refine .q (q_move rfl) rfl ?_
              refine .q (q_move rfl) rfl ?_
              refine .q (q_move rfl) rfl ?_
              refine .q (q_idxN Try.underlying100 hi3 hs3 rfl rfl rfl (by first | rfl | omega) (mapnth (by omega))) rfl ?_
              refine .q (q_load one_3 rfl) rfl ?_
              refine .q (q_move rfl) rfl ?_
              refine .q (q_move rfl) rfl ?_
              refine .q (q_buildP pl_60 hi60 hz60 rfl rfl) rfl ?_
              refine .g (g_buildSlice1 Try.underlying42 hi60 hs60 hz60 rfl rfl rfl rfl rfl) rfl ?_
              refine .v (v_append Try.underlying42 hi60 hz60 hs60 rfl rfl rfl rfl rfl (by first | omega | (simp only [hb60]; simp; omega) | (simp; omega) | (simp only [hb60]; omega) | (simp only [hb60]; simp) | simp) (by first | omega | (simp only [hb60]; simp; omega) | (simp; omega) | (simp only [hb60]; omega) | (simp only [hb60]; simp) | simp)) rfl ?_
              refine .q (q_assign rfl) rfl ?_
              refine .nil ?_
              refine .inBlock ?_
              refine .region ?_
              refine .q (q_move rfl) rfl ?_
              refine .q (q_addI rfl rfl (by first | omega | (simp; omega)) (by first | omega | (simp; omega))) rfl ?_
              refine .q (q_assign rfl) rfl ?_
              refine .nil ?_
              refine .sub (.cons rfl (.rfl' _) (.cons rfl (.rfl' _) (.cons rfl (.rfl' _) (.cons rfl (.rfl' _) (.cons rfl (.rfl' _) (.nil)))))) (ih3 (k3 + 1, _) ?_ (by show _ - (k3 + 1) < _ - k3; omega))
              refine ⟨by show k3 + 1 ≤ _; omega, ?_⟩
              rw [hL.2, flat_take (by omega), List.map_append]
              rw [leakS, if_neg hc9]; rfl
            · try simp at hc9
              refine .skip ?_
              refine .inBlock ?_
              refine .region ?_
              refine .q (q_move rfl) rfl ?_
              refine .q (q_addI rfl rfl (by first | omega | (simp; omega)) (by first | omega | (simp; omega))) rfl ?_
              refine .q (q_assign rfl) rfl ?_
              refine .nil ?_
              refine .sub (.cons rfl (.rfl' _) (.cons rfl (.rfl' _) (.cons rfl (.rfl' _) (.cons rfl (.rfl' _) (.cons rfl (.rfl' _) (.nil)))))) (ih3 (k3 + 1, _) ?_ (by show _ - (k3 + 1) < _ - k3; omega))
              refine ⟨by show k3 + 1 ≤ _; omega, ?_⟩
              rw [hL.2, flat_take (by omega), List.map_append]
              rw [leakS, if_pos hc9, List.map_nil, List.append_nil]
      · try simp at hc4
        refine .exit rfl ?_
        refine .seq ?_
        refine .region ?_
        refine .q (q_move rfl) rfl ?_
        refine .q (q_assign rfl) rfl ?_
        refine .nil ?_
        refine .ret1 Try.func22 Try.results22 rfl ?_
        have hkl3 : k3 = (keysI rs ls).length := by omega
        subst hkl3
        exact .tsl (by rw [hL.2, List.take_length]; rfl)

end Go.Proofs.Ytpdanklncjopoaa
