import Derived.Test.YtpdanklncjopoabW7
import Derived.Test.YtpdanklncjopoabPl5
set_option linter.unusedSimpArgs false
set_option linter.unusedVariables false
namespace Go.Proofs.Ytpdanklncjopoab
open Go.RowKit Go.Abs

set_option maxRecDepth 100000 in
set_option maxHeartbeats 400000 in
theorem c_Invoices (rs : List Rated) (ls : List Line) (hr : rs.length ≤ 100000) (hl : ls.length ≤ 100000) : ACall Try.prog 11 [slOf 24 Rated.row rs, slOf 8 Line.row ls] (· = slOf 4 Leak.row (invF rs ls)) := by
  refine ACall.enter' Try.func11 rfl Try.ntmps11 rfl fun S hS => ?_
  obtain ⟨i3, hi3, hz3, hs3, hb3⟩ := in_3
  obtain ⟨i36, hi36, hz36, hs36, hb36⟩ := in_36
  obtain ⟨i48, hi48, hz48, hs48, hb48⟩ := in_48
  refine .seq ?_
  refine .region ?_
  refine .q (q_assign rfl) rfl ?_
  refine .nil ?_
  refine .seq ?_
  refine .region ?_
  refine .q (q_assign rfl) rfl ?_
  refine .nil ?_
  refine .seq ?_
  refine .region ?_
  refine .v (v_makeMap) rfl ?_
  refine .v (v_makeMap) rfl ?_
  refine .q (q_assign rfl) rfl ?_
  refine .q (q_assign rfl) rfl ?_
  refine .nil ?_
  refine .seq ?_
  refine .seq ?_
  refine .region ?_
  refine .q (q_move rfl) rfl ?_
  refine .q (q_lenA Try.underlying22 rfl rfl) rfl ?_
  refine .q (q_move rfl) rfl ?_
  refine .nil ?_
  refine .block ?_
  refine .loop (ι := Nat × List (Int × Int)) (fun (k, e6) => [(1, .d (slOf 8 Line.row ls)), (5, .d (slOf 1 rI (keysOn (fsts (owedL (rs.take k))) []))), (6, .mp 0), (7, .mp 1), (14, .d (slOf 24 Rated.row rs)), (15, .d (cI rs.length)), (16, .d (cI k))]) (fun (k, e6) => ⟨[.map (mEnc iK cI e6), .map []], []⟩) (fun (k, e6) => k ≤ rs.length ∧ SumA (owedL (rs.take k)) e6) (fun (k, e6) => rs.length - k) (0, []) ⟨Nat.zero_le _, SumA.nil⟩ (.cons rfl (.rfl' _) (.cons rfl (.nil 1) (.cons rfl (.rfl' _) (.cons rfl (.rfl' _) (.cons rfl (.rfl' _) (.cons rfl (.eq (by simp)) (.cons rfl (.rfl' _) (.nil)))))))) rfl ?_
  rintro ⟨k, e6⟩ hI ih
  have hk : k ≤ rs.length := hI.1
  refine .seq ?_
  refine .region ?_
  refine .q (q_lss rfl rfl) rfl ?_
  refine .nil ?_
  refine .seq ?_
  refine .cond rfl (fun hc1 => ?_) (fun hc1 => ?_)
  · try simp at hc1
    refine .skip ?_
    refine .seq ?_
    refine .block ?_
    refine .seq ?_
    refine .region ?_
    refine .q (q_idxN Try.underlying22 hi36 hs36 rfl rfl rfl (by first | rfl | omega) (mapnth (by omega))) rfl ?_
    refine .q (q_loadAll one_36 sz_36 rfl rfl) rfl ?_
    refine .v (v_alloc zr_36 rfl) rfl ?_
    refine .u (u_store rfl rfl rfl rfl (Nat.le_of_ble_eq_true rfl) sz_36) rfl ?_
    refine .nil ?_
    refine .seq ?_
    refine .region ?_
    refine .q (q_move rfl) rfl ?_
    refine .q (q_fieldRef fo_36_0 rfl) rfl ?_
    refine .q (q_fieldRef fo_30_3 rfl) rfl ?_
    refine .q (q_loadO one_3 rfl rfl rfl) rfl ?_
    refine .g (g_call en_17 rfl rfl (c_keys (keysOn (fsts (owedL (rs.take k))) []) (nth rs k).usage.sub (by have h := owedL_len (rs := rs) (k := k); omega) (keysOn_asc asc_nil))) rfl ?_
    refine .q (q_assign rfl) rfl ?_
    refine .nil ?_
    refine .region ?_
    refine .q (q_move rfl) rfl ?_
    refine .q (q_fieldRef fo_36_0 rfl) rfl ?_
    refine .q (q_fieldRef fo_30_3 rfl) rfl ?_
    refine .q (q_loadO one_3 rfl rfl rfl) rfl ?_
    refine .q (q_lookup (intKeys Try.underlying3) (a0 := default) Try.underlying64 hi3 hz3 rfl rfl rfl rfl) rfl ?_
    refine .q (q_fieldRef fo_36_12 rfl) rfl ?_
    refine .q (q_loadO one_3 rfl rfl rfl) rfl ?_
    refine .q (q_add rfl rfl rfl) rfl ?_
    refine .u (u_mapUpdate (intKeys Try.underlying3) Try.underlying64 rfl rfl rfl rfl rfl) rfl ?_
    refine .nil ?_
    refine .inBlock ?_
    refine .region ?_
    refine .q (q_addI rfl rfl (by first | omega | (simp; omega)) (by first | omega | (simp; omega))) rfl ?_
    refine .q (q_move rfl) rfl ?_
    refine .nil ?_
    refine .to 2 0 (.cons rfl (.rfl' _) (.cons rfl (.eq (by rw [owedL_take (by omega), fsts_snoc, keysOn_snoc])) (.cons rfl (.rfl' _) (.cons rfl (.rfl' _) (.cons rfl (.rfl' _) (.cons rfl (.rfl' _) (.cons rfl (.rfl' _) (.nil)))))))) rfl rfl rfl rfl (by refine Bool.and_eq_true_iff.2 ⟨rfl, ?_⟩; simp [okObj_mEnc, okObj_nil]) (by rw [hS]; exact Nat.zero_le _) (by rw [hS]; exact Nat.zero_le _) (ih (k + 1, _) ?_ (by show _ - (k + 1) < _ - k; omega))
    exact ⟨by show k + 1 ≤ _; omega, by rw [owedL_take (by omega)]; exact hI.2.snoc⟩
  · try simp at hc1
    refine .exit rfl ?_
    refine .seq ?_
    refine .seq ?_
    refine .region ?_
    refine .q (q_move rfl) rfl ?_
    refine .q (q_lenA Try.underlying49 rfl rfl) rfl ?_
    refine .q (q_move rfl) rfl ?_
    refine .nil ?_
    refine .block ?_
    have hk1 : k = rs.length := by omega
    subst hk1
    have hsA : SumA (owedL rs) e6 := by have h := hI.2; rw [List.take_length] at h; exact h
    refine .loop (ι := Nat × List (Int × Int)) (fun (k2, e7) => [(5, .d (slOf 1 rI (keysOn (fsts (lineL (ls.take k2))) (keysOn (fsts (owedL rs)) [])))), (6, .mp 0), (7, .mp 1), (34, .d (slOf 8 Line.row ls)), (35, .d (cI ls.length)), (36, .d (cI k2))]) (fun (k2, e7) => ⟨[.map (mEnc iK cI e6), .map (mEnc iK cI e7)], []⟩) (fun (k2, e7) => k2 ≤ ls.length ∧ SumA (lineL (ls.take k2)) e7) (fun (k2, e7) => ls.length - k2) (0, []) ⟨Nat.zero_le _, SumA.nil⟩ (.cons rfl (.eq (by rw [List.take_length]; rfl)) (.cons rfl (.rfl' _) (.cons rfl (.rfl' _) (.cons rfl (.rfl' _) (.cons rfl (.eq (by simp)) (.cons rfl (.rfl' _) (.nil))))))) rfl ?_
    rintro ⟨k2, e7⟩ hJ ih2
    have hk2 : k2 ≤ ls.length := hJ.1
    refine .seq ?_
    refine .region ?_
    refine .q (q_lss rfl rfl) rfl ?_
    refine .nil ?_
    refine .seq ?_
    refine .cond rfl (fun hc2 => ?_) (fun hc2 => ?_)
    · try simp at hc2
      refine .skip ?_
      refine .seq ?_
      refine .block ?_
      refine .seq ?_
      refine .region ?_
      refine .q (q_idxN Try.underlying49 hi48 hs48 rfl rfl rfl (by first | rfl | omega) (mapnth (by omega))) rfl ?_
      refine .q (q_loadAll one_48 sz_48 rfl rfl) rfl ?_
      refine .v (v_alloc zr_48 rfl) rfl ?_
      refine .u (u_store rfl rfl rfl rfl (Nat.le_of_ble_eq_true rfl) sz_48) rfl ?_
      refine .nil ?_
      refine .seq ?_
      refine .region ?_
      refine .q (q_fieldRef fo_48_0 rfl) rfl ?_
      refine .q (q_loadO one_3 rfl rfl rfl) rfl ?_
      refine .q (q_eql rfl rfl) rfl ?_
      refine .q (q_move rfl) rfl ?_
      refine .guardG (env' := [(11, _)]) rfl rfl rfl ⟨.inl rfl, trivial⟩ rfl (fun _ => (q_fieldRef fo_48_0 rfl).g) ?_
      refine .guardG (env' := [(44, _)]) rfl rfl rfl ⟨.inr (.inl rfl), trivial⟩ rfl (fun _ => (q_loadO one_3 rfl rfl rfl).g) ?_
      refine .guardG (env' := [(45, _)]) rfl rfl rfl ⟨.inr (.inl rfl), trivial⟩ rfl (fun _ => (q_eql rfl rfl).g) ?_
      refine .q (q_pickOr rfl rfl rfl) rfl ?_
      refine .nil ?_
      refine .cond rfl (fun hc3 => ?_) (fun hc3 => ?_)
      · skip
        have hch : charged (nth ls k2) = true := hc3
        refine .seq ?_
        refine .region ?_
        refine .q (q_move rfl) rfl ?_
        refine .q (q_fieldRef fo_48_1 rfl) rfl ?_
        refine .q (q_loadO one_3 rfl rfl rfl) rfl ?_
        refine .g (g_call en_17 rfl rfl (c_keys (keysOn (fsts (lineL (ls.take k2))) (keysOn (fsts (owedL rs)) [])) (nth ls k2).sub (by have h := lineL_len (rs := rs) (ls := ls) (k := k2); omega) (keysOn_asc (keysOn_asc asc_nil)))) rfl ?_
        refine .q (q_assign rfl) rfl ?_
        refine .nil ?_
        refine .region ?_
        refine .q (q_move rfl) rfl ?_
        refine .q (q_fieldRef fo_48_1 rfl) rfl ?_
        refine .q (q_loadO one_3 rfl rfl rfl) rfl ?_
        refine .q (q_lookup (intKeys Try.underlying3) (a0 := default) Try.underlying64 hi3 hz3 rfl rfl rfl rfl) rfl ?_
        refine .q (q_fieldRef fo_48_6 rfl) rfl ?_
        refine .q (q_loadO one_3 rfl rfl rfl) rfl ?_
        refine .q (q_add rfl rfl rfl) rfl ?_
        refine .u (u_mapUpdate (intKeys Try.underlying3) Try.underlying64 rfl rfl rfl rfl rfl) rfl ?_
        refine .nil ?_
        refine .inBlock ?_
        refine .region ?_
        refine .q (q_addI rfl rfl (by first | omega | (simp; omega)) (by first | omega | (simp; omega))) rfl ?_
        refine .q (q_move rfl) rfl ?_
        refine .nil ?_
        refine .to 2 0 (.cons rfl (.eq (by rw [lineL_yes (by omega) hch, fsts_snoc, keysOn_snoc])) (.cons rfl (.rfl' _) (.cons rfl (.rfl' _) (.cons rfl (.rfl' _) (.cons rfl (.rfl' _) (.cons rfl (.rfl' _) (.nil))))))) rfl rfl rfl rfl (by refine Bool.and_eq_true_iff.2 ⟨rfl, ?_⟩; simp [okObj_mEnc, okObj_nil]) (by rw [hS]; exact Nat.zero_le _) (by rw [hS]; exact Nat.zero_le _) (ih2 (k2 + 1, _) ?_ (by show _ - (k2 + 1) < _ - k2; omega))
        exact ⟨by show k2 + 1 ≤ _; omega, by rw [lineL_yes (by omega) hch]; exact hJ.2.snoc⟩
      · skip
        have hch : charged (nth ls k2) = false := hc3
        refine .skip ?_
        refine .inBlock ?_
        refine .region ?_
        refine .q (q_addI rfl rfl (by first | omega | (simp; omega)) (by first | omega | (simp; omega))) rfl ?_
        refine .q (q_move rfl) rfl ?_
        refine .nil ?_
        refine .to 2 0 (.cons rfl (.eq (by rw [lineL_no (by omega) hch])) (.cons rfl (.rfl' _) (.cons rfl (.rfl' _) (.cons rfl (.rfl' _) (.cons rfl (.rfl' _) (.cons rfl (.rfl' _) (.nil))))))) rfl rfl rfl rfl (by refine Bool.and_eq_true_iff.2 ⟨rfl, ?_⟩; simp [okObj_mEnc, okObj_nil]) (by rw [hS]; exact Nat.zero_le _) (by rw [hS]; exact Nat.zero_le _) (ih2 (k2 + 1, _) ?_ (by show _ - (k2 + 1) < _ - k2; omega))
        exact ⟨by show k2 + 1 ≤ _; omega, by rw [lineL_no (by omega) hch]; exact hJ.2⟩
    · try simp at hc2
      refine .exit rfl ?_
      refine .seq ?_
      refine .region ?_
      refine .q (q_move rfl) rfl ?_
      refine .q (q_move rfl) rfl ?_
      refine .q (q_move rfl) rfl ?_
      have hk2' : k2 = ls.length := by omega
      subst hk2'
      have hsB : SumA (lineL ls) e7 := by have h := hJ.2; rw [List.take_length] at h; exact h
      have hks : (keysOn (fsts (lineL (ls.take ls.length))) (keysOn (fsts (owedL rs)) [])) = keysI rs ls := by rw [List.take_length]; rfl
      have hkl := keysI_len rs ls
      refine .callS en_18 rfl rfl (c_differing 5 (keysOn (fsts (lineL (ls.take ls.length))) (keysOn (fsts (owedL rs)) [])) e6 e7 (by rw [hks]; omega)) (fun x st' hq => ?_)
      refine .q (q_assign rfl) rfl ?_
      refine .nil ?_
      refine .ret1 Try.func11 Try.results11 rfl ?_
      rw [hks, diff_inv hsA hsB] at hq
      exact hq


end Go.Proofs.Ytpdanklncjopoab
