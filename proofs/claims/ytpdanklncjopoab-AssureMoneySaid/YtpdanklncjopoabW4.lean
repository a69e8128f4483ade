import Derived.Test.YtpdanklncjopoabW3
import Derived.Test.YtpdanklncjopoabB9
set_option linter.unusedSimpArgs false
set_option linter.unusedVariables false
namespace Go.Proofs.Ytpdanklncjopoab
open Go.RowKit Go.Abs


set_option maxRecDepth 100000 in
set_option maxHeartbeats 400000 in
theorem c_Text (l : List Leak) (hl : l.length ≤ 1000000) (hok : ∀ k, k < l.length → (nth l k).ok) : ACall Try.prog 12 [slOf 4 Leak.row l] (· = cS (textF l)) := by
  refine ACall.enter' Try.func12 rfl Try.ntmps12 rfl fun S hS => ?_
  obtain ⟨i3, hi3, hz3, hs3, hb3⟩ := in_3
  obtain ⟨i5, hi5, hz5, hs5, hb5⟩ := in_5
  obtain ⟨i51, hi51, hz51, hs51, hb51⟩ := in_51
  obtain ⟨i70, hi70, hz70, hs70, hb70⟩ := in_70
  refine .seq ?_
  refine .region ?_
  refine .q (q_assign rfl) rfl ?_
  refine .nil ?_
  refine .seq ?_
  refine .region ?_
  refine .q (q_assign rfl) rfl ?_
  refine .nil ?_
  refine .seq ?_
  refine .seq ?_
  refine .region ?_
  refine .q (q_move rfl) rfl ?_
  refine .q (q_lenA Try.underlying26 rfl rfl) rfl ?_
  refine .q (q_move rfl) rfl ?_
  refine .nil ?_
  refine .block ?_
  refine .tok (i := 3) (e := 5) (sz := 1) rfl ?_
  refine .loop (ι := Nat × List (List D)) (fun (k, rows) => [(3, .tsl 1 rows 0), (8, .d (slOf 4 Leak.row l)), (9, .d (cI l.length)), (10, .d (cI k))]) (fun (k, rows) => ⟨[], [⟨5, 1, rows.length⟩]⟩) (fun (k, rows) => k ≤ l.length ∧ rows = byteRows (textF (l.take k))) (fun (k, rows) => l.length - k) (0, []) ⟨Nat.zero_le _, rfl⟩ (.cons rfl (.rfl' _) (.cons rfl (.rfl' _) (.cons rfl (.eq (by simp)) (.cons rfl (.rfl' _) (.nil))))) rfl ?_
  rintro ⟨k, rows⟩ hI ih
  have hk : k ≤ l.length := hI.1
  have hr : rows.length ≤ 80000000 := by rw [hI.2, byteRows_len]; exact textF_take_len hl
  refine .seq ?_
  refine .region ?_
  refine .q (q_lss rfl rfl) rfl ?_
  refine .nil ?_
  refine .seq ?_
  refine .cond rfl (fun hc1 => ?_) (fun hc1 => ?_)
  · try simp at hc1
    have l1 := nameF_len (nth l k).ctl
    refine .skip ?_
    refine .seq ?_
    refine .block ?_
    refine .seq ?_
    refine .region ?_
    refine .q (q_idxN Try.underlying26 hi51 hs51 rfl rfl rfl (by first | rfl | omega) (mapnth (by omega))) rfl ?_
    refine .q (q_loadAll one_51 sz_51 rfl rfl) rfl ?_
    refine .v (v_alloc zr_51 rfl) rfl ?_
    refine .u (u_store rfl rfl rfl rfl (Nat.le_of_ble_eq_true rfl) sz_51) rfl ?_
    refine .nil ?_
    refine .seq ?_
    refine .region ?_
    refine .q (q_move rfl) rfl ?_
    refine .q (q_fieldRef fo_51_0 rfl) rfl ?_
    refine .q (q_loadO one_3 rfl rfl rfl) rfl ?_
    refine .g (g_call en_19 rfl rfl (c_name (nth l k).ctl)) rfl ?_
    refine .v (v_appendStr Try.underlying68 Try.underlying9 hi5 hz5 hs5 rfl rfl rfl rfl (by first | omega | (simp only [hb5]; simp; omega) | (simp; omega) | (simp only [hb5]; omega) | (simp only [hb5]; simp) | simp) (by first | omega | (simp only [hb5]; simp; omega) | (simp; omega) | (simp only [hb5]; omega) | (simp only [hb5]; simp) | simp)) rfl ?_
    refine .q (q_assign rfl) rfl ?_
    refine .nil ?_
    refine .seq ?_
    refine .seq ?_
    refine .region ?_
    refine .q (q_fieldRef fo_51_1 rfl) rfl ?_
    refine .q (q_loadO one_3 rfl rfl rfl) rfl ?_
    refine .q (q_fieldRef fo_51_2 rfl) rfl ?_
    refine .q (q_loadO one_3 rfl rfl rfl) rfl ?_
    refine .q (q_fieldRef fo_51_3 rfl) rfl ?_
    refine .q (q_loadO one_3 rfl rfl rfl) rfl ?_
    refine .q (q_buildArr Try.underlying70 hi70 hz70 hi3 hs3 rfl rfl) rfl ?_
    refine .q (q_move rfl) rfl ?_
    refine .nil ?_
    refine .block ?_
    refine .loop (ι := Nat × List (List D)) (fun (j, rs) => [(3, .tsl 1 rs 0), (8, .d (slOf 4 Leak.row l)), (9, .d (cI l.length)), (10, .d (cI k)), (25, .d (.agg ((nth l k).nums.map cI))), (26, .d (cI j))]) (fun (j, rs) => ⟨[.row 51 ((nth l k).row.map .d)], [⟨5, 1, rs.length⟩]⟩) (fun (j, rs) => j ≤ 3 ∧ rs = byteRows (textF (l.take k) ++ nameF (nth l k).ctl ++ partF (nth l k) j)) (fun (j, rs) => 3 - j) (0, _) ⟨Nat.zero_le _, by rw [hI.2]; simp [byteRows_append, partF, byteRows_nil]⟩ (.cons rfl (.rfl' _) (.cons rfl (.rfl' _) (.cons rfl (.rfl' _) (.cons rfl (.rfl' _) (.cons rfl (.rfl' _) (.cons rfl (.rfl' _) (.nil))))))) rfl ?_
    rintro ⟨j, rs⟩ hJ ih2
    have hj : j ≤ 3 := hJ.1
    have hrs : rs.length ≤ 80000100 := by (have h1 := textF_take_len (k := k) hl; have h2 := partF_len (x := nth l k) hj; rw [hJ.2, byteRows_len]; simp; omega)
    refine .seq ?_
    refine .region ?_
    refine .q (q_lss rfl rfl) rfl ?_
    refine .nil ?_
    refine .seq ?_
    refine .cond rfl (fun hc2 => ?_) (fun hc2 => ?_)
    · try simp at hc2
      have hx := Leak.ok_nums (hok k (by omega)) (j := j) (by omega)
      have l2 := decF_len (nth (nth l k).nums j)
      refine .skip ?_
      refine .seq ?_
      refine .block ?_
      refine .seq ?_
      refine .region ?_
      refine .q (q_indexA (m := j) (c := cI (nth (nth l k).nums j)) Try.underlying70 one_3 hi3 hs3 rfl rfl (by first | rfl | omega) (by omega) (mapnth (by show j < 3; omega))) rfl ?_
      refine .q (q_assign rfl) rfl ?_
      refine .nil ?_
      refine .seq ?_
      refine .region ?_
      refine .q (q_move rfl) rfl ?_
      refine .g (g_buildSlice1 Try.underlying68 hi5 hs5 hz5 rfl rfl rfl rfl rfl) rfl ?_
      refine .v (v_append Try.underlying68 hi5 hz5 hs5 rfl rfl rfl rfl rfl (by first | omega | (simp only [hb5]; simp; omega) | (simp; omega) | (simp only [hb5]; omega) | (simp only [hb5]; simp) | simp) (by first | omega | (simp only [hb5]; simp; omega) | (simp; omega) | (simp only [hb5]; omega) | (simp only [hb5]; simp) | simp)) rfl ?_
      refine .q (q_assign rfl) rfl ?_
      refine .nil ?_
      refine .region ?_
      refine .q (q_move rfl) rfl ?_
      refine .q (q_move rfl) rfl ?_
      refine .g (g_call en_20 rfl rfl (c_decimal (nth (nth l k).nums j) hx.1 hx.2)) rfl ?_
      refine .v (v_appendStr Try.underlying68 Try.underlying9 hi5 hz5 hs5 rfl rfl rfl rfl (by first | omega | (simp only [hb5]; simp; omega) | (simp; omega) | (simp only [hb5]; omega) | (simp only [hb5]; simp) | simp) (by first | omega | (simp only [hb5]; simp; omega) | (simp; omega) | (simp only [hb5]; omega) | (simp only [hb5]; simp) | simp)) rfl ?_
      refine .q (q_assign rfl) rfl ?_
      refine .nil ?_
      refine .inBlock ?_
      refine .region ?_
      refine .q (q_addI rfl rfl (by first | omega | (simp; omega)) (by first | omega | (simp; omega))) rfl ?_
      refine .q (q_move rfl) rfl ?_
      refine .nil ?_
      refine .sub (.cons rfl (.rfl' _) (.cons rfl (.rfl' _) (.cons rfl (.rfl' _) (.cons rfl (.rfl' _) (.cons rfl (.rfl' _) (.cons rfl (.rfl' _) (.nil))))))) (ih2 (j + 1, _) ?_ (by show _ - (j + 1) < _ - j; omega))
      refine ⟨by show j + 1 ≤ _; omega, ?_⟩
      rw [hJ.2, partF_succ (by omega)]; simp [byteRows_append]; rfl
    · try simp at hc2
      refine .exit rfl ?_
      refine .region ?_
      refine .q (q_move rfl) rfl ?_
      refine .g (g_buildSlice1 Try.underlying68 hi5 hs5 hz5 rfl rfl rfl rfl rfl) rfl ?_
      refine .v (v_append Try.underlying68 hi5 hz5 hs5 rfl rfl rfl rfl rfl (by first | omega | (simp only [hb5]; simp; omega) | (simp; omega) | (simp only [hb5]; omega) | (simp only [hb5]; simp) | simp) (by first | omega | (simp only [hb5]; simp; omega) | (simp; omega) | (simp only [hb5]; omega) | (simp only [hb5]; simp) | simp)) rfl ?_
      refine .q (q_assign rfl) rfl ?_
      refine .nil ?_
      refine .inBlock ?_
      refine .region ?_
      refine .q (q_addI rfl rfl (by first | omega | (simp; omega)) (by first | omega | (simp; omega))) rfl ?_
      refine .q (q_move rfl) rfl ?_
      refine .nil ?_
      refine .to 0 1 (.cons rfl (.rfl' _) (.cons rfl (.rfl' _) (.cons rfl (.rfl' _) (.cons rfl (.rfl' _) (.nil))))) rfl rfl rfl rfl (rfl) (by rw [hS]; exact Nat.zero_le _) (by rw [hS]; exact Nat.zero_le _) (ih (k + 1, _) ?_ (by show _ - (k + 1) < _ - k; omega))
      refine ⟨by show k + 1 ≤ _; omega, ?_⟩
      rw [hJ.2, textF_take (by omega), leakText_eq, show j = 3 by omega]; simp [byteRows_append]; rfl
  · try simp at hc1
    refine .exit rfl ?_
    refine .seq ?_
    refine .region ?_
    refine .q (q_move rfl) rfl ?_
    refine .q (q_bytesStr (l := textF l) Try.underlying68 Try.underlying5 Try.underlying9 rfl (by rw [hI.2, show k = l.length by omega, List.take_length]; rfl)) rfl ?_
    refine .q (q_assign rfl) rfl ?_
    refine .nil ?_
    refine .ret1 Try.func12 Try.results12 rfl ?_
    exact .d rfl

end Go.Proofs.Ytpdanklncjopoab
