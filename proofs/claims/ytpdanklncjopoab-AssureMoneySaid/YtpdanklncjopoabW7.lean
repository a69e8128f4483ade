import Derived.Test.YtpdanklncjopoabW6
import Derived.Test.YtpdanklncjopoabPl4
set_option linter.unusedSimpArgs false
set_option linter.unusedVariables false
namespace Go.Proofs.Ytpdanklncjopoab
open Go.RowKit Go.Abs

set_option maxRecDepth 100000 in
set_option maxHeartbeats 400000 in
theorem c_Count (l : List Rng) (hl : l.length ≤ 1000000000) : ACall Try.prog 27 [slOf 3 Rng.row l] (· = cI (countF l)) := by
  refine ACall.enter' Try.func27 rfl Try.ntmps27 rfl fun S hS => ?_
  obtain ⟨i84, hi84, hz84, hs84, hb84⟩ := in_84
  refine .seq ?_
  refine .region ?_
  refine .q (q_assign rfl) rfl ?_
  refine .nil ?_
  refine .seq ?_
  refine .region ?_
  refine .q (q_assign rfl) rfl ?_
  refine .nil ?_
  refine .seq ?_
  refine .seq ?_
  refine .region ?_
  refine .q (q_move rfl) rfl ?_
  refine .q (q_lenA Try.underlying54 rfl rfl) rfl ?_
  refine .q (q_move rfl) rfl ?_
  refine .nil ?_
  refine .block ?_
  refine .loop (ι := Nat) (fun k => [(3, .d (cI (countF (l.take k)))), (6, .d (slOf 3 Rng.row l)), (7, .d (cI l.length)), (8, .d (cI k))]) (fun _ => ⟨[], []⟩) (fun k => k ≤ l.length) (fun k => l.length - k) 0 (Nat.zero_le _) (.cons rfl (.rfl' _) (.cons rfl (.rfl' _) (.cons rfl (.eq (by simp)) (.cons rfl (.rfl' _) (.nil))))) rfl ?_
  rintro k hI ih
  have hk : k ≤ l.length := hI
  refine .seq ?_
  refine .region ?_
  refine .q (q_lss rfl rfl) rfl ?_
  refine .nil ?_
  refine .seq ?_
  refine .cond rfl (fun hc1 => ?_) (fun hc1 => ?_)
  · try simp at hc1
    refine .skip ?_
    refine .seq ?_
    refine .block ?_
    refine .seq ?_
    refine .region ?_
    refine .q (q_idxN Try.underlying54 hi84 hs84 rfl rfl rfl (by first | rfl | omega) (mapnth (by omega))) rfl ?_
    refine .q (q_loadAll one_84 sz_84 rfl rfl) rfl ?_
    refine .v (v_alloc zr_84 rfl) rfl ?_
    refine .u (u_store rfl rfl rfl rfl (Nat.le_of_ble_eq_true rfl) sz_84) rfl ?_
    refine .nil ?_
    refine .region ?_
    refine .q (q_move rfl) rfl ?_
    refine .q (q_fieldRef fo_84_2 rfl) rfl ?_
    refine .q (q_loadO one_3 rfl rfl rfl) rfl ?_
    refine .q (q_fieldRef fo_84_1 rfl) rfl ?_
    refine .q (q_loadO one_3 rfl rfl rfl) rfl ?_
    refine .q (q_sub rfl rfl rfl) rfl ?_
    refine .q (q_add rfl rfl rfl) rfl ?_
    refine .q (q_add rfl rfl rfl) rfl ?_
    refine .q (q_assign rfl) rfl ?_
    refine .nil ?_
    refine .inBlock ?_
    refine .region ?_
    refine .q (q_addI rfl rfl (by first | omega | (simp; omega)) (by first | omega | (simp; omega))) rfl ?_
    refine .q (q_move rfl) rfl ?_
    refine .nil ?_
    refine .to 0 0 (.cons rfl (.eq (by unfold countF; rw [foldl_take (by omega)])) (.cons rfl (.rfl' _) (.cons rfl (.rfl' _) (.cons rfl (.rfl' _) (.nil))))) rfl rfl rfl rfl (rfl) (by rw [hS]; exact Nat.zero_le _) (by rw [hS]; exact Nat.zero_le _) (ih (k + 1) ?_ (by show _ - _ < _ - _; omega))
    omega
  · try simp at hc1
    refine .exit rfl ?_
    refine .seq ?_
    refine .region ?_
    refine .q (q_move rfl) rfl ?_
    refine .q (q_assign rfl) rfl ?_
    refine .nil ?_
    refine .ret1 Try.func27 Try.results27 rfl ?_
    have hkl : k = l.length := by omega
    subst hkl
    exact .d (by rw [List.take_length])

set_option maxRecDepth 100000 in
set_option maxHeartbeats 400000 in
theorem c_Balance (m : Med) (h1 : m.seen.length ≤ 1000000000) (h2 : m.heads.length ≤ 1000000000) : ACall Try.prog 21 [.agg m.row] (· = .agg (balF m)) := by
  refine ACall.enter' Try.func21 rfl Try.ntmps21 rfl fun S hS => ?_
  obtain ⟨i72, hi72, hz72, hs72, hb72⟩ := in_72
  obtain ⟨i81, hi81, hz81, hs81, hb81⟩ := in_81
  refine .seq ?_
  refine .region ?_
  refine .v (v_box rfl rfl) rfl ?_
  refine .v (v_alloc zr_72 rfl) rfl ?_
  refine .nil ?_
  refine .seq ?_
  refine .region ?_
  refine .q (q_fieldRef fo_61_1 rfl) rfl ?_
  refine .q (q_loadO one_45 rfl rfl rfl) rfl ?_
  refine .q (q_lenA Try.underlying45 rfl rfl) rfl ?_
  refine .q (q_fieldRef fo_61_3 rfl) rfl ?_
  refine .q (q_loadO one_59 rfl rfl rfl) rfl ?_
  refine .q (q_lenA Try.underlying59 rfl rfl) rfl ?_
  refine .q (q_fieldRef fo_61_2 rfl) rfl ?_
  refine .q (q_loadO one_55 rfl rfl rfl) rfl ?_
  refine .q (q_lenA Try.underlying55 rfl rfl) rfl ?_
  refine .q (q_fieldRef fo_61_0 rfl) rfl ?_
  refine .q (q_fieldRef fo_58_1 rfl) rfl ?_
  refine .q (q_loadO one_55 rfl rfl rfl) rfl ?_
  refine .q (q_lenA Try.underlying55 rfl rfl) rfl ?_
  refine .q (q_buildP pl_72 hi72 hz72 rfl rfl) rfl ?_
  refine .v (v_alloc zr_72 rfl) rfl ?_
  refine .u (u_store rfl rfl rfl rfl (Nat.le_of_ble_eq_true rfl) sz_72) rfl ?_
  refine .nil ?_
  refine .seq ?_
  refine .seq ?_
  refine .region ?_
  refine .q (q_fieldRef fo_61_0 rfl) rfl ?_
  refine .q (q_fieldRef fo_58_2 rfl) rfl ?_
  refine .q (q_loadO one_56 rfl rfl rfl) rfl ?_
  refine .q (q_lenA Try.underlying56 rfl rfl) rfl ?_
  refine .q (q_move rfl) rfl ?_
  refine .nil ?_
  refine .block ?_
  refine .loop (ι := Nat) (fun k => [(1, .ref 0 0), (2, .ref 1 0), (3, .ref 2 0), (22, .d (slOf 4 Hd.row m.heads)), (23, .d (cI m.heads.length)), (24, .d (cI k))]) (fun k => ⟨[.row 61 (m.row.map .d), .row 72 [.d (cI 0), .d (cI 0), .d (cI 0), .d (cI 0), .d (cI 0), .d (cI 0)], .row 72 [.d (cI (readF (m.heads.take k))), .d (cI m.us.length), .d (cI 0), .d (cI m.rej.length), .d (cI m.susp.length), .d (cI m.opn.length)]], []⟩) (fun k => k ≤ m.heads.length) (fun k => m.heads.length - k) 0 (Nat.zero_le _) (.cons rfl (.rfl' _) (.cons rfl (.rfl' _) (.cons rfl (.rfl' _) (.cons rfl (.rfl' _) (.cons rfl (.eq (by simp)) (.cons rfl (.rfl' _) (.nil))))))) rfl ?_
  rintro k hI ih
  have hk : k ≤ m.heads.length := hI
  refine .seq ?_
  refine .region ?_
  refine .q (q_lss rfl rfl) rfl ?_
  refine .nil ?_
  refine .seq ?_
  refine .cond rfl (fun hc1 => ?_) (fun hc1 => ?_)
  · try simp at hc1
    refine .skip ?_
    refine .seq ?_
    refine .block ?_
    refine .seq ?_
    refine .region ?_
    refine .q (q_idxN Try.underlying56 hi81 hs81 rfl rfl rfl (by first | rfl | omega) (mapnth (by omega))) rfl ?_
    refine .q (q_loadAll one_81 sz_81 rfl rfl) rfl ?_
    refine .v (v_alloc zr_81 rfl) rfl ?_
    refine .u (u_store rfl rfl rfl rfl (Nat.le_of_ble_eq_true rfl) sz_81) rfl ?_
    refine .nil ?_
    refine .region ?_
    refine .q (q_fieldRef fo_72_0 rfl) rfl ?_
    refine .q (q_loadO one_3 rfl rfl rfl) rfl ?_
    refine .q (q_fieldRef fo_81_3 rfl) rfl ?_
    refine .q (q_loadO one_3 rfl rfl rfl) rfl ?_
    refine .q (q_add rfl rfl rfl) rfl ?_
    refine .q (q_fieldRef fo_72_0 rfl) rfl ?_
    refine .u (u_store rfl rfl rfl rfl (Nat.le_of_ble_eq_true rfl) sz_3) rfl ?_
    refine .nil ?_
    refine .inBlock ?_
    refine .region ?_
    refine .q (q_addI rfl rfl (by first | omega | (simp; omega)) (by first | omega | (simp; omega))) rfl ?_
    refine .q (q_move rfl) rfl ?_
    refine .nil ?_
    refine .to 3 0 (.cons rfl (.rfl' _) (.cons rfl (.rfl' _) (.cons rfl (.rfl' _) (.cons rfl (.rfl' _) (.cons rfl (.rfl' _) (.cons rfl (.rfl' _) (.nil))))))) (by unfold readF; rw [foldl_take (by omega)]; rfl) rfl rfl rfl (rfl) (by rw [hS]; exact Nat.zero_le _) (by rw [hS]; exact Nat.zero_le _) (ih (k + 1) ?_ (by show _ - _ < _ - _; omega))
    omega
  · try simp at hc1
    refine .exit rfl ?_
    refine .seq ?_
    refine .drawn 14 hMix (by kernel_rfl) ?_
    show DOps _ _ _ _ _ _ _ (_ :: _) _ _ _
    refine .q (q_fieldRef fo_61_0 rfl) rfl ?_
    refine .q (q_fieldRef fo_58_0 rfl) rfl ?_
    refine .q (q_loadO one_54 rfl rfl rfl) rfl ?_
    refine .g (g_call en_27 rfl rfl (c_Count m.seen h1)) rfl ?_
    refine .q (q_fieldRef fo_72_1 rfl) rfl ?_
    refine .q (q_loadO one_3 rfl rfl rfl) rfl ?_
    refine .q (q_sub rfl rfl rfl) rfl ?_
    refine .q (q_fieldRef fo_72_4 rfl) rfl ?_
    refine .q (q_loadO one_3 rfl rfl rfl) rfl ?_
    refine .q (q_sub rfl rfl rfl) rfl ?_
    refine .q (q_fieldRef fo_72_5 rfl) rfl ?_
    refine .q (q_loadO one_3 rfl rfl rfl) rfl ?_
    refine .q (q_sub rfl rfl rfl) rfl ?_
    refine .q (q_fieldRef fo_72_2 rfl) rfl ?_
    refine .nil ?_
    show AOps _ _ _ _ _ _ (_ :: _) _ _ _
    refine .u (u_store rfl rfl rfl rfl (Nat.le_of_ble_eq_true rfl) sz_3) rfl ?_
    refine .nil ?_
    refine .seq ?_
    refine .region ?_
    refine .q (q_loadOA one_72 sz_72 rfl rfl (Nat.le_of_ble_eq_true rfl) rfl) rfl ?_
    refine .u (u_store rfl rfl rfl rfl (Nat.le_of_ble_eq_true rfl) sz_72) rfl ?_
    refine .nil ?_
    refine .ret1C Try.func21 Try.results21 rfl (q_loadOA one_72 sz_72 rfl rfl (Nat.le_of_ble_eq_true rfl) rfl) ?_
    have hkl : k = m.heads.length := by omega
    subst hkl
    exact .d (by simp only [List.take_length]; rfl)

set_option maxRecDepth 100000 in
set_option maxHeartbeats 400000 in
theorem c_cmpA (o0 o1 : AObj) (key a b : Int) : ACallS Try.prog 22 [.d (cI key), .d (cI a), .d (cI b), .ref 2 0] ⟨[o0, o1, .row 26 [outC none]], outT none⟩ (fun _ s => (a = b ∧ s = ⟨[o0, o1, .row 26 [outC none]], outT none⟩) ∨ (a ≠ b ∧ s = ⟨[o0, o1, .row 26 [outC (some ([] ++ [Leak.row ⟨1, key, a, b⟩]))]], outT (some ([] ++ [Leak.row ⟨1, key, a, b⟩]))⟩)) := by
  refine ACallS.enter Try.func22 rfl Try.ntmps22 rfl fun S hS => ?_
  obtain ⟨i51, hi51, hz51, hs51, hb51⟩ := in_51
  refine .seq ?_
  refine .region ?_
  refine .q (q_move rfl) rfl ?_
  refine .q (q_move rfl) rfl ?_
  refine .q (q_neq rfl rfl) rfl ?_
  refine .nil ?_
  refine .cond rfl (fun hc1 => ?_) (fun hc1 => ?_)
  · try simp at hc1
    refine .region ?_
    refine .q (q_loadO one_26 rfl rfl rfl) rfl ?_
    refine .q (q_move rfl) rfl ?_
    refine .q (q_move rfl) rfl ?_
    refine .q (q_move rfl) rfl ?_
    refine .q (q_buildP pl_51 hi51 hz51 rfl rfl) rfl ?_
    refine .g (g_buildSlice1 Try.underlying26 hi51 hs51 hz51 rfl rfl rfl rfl rfl) rfl ?_
    refine .v (v_appendNil Try.underlying26 hi51 hz51 hs51 rfl rfl rfl rfl (by first | omega | (simp only [hb51]; simp; omega) | (simp; omega) | (simp only [hb51]; omega) | (simp only [hb51]; simp) | simp) (by first | omega | (simp only [hb51]; simp; omega) | (simp; omega) | (simp only [hb51]; omega) | (simp only [hb51]; simp) | simp)) rfl ?_
    refine .u (u_store rfl rfl rfl rfl (Nat.le_of_ble_eq_true rfl) sz_26) rfl ?_
    refine .nil ?_
    refine .fin0 Try.func22 Try.results22 ?_
    exact .inr ⟨hc1, rfl⟩
  · try simp at hc1
    refine .skip ?_
    refine .fin0 Try.func22 Try.results22 ?_
    exact .inl ⟨hc1, rfl⟩

set_option maxRecDepth 100000 in
set_option maxHeartbeats 400000 in
theorem c_cmpB (o0 o1 : AObj) (key a b : Int) (rows : List (List D)) (hr : rows.length ≤ 1000) : ACallS Try.prog 22 [.d (cI key), .d (cI a), .d (cI b), .ref 2 0] ⟨[o0, o1, .row 26 [outC (some rows)]], outT (some rows)⟩ (fun _ s => (a = b ∧ s = ⟨[o0, o1, .row 26 [outC (some rows)]], outT (some rows)⟩) ∨ (a ≠ b ∧ s = ⟨[o0, o1, .row 26 [outC (some (rows ++ [Leak.row ⟨1, key, a, b⟩]))]], outT (some (rows ++ [Leak.row ⟨1, key, a, b⟩]))⟩)) := by
  refine ACallS.enter Try.func22 rfl Try.ntmps22 rfl fun S hS => ?_
  obtain ⟨i51, hi51, hz51, hs51, hb51⟩ := in_51
  refine .seq ?_
  refine .region ?_
  refine .q (q_move rfl) rfl ?_
  refine .q (q_move rfl) rfl ?_
  refine .q (q_neq rfl rfl) rfl ?_
  refine .nil ?_
  refine .cond rfl (fun hc1 => ?_) (fun hc1 => ?_)
  · try simp at hc1
    refine .region ?_
    refine .q (q_loadO one_26 rfl rfl rfl) rfl ?_
    refine .q (q_move rfl) rfl ?_
    refine .q (q_move rfl) rfl ?_
    refine .q (q_move rfl) rfl ?_
    refine .q (q_buildP pl_51 hi51 hz51 rfl rfl) rfl ?_
    refine .g (g_buildSlice1 Try.underlying26 hi51 hs51 hz51 rfl rfl rfl rfl rfl) rfl ?_
    refine .v (v_append Try.underlying26 hi51 hz51 hs51 rfl rfl rfl rfl rfl (by first | omega | (simp only [hb51]; simp; omega) | (simp; omega) | (simp only [hb51]; omega) | (simp only [hb51]; simp) | simp) (by first | omega | (simp only [hb51]; simp; omega) | (simp; omega) | (simp only [hb51]; omega) | (simp only [hb51]; simp) | simp)) rfl ?_
    refine .u (u_store rfl rfl rfl rfl (Nat.le_of_ble_eq_true rfl) sz_26) rfl ?_
    refine .nil ?_
    refine .fin0 Try.func22 Try.results22 ?_
    exact .inr ⟨hc1, rfl⟩
  · try simp at hc1
    refine .skip ?_
    refine .fin0 Try.func22 Try.results22 ?_
    exact .inl ⟨hc1, rfl⟩

set_option maxRecDepth 100000 in
set_option maxHeartbeats 400000 in
theorem c_Intake (m : Med) (read : Int) (h1 : m.seen.length ≤ 1000000000) (h2 : m.heads.length ≤ 1000000000) : ACall Try.prog 13 [.agg m.row, cI read] (· = slOf 4 Leak.row (intakeF m read)) := by
  refine ACall.enter' Try.func13 rfl Try.ntmps13 rfl fun S hS => ?_
  refine .seq ?_
  refine .region ?_
  refine .v (v_box rfl rfl) rfl ?_
  refine .q (q_assign rfl) rfl ?_
  refine .nil ?_
  refine .seq ?_
  refine .region ?_
  refine .q (q_loadOA one_61 sz_61 rfl rfl (Nat.le_of_ble_eq_true rfl) rfl) rfl ?_
  refine .g (g_call en_21 rfl rfl (c_Balance m h1 h2)) rfl ?_
  refine .v (v_alloc zr_72 rfl) rfl ?_
  refine .u (u_store rfl rfl rfl rfl (Nat.le_of_ble_eq_true rfl) sz_72) rfl ?_
  refine .nil ?_
  refine .seq ?_
  refine .region ?_
  refine .v (v_alloc zr_26 rfl) rfl ?_
  refine .nil ?_
  refine .seq ?_
  refine .region ?_
  refine .q (q_makeFunc rfl) rfl ?_
  refine .q (q_assign rfl) rfl ?_
  refine .nil ?_
  refine .seqJoin (ι := Option (List (List D))) (fun _ => [(5, .ref 1 0), (6, .ref 2 0), (7, .clo 22 [.ref 2 0])]) (fun o => ⟨[.row 61 (m.row.map .d), .row 72 ((balF m).map .d), .row 26 [outC o]], outT o⟩) (fun o => o.getD [] = (leak1 1 read (readF m.heads)).map Leak.row) ?_ ?_
  · rintro o hI
    have hol : (o.getD []).length ≤ 1 := by rw [hI]; unfold leak1; split <;> simp
    cases o
    · skip
      refine .seqJoin (ι := Option (List (List D))) (fun _ => [(5, .ref 1 0), (6, .ref 2 0), (7, .clo 22 [.ref 2 0])]) (fun o => ⟨[.row 61 (m.row.map .d), .row 72 ((balF m).map .d), .row 26 [outC o]], outT o⟩) (fun o => o.getD [] = (intakeF m read).map Leak.row) ?_ ?_
      · rintro o2 hI2
        cases o2
        · skip
          refine .seq ?_
          refine .region ?_
          refine .q (q_loadO one_26 rfl rfl rfl) rfl ?_
          refine .q (q_assign rfl) rfl ?_
          refine .nil ?_
          refine .ret1 Try.func13 Try.results13 rfl ?_
          exact ⟨_, .nil 4, by rw [show (slOf 4 Leak.row (intakeF m read)) = D.sl 4 ((intakeF m read).map Leak.row) from rfl, ← hI2]; rfl⟩
        · rename_i rows2
          refine .seq ?_
          refine .region ?_
          refine .q (q_loadO one_26 rfl rfl rfl) rfl ?_
          refine .q (q_assign rfl) rfl ?_
          refine .nil ?_
          refine .ret1 Try.func13 Try.results13 rfl ?_
          exact .tsl (by rw [show (slOf 4 Leak.row (intakeF m read)) = D.sl 4 ((intakeF m read).map Leak.row) from rfl, ← hI2]; rfl)
      · intro hj5
        refine .region ?_
        refine .q (q_move rfl) rfl ?_
        refine .q (q_fieldRef fo_72_0 rfl) rfl ?_
        refine .q (q_loadO one_3 rfl rfl rfl) rfl ?_
        refine .q (q_fieldRef fo_72_1 rfl) rfl ?_
        refine .q (q_loadO one_3 rfl rfl rfl) rfl ?_
        refine .q (q_fieldRef fo_72_2 rfl) rfl ?_
        refine .q (q_loadO one_3 rfl rfl rfl) rfl ?_
        refine .q (q_add rfl rfl rfl) rfl ?_
        refine .q (q_fieldRef fo_72_3 rfl) rfl ?_
        refine .q (q_loadO one_3 rfl rfl rfl) rfl ?_
        refine .q (q_add rfl rfl rfl) rfl ?_
        refine .q (q_fieldRef fo_72_4 rfl) rfl ?_
        refine .q (q_loadO one_3 rfl rfl rfl) rfl ?_
        refine .q (q_add rfl rfl rfl) rfl ?_
        refine .q (q_fieldRef fo_72_5 rfl) rfl ?_
        refine .q (q_loadO one_3 rfl rfl rfl) rfl ?_
        refine .q (q_add rfl rfl rfl) rfl ?_
        refine .callC en_22 rfl rfl rfl (by first | exact c_cmpA _ _ 2 (readF m.heads) (sumF m) | exact c_cmpB _ _ 2 (readF m.heads) (sumF m) _ (by assumption)) (fun x st' hq => ?_)
        refine .nil ?_
        rcases hq with ⟨hq, rfl⟩ | ⟨hq, rfl⟩
        · refine .sub (.cons rfl (.rfl' _) (.cons rfl (.rfl' _) (.cons rfl (.rfl' _) .nil))) (hj5 none ?_)
          exact by rw [intakeF, List.map_append, ← hI]; simp [leak1, hq]
        · refine .sub (.cons rfl (.rfl' _) (.cons rfl (.rfl' _) (.cons rfl (.rfl' _) .nil))) (hj5 (some _) ?_)
          exact by rw [intakeF, List.map_append, ← hI]; simp [leak1, hq]
    · rename_i rows; have hr0 : rows.length ≤ 1000 := Nat.le_trans hol (by decide)
      refine .seqJoin (ι := Option (List (List D))) (fun _ => [(5, .ref 1 0), (6, .ref 2 0), (7, .clo 22 [.ref 2 0])]) (fun o => ⟨[.row 61 (m.row.map .d), .row 72 ((balF m).map .d), .row 26 [outC o]], outT o⟩) (fun o => o.getD [] = (intakeF m read).map Leak.row) ?_ ?_
      · rintro o2 hI2
        cases o2
        · skip
          refine .seq ?_
          refine .region ?_
          refine .q (q_loadO one_26 rfl rfl rfl) rfl ?_
          refine .q (q_assign rfl) rfl ?_
          refine .nil ?_
          refine .ret1 Try.func13 Try.results13 rfl ?_
          first | exact ⟨_, .nil 4, by rw [show (slOf 4 Leak.row (intakeF m read)) = D.sl 4 ((intakeF m read).map Leak.row) from rfl, ← hI2]; rfl⟩ | exact .tsl (by rw [show (slOf 4 Leak.row (intakeF m read)) = D.sl 4 ((intakeF m read).map Leak.row) from rfl, ← hI2]; rfl)
        · rename_i rows2
          refine .seq ?_
          refine .region ?_
          refine .q (q_loadO one_26 rfl rfl rfl) rfl ?_
          refine .q (q_assign rfl) rfl ?_
          refine .nil ?_
          refine .ret1 Try.func13 Try.results13 rfl ?_
          first | exact ⟨_, .nil 4, by rw [show (slOf 4 Leak.row (intakeF m read)) = D.sl 4 ((intakeF m read).map Leak.row) from rfl, ← hI2]; rfl⟩ | exact .tsl (by rw [show (slOf 4 Leak.row (intakeF m read)) = D.sl 4 ((intakeF m read).map Leak.row) from rfl, ← hI2]; rfl)
      · intro hj5
        refine .region ?_
        refine .q (q_move rfl) rfl ?_
        refine .q (q_fieldRef fo_72_0 rfl) rfl ?_
        refine .q (q_loadO one_3 rfl rfl rfl) rfl ?_
        refine .q (q_fieldRef fo_72_1 rfl) rfl ?_
        refine .q (q_loadO one_3 rfl rfl rfl) rfl ?_
        refine .q (q_fieldRef fo_72_2 rfl) rfl ?_
        refine .q (q_loadO one_3 rfl rfl rfl) rfl ?_
        refine .q (q_add rfl rfl rfl) rfl ?_
        refine .q (q_fieldRef fo_72_3 rfl) rfl ?_
        refine .q (q_loadO one_3 rfl rfl rfl) rfl ?_
        refine .q (q_add rfl rfl rfl) rfl ?_
        refine .q (q_fieldRef fo_72_4 rfl) rfl ?_
        refine .q (q_loadO one_3 rfl rfl rfl) rfl ?_
        refine .q (q_add rfl rfl rfl) rfl ?_
        refine .q (q_fieldRef fo_72_5 rfl) rfl ?_
        refine .q (q_loadO one_3 rfl rfl rfl) rfl ?_
        refine .q (q_add rfl rfl rfl) rfl ?_
        refine .callC en_22 rfl rfl rfl (by first | exact c_cmpA _ _ 2 (readF m.heads) (sumF m) | exact c_cmpB _ _ 2 (readF m.heads) (sumF m) _ (by assumption)) (fun x st' hq => ?_)
        refine .nil ?_
        rcases hq with ⟨hq, rfl⟩ | ⟨hq, rfl⟩
        · refine .sub (.cons rfl (.rfl' _) (.cons rfl (.rfl' _) (.cons rfl (.rfl' _) .nil))) (hj5 (some _) ?_)
          exact by rw [intakeF, List.map_append, ← hI]; simp [leak1, hq]
        · refine .sub (.cons rfl (.rfl' _) (.cons rfl (.rfl' _) (.cons rfl (.rfl' _) .nil))) (hj5 (some _) ?_)
          exact by rw [intakeF, List.map_append, ← hI]; simp [leak1, hq]
  · intro hj
    refine .region ?_
    refine .q (q_move rfl) rfl ?_
    refine .q (q_move rfl) rfl ?_
    refine .q (q_fieldRef fo_72_0 rfl) rfl ?_
    refine .q (q_loadO one_3 rfl rfl rfl) rfl ?_
    refine .callC en_22 rfl rfl rfl (by first | exact c_cmpA _ _ 1 (read) (readF m.heads) | exact c_cmpB _ _ 1 (read) (readF m.heads) _ (by assumption)) (fun x st' hq => ?_)
    refine .nil ?_
    rcases hq with ⟨hq, rfl⟩ | ⟨hq, rfl⟩
    · refine .sub (.cons rfl (.rfl' _) (.cons rfl (.rfl' _) (.cons rfl (.rfl' _) .nil))) (hj none ?_)
      exact by simp [leak1, hq]
    · refine .sub (.cons rfl (.rfl' _) (.cons rfl (.rfl' _) (.cons rfl (.rfl' _) .nil))) (hj (some _) ?_)
      exact by simp [leak1, hq]

end Go.Proofs.Ytpdanklncjopoab
