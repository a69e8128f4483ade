import Derived.Test.YtpdanklncjopoabTys
import Derived.Test.YtpdanklncjopoabPl1
set_option linter.unusedSimpArgs false
set_option linter.unusedVariables false
namespace Go.Proofs.Ytpdanklncjopoab
open Go.RowKit Go.Abs


set_option maxRecDepth 100000 in
set_option maxHeartbeats 400000 in
theorem c_name (k : Int) : ACall Try.prog 19 [cI k] (· = cS (nameF k)) := by
  refine ACall.enter' Try.func19 rfl Try.ntmps19 rfl fun S hS => ?_
  refine .seq ?_
  refine .region ?_
  refine .q (q_assign rfl) rfl ?_
  refine .nil ?_
  refine .seq ?_
  refine .seq ?_
  refine .region ?_
  refine .q (q_move rfl) rfl ?_
  refine .nil ?_
  refine .block ?_
  refine .seq ?_
  refine .region ?_
  refine .q (q_eql rfl rfl) rfl ?_
  refine .q (q_assign rfl) rfl ?_
  refine .nil ?_
  refine .cond rfl (fun hc1 => ?_) (fun hc1 => ?_)
  · try simp at hc1
    refine .seq ?_
    refine .region ?_
    refine .q (q_assign rfl) rfl ?_
    refine .nil ?_
    refine .ret1 Try.func19 Try.results19 rfl ?_
    exact .d (by simp [nameF, *])
  · try simp at hc1
    refine .seq ?_
    refine .region ?_
    refine .q (q_eql rfl rfl) rfl ?_
    refine .q (q_assign rfl) rfl ?_
    refine .nil ?_
    refine .cond rfl (fun hc2 => ?_) (fun hc2 => ?_)
    · try simp at hc2
      refine .seq ?_
      refine .region ?_
      refine .q (q_assign rfl) rfl ?_
      refine .nil ?_
      refine .ret1 Try.func19 Try.results19 rfl ?_
      exact .d (by simp [nameF, *])
    · try simp at hc2
      refine .seq ?_
      refine .region ?_
      refine .q (q_eql rfl rfl) rfl ?_
      refine .q (q_assign rfl) rfl ?_
      refine .nil ?_
      refine .cond rfl (fun hc3 => ?_) (fun hc3 => ?_)
      · try simp at hc3
        refine .seq ?_
        refine .region ?_
        refine .q (q_assign rfl) rfl ?_
        refine .nil ?_
        refine .ret1 Try.func19 Try.results19 rfl ?_
        exact .d (by simp [nameF, *])
      · try simp at hc3
        refine .seq ?_
        refine .region ?_
        refine .q (q_eql rfl rfl) rfl ?_
        refine .q (q_assign rfl) rfl ?_
        refine .nil ?_
        refine .cond rfl (fun hc4 => ?_) (fun hc4 => ?_)
        · try simp at hc4
          refine .seq ?_
          refine .region ?_
          refine .q (q_assign rfl) rfl ?_
          refine .nil ?_
          refine .ret1 Try.func19 Try.results19 rfl ?_
          exact .d (by simp [nameF, *])
        · try simp at hc4
          refine .seq ?_
          refine .region ?_
          refine .q (q_eql rfl rfl) rfl ?_
          refine .q (q_assign rfl) rfl ?_
          refine .nil ?_
          refine .cond rfl (fun hc5 => ?_) (fun hc5 => ?_)
          · try simp at hc5
            refine .seq ?_
            refine .region ?_
            refine .q (q_assign rfl) rfl ?_
            refine .nil ?_
            refine .ret1 Try.func19 Try.results19 rfl ?_
            exact .d (by simp [nameF, *])
          · try simp at hc5
            refine .seq ?_
            refine .region ?_
            refine .q (q_eql rfl rfl) rfl ?_
            refine .q (q_assign rfl) rfl ?_
            refine .nil ?_
            refine .cond rfl (fun hc6 => ?_) (fun hc6 => ?_)
            · try simp at hc6
              refine .seq ?_
              refine .region ?_
              refine .q (q_assign rfl) rfl ?_
              refine .nil ?_
              refine .ret1 Try.func19 Try.results19 rfl ?_
              exact .d (by simp [nameF, *])
            · try simp at hc6
              refine .skip ?_
              refine .inBlock ?_
              refine .seq ?_
              refine .region ?_
              refine .q (q_assign rfl) rfl ?_
              refine .nil ?_
              refine .ret1 Try.func19 Try.results19 rfl ?_
              exact .d (by simp [nameF, *])


set_option maxRecDepth 100000 in
set_option maxHeartbeats 400000 in
theorem c_keys (l : List Int) (n : Int) (hl : l.length ≤ 1000000) (ha : Asc l) : ACall Try.prog 17 [slOf 1 rI l, cI n] (· = slOf 1 rI (insK l n)) := by
  refine ACall.enter' Try.func17 rfl Try.ntmps17 rfl fun S hS => ?_
  obtain ⟨i3, hi3, hz3, hs3, hb3⟩ := in_3
  refine .seq ?_
  refine .region ?_
  refine .q (q_assign rfl) rfl ?_
  refine .nil ?_
  refine .seq ?_
  refine .region ?_
  refine .q (q_move rfl) rfl ?_
  refine .q (q_lenA Try.underlying63 rfl rfl) rfl ?_
  refine .q (q_assign rfl) rfl ?_
  refine .q (q_assign rfl) rfl ?_
  refine .nil ?_
  refine .seq ?_
  refine .block ?_
  refine .loop (ι := Nat × Nat) (fun (k, e) => [(0, .d (slOf 1 rI l)), (1, .d (cI n)), (5, .d (cI k)), (6, .d (cI e))]) (fun _ => ⟨[], []⟩) (fun (k, e) => k ≤ e ∧ e ≤ l.length ∧ (∀ j, j < k → nth l j < n) ∧ ∀ j, e ≤ j → j < l.length → n ≤ nth l j) (fun (k, e) => e - k) (0, l.length) ⟨Nat.zero_le _, Nat.le_refl _, fun j hj => by omega, fun j h1 h2 => by omega⟩ (.cons rfl (.rfl' _) (.cons rfl (.rfl' _) (.cons rfl (.rfl' _) (.cons rfl (.eq (by simp)) (.nil))))) rfl ?_
  rintro ⟨k, e⟩ hI ih
  obtain ⟨hk, he, h1, h2⟩ := hI
  refine .seq ?_
  refine .seq ?_
  refine .region ?_
  refine .q (q_move rfl) rfl ?_
  refine .q (q_move rfl) rfl ?_
  refine .q (q_lss rfl rfl) rfl ?_
  refine .nil ?_
  refine .cond rfl (fun hc1 => ?_) (fun hc1 => ?_)
  · try simp at hc1
    refine .skip ?_
    refine .block ?_
    refine .seq ?_
    refine .region ?_
    refine .q (q_move rfl) rfl ?_
    refine .q (q_move rfl) rfl ?_
    refine .q (q_addI rfl rfl (by first | omega | (simp; omega)) (by first | omega | (simp; omega))) rfl ?_
    refine .q (q_quoI rfl rfl (by first | omega | (simp; omega)) (by first | omega | (simp; omega)) (by first | omega | (simp; omega))) rfl ?_
    refine .q (q_assign rfl) rfl ?_
    refine .nil ?_
    refine .seq ?_
    refine .region ?_
    refine .q (q_move rfl) rfl ?_
    refine .q (q_move rfl) rfl ?_
    refine .q (q_idxN (n := (k + e) / 2) Try.underlying63 hi3 hs3 rfl rfl rfl (by first | rfl | omega) (mapnth (by omega))) rfl ?_
    refine .q (q_load one_3 rfl) rfl ?_
    refine .q (q_move rfl) rfl ?_
    refine .q (q_lss rfl rfl) rfl ?_
    refine .nil ?_
    refine .cond rfl (fun hc2 => ?_) (fun hc2 => ?_)
    · try simp at hc2
      refine .region ?_
      refine .q (q_move rfl) rfl ?_
      refine .q (q_addI rfl rfl (by first | omega | (simp; omega)) (by first | omega | (simp; omega))) rfl ?_
      refine .q (q_assign rfl) rfl ?_
      refine .nil ?_
      refine .inBlock ?_
      refine .sub (.cons rfl (.rfl' _) (.cons rfl (.rfl' _) (.cons rfl (.rfl' _) (.cons rfl (.rfl' _) (.nil))))) (ih ((k + e) / 2 + 1, e) ?_ (by show _ - _ < _ - _; omega))
      refine ⟨by omega, he, fun j hj => ?_, h2⟩
      by_cases h : j = (k + e) / 2
      · subst h; exact hc2
      · by_cases hjm : j < (k + e) / 2
        · have := ha j ((k + e) / 2) hjm (by omega); omega
        · omega
    · try simp at hc2
      refine .region ?_
      refine .q (q_move rfl) rfl ?_
      refine .q (q_assign rfl) rfl ?_
      refine .nil ?_
      refine .inBlock ?_
      refine .sub (.cons rfl (.rfl' _) (.cons rfl (.rfl' _) (.cons rfl (.rfl' _) (.cons rfl (.rfl' _) (.nil))))) (ih (k, (k + e) / 2) ?_ (by show _ - _ < _ - _; omega))
      refine ⟨by omega, by omega, h1, fun j hj hj2 => ?_⟩
      by_cases h : j = (k + e) / 2
      · subst h; omega
      · have := ha ((k + e) / 2) j (by omega) hj2; omega
  · try simp at hc1
    refine .exit rfl ?_
    refine .seq ?_
    refine .seq ?_
    refine .region ?_
    refine .q (q_move rfl) rfl ?_
    refine .q (q_move rfl) rfl ?_
    refine .q (q_lenA Try.underlying63 rfl rfl) rfl ?_
    refine .q (q_lss rfl rfl) rfl ?_
    refine .q (q_move rfl) rfl ?_
    refine .guardG (env' := [(0, _)]) rfl rfl rfl ⟨.inl rfl, trivial⟩ rfl (fun _ => (q_move rfl).g) ?_
    refine .guardG (env' := [(5, _)]) rfl rfl rfl ⟨.inl rfl, trivial⟩ rfl (fun _ => (q_move rfl).g) ?_
    refine .guardG (env' := [(32, _), (33, _)]) rfl rfl rfl ⟨.inr (.inl rfl), ⟨.inr (.inl rfl), trivial⟩⟩ rfl (fun hg34 => by (try simp at hg34); exact (q_idxN Try.underlying63 hi3 hs3 rfl rfl rfl (by first | rfl | omega) (mapnth (by omega))).g) ?_
    refine .guardG (env' := [(34, _)]) rfl rfl rfl ⟨.inr (.inl rfl), trivial⟩ rfl (fun _ => (q_load one_3 rfl).g) ?_
    refine .guardG (env' := [(1, _)]) rfl rfl rfl ⟨.inl rfl, trivial⟩ rfl (fun _ => (q_move rfl).g) ?_
    refine .guardG (env' := [(35, _), (36, _)]) rfl rfl rfl ⟨.inr (.inl rfl), ⟨.inr (.inl rfl), trivial⟩⟩ rfl (fun _ => (q_eql rfl rfl).g) ?_
    refine .q (q_pickAnd rfl rfl rfl) rfl ?_
    refine .nil ?_
    refine .cond rfl (fun hc3 => ?_) (fun hc3 => ?_)
    · try simp at hc3
      refine .seq ?_
      refine .region ?_
      refine .q (q_move rfl) rfl ?_
      refine .q (q_assign rfl) rfl ?_
      refine .nil ?_
      refine .ret1 Try.func17 Try.results17 rfl ?_
      exact .d (by rw [insK_found hc3.1 h1 hc3.2])
    · try simp at hc3
      refine .skip ?_
      refine .seq ?_
      refine .region ?_
      refine .q (q_move rfl) rfl ?_
      refine .q (q_move rfl) rfl ?_
      refine .q (q_slH Try.underlying63 hi3 hs3 rfl rfl rfl (by first | omega | (simp; omega)) (by first | omega | (simp; omega))) rfl ?_
      refine .v (v_appendNil Try.underlying63 hi3 hz3 hs3 rfl rfl rfl rfl (by first | omega | (simp only [hb3]; simp; omega) | (simp; omega) | (simp only [hb3]; omega) | (simp only [hb3]; simp) | simp) (by first | omega | (simp only [hb3]; simp; omega) | (simp; omega) | (simp only [hb3]; omega) | (simp only [hb3]; simp) | simp)) rfl ?_
      refine .q (q_assign rfl) rfl ?_
      refine .nil ?_
      refine .seq ?_
      refine .region ?_
      refine .q (q_move rfl) rfl ?_
      refine .q (q_move rfl) rfl ?_
      refine .g (g_buildSlice1 Try.underlying63 hi3 hs3 hz3 rfl rfl rfl rfl rfl) rfl ?_
      refine .v (v_append Try.underlying63 hi3 hz3 hs3 rfl rfl rfl rfl rfl (by first | omega | (simp only [hb3]; simp; omega) | (simp; omega) | (simp only [hb3]; omega) | (simp only [hb3]; simp) | simp) (by first | omega | (simp only [hb3]; simp; omega) | (simp; omega) | (simp only [hb3]; omega) | (simp only [hb3]; simp) | simp)) rfl ?_
      refine .q (q_assign rfl) rfl ?_
      refine .nil ?_
      refine .seq ?_
      refine .region ?_
      refine .q (q_move rfl) rfl ?_
      refine .q (q_move rfl) rfl ?_
      refine .q (q_move rfl) rfl ?_
      refine .q (q_slL Try.underlying63 hi3 hs3 rfl rfl rfl (by first | omega | (simp; omega)) (by first | omega | (simp; omega))) rfl ?_
      refine .v (v_append Try.underlying63 hi3 hz3 hs3 rfl rfl rfl rfl rfl (by first | omega | (simp only [hb3]; simp; omega) | (simp; omega) | (simp only [hb3]; omega) | (simp only [hb3]; simp) | simp) (by first | omega | (simp only [hb3]; simp; omega) | (simp; omega) | (simp only [hb3]; omega) | (simp only [hb3]; simp) | simp)) rfl ?_
      refine .q (q_assign rfl) rfl ?_
      refine .nil ?_
      refine .ret1 Try.func17 Try.results17 rfl ?_
      exact .tsl (by rw [insK_new (by omega) h1 (fun h => ⟨by have := h2 k (by omega) h; omega, hc3 h⟩)]; simp [rI, putD])

end Go.Proofs.Ytpdanklncjopoab
