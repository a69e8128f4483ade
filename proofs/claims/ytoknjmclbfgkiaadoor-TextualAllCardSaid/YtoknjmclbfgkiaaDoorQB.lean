import Derived.Test.YtoknjmclbfgkiaaDoorQA
set_option linter.unusedSimpArgs false
set_option linter.unusedVariables false
namespace Go.Proofs.YtoknjmclbfgkiaaDoor
open Go.RowKit Go.Abs
theorem all_l2 {want : List Record} {lines : List (List UInt8)} (h1 : ∀ r, r ∈ want → errF r = 0) (hl1 : want.length ≤ 30) (hl2 : lines.length ≤ 30) {s : List UInt8} (hs : s = catL (want.map lineF)) (hsl : s.length ≤ 30 * 401) :
    f_billinglaw09_TextualAll_j1 lines s want = some true := by
  unfold f_billinglaw09_TextualAll_j1
  obtain ⟨r, hr, hr2⟩ : ∃ r, loop (fun st => f_billinglaw09_TextualAll_l2 lines want st.1 st.2.1 st.2.2) (s, 0, 0) = some r ∧ r = true := by
    refine loop_post _ (fun st : List UInt8 × Int × Int => 0 ≤ st.2.2 ∧ st.2.2 ≤ (lines.length : Int) ∧ (st.1.length : Int) ≤ 30 * 401 + st.2.2 * 201 ∧ ∃ ws : List (List UInt8), (∀ w, w ∈ ws → free 10 w ∧ (decF w).2 ≠ 0) ∧ (ws.length : Int) ≤ st.2.2 ∧ st.1 = catL (want.map lineF ++ ws) ∧ st.2.1 = ws.length)
      (fun st => ((lines.length : Int) - st.2.2).toNat) (fun st hI => ?_) ⟨by simp, by simp, by simp only; omega, [], by simp, by simp, by simpa using hs, rfl⟩ (by simp only; omega)
    obtain ⟨t, n, i⟩ := st
    obtain ⟨i0, i1, i2, ws, w1, w2, w3, w4⟩ := hI
    simp only at i0 i1 i2 w2 w3 w4 ⊢
    unfold f_billinglaw09_TextualAll_l2
    by_cases hi : i < (lines.length : Int)
    · rw [if_pos (by simpa using hi), ck_pos (by omega)]
      by_cases h200 : ((nth lines i.toNat).length : Int) > 200
      · rw [if_pos (by simpa using h200), awake_true]
        exact .inl ⟨true, rfl, rfl⟩
      · rw [if_neg (by simpa using h200), ck_pos (by omega), ck_pos (by simp; omega), p_Lines _ (by simp; omega), Option.bind_some]
        by_cases hc : (linesF (nth lines i.toNat ++ [10])).2 = 0 ∧ (linesF (nth lines i.toNat ++ [10])).1.length = 1
        · rw [if_neg (by simp [hc.1, hc.2]), ck_pos (by omega), p_Decode _ (by omega), Option.bind_some]
          have hfree : free 10 (nth lines i.toNat) := by
            have h2 := hc.2
            unfold linesF at h2
            rw [if_neg (by rintro ⟨_, hh⟩; apply hh; simp [nth])] at h2
            split at h2
            · simp at h2
            · rw [cutL_snoc] at h2
              simp only [List.dropLast_concat] at h2
              exact cut_one h2
          by_cases hd : (decF (nth lines i.toNat)).2 = 0
          · rw [if_neg (by simp [hd]), ck_pos (by omega)]
            exact .inr ⟨_, rfl, ⟨by simp only; omega, by simp only; omega, by simp only; omega, ws, w1, by simp only; omega, w3, w4⟩, by simp only; omega⟩
          · rw [if_pos (by simpa using hd), ck_pos (by omega), ck_pos (by omega), ck_pos (by simp; omega), ck_pos (by omega), ck_pos (by omega)]
            refine .inr ⟨_, rfl, ⟨by simp only; omega, by simp only; omega, by simp; omega, ws ++ [nth lines i.toNat], ?_, by simp; omega, ?_, ?_⟩, by simp only; omega⟩
            · intro w hw
              rcases List.mem_append.1 hw with hw | hw
              · exact w1 w hw
              · simp at hw; subst hw; exact ⟨hfree, hd⟩
            · simp only
              rw [w3, ← List.append_assoc, catL_snoc]
            · simp [w4]
        · rw [if_pos (by
            simp only [Bool.or_eq_true, bne_iff_ne, ne_eq]
            by_cases ha : (linesF (nth lines i.toNat ++ [10])).2 = 0
            · right; intro hb; exact hc ⟨ha, by omega⟩
            · exact .inl ha), ck_pos (by omega)]
          exact .inr ⟨_, rfl, ⟨by simp only; omega, by simp only; omega, by simp only; omega, ws, w1, by simp only; omega, w3, w4⟩, by simp only; omega⟩
    · rw [if_neg (by simpa using hi), all_end h1 w1 hl1 (by omega) w3 (by omega) w4]
      exact .inl ⟨true, rfl, rfl⟩
  rw [hr, hr2]
theorem alls_true (l : List Record) (lines : List (List UInt8)) : f_billinglaw09_TextualAll l lines = some true := by
  unfold f_billinglaw09_TextualAll
  by_cases h : (l.length : Int) > 30 ∨ (lines.length : Int) > 30
  · rw [if_pos (by simpa using h), awake_true]; rfl
  · rw [if_neg (by simpa using h)]
    obtain ⟨r, hr, hr2⟩ : ∃ r, loop (fun st => f_billinglaw09_TextualAll_l3 l lines st.1 st.2.1 st.2.2) ([], [], 0) = some r ∧ r = true := by
      refine loop_post _ (fun st : List UInt8 × List Record × Int => 0 ≤ st.2.2 ∧ st.2.2 ≤ (l.length : Int) ∧ (st.1.length : Int) ≤ st.2.2 * 401 ∧ (st.2.1.length : Int) ≤ st.2.2 ∧ (∀ r, r ∈ st.2.1 → errF r = 0) ∧ st.1 = catL (st.2.1.map lineF))
        (fun st => ((l.length : Int) - st.2.2).toNat) (fun st hI => ?_) ⟨by simp, by simp, by simp, by simp, by simp, rfl⟩ (by simp only; omega)
      obtain ⟨t, want, i⟩ := st
      obtain ⟨i0, i1, i2, i3, i4, i5⟩ := hI
      simp only at i0 i1 i2 i3 i4 i5 ⊢
      unfold f_billinglaw09_TextualAll_l3
      by_cases hi : i < (l.length : Int)
      · rw [if_pos (by simpa using hi), ck_pos (by omega), p_short, Option.bind_some]
        by_cases hsh : Short (nth l i.toNat)
        · have hh := hsh
          unfold Short at hh
          rw [if_neg (by simp [hsh]), ck_pos (by omega), p_Encode _ (by omega) (by omega), Option.bind_some]
          by_cases he : errF (nth l i.toNat) = 0
          · have hll := line_len he
            simp only [he, if_true, beq_self_eq_true]
            rw [ck_pos (by omega), ck_pos (by simp; omega), ck_pos (by omega), ck_pos (by simp; omega), ck_pos (by omega)]
            refine .inr ⟨_, rfl, ⟨by simp only; omega, by simp only; omega, by simp; omega, by simp; omega, ?_, ?_⟩, by simp only; omega⟩
            · intro r hr
              rcases List.mem_append.1 hr with hr | hr
              · exact i4 r hr
              · simp at hr; subst hr; exact he
            · simp only
              rw [i5, List.map_append, List.map_cons, List.map_nil, catL_snoc]
          · simp only [he, if_false]
            rw [if_neg (by simpa using he), ck_pos (by omega)]
            exact .inr ⟨_, rfl, ⟨by simp only; omega, by simp only; omega, by simp only; omega, by simp only; omega, i4, i5⟩, by simp only; omega⟩
        · rw [if_pos (by simp [hsh]), awake_true]
          exact .inl ⟨true, rfl, rfl⟩
      · rw [if_neg (by simpa using hi), all_l2 i4 (by omega) (by omega) i5 (by omega)]
        exact .inl ⟨true, rfl, rfl⟩
    rw [hr, hr2]
end Go.Proofs.YtoknjmclbfgkiaaDoor
