import Derived.Test.YtoknjmclbfgkiaaDoorQ1
set_option linter.unusedSimpArgs false
set_option linter.unusedVariables false
namespace Go.Proofs.YtoknjmclbfgkiaaDoor
open Go.RowKit Go.Abs
/-! ### numerals -/
def numeralF (s : List UInt8) : Int × Bool := if vOK s = true then (numF 0 s, true) else (0, false)
theorem isDg_no {c : UInt8} (h : isDg c = false) : c.toNat < 48 ∨ 57 < c.toNat := by
  have : ¬ (48 ≤ c.toNat ∧ c.toNat ≤ 57) := fun hh => by rw [isDg_iff.2 hh] at h; cases h
  omega
theorem pow15 {k : Nat} (h : k ≤ 15) : (10 : Int) ^ k ≤ 1000000000000000 := by
  have h2 : (10 : Int) ^ k ≤ 10 ^ 15 := by exact_mod_cast Nat.pow_le_pow_right (by decide) h
  have h3 : (10 : Int) ^ 15 = 1000000000000000 := by decide
  omega
theorem vOK_eq {s : List UInt8} : vOK s = (s.all isDg && !((decide ((s.length : Int) < 1) || decide ((s.length : Int) > 15)) || (decide (s.headD 0 = 48) && decide ((s.length : Int) > 1)))) := by
  unfold vOK
  rw [Bool.eq_iff_iff]
  simp only [Bool.and_eq_true, decide_eq_true_eq, Bool.not_eq_true', Bool.or_eq_false_iff, Bool.and_eq_false_iff, decide_eq_false_iff_not]
  constructor
  · rintro ⟨⟨⟨h1, h2⟩, h3⟩, h4⟩
    exact ⟨h1, ⟨by omega, by omega⟩, by rcases h4 with h4 | h4; exact .inl h4; exact .inr (by omega)⟩
  · rintro ⟨h1, ⟨h2, h3⟩, h4⟩
    exact ⟨⟨⟨h1, by omega⟩, by omega⟩, by rcases h4 with h4 | h4; exact .inl h4; exact .inr (by omega)⟩
theorem nth_zero_headD {s : List UInt8} : nth s 0 = s.headD 0 := by
  cases s with
  | nil => rfl
  | cons a t => rfl
theorem p_Value (s : List UInt8) : f_billingref09_Value s = some (valF s) := by
  unfold f_billingref09_Value
  simp only [show Int.toNat 0 = 0 from rfl]
  rw [ck_pos (fun h => by simp at h; omega)]
  rw [nth_zero_headD]
  unfold valF
  rw [vOK_eq]
  by_cases hc : (decide ((s.length : Int) < 1) || decide ((s.length : Int) > 15) || (decide (s.headD 0 = 48) && decide ((s.length : Int) > 1))) = true
  · rw [if_pos (by simpa using hc), if_neg (by rw [hc]; simp)]
  · rw [if_neg (by simpa using hc)]
    have hc' : (decide ((s.length : Int) < 1) || decide ((s.length : Int) > 15) || (decide (s.headD 0 = 48) && decide ((s.length : Int) > 1))) = false := by simpa using hc
    rw [hc']
    simp only [Bool.or_eq_false_iff, decide_eq_false_iff_not] at hc'
    have := loop_spec (step := fun st => f_billingref09_Value_l1 s st.1 st.2) (fun st : Int × Int => some (if (s.drop st.2.toNat).all isDg = true then numF st.1 (s.drop st.2.toNat) else -1))
      (fun st => 0 ≤ st.2 ∧ st.2 ≤ (s.length : Int) ∧ 0 ≤ st.1 ∧ st.1 < 10 ^ st.2.toNat) (fun st => ((s.length : Int) - st.2).toNat) (fun st hI => by
        obtain ⟨n, i⟩ := st
        obtain ⟨i0, i1, i2, i3⟩ := hI
        simp only at i0 i1 i2 i3 ⊢
        have hp := pow15 (k := i.toNat) (by omega)
        unfold f_billingref09_Value_l1
        by_cases hi : i < (s.length : Int)
        · rw [if_pos (by simpa using hi), ck_pos (by omega), ck_pos (by omega)]
          rw [drop_nth (show i.toNat < s.length by omega)]
          cases hd : isDg (nth s i.toNat) with
          | false =>
            have hh := isDg_no hd
            rw [if_pos (by
              simp only [Bool.or_eq_true, decide_eq_true_eq]
              rcases hh with h | h
              · exact .inl h
              · exact .inr h)]
            exact .inl ⟨_, rfl, by simp [hd]⟩
          | true =>
            have hh := isDg_iff.1 hd
            have hs : (nth s i.toNat - 48).toNat = (nth s i.toNat).toNat - 48 := by
              rw [UInt8.toNat_sub_of_le _ _ (by exact hh.1)]; rfl
            rw [if_neg (by
              simp only [Bool.or_eq_true, decide_eq_true_eq, not_or]
              exact ⟨fun h => by have : (nth s i.toNat).toNat < 48 := h; omega, fun h => by have : 57 < (nth s i.toNat).toNat := h; omega⟩)]
            rw [hs, ck_pos (by omega), ck_pos (by omega), ck_pos (by omega), ck_pos (by omega)]
            refine .inr ⟨_, rfl, ⟨by simp only; omega, by simp only; omega, by simp only; omega, ?_⟩, by simp only; omega, ?_⟩
            · simp only
              rw [show (i + 1).toNat = i.toNat + 1 from by omega, Int.pow_succ]; omega
            · simp only
              rw [show (i + 1).toNat = i.toNat + 1 from by omega]
              have e : n * 10 + (((nth s i.toNat).toNat - 48 : Nat) : Int) = n * 10 + dgv (nth s i.toNat) := by unfold dgv; omega
              rw [e]
              simp [hd, numF]
        · rw [if_neg (by simpa using hi)]
          refine .inl ⟨_, rfl, ?_⟩
          rw [List.drop_of_length_le (by omega)]
          simp [numF]) (s := (0, 0)) ⟨by simp, by simp, by simp, by simp⟩ (by simp only; omega)
    rw [this]
    simp
theorem wrap_small {k : IntKind} {n : Int} (h0 : 0 ≤ n) (h1 : n ≤ 100) (hk : k = .i32 ∨ k = .i64) : IntKind.wrap k n = n := by
  rcases hk with rfl | rfl <;> (unfold IntKind.wrap; simp [IntKind.signed, IntKind.bits]; omega)
theorem p_numeral (s : List UInt8) : f_textual_numeral s = some (numeralF s) := by
  unfold f_textual_numeral
  simp only [show Int.toNat 0 = 0 from rfl]
  have hlen0 : s = [] ↔ (s.length : Int) < 1 := by
    cases s with
    | nil => simp
    | cons a t => simp; omega
  rw [ck_pos (fun h => by
    simp only [Bool.not_eq_true', Bool.or_eq_false_iff, decide_eq_false_iff_not] at h
    refine ⟨by omega, ?_⟩
    have : ¬ s = [] := by simpa using h.1
    rw [hlen0] at this
    omega)]
  rw [nth_zero_headD]
  unfold numeralF
  rw [vOK_eq]
  have hcc : (s == ([] : List UInt8) || decide ((s.length : Int) > 15) || (s.headD 0 == 48 && s != ([48] : List UInt8))) = (decide ((s.length : Int) < 1) || decide ((s.length : Int) > 15) || (decide (s.headD 0 = 48) && decide ((s.length : Int) > 1))) := by
    cases s with
    | nil => rfl
    | cons a t =>
      cases t with
      | nil =>
        by_cases ha : a = 48
        · subst ha; rfl
        · have : (a == 48) = false := by simpa using ha
          simp [this, ha]
      | cons b t =>
        have e1 : ((a :: b :: t : List UInt8) == []) = false := rfl
        have e2 : ((a :: b :: t : List UInt8) != [48]) = true := by simp
        have e3 : decide (((a :: b :: t : List UInt8).length : Int) < 1) = false := by simp only [List.length_cons, decide_eq_false_iff_not]; omega
        have e4 : decide (((a :: b :: t : List UInt8).length : Int) > 1) = true := by simp only [List.length_cons, decide_eq_true_eq]; omega
        rw [e1, e2, e3, e4]
        simp only [List.headD_cons, Bool.and_true]
        by_cases ha : a = 48 <;> simp [ha]
  rw [hcc]
  by_cases hc : (decide ((s.length : Int) < 1) || decide ((s.length : Int) > 15) || (decide (s.headD 0 = 48) && decide ((s.length : Int) > 1))) = true
  · rw [if_pos hc, if_neg (by rw [hc]; simp)]
  · rw [if_neg hc]
    have hc' : (decide ((s.length : Int) < 1) || decide ((s.length : Int) > 15) || (decide (s.headD 0 = 48) && decide ((s.length : Int) > 1))) = false := by simpa using hc
    rw [hc']
    simp only [Bool.or_eq_false_iff, decide_eq_false_iff_not] at hc'
    have := loop_spec (step := fun st => f_textual_numeral_l1 s st.1 st.2) (fun st : Int × Nat => some (if (s.drop st.2).all isDg = true then (numF st.1 (s.drop st.2), true) else ((0 : Int), false)))
      (fun st => st.2 ≤ s.length ∧ 0 ≤ st.1 ∧ st.1 < 10 ^ st.2) (fun st => s.length - st.2) (fun st hI => by
        obtain ⟨n, p⟩ := st
        obtain ⟨i1, i2, i3⟩ := hI
        simp only at i1 i2 i3 ⊢
        have hp := pow15 (k := p) (by omega)
        unfold f_textual_numeral_l1
        by_cases hi : p < s.length
        · rw [if_pos (by simpa using hi), ck_pos hi]
          rw [drop_nth hi]
          by_cases hhi : (nth s p).toNat < 128
          · have hr := runeAt_ascii hi hhi
            have hn : nextP s p = p + 1 := by unfold nextP; rw [if_pos hi, hr]
            rw [hr, hn]
            simp only
            cases hd : isDg (nth s p) with
            | false =>
              have hh := isDg_no hd
              rw [if_pos (by simp only [Bool.or_eq_true, decide_eq_true_eq]; omega)]
              exact .inl ⟨_, rfl, by simp [hd]⟩
            | true =>
              have hh := isDg_iff.1 hd
              rw [if_neg (by simp only [Bool.or_eq_true, decide_eq_true_eq]; omega)]
              rw [wrap_small (k := .i32) (by omega) (by omega) (.inl rfl), wrap_small (k := .i64) (by omega) (by omega) (.inr rfl)]
              rw [ck_pos (by omega), ck_pos (by omega)]
              refine .inr ⟨_, rfl, ⟨by simp only; omega, by simp only; omega, ?_⟩, by simp only; omega, ?_⟩
              · simp only
                rw [Int.pow_succ]; omega
              · simp only
                have e : 10 * n + (((nth s p).toNat : Int) - 48) = n * 10 + dgv (nth s p) := by unfold dgv; omega
                rw [e]
                simp [hd, numF]
          · have hr := runeAt_high hi (by omega)
            have hd : isDg (nth s p) = false := by
              cases hd : isDg (nth s p) with
              | false => rfl
              | true => have := isDg_iff.1 hd; omega
            rw [if_pos (by simp only [Bool.or_eq_true, decide_eq_true_eq]; omega)]
            exact .inl ⟨_, rfl, by simp [hd]⟩
        · rw [if_neg (by simpa using hi)]
          refine .inl ⟨_, rfl, ?_⟩
          rw [List.drop_of_length_le (by omega)]
          simp [numF]) (s := (0, 0)) ⟨by simp, by simp, by simp⟩ (by simp only; omega)
    rw [this]
    simp
/-! ### the words of a line, the lines of a text -/
def pre (a : List UInt8) (l : List (List UInt8)) : List (List UInt8) := (a ++ l.headD []) :: l.tail
theorem pre_nil {c : UInt8} {s : List UInt8} : pre [] (cutL c s) = cutL c s := by unfold pre; rw [List.nil_append, ← cutL_eta]
theorem p_Words (s : List UInt8) (hl : s.length ≤ 100000) : f_billingref09_Words s = some (cutL 32 s) := by
  unfold f_billingref09_Words
  have := loop_spec (step := fun st => f_billingref09_Words_l1 s st.1 st.2.1 st.2.2) (fun st : List (List UInt8) × Int × Int => some (if st.2.2 ≤ (s.length : Int) then st.1 ++ pre ((s.take st.2.2.toNat).drop st.2.1.toNat) (cutL 32 (s.drop st.2.2.toNat)) else st.1))
    (fun st => 0 ≤ st.2.1 ∧ st.2.1 ≤ st.2.2 ∧ st.2.2 ≤ (s.length : Int) + 1 ∧ (st.1.length : Int) ≤ st.2.2) (fun st => ((s.length : Int) + 1 - st.2.2).toNat) (fun st hI => by
      obtain ⟨out, fr, i⟩ := st
      obtain ⟨i0, i1, i2, i3⟩ := hI
      simp only at i0 i1 i2 i3 ⊢
      unfold f_billingref09_Words_l1
      by_cases hi : i ≤ (s.length : Int)
      · rw [if_pos (by simpa using hi), ck_pos (fun h => by simp at h; omega)]
        by_cases hc : i = (s.length : Int) ∨ nth s i.toNat = 32
        · rw [if_pos (by simpa using hc), ck_pos (by omega), ck_pos (by simp; omega), ck_pos (by omega), ck_pos (by omega)]
          refine .inr ⟨_, rfl, ⟨by simp only; omega, by simp only; omega, by simp only; omega, by simp; omega⟩, by simp only; omega, ?_⟩
          simp only
          rw [if_pos hi]
          by_cases hil : i = (s.length : Int)
          · rw [if_neg (by omega), List.drop_of_length_le (show s.length ≤ i.toNat by omega)]
            simp [cutL, pre]
          · have hn : nth s i.toNat = 32 := hc.resolve_left hil
            rw [if_pos (by omega), drop_nth (show i.toNat < s.length by omega), hn, cutL_hit, show (i + 1).toNat = i.toNat + 1 from by omega]
            have : ((s.take (i.toNat + 1)).drop (i.toNat + 1)) = [] := by rw [List.drop_of_length_le]; simp; omega
            rw [this, pre_nil]
            simp [pre]
        · rw [if_neg (by simpa using hc), ck_pos (by omega)]
          have h1 : ¬ i = (s.length : Int) := fun h => hc (.inl h)
          have h2 : nth s i.toNat ≠ 32 := fun h => hc (.inr h)
          refine .inr ⟨_, rfl, ⟨by simp only; omega, by simp only; omega, by simp only; omega, by simp only; omega⟩, by simp only; omega, ?_⟩
          simp only
          rw [if_pos hi, if_pos (by omega), drop_nth (show i.toNat < s.length by omega), cutL_step h2, show (i + 1).toNat = i.toNat + 1 from by omega]
          rw [take_nth (show i.toNat < s.length by omega)]
          rw [List.drop_append_of_le_length (by simp; omega)]
          simp [pre]
      · rw [if_neg (by simpa using hi)]
        exact .inl ⟨_, rfl, by rw [if_neg hi]⟩) (s := ([], 0, 0)) ⟨by simp, by simp, by simp only; omega, by simp⟩ (by simp only; omega)
  rw [this]
  simp only
  rw [if_pos (by omega)]
  simp only [show Int.toNat 0 = 0 from rfl, List.take_zero, List.drop_nil, List.nil_append, List.drop_zero, pre_nil]
end Go.Proofs.YtoknjmclbfgkiaaDoor
