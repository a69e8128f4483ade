import Derived.Test.YtoknjmclbfgkiaaDoorQ7
set_option linter.unusedSimpArgs false
set_option linter.unusedVariables false
namespace Go.Proofs.YtoknjmclbfgkiaaDoor
open Go.RowKit Go.Abs
/-! ### the lines of a text -/
def linesF (s : List UInt8) : List (List UInt8) × Int := if s ≠ [] ∧ nth s (s.length - 1) ≠ 10 then ([], 1) else if 4096 < (cutL 10 s).length - 1 then ([], 5) else ((cutL 10 s).dropLast, 0)
theorem snoc_of {s : List UInt8} (h : s ≠ []) : ∃ t, s = t ++ [nth s (s.length - 1)] := by
  have hl : 0 < s.length := List.length_pos_iff.2 h
  refine ⟨s.take (s.length - 1), ?_⟩
  have := take_nth (l := s) (k := s.length - 1) (by omega)
  rw [← this, show s.length - 1 + 1 = s.length from by omega, List.take_length]
theorem pre_drop {a : List UInt8} {l : List (List UInt8)} (h : l.tail ≠ []) : (pre a l).dropLast = (a ++ l.headD []) :: l.tail.dropLast := by
  unfold pre
  cases ht : l.tail with
  | nil => exact absurd ht h
  | cons x y => rfl
theorem p_rLines (s : List UInt8) (hl : s.length ≤ 100000) : f_billingref09_Lines s = some (linesF s) := by
  unfold f_billingref09_Lines linesF
  have hne : (s != ([] : List UInt8)) = true ↔ s ≠ [] := by simp
  have hpos : s ≠ [] → 0 < s.length := fun h => List.length_pos_iff.2 h
  rw [ck_pos (fun h => by omega), ck_pos (fun h => by have := hpos (hne.1 h); omega)]
  have hn : ((s.length : Int) - 1).toNat = s.length - 1 := by omega
  rw [hn]
  by_cases hc : s ≠ [] ∧ nth s (s.length - 1) ≠ 10
  · rw [if_pos (by simpa using hc), if_pos hc]
  · rw [if_neg (by simpa using hc), if_neg hc]
    have := loop_spec (step := fun st => f_billingref09_Lines_l1 s st.1 st.2.1 st.2.2) (fun st : List (List UInt8) × Int × Int => f_billingref09_Lines_j1 (st.1 ++ (pre ((s.take st.2.2.toNat).drop st.2.1.toNat) (cutL 10 (s.drop st.2.2.toNat))).dropLast))
      (fun st => 0 ≤ st.2.1 ∧ st.2.1 ≤ st.2.2 ∧ st.2.2 ≤ (s.length : Int) ∧ (st.1.length : Int) ≤ st.2.2) (fun st => ((s.length : Int) - st.2.2).toNat) (fun st hI => by
        obtain ⟨out, fr, i⟩ := st
        obtain ⟨i0, i1, i2, i3⟩ := hI
        simp only at i0 i1 i2 i3 ⊢
        unfold f_billingref09_Lines_l1
        by_cases hi : i < (s.length : Int)
        · rw [if_pos (by simpa using hi), ck_pos (by omega)]
          rw [drop_nth (show i.toNat < s.length by omega)]
          by_cases hn : nth s i.toNat = 10
          · rw [if_pos (by simpa using hn), ck_pos (by omega), ck_pos (by simp; omega), ck_pos (by omega), ck_pos (by omega)]
            refine .inr ⟨_, rfl, ⟨by simp only; omega, by simp only; omega, by simp only; omega, by simp; omega⟩, by simp only; omega, ?_⟩
            simp only
            rw [hn, cutL_hit, show (i + 1).toNat = i.toNat + 1 from by omega]
            have : ((s.take (i.toNat + 1)).drop (i.toNat + 1)) = [] := by rw [List.drop_of_length_le]; simp; omega
            rw [this, pre_nil, pre_drop (by simpa using cutL_ne _ _)]
            simp
          · rw [if_neg (by simpa using hn), ck_pos (by omega)]
            refine .inr ⟨_, rfl, ⟨by simp only; omega, by simp only; omega, by simp only; omega, by simp only; omega⟩, by simp only; omega, ?_⟩
            simp only
            rw [cutL_step hn, show (i + 1).toNat = i.toNat + 1 from by omega, take_nth (show i.toNat < s.length by omega), List.drop_append_of_le_length (by simp; omega)]
            simp [pre]
        · rw [if_neg (by simpa using hi)]
          have hd : s.drop i.toNat = [] := List.drop_of_length_le (by omega)
          rw [hd]
          have : (pre ((s.take i.toNat).drop fr.toNat) (cutL 10 [])).dropLast = [] := rfl
          rw [this, List.append_nil]
          unfold f_billingref09_Lines_j1
          split
          · exact .inl ⟨_, rfl, rfl⟩
          · exact .inl ⟨_, rfl, rfl⟩) (s := ([], 0, 0)) ⟨by simp, by simp, by simp, by simp⟩ (by simp only; omega)
    rw [this]
    simp only [show Int.toNat 0 = 0 from rfl, List.take_zero, List.drop_nil, List.nil_append, List.drop_zero, pre_nil]
    unfold f_billingref09_Lines_j1
    have hlen : (cutL 10 s).dropLast.length = (cutL 10 s).length - 1 := by simp
    by_cases h5 : 4096 < (cutL 10 s).length - 1
    · rw [if_pos (by rw [hlen]; simp; omega), if_pos h5]
    · rw [if_neg (by rw [hlen]; simp; omega), if_neg h5]
theorem suffix_snoc {t : List UInt8} {c : UInt8} : Go.Lib.hasSuffix (t ++ [c]) [10] = decide (c = 10) := by
  unfold Go.Lib.hasSuffix
  rw [Bool.eq_iff_iff, List.isSuffixOf_iff_suffix, decide_eq_true_iff]
  constructor
  · rintro ⟨u, hu⟩
    have := congrArg List.getLast? hu
    simp at this
    exact this.symm
  · rintro rfl; exact ⟨t, rfl⟩
theorem trim_snoc {t : List UInt8} : Go.Lib.trimSuffix (t ++ [10]) [10] = t := by
  unfold Go.Lib.trimSuffix
  rw [suffix_snoc]
  simp
theorem p_Lines (s : List UInt8) (hl : s.length ≤ 100000) : f_textual_Lines s = some (linesF s) := by
  unfold f_textual_Lines linesF x_CutSuffix x_Split
  by_cases h0 : s = []
  · subst h0
    rw [if_pos (by simp), if_neg (by simp), if_neg (by simp [cutL])]
    rfl
  · rw [if_neg (by simpa using h0), ck_pos (by omega)]
    obtain ⟨t, ht⟩ := snoc_of h0
    simp only [Option.bind_some]
    generalize nth s (s.length - 1) = c at ht ⊢
    subst ht
    rw [suffix_snoc]
    by_cases hc : c = 10
    · subst hc
      rw [if_neg (by simp), if_neg (by simp), trim_snoc, ck_pos (by simp at hl ⊢; omega), split_cut]
      simp only [Option.bind_some]
      rw [cutL_snoc]
      simp only [List.length_append, List.length_cons, List.length_nil, Nat.add_sub_cancel, List.dropLast_concat]
      by_cases h5 : 4096 < (cutL 10 t).length
      · rw [if_pos (by simp; omega), if_pos (by omega)]
      · rw [if_neg (by simp; omega), if_neg (by omega)]
    · rw [if_pos (by simp [hc]), if_pos ⟨h0, hc⟩]
end Go.Proofs.YtoknjmclbfgkiaaDoor
