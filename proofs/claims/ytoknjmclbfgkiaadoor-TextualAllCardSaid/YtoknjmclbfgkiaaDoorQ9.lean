import Derived.Test.YtoknjmclbfgkiaaDoorQ8
set_option linter.unusedSimpArgs false
set_option linter.unusedVariables false
namespace Go.Proofs.YtoknjmclbfgkiaaDoor
open Go.RowKit Go.Abs
def okLs : List (List UInt8) → List Record
  | [] => []
  | x :: r => if (decF x).2 = 0 then (decF x).1 :: okLs r else okLs r
def noLs : Int → List (List UInt8) → List Reject
  | _, [] => []
  | i, x :: r => if (decF x).2 = 0 then noLs (i + 1) r else ⟨0, 0, i, (decF x).2⟩ :: noLs (i + 1) r
def allF (s : List UInt8) : List Record × List Reject × Int := if (linesF s).2 ≠ 0 then ([], [], (linesF s).2) else (okLs (linesF s).1, noLs 0 (linesF s).1, 0)
theorem linesF_mem {s w : List UInt8} (h : w ∈ (linesF s).1) : w.length ≤ s.length ∧ free 10 w := by
  unfold linesF at h
  split at h
  · simp at h
  · split at h
    · simp at h
    · have := cutL_mem 10 s w (List.dropLast_subset _ h)
      exact ⟨this.2, this.1⟩
theorem linesF_len (s : List UInt8) : (linesF s).1.length ≤ s.length := by
  unfold linesF
  split
  · simp
  · split
    · simp
    · have := cutL_len 10 s
      simp; omega
theorem p_All (s : List UInt8) (hl : s.length ≤ 100000) : f_textual_All s = some (allF s) := by
  unfold f_textual_All allF
  rw [p_Lines s hl, Option.bind_some]
  by_cases he : (linesF s).2 = 0
  · rw [if_neg (by simp [he]), if_neg (by simp [he])]
    have hm : ∀ w, w ∈ (linesF s).1 → w.length ≤ 100000 := fun w hw => by have := (linesF_mem hw).1; omega
    have hll := linesF_len s
    generalize linesF s = y at hm hll he ⊢
    have := loop_spec (step := fun st => f_textual_All_l1 y st.1 st.2.1 st.2.2) (fun st : List Record × List Reject × Int => some (st.1 ++ okLs (y.1.drop st.2.2.toNat), st.2.1 ++ noLs st.2.2 (y.1.drop st.2.2.toNat), (0 : Int)))
      (fun st => 0 ≤ st.2.2 ∧ st.2.2 ≤ (y.1.length : Int) ∧ (st.1.length : Int) ≤ st.2.2 ∧ (st.2.1.length : Int) ≤ st.2.2) (fun st => ((y.1.length : Int) - st.2.2).toNat) (fun st hI => by
        obtain ⟨out, no, i⟩ := st
        obtain ⟨i0, i1, i2, i3⟩ := hI
        simp only at i0 i1 i2 i3 ⊢
        unfold f_textual_All_l1
        by_cases hi : i < (y.1.length : Int)
        · rw [if_pos (by simpa using hi), ck_pos (by omega), p_Decode _ (hm _ (by rw [nth_eq (show i.toNat < y.1.length by omega)]; exact List.getElem_mem _)), Option.bind_some]
          rw [drop_nth (show i.toNat < y.1.length by omega)]
          by_cases hd : (decF (nth y.1 i.toNat)).2 = 0
          · rw [if_neg (by simp [hd]), ck_pos (by simp; omega), ck_pos (by omega)]
            refine .inr ⟨_, rfl, ⟨by simp only; omega, by simp only; omega, by simp; omega, by simp only; omega⟩, by simp only; omega, ?_⟩
            simp only
            rw [show (i + 1).toNat = i.toNat + 1 from by omega]
            simp [okLs, noLs, hd]
          · rw [if_pos (by simpa using hd), ck_pos (by simp; omega), ck_pos (by omega)]
            refine .inr ⟨_, rfl, ⟨by simp only; omega, by simp only; omega, by simp only; omega, by simp; omega⟩, by simp only; omega, ?_⟩
            simp only
            rw [show (i + 1).toNat = i.toNat + 1 from by omega]
            simp [okLs, noLs, hd]
        · rw [if_neg (by simpa using hi)]
          refine .inl ⟨_, rfl, ?_⟩
          rw [List.drop_of_length_le (by omega)]
          simp [okLs, noLs]) (s := ([], [], 0)) ⟨by simp, by simp, by simp, by simp⟩ (by simp only; omega)
    rw [this]
    simp
  · rw [if_pos (by simpa using he), if_pos he]
theorem p_rAll (s : List UInt8) (hl : s.length ≤ 100000) : f_billingref09_All s = some (allF s) := by
  unfold f_billingref09_All allF
  rw [p_rLines s hl, Option.bind_some]
  by_cases he : (linesF s).2 = 0
  · rw [if_neg (by simp [he]), if_neg (by simp [he])]
    have hm : ∀ w, w ∈ (linesF s).1 → w.length ≤ 100000 := fun w hw => by have := (linesF_mem hw).1; omega
    have hll := linesF_len s
    generalize linesF s = y at hm hll he ⊢
    have := loop_spec (step := fun st => f_billingref09_All_l1 y st.1 st.2.1 st.2.2) (fun st : List Record × List Reject × Int => some (st.1 ++ okLs (y.1.drop st.2.2.toNat), st.2.1 ++ noLs st.2.2 (y.1.drop st.2.2.toNat), (0 : Int)))
      (fun st => 0 ≤ st.2.2 ∧ st.2.2 ≤ (y.1.length : Int) ∧ (st.1.length : Int) ≤ st.2.2 ∧ (st.2.1.length : Int) ≤ st.2.2) (fun st => ((y.1.length : Int) - st.2.2).toNat) (fun st hI => by
        obtain ⟨out, no, i⟩ := st
        obtain ⟨i0, i1, i2, i3⟩ := hI
        simp only at i0 i1 i2 i3 ⊢
        unfold f_billingref09_All_l1
        by_cases hi : i < (y.1.length : Int)
        · rw [if_pos (by simpa using hi), ck_pos (by omega), p_rDecode _ (hm _ (by rw [nth_eq (show i.toNat < y.1.length by omega)]; exact List.getElem_mem _)), Option.bind_some]
          rw [drop_nth (show i.toNat < y.1.length by omega)]
          by_cases hd : (decF (nth y.1 i.toNat)).2 = 0
          · rw [if_pos (by simp [hd]), ck_pos (by simp; omega), ck_pos (by omega)]
            refine .inr ⟨_, rfl, ⟨by simp only; omega, by simp only; omega, by simp; omega, by simp only; omega⟩, by simp only; omega, ?_⟩
            simp only
            rw [show (i + 1).toNat = i.toNat + 1 from by omega]
            simp [okLs, noLs, hd]
          · rw [if_neg (by simpa using hd), ck_pos (by simp; omega), ck_pos (by omega)]
            refine .inr ⟨_, rfl, ⟨by simp only; omega, by simp only; omega, by simp only; omega, by simp; omega⟩, by simp only; omega, ?_⟩
            simp only
            rw [show (i + 1).toNat = i.toNat + 1 from by omega]
            simp [okLs, noLs, hd]
        · rw [if_neg (by simpa using hi)]
          refine .inl ⟨_, rfl, ?_⟩
          rw [List.drop_of_length_le (by omega)]
          simp [okLs, noLs]) (s := ([], [], 0)) ⟨by simp, by simp, by simp, by simp⟩ (by simp only; omega)
    rw [this]
    simp
  · rw [if_pos (by simpa using he), if_pos he]
theorem okLs_len : ∀ l : List (List UInt8), (okLs l).length ≤ l.length
  | [] => by simp [okLs]
  | x :: r => by
    have := okLs_len r
    unfold okLs
    split
    · simp; omega
    · simp; omega
theorem noLs_len : ∀ (l : List (List UInt8)) (i : Int), (noLs i l).length ≤ l.length
  | [], i => by simp [noLs]
  | x :: r, i => by
    have := noLs_len r (i + 1)
    unfold noLs
    split
    · simp; omega
    · simp; omega
theorem p_Same (a : List Record) (hl : a.length ≤ 100000) : f_billingref09_Same a a = some true := by
  unfold f_billingref09_Same
  rw [if_neg (by simp), loop_all a (fun _ => true) true true (by omega) (fun i h0 h1 => ?_) (fun i hi => ?_)]
  · simp
  · unfold f_billingref09_Same_l1
    rw [if_pos (by simpa using h1), ck_pos (by omega), ck_pos (by omega), if_neg (by rw [Record.eq_refl]; simp), ck_pos (by omega)]
    rfl
  · unfold f_billingref09_Same_l1
    rw [if_neg (by simp; omega)]
theorem p_SameRejects (a : List Reject) (hl : a.length ≤ 100000) : f_billingref09_SameRejects a a = some true := by
  unfold f_billingref09_SameRejects
  rw [if_neg (by simp), loop_all a (fun _ => true) true true (by omega) (fun i h0 h1 => ?_) (fun i hi => ?_)]
  · simp
  · unfold f_billingref09_SameRejects_l1
    rw [if_pos (by simpa using h1), ck_pos (by omega), ck_pos (by omega), if_neg (by rw [Reject.eq_refl]; simp), ck_pos (by omega)]
    rfl
  · unfold f_billingref09_SameRejects_l1
    rw [if_neg (by simp; omega)]
theorem allF_len (s : List UInt8) : (allF s).1.length ≤ s.length ∧ (allF s).2.1.length ≤ s.length := by
  have h := linesF_len s
  have h1 := okLs_len (linesF s).1
  have h2 := noLs_len (linesF s).1 0
  unfold allF
  split
  · simp
  · exact ⟨by simp only; omega, by simp only; omega⟩
theorem texts_true (s : List UInt8) : f_billinglaw09_TextualTexts s = some true := by
  unfold f_billinglaw09_TextualTexts
  by_cases h : (s.length : Int) > 3000
  · rw [if_pos (by simpa using h), awake_true]; rfl
  · rw [if_neg (by simpa using h), p_Lines s (by omega), p_rLines s (by omega)]
    simp only [Option.bind_some]
    rw [if_neg (by simp)]
    have hll := linesF_len s
    have hj : f_billinglaw09_TextualTexts_j1 s = some true := by
      unfold f_billinglaw09_TextualTexts_j1
      have hal := allF_len s
      rw [p_All s (by omega), p_rAll s (by omega)]
      simp only [Option.bind_some]
      rw [p_Same _ (by omega), p_SameRejects _ (by omega)]
      simp only [Option.bind_some, gcall_mk, if_true, Bool.and_self, beq_self_eq_true, awake_true]
    generalize linesF s = y at hll ⊢
    rw [loop_all y.1 (fun _ => true) true true (by omega) (fun i h0 h1 => ?_) (fun i hi => ?_)]
    · simp
    · unfold f_billinglaw09_TextualTexts_l1
      rw [if_pos (by simpa using h1), ck_pos (by omega), ck_pos (by omega), if_neg (by simp), ck_pos (by omega)]
      rfl
    · unfold f_billinglaw09_TextualTexts_l1
      rw [if_neg (by simp; omega), hj]
      rfl
end Go.Proofs.YtoknjmclbfgkiaaDoor
