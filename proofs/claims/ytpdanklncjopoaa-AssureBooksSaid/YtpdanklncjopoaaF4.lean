import Derived.Test.YtpdanklncjopoaaF3
set_option linter.unusedSimpArgs false
set_option linter.unusedVariables false
namespace Go.Proofs.Ytpdanklncjopoaa
open Go.RowKit Go.Abs
def keysI (l : List Invoice) : List Int → List Int
  | s => (l.map Invoice.account).foldl insK s
theorem keysI_cons (x : Invoice) (l : List Invoice) (s : List Int) : keysI (x :: l) s = keysI l (insK s x.account) := rfl
theorem keysI_len : ∀ (l : List Invoice) (s : List Int), (keysI l s).length ≤ l.length + s.length
  | [], s => by simp [keysI]
  | x :: l, s => by
    rw [keysI_cons]
    have h1 := keysI_len l (insK s x.account)
    have h2 := insK_len s x.account
    simp; omega
theorem keysI_in : ∀ (l : List Invoice) (s : List Int), ∀ k, k ∈ keysI l s → k ∈ s ∨ ∃ x, x ∈ l ∧ x.account = k
  | [], s, k, h => .inl h
  | x :: l, s, k, h => by
    rw [keysI_cons] at h
    rcases keysI_in l _ k h with h | ⟨y, h1, h2⟩
    · rcases insK_has h with h | h
      · exact .inr ⟨x, List.mem_cons_self, h.symm⟩
      · exact .inl h
    · exact .inr ⟨y, List.mem_cons_of_mem _ h1, h2⟩
theorem leakB_len (inv : List Invoice) (ents : List Entry) (k : Int) : (leakB inv ents k).length ≤ 1 := by
  unfold leakB; split <;> simp
def flatB (inv : List Invoice) (ents : List Entry) (ks : List Int) : List Leak := (ks.map (leakB inv ents)).flatten
theorem flatB_cons (inv : List Invoice) (ents : List Entry) (k : Int) (ks : List Int) : flatB inv ents (k :: ks) = leakB inv ents k ++ flatB inv ents ks := rfl
theorem flatB_len (inv : List Invoice) (ents : List Entry) : ∀ ks : List Int, (flatB inv ents ks).length ≤ ks.length
  | [] => by simp [flatB]
  | k :: ks => by
    rw [flatB_cons]
    have := flatB_len inv ents ks
    have := leakB_len inv ents k
    simp; omega
theorem p_rKeysAll {inv : List Invoice} {ents : List Entry} (hi : OkI inv) (he : OkE ents) {out : List Leak} (hout : out.length ≤ 1) : f_billingref54_Books_j2 inv ents out = some (out ++ flatB inv ents (keysI inv [])) := by
  have hkl := keysI_len inv []
  have hil := hi.1
  have hkin : ∀ k, k ∈ keysI inv [] → 1 ≤ k ∧ k ≤ 9999 := fun k hk => by
    rcases keysI_in inv [] k hk with h | ⟨x, h1, h2⟩
    · cases h
    · have := (hi.2 x h1).2; omega
  have h3 : f_billingref54_Books_j3 inv ents out (keysI inv []) = some (out ++ flatB inv ents (keysI inv [])) := by
    unfold f_billingref54_Books_j3
    generalize keysI inv [] = ks at hkl hkin
    simp at hkl
    have := loop_spec (step := fun s => f_billingref54_Books_l1 inv ents ks s.1 s.2) (fun s : List Leak × Int => some (s.1 ++ flatB inv ents (ks.drop s.2.toNat))) (fun s => 0 ≤ s.2 ∧ s.2 ≤ (ks.length : Int) ∧ (s.1.length : Int) ≤ 1 + s.2) (fun s => ((ks.length : Int) - s.2).toNat) (fun s hI => by
      obtain ⟨o, i⟩ := s
      obtain ⟨i0, i1, i2⟩ := hI
      simp only at i0 i1 i2 ⊢
      by_cases hlt : i < (ks.length : Int)
      · have hk := hkin _ (nth_in (show i.toNat < ks.length by omega))
        rw [p_perKey hi he (by omega) i0 hlt (by omega) hk, drop_nth (show i.toNat < ks.length by omega), flatB_cons]
        have := leakB_len inv ents (nth ks i.toNat)
        refine .inr ⟨_, rfl, ⟨by simp only; omega, by simp only; omega, by simp; omega⟩, by simp only; omega, ?_⟩
        simp only
        rw [show (i + 1).toNat = i.toNat + 1 by omega, List.append_assoc]
      · unfold f_billingref54_Books_l1
        rw [if_neg (by simpa using hlt), List.drop_of_length_le (by omega)]
        exact .inl ⟨_, rfl, by simp [flatB]⟩) (s := (out, 0)) ⟨by simp, by simp, by simp; omega⟩ (by simp only; omega)
    rw [this]; simp
  unfold f_billingref54_Books_j2
  have := loop_spec (step := fun s => f_billingref54_Books_l4 inv ents out s.1 s.2) (fun s : List Int × Int => f_billingref54_Books_j3 inv ents out (keysI (inv.drop s.2.toNat) s.1)) (fun s => 0 ≤ s.2 ∧ s.2 ≤ (inv.length : Int) ∧ Asc s.1 ∧ (s.1.length : Int) ≤ s.2 ∧ keysI (inv.drop s.2.toNat) s.1 = keysI inv []) (fun s => ((inv.length : Int) - s.2).toNat) (fun s hI => by
      obtain ⟨ks, i⟩ := s
      obtain ⟨i0, i1, i2, i3, i4⟩ := hI
      simp only at i0 i1 i2 i3 i4 ⊢
      unfold f_billingref54_Books_l4
      by_cases hlt : i < (inv.length : Int)
      · rw [drop_nth (show i.toNat < inv.length by omega), keysI_cons] at i4
        rw [if_pos (by simpa using hlt), ck_pos (by omega), p_rKeys (by omega) i2, Option.bind_some, ck_pos (by omega), drop_nth (show i.toNat < inv.length by omega), keysI_cons]
        have := insK_len ks (nth inv i.toNat).account
        refine .inr ⟨_, rfl, ⟨by simp only; omega, by simp only; omega, insK_asc i2, by simp only; omega, ?_⟩, by simp only; omega, ?_⟩
        · simp only
          rw [show (i + 1).toNat = i.toNat + 1 by omega]; exact i4
        · simp only
          rw [show (i + 1).toNat = i.toNat + 1 by omega]
      · rw [List.drop_of_length_le (by omega)] at i4 ⊢
        rw [if_neg (by simpa using hlt)]
        have e : ks = keysI inv [] := i4
        exact .inl ⟨_, by rw [e, h3]; rfl, by rw [show keysI [] ks = keysI inv [] from i4, h3]⟩) (s := ([], 0)) ⟨by simp, by simp, asc_nil, by simp, by simp⟩ (by simp only; omega)
  rw [this]
  simp [h3]
def booksF (inv : List Invoice) (ents : List Entry) : List Leak := (if sumEs ents = 0 then [] else [⟨6, 0, sumEs ents, 0⟩]) ++ flatB inv ents (keysI inv [])
theorem p_rBooks {inv : List Invoice} {ents : List Entry} (hi : OkI inv) (he : OkE ents) : f_billingref54_Books inv ents = some (booksF inv ents) := by
  have h1 : f_billingref54_Books_j1 inv ents (sumEs ents) = some (booksF inv ents) := by
    unfold f_billingref54_Books_j1 booksF
    by_cases hs : sumEs ents = 0
    · rw [if_neg (by simp [hs]), if_pos hs, p_rKeysAll hi he (by simp)]
    · rw [if_pos (by simpa using hs), if_neg hs, ck_pos (by simp), p_rKeysAll hi he (by simp)]; rfl
  unfold f_billingref54_Books
  have := loop_spec (step := fun s => f_billingref54_Books_l5 inv ents s.1 s.2) (fun s : Int × Int => f_billingref54_Books_j1 inv ents (s.1 + sumEs (ents.drop s.2.toNat))) (fun s => 0 ≤ s.2 ∧ s.2 ≤ (ents.length : Int) ∧ (-1125899906842624 * (24 * s.2) ≤ s.1 ∧ s.1 ≤ 1125899906842624 * (24 * s.2)) ∧ s.1 + sumEs (ents.drop s.2.toNat) = sumEs ents) (fun s => ((ents.length : Int) - s.2).toNat) (fun s hI => by
      obtain ⟨a, i⟩ := s
      obtain ⟨i0, i1, i2, i4⟩ := hI
      simp only at i0 i1 i2 i4 ⊢
      unfold f_billingref54_Books_l5
      by_cases hlt : i < (ents.length : Int)
      · have hp := he.2 _ (nth_in (show i.toNat < ents.length by omega))
        have hs := sumA_le _ hp.2
        have hpl := hp.1
        rw [drop_nth (show i.toNat < ents.length by omega), sumEs] at i4
        rw [if_pos (by simpa using hlt), p_sum2 (R := Int) he i a i0 hlt i2, drop_nth (show i.toNat < ents.length by omega), sumEs]
        refine .inr ⟨_, rfl, ⟨by simp only; omega, by simp only; omega, ⟨by simp only; omega, by simp only; omega⟩, ?_⟩, by simp only; omega, ?_⟩
        · simp only
          rw [show (i + 1).toNat = i.toNat + 1 by omega]; omega
        · simp only
          rw [show (i + 1).toNat = i.toNat + 1 by omega, Int.add_assoc]
      · rw [List.drop_of_length_le (by omega)] at i4 ⊢
        rw [sumEs, Int.add_zero] at i4 ⊢
        rw [if_neg (by simpa using hlt), i4, h1]
        exact .inl ⟨_, rfl, rfl⟩) (s := (0, 0)) ⟨by simp, by simp, ⟨by simp, by simp⟩, by simp⟩ (by have := he.1; simp only; omega)
  rw [this]
  simp [h1]
end Go.Proofs.Ytpdanklncjopoaa
