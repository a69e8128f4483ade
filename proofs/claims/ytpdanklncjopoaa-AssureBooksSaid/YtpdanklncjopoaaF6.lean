import Derived.Test.YtpdanklncjopoaaF5
set_option linter.unusedSimpArgs false
set_option linter.unusedVariables false
namespace Go.Proofs.Ytpdanklncjopoaa
open Go.RowKit Go.Abs
theorem bookE_split (s : List UInt8) (e : Entry) (l : List Entry) : bookE s (e :: l) = (if e.text = invT then balP s e.posts else 0) + bookE s l := rfl
theorem diffs_flat {inv : List Invoice} {ents : List Entry} {a b : List (Int × Int)} : ∀ ks : List Int, (∀ k, k ∈ ks → (alook a k).getD 0 = billI k inv ∧ (alook b k).getD 0 = bookE (acct k) ents) → diffs a b ks = flatB inv ents ks
  | [], _ => rfl
  | k :: ks, h => by
    rw [diffs_cons, flatB_cons, diffs_flat ks fun k hk => h k (List.mem_cons_of_mem _ hk)]
    have h1 := h k List.mem_cons_self
    unfold diffOf leakB
    rw [h1.1, h1.2]
theorem p_Books_j2 {inv : List Invoice} {ents : List Entry} (hi : OkI inv) {a b : List (Int × Int)} (ha : ∀ x, x ∈ inv → (alook a x.account).getD 0 = billI x.account inv) (hb : Booked inv (fun s => bookE s ents) b) :
    f_assure_Books_j2 (keysI inv []) a (sumEs ents) b = some (booksF inv ents) := by
  have hkl := keysI_len inv []
  have hil := hi.1
  simp at hkl
  have hd : diffs a b (keysI inv []) = flatB inv ents (keysI inv []) := diffs_flat _ fun k hk => by
    rcases keysI_in inv [] k hk with h | ⟨x, h1, h2⟩
    · cases h
    · rw [← h2]; exact ⟨ha x h1, hb x h1⟩
  have hfl := flatB_len inv ents (keysI inv [])
  unfold f_assure_Books_j2 booksF f_assure_Books_j3
  rw [p_differing (by omega), hd]
  simp only [Option.bind_some]
  by_cases hs : sumEs ents = 0
  · rw [if_neg (by simp [hs]), if_pos hs, ck_pos (by simp; omega)]
  · rw [if_pos (by simpa using hs), if_neg hs, ck_pos (by simp), ck_pos (by simp; omega)]; rfl
theorem p_Books_j1 {inv : List Invoice} {ents : List Entry} (hi : OkI inv) (he : OkE ents) {a : List (Int × Int)} {nm : List (List UInt8 × Int)} (ha : ∀ x, x ∈ inv → (alook a x.account).getD 0 = billI x.account inv) (hn : Names inv nm) :
    f_assure_Books_j1 ents (keysI inv []) a nm = some (booksF inv ents) := by
  unfold f_assure_Books_j1
  obtain ⟨r, h1, h2⟩ := loop_post (step := fun s => f_assure_Books_l1 ents (keysI inv []) a nm s.1 s.2.1 s.2.2) (fun r => r = booksF inv ents)
    (fun s : Int × Int × List (Int × Int) => 0 ≤ s.2.1 ∧ s.2.1 ≤ (ents.length : Int) ∧ (-1125899906842624 * (24 * s.2.1) ≤ s.1 ∧ s.1 ≤ 1125899906842624 * (24 * s.2.1)) ∧ s.1 + sumEs (ents.drop s.2.1.toNat) = sumEs ents ∧
      ∃ g : List UInt8 → Int, Booked inv g s.2.2 ∧ (∀ x, -1125899906842624 * (24 * s.2.1) ≤ g x ∧ g x ≤ 1125899906842624 * (24 * s.2.1)) ∧ ∀ x, g x + bookE x (ents.drop s.2.1.toNat) = bookE x ents) (fun s => ((ents.length : Int) - s.2.1).toNat) (fun s hI => by
      obtain ⟨acc, i, b⟩ := s
      obtain ⟨i0, i1, i2, i3, g, g1, g2, g3⟩ := hI
      simp only at i0 i1 i2 i3 g1 g2 g3 ⊢
      have hl := he.1
      unfold f_assure_Books_l1
      by_cases hk : i < (ents.length : Int)
      · have hp := he.2 _ (nth_in (show i.toNat < ents.length by omega))
        have hs := sumA_le _ hp.2
        have hpl := hp.1
        obtain ⟨b', q1, q2⟩ := p_posts hi he hn g1 i0 hk i2 g2
        rw [drop_nth (show i.toNat < ents.length by omega), sumEs] at i3
        have hk1 : (i + 1).toNat = i.toNat + 1 := by omega
        rw [if_pos (by simpa using hk), ck_pos (by omega), q1]
        refine .inr ⟨_, rfl, ⟨by simp only; omega, by simp only; omega, ⟨by simp only; omega, by simp only; omega⟩, by simp only; rw [hk1]; omega, _, q2, ?_, ?_⟩, by simp only; omega⟩
        · intro x
          have h1 := g2 x
          have h2 := balP_le x _ hp.2
          simp only
          split <;> omega
        · intro x
          have h1 := g3 x
          rw [drop_nth (show i.toNat < ents.length by omega), bookE_split] at h1
          simp only
          rw [hk1]; omega
      · rw [List.drop_of_length_le (by omega)] at i3 g3
        rw [sumEs, Int.add_zero] at i3
        have hb : Booked inv (fun s => bookE s ents) b := fun x hx => by
          have := g3 (acct x.account)
          rw [bookE, Int.add_zero] at this
          rw [g1 x hx]; exact this
        rw [if_neg (by simpa using hk), i3, p_Books_j2 hi ha hb]
        exact .inl ⟨_, rfl, rfl⟩) (s := (0, 0, [])) ⟨by simp, by simp, ⟨by simp, by simp⟩, by simp, fun _ => 0, fun x _ => by simp [alook_nil], fun x => by simp, fun x => by simp⟩ (by have := he.1; simp only; omega)
  rw [h1, h2]
theorem billI_app (k : Int) : ∀ (l m : List Invoice), billI k (l ++ m) = billI k l + billI k m
  | [], m => by simp [billI]
  | x :: l, m => by rw [List.cons_append, billI, billI, billI_app k l m, Int.add_assoc]
theorem billI_le (k : Int) : ∀ (l : List Invoice), (∀ i, i ∈ l → (-1125899906842624 ≤ i.total ∧ i.total ≤ 1125899906842624) ∧ 1 ≤ i.account ∧ i.account ≤ 9999) → -1125899906842624 * (l.length : Int) ≤ billI k l ∧ billI k l ≤ 1125899906842624 * (l.length : Int)
  | [], _ => by simp [billI]
  | p :: r, h => by
    have h1 := (h p List.mem_cons_self).1
    have h2 := billI_le k r fun q hq => h q (List.mem_cons_of_mem _ hq)
    rw [billI, List.length_cons]
    split <;> omega
theorem p_Books {inv : List Invoice} {ents : List Entry} (hi : OkI inv) (he : OkE ents) : f_assure_Books inv ents = some (booksF inv ents) := by
  unfold f_assure_Books
  obtain ⟨r, h1, h2⟩ := loop_post (step := fun s => f_assure_Books_l3 inv ents s.1 s.2.1 s.2.2.1 s.2.2.2) (fun r => r = booksF inv ents)
    (fun s : List Int × Int × List (Int × Int) × List (List UInt8 × Int) => 0 ≤ s.2.1 ∧ s.2.1 ≤ (inv.length : Int) ∧ Asc s.1 ∧ (s.1.length : Int) ≤ s.2.1 ∧ keysI (inv.drop s.2.1.toNat) s.1 = keysI inv [] ∧ (∀ k, (alook s.2.2.1 k).getD 0 = billI k (inv.take s.2.1.toNat)) ∧ Names (inv.take s.2.1.toNat) s.2.2.2) (fun s => ((inv.length : Int) - s.2.1).toNat) (fun s hI => by
      obtain ⟨ks, i, a, nm⟩ := s
      obtain ⟨i0, i1, i2, i3, i4, i5, i6⟩ := hI
      simp only at i0 i1 i2 i3 i4 i5 i6 ⊢
      have hl := hi.1
      unfold f_assure_Books_l3
      by_cases hk : i < (inv.length : Int)
      · have hx := hi.2 _ (nth_in (show i.toNat < inv.length by omega))
        have hk1 : (i + 1).toNat = i.toNat + 1 := by omega
        have htk : inv.take (i.toNat + 1) = inv.take i.toNat ++ [nth inv i.toNat] := by rw [nth_eq (show i.toNat < inv.length by omega), List.take_append_getElem]
        rw [drop_nth (show i.toNat < inv.length by omega), keysI_cons] at i4
        have hbl := billI_le (nth inv i.toNat).account (inv.take i.toNat) (fun x hx => hi.2 x (List.mem_of_mem_take hx))
        have htl : (inv.take i.toNat).length ≤ 24 := by simp; omega
        have hdl : (digs (nth inv i.toNat).account.toNat).length ≤ 20 := digs_len 20 _
        rw [if_pos (by simpa using hk), ck_pos (by omega), p_keys (by omega) i2, Option.bind_some, p_decimal (by omega) (by omega), Option.bind_some, ck_pos (by simp; omega), i5, ck_pos (by omega), ck_pos (by omega)]
        have := insK_len ks (nth inv i.toNat).account
        refine .inr ⟨_, rfl, ⟨by simp only; omega, by simp only; omega, insK_asc i2, by simp only; omega, by simp only; rw [hk1]; exact i4, ?_, ?_⟩, by simp only; omega⟩
        · intro k
          simp only
          rw [alook_aset, hk1, htk, billI_app, billI, billI, Int.add_zero]
          by_cases hkk : k = (nth inv i.toNat).account
          · rw [if_pos (by simpa using hkk), if_pos hkk.symm, hkk]; rfl
          · rw [if_neg (by simpa using hkk), if_neg (fun h => hkk h.symm), i5]; omega
        · simp only
          rw [hk1, htk]
          show Names _ (aset nm (acct (nth inv i.toNat).account) (nth inv i.toNat).account)
          constructor
          · intro x hx'
            rw [alook_aset]
            rcases List.mem_append.1 hx' with h | h
            · by_cases hsame : acct x.account = acct (nth inv i.toNat).account
              · have := acct_inj (hi.2 x (List.mem_of_mem_take h)).2 hx.2 hsame
                rw [if_pos (by simpa using hsame), this]
              · rw [if_neg (by simpa using hsame)]; exact i6.1 x h
            · rw [List.mem_singleton] at h
              subst h
              rw [if_pos (by simp)]
          · intro s n hsn
            rw [alook_aset] at hsn
            by_cases hs : s = acct (nth inv i.toNat).account
            · rw [if_pos (by simpa using hs)] at hsn
              cases hsn
              exact ⟨_, List.mem_append_right _ (List.mem_singleton.2 rfl), rfl, hs⟩
            · rw [if_neg (by simpa using hs)] at hsn
              obtain ⟨x, x1, x2⟩ := i6.2 s n hsn
              exact ⟨x, List.mem_append_left _ x1, x2⟩
      · rw [List.drop_of_length_le (by omega)] at i4
        rw [List.take_of_length_le (by omega)] at i5 i6
        have e : ks = keysI inv [] := i4
        rw [if_neg (by simpa using hk), e, p_Books_j1 hi he (fun x _ => i5 x.account) i6]
        exact .inl ⟨_, rfl, rfl⟩) (s := ([], 0, [], [])) ⟨by simp, by simp, asc_nil, by simp, by simp, fun k => by simp [alook_nil, billI], ⟨by simp, by simp [alook_nil]⟩⟩ (by have := hi.1; simp only; omega)
  rw [h1, h2]
theorem awake_true : f_billinglaw54_awake = some true := by kernel_rfl
end Go.Proofs.Ytpdanklncjopoaa
