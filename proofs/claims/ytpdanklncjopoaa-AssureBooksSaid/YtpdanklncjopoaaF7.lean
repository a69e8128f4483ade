import Derived.Test.YtpdanklncjopoaaF6
set_option linter.unusedSimpArgs false
set_option linter.unusedVariables false
namespace Go.Proofs.Ytpdanklncjopoaa
open Go.RowKit Go.Abs
theorem p_CloneAll {l : List Entry} (h : OkE l) : f_billingref47_CloneAll l = some l := by
  unfold f_billingref47_CloneAll
  have := loop_spec (step := fun s => f_billingref47_CloneAll_l1 l s.1 s.2) (fun s : List Entry × Int => some (s.1 ++ l.drop s.2.toNat)) (fun s => 0 ≤ s.2 ∧ s.2 ≤ (l.length : Int) ∧ (s.1.length : Int) ≤ s.2) (fun s => ((l.length : Int) - s.2).toNat) (fun s hI => by
    obtain ⟨o, i⟩ := s
    obtain ⟨i0, i1, i2⟩ := hI
    simp only at i0 i1 i2 ⊢
    have hl := h.1
    unfold f_billingref47_CloneAll_l1
    by_cases hk : i < (l.length : Int)
    · have hp := (h.2 _ (nth_in (show i.toNat < l.length by omega))).1
      rw [if_pos (by simpa using hk), ck_pos (by omega)]
      unfold f_billingref47_Clone
      rw [ck_pos (by omega), Option.bind_some, ck_pos (by simp; omega), ck_pos (by omega), drop_nth (show i.toNat < l.length by omega)]
      refine .inr ⟨_, rfl, ⟨by simp only; omega, by simp only; omega, by simp; omega⟩, by simp only; omega, ?_⟩
      simp only
      rw [show (i + 1).toNat = i.toNat + 1 by omega]; simp
    · rw [if_neg (by simpa using hk), List.drop_of_length_le (by omega)]
      exact .inl ⟨_, rfl, by simp⟩) (s := ([], 0)) ⟨by simp, by simp, by simp⟩ (by have := h.1; simp only; omega)
  rw [this]; simp
theorem Leak.eq_refl (r : Leak) : eqVs r.vals r.vals = true := by simp [Leak.vals, eqVs, eqV]
theorem p_Same (a : List Leak) (hl : a.length ≤ 100000) : f_billingref54_Same a a = some true := by
  unfold f_billingref54_Same
  rw [if_neg (by simp)]
  obtain ⟨r, h1, h2⟩ := loop_post (step := fun i => f_billingref54_Same_l1 a a i) (fun r => r = true) (fun i : Int => 0 ≤ i ∧ i ≤ (a.length : Int)) (fun i => ((a.length : Int) - i).toNat) (fun i hI => by
    unfold f_billingref54_Same_l1
    by_cases hk : i < (a.length : Int)
    · rw [if_pos (by simpa using hk), ck_pos (by omega), ck_pos (by omega), if_neg (by rw [Leak.eq_refl]; simp), ck_pos (by omega)]
      exact .inr ⟨_, rfl, by omega, by omega⟩
    · rw [if_neg (by simpa using hk)]
      exact .inl ⟨_, rfl, rfl⟩) (s := 0) ⟨by omega, by omega⟩ (by omega)
  rw [h1, h2]
theorem books_j2 {inv : List Invoice} {ents : List Entry} (hi : OkI inv) (he : OkE ents) : f_billinglaw54_AssureBooks_j2 inv ents = some true := by
  have hkl := keysI_len inv []
  have hfl := flatB_len inv ents (keysI inv [])
  have hil := hi.1
  have hbl : (booksF inv ents).length ≤ 100000 := by
    unfold booksF
    rw [List.length_append]
    simp at hkl
    split <;> simp <;> omega
  unfold f_billinglaw54_AssureBooks_j2
  rw [ck_pos (by omega), p_CloneAll he, Option.bind_some, p_Books hi he, Option.bind_some, p_rBooks hi he, Option.bind_some, p_Same _ hbl, awake_true]
  rfl
theorem books_l2 {ents : List Entry} {i : Int} (hl : ents.length ≤ 24) (h0 : 0 ≤ i) (h1 : i < (ents.length : Int)) (hp : (nth ents i.toNat).posts.length ≤ 24) :
    ∃ r, loop (fun s => f_billinglaw54_AssureBooks_l2 ents i s) 0 = some r ∧ (r = .inr true ∨ (r = .inl (i + 1) ∧ OkP (nth ents i.toNat).posts)) := by
  generalize hee : nth ents i.toNat = e at hp
  refine loop_post (step := fun k => f_billinglaw54_AssureBooks_l2 ents i k) (fun r => r = .inr true ∨ (r = .inl (i + 1) ∧ OkP e.posts)) (fun k : Int => 0 ≤ k ∧ k ≤ (e.posts.length : Int) ∧ ∀ p, p ∈ e.posts.take k.toNat → -1125899906842624 ≤ p.amount ∧ p.amount ≤ 1125899906842624) (fun k => ((e.posts.length : Int) - k).toNat) (fun k hI => ?_) ⟨by omega, by omega, by simp⟩ (by omega)
  obtain ⟨k0, k1, k2⟩ := hI
  unfold f_billinglaw54_AssureBooks_l2
  rw [hee, ck_pos (by omega)]
  by_cases hk : k < (e.posts.length : Int)
  · rw [if_pos (by simpa using hk), ck_pos (by omega), ck_pos (by omega)]
    by_cases hb : (nth e.posts k.toNat).amount < -1125899906842624 ∨ (nth e.posts k.toNat).amount > 1125899906842624
    · rw [if_pos (by simpa using hb), awake_true]
      exact .inl ⟨_, rfl, .inl rfl⟩
    · rw [if_neg (by simpa using hb), ck_pos (by omega)]
      refine .inr ⟨_, rfl, ⟨by omega, by omega, ?_⟩, by omega⟩
      rw [show (k + 1).toNat = k.toNat + 1 by omega]
      have htk : e.posts.take (k.toNat + 1) = e.posts.take k.toNat ++ [nth e.posts k.toNat] := by rw [nth_eq (show k.toNat < e.posts.length by omega), List.take_append_getElem]
      rw [htk]
      intro p hp'
      rcases List.mem_append.1 hp' with h | h
      · exact k2 p h
      · rw [List.mem_singleton] at h; subst h; omega
  · rw [if_neg (by simpa using hk), ck_pos (by omega)]
    rw [List.take_of_length_le (by omega)] at k2
    exact .inl ⟨_, rfl, .inr ⟨rfl, hp, k2⟩⟩
theorem books_j1 {inv : List Invoice} {ents : List Entry} (hi : OkI inv) (hl : ents.length ≤ 24) : f_billinglaw54_AssureBooks_j1 inv ents = some true := by
  unfold f_billinglaw54_AssureBooks_j1
  obtain ⟨r, h1, h2⟩ := loop_post (step := fun i => f_billinglaw54_AssureBooks_l1 inv ents i) (fun r => r = true) (fun i : Int => 0 ≤ i ∧ i ≤ (ents.length : Int) ∧ ∀ e, e ∈ ents.take i.toNat → OkP e.posts) (fun i => ((ents.length : Int) - i).toNat) (fun i hI => by
    obtain ⟨i0, i1, i2⟩ := hI
    unfold f_billinglaw54_AssureBooks_l1
    by_cases hk : i < (ents.length : Int)
    · rw [if_pos (by simpa using hk), ck_pos (by omega)]
      by_cases hp : ((nth ents i.toNat).posts.length : Int) > 24
      · rw [if_pos (by simpa using hp), awake_true]
        exact .inl ⟨_, rfl, rfl⟩
      · rw [if_neg (by simpa using hp)]
        obtain ⟨r, q1, q2⟩ := books_l2 hl i0 hk (by omega)
        rw [q1]
        rcases q2 with rfl | ⟨rfl, q3⟩
        · exact .inl ⟨_, rfl, rfl⟩
        · refine .inr ⟨_, rfl, ⟨by omega, by omega, ?_⟩, by omega⟩
          rw [show (i + 1).toNat = i.toNat + 1 by omega]
          have htk : ents.take (i.toNat + 1) = ents.take i.toNat ++ [nth ents i.toNat] := by rw [nth_eq (show i.toNat < ents.length by omega), List.take_append_getElem]
          rw [htk]
          intro e he
          rcases List.mem_append.1 he with h | h
          · exact i2 e h
          · rw [List.mem_singleton] at h; subst h; exact q3
    · rw [if_neg (by simpa using hk)]
      rw [List.take_of_length_le (by omega)] at i2
      rw [books_j2 hi ⟨hl, i2⟩]
      exact .inl ⟨_, rfl, rfl⟩) (s := 0) ⟨by omega, by omega, by simp⟩ (by omega)
  rw [h1, h2]
theorem books_true (inv : List Invoice) (ents : List Entry) : f_billinglaw54_AssureBooks inv ents = some true := by
  unfold f_billinglaw54_AssureBooks
  rw [awake_true]
  by_cases h : (inv.length : Int) > 24 ∨ (ents.length : Int) > 24
  · rw [if_pos (by simpa using h)]; rfl
  · rw [if_neg (by simpa using h)]
    obtain ⟨r, h1, h2⟩ := loop_post (step := fun i => f_billinglaw54_AssureBooks_l3 inv ents i) (fun r => r = true) (fun i : Int => 0 ≤ i ∧ i ≤ (inv.length : Int) ∧ ∀ x, x ∈ inv.take i.toNat → (-1125899906842624 ≤ x.total ∧ x.total ≤ 1125899906842624) ∧ 1 ≤ x.account ∧ x.account ≤ 9999) (fun i => ((inv.length : Int) - i).toNat) (fun i hI => by
      obtain ⟨i0, i1, i2⟩ := hI
      unfold f_billinglaw54_AssureBooks_l3
      by_cases hk : i < (inv.length : Int)
      · rw [if_pos (by simpa using hk), ck_pos (by omega), ck_pos (by intro _; omega), ck_pos (by intro _; omega), ck_pos (by intro _; omega)]
        by_cases hp : (((nth inv i.toNat).total < -1125899906842624 ∨ (nth inv i.toNat).total > 1125899906842624) ∨ (nth inv i.toNat).account < 1) ∨ (nth inv i.toNat).account > 9999
        · rw [if_pos (by simpa using hp), awake_true]
          exact .inl ⟨_, rfl, rfl⟩
        · rw [if_neg (by simpa using hp), ck_pos (by omega)]
          refine .inr ⟨_, rfl, ⟨by omega, by omega, ?_⟩, by omega⟩
          rw [show (i + 1).toNat = i.toNat + 1 by omega]
          have htk : inv.take (i.toNat + 1) = inv.take i.toNat ++ [nth inv i.toNat] := by rw [nth_eq (show i.toNat < inv.length by omega), List.take_append_getElem]
          rw [htk]
          intro e he
          rcases List.mem_append.1 he with h | h
          · exact i2 e h
          · rw [List.mem_singleton] at h; subst h; omega
      · rw [if_neg (by simpa using hk)]
        rw [List.take_of_length_le (by omega)] at i2
        rw [books_j1 ⟨by omega, i2⟩ (by omega)]
        exact .inl ⟨_, rfl, rfl⟩) (s := 0) ⟨by omega, by omega, by simp⟩ (by omega)
    rw [h1, h2]
end Go.Proofs.Ytpdanklncjopoaa
