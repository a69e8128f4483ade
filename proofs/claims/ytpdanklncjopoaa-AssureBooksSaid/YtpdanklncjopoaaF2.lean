import Derived.Test.YtpdanklncjopoaaF1
set_option linter.unusedSimpArgs false
set_option linter.unusedVariables false
namespace Go.Proofs.Ytpdanklncjopoaa
open Go.RowKit Go.Abs
theorem dig_byte {m : Nat} : UInt8.ofInt (IntKind.wrap .u64 (48 + Int.tmod (m : Int) 10)) = digit (m % 10) := by
  apply UInt8.toNat_inj.1
  have := u8_digit (m := m)
  rw [u8w] at this
  omega
theorem dig_byte' {m : Nat} : UInt8.ofInt (48 + Int.tmod (m : Int) 10) = digit (m % 10) := by
  apply UInt8.toNat_inj.1
  have h1 : (m : Int).tmod 10 = ((m % 10 : Nat) : Int) := by rw [Int.tmod_eq_emod_of_nonneg (by omega)]; omega
  have h2 := digit_byte (n := m % 10) (by omega)
  have h3 : IntKind.u8.wrap (48 + ((m % 10 : Nat) : Int)) = 48 + ((m % 10 : Nat) : Int) := by
    simp only [IntKind.wrap]
    simp [IntKind.signed, IntKind.bits]
    omega
  have h4 := u8w (48 + ((m % 10 : Nat) : Int))
  rw [h1]
  omega
theorem drop_set {arr : List UInt8} {i : Nat} {x : UInt8} (h : i < arr.length) : (arr.set i x).drop i = x :: arr.drop (i + 1) := by
  rw [List.drop_set, if_neg (by omega), Nat.sub_self, List.drop_eq_getElem_cons h]; rfl
theorem p_decimal {n : Int} (h0 : 0 ≤ n) (h1 : n ≤ 9223372036854775807) : f_assure_decimal n = some (digs n.toNat) := by
  unfold f_assure_decimal
  rw [if_neg (by simp; omega), u64_pos h0 h1]
  unfold f_assure_decimal_j1
  have := loop_spec (step := fun s => f_assure_decimal_l1 n s.1 s.2.1 s.2.2) (fun s : Int × Int × List UInt8 => some ((if s.1 = 0 ∧ s.2.1 < 20 then [] else digs s.1.toNat) ++ s.2.2.drop s.2.1.toNat))
    (fun s => 0 ≤ s.1 ∧ s.1.toNat < 10 ^ s.2.1.toNat ∧ s.1 < 18446744073709551616 ∧ 0 ≤ s.2.1 ∧ s.2.1 ≤ 20 ∧ s.2.2.length = 20) (fun s => s.2.1.toNat) (fun s hI => by
      obtain ⟨u, i, arr⟩ := s
      obtain ⟨i0, i1, i5, i2, i3, i4⟩ := hI
      simp only at i0 i1 i2 i3 i4 i5 ⊢
      obtain ⟨m, rfl⟩ : ∃ m : Nat, u = (m : Int) := ⟨u.toNat, by omega⟩
      rw [Int.toNat_natCast] at i1 ⊢
      unfold f_assure_decimal_l1
      by_cases hc : 0 < m ∨ i = 20
      · have hi : 1 ≤ i := by
          rcases hc with h | h
          · have : i.toNat ≠ 0 := fun e => by rw [e] at i1; simp at i1; omega
            omega
          · omega
        rw [if_pos (by simpa using hc), ck_pos (by omega), ck_pos (by decide), ck_pos (by omega), ck_pos (by omega), ck_pos (by decide), u64_quo (by omega), dig_byte]
        refine .inr ⟨_, rfl, ⟨by simp only; omega, ?_, by simp only; omega, by simp only; omega, by simp only; omega, by simp [i4]⟩, by simp only; omega, ?_⟩
        · simp only [Int.toNat_natCast]
          have : i.toNat = (i - 1).toNat + 1 := by omega
          rw [this, Nat.pow_succ] at i1
          omega
        · simp only [Int.toNat_natCast]
          rw [drop_set (by omega), show (i - 1).toNat + 1 = i.toNat by omega, if_neg (show ¬ ((m : Int) = 0 ∧ i < 20) by rcases hc with h | h <;> omega)]
          rw [digs_first (n := m) (by omega)]
          by_cases hz : m / 10 = 0
          · rw [if_pos ⟨by omega, by omega⟩, if_pos hz]; rfl
          · rw [if_neg (by omega), if_neg hz]; simp
      · rw [if_neg (by simpa using hc)]
        have hj : f_assure_decimal_j2 n i arr = some (arr.drop i.toNat) := by
          unfold f_assure_decimal_j2
          rw [if_neg (by simp; omega), ck_pos (by omega), ck_pos i4]
        rw [hj, if_pos ⟨by omega, by omega⟩]
        exact .inl ⟨_, rfl, rfl⟩) (s := ((n.toNat : Int), 20, List.replicate 20 0)) ⟨by simp only; omega, by simp only [Int.toNat_natCast]; exact Nat.lt_of_lt_of_le (show n.toNat < 9223372036854775808 by omega) (by decide), by simp only; omega, by simp, by simp, by simp⟩ (by simp)
  rw [this, if_neg (by simp)]
  simp only [Int.toNat_natCast]
  rw [show List.drop (Int.toNat 20) (List.replicate 20 (0 : UInt8)) = [] from rfl, List.append_nil]
theorem p_Number {n : Int} (h0 : 0 ≤ n) (h1 : n ≤ 9223372036854775807) : f_billingref01_Number n = some (digs n.toNat) := by
  obtain ⟨m, rfl⟩ : ∃ m : Nat, n = (m : Int) := ⟨n.toNat, by omega⟩
  have q : ∀ k : Nat, Int.tdiv (k : Int) 10 = ((k / 10 : Nat) : Int) := fun k => by rw [Int.tdiv_eq_ediv_of_nonneg (by omega)]; omega
  have r : ∀ k : Nat, Int.tmod (k : Int) 10 = ((k % 10 : Nat) : Int) := fun k => by rw [Int.tmod_eq_emod_of_nonneg (by omega)]; omega
  unfold f_billingref01_Number
  rw [dig_byte', r, q, ck_pos (by decide), ck_pos (by omega), ck_pos (by omega), Int.toNat_natCast]
  have := loop_spec (step := fun s => f_billingref01_Number_l1 s.1 s.2) (fun s : Int × List UInt8 => some ((if s.1 = 0 then [] else digs s.1.toNat) ++ s.2)) (fun s => 0 ≤ s.1 ∧ s.1.toNat < 10 ^ (20 - s.2.length) ∧ s.2.length ≤ 20 ∧ s.1 ≤ 9223372036854775807) (fun s => s.1.toNat) (fun s hI => by
      obtain ⟨u, l⟩ := s
      obtain ⟨i0, i1, i2, i6⟩ := hI
      simp only at i0 i1 i2 i6 ⊢
      obtain ⟨k, rfl⟩ : ∃ m : Nat, u = (m : Int) := ⟨u.toNat, by omega⟩
      rw [Int.toNat_natCast] at i1 ⊢
      have hb : k < 10 ^ 20 := Nat.lt_of_lt_of_le i1 (Nat.pow_le_pow_right (by omega) (by omega))
      unfold f_billingref01_Number_l1
      by_cases hk : 0 < k
      · have hl : l.length < 20 := by
          rcases Nat.lt_or_ge l.length 20 with h | h
          · exact h
          · rw [show 20 - l.length = 0 by omega] at i1; simp at i1; omega
        rw [if_pos (by simpa using hk), dig_byte', r, q, ck_pos (by decide), ck_pos (by omega), ck_pos (by simp; omega), ck_pos (by omega)]
        refine .inr ⟨_, rfl, ⟨by simp only; omega, ?_, by simp; omega, by simp only; omega⟩, by simp only; omega, ?_⟩
        · simp only [Int.toNat_natCast, List.length_append, List.length_cons, List.length_nil]
          rw [show 20 - l.length = (20 - (0 + 1 + l.length)) + 1 by omega, Nat.pow_succ] at i1
          omega
        · simp only [Int.toNat_natCast]
          rw [if_neg (show ¬ (k : Int) = 0 by omega), digs_first (n := k) hb]
          by_cases hz : k / 10 = 0
          · rw [if_pos (by omega), if_pos hz]; rfl
          · rw [if_neg (by omega), if_neg hz]; simp
      · rw [if_neg (by simpa using hk), if_pos (by omega)]
        exact .inl ⟨_, rfl, rfl⟩) (s := (((m / 10 : Nat) : Int), [digit (m % 10)])) ⟨by simp only; omega, by simp only [Int.toNat_natCast, List.length_cons, List.length_nil]; exact Nat.lt_of_lt_of_le (show m / 10 < 1000000000000000000 by omega) (by decide), by simp, by simp only; omega⟩ (by simp only; omega)
  rw [this, digs_first (n := m) (by exact Nat.lt_of_lt_of_le (show m < 9223372036854775808 by omega) (by decide))]
  simp only [Int.toNat_natCast]
  by_cases hz : m / 10 = 0
  · rw [if_pos (by omega), if_pos hz]
  · rw [if_neg (by omega), if_neg hz]
theorem p_Int {n : Int} (h0 : 0 ≤ n) (h1 : n ≤ 9223372036854775807) : f_billingref01_Int n = some (digs n.toNat) := by
  unfold f_billingref01_Int
  rw [if_pos (by simpa using h0), p_Number h0 h1]; rfl
def valD (l : List UInt8) : Nat := l.foldl (fun a x => a * 10 + (x.toNat - 48)) 0
theorem valD_digF : ∀ (f n : Nat), n < 10 ^ f → valD (digF f n) = n
  | 0, n, h => by simp at h; subst h; rfl
  | f + 1, n, h => by
    have hd : ∀ k, k < 10 → (digit k).toNat - 48 = k := fun k hk => by have := digit_byte hk; omega
    unfold digF
    split
    · rename_i h'; simp [valD, hd n h']
    · have := valD_digF f (n / 10) (by rw [Nat.pow_succ] at h; omega)
      unfold valD at this ⊢
      rw [List.foldl_append, this]
      simp [hd (n % 10) (by omega)]
      omega
theorem digs_inj {n m : Nat} (hn : n < 10 ^ 20) (hm : m < 10 ^ 20) (h : digs n = digs m) : n = m := by
  have h1 := valD_digF 20 n hn
  have h2 := valD_digF 20 m hm
  unfold digs at h
  rw [h, h2] at h1
  exact h1.symm
end Go.Proofs.Ytpdanklncjopoaa
