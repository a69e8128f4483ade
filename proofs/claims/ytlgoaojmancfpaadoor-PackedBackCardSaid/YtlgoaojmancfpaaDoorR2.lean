import Derived.Test.YtlgoaojmancfpaaDoorR1
set_option linter.unusedSimpArgs false
set_option linter.unusedVariables false
namespace Go.Proofs.YtlgoaojmancfpaaDoor
open Go.RowKit Go.Abs
/-! packed decimals -/
def pk (n : Int) : UInt8 := UInt8.ofInt (n / 10 % 10 * 16 + n % 10)
def packF : Nat → Int → List UInt8
  | 0, _ => []
  | k + 1, n => pk (n / 100 ^ k) :: packF k n
theorem packF_len : ∀ (k : Nat) (n : Int), (packF k n).length = k
  | 0, _ => rfl
  | k + 1, n => by simp [packF, packF_len k n]
def putF (b : List UInt8) (n size : Int) : List UInt8 × Int :=
  if size < 1 ∨ size > 9 ∨ n < 0 then ([], 6) else if n / 100 ^ size.toNat > 0 then ([], 6) else (b ++ packF size.toNat n, 0)
theorem tdiv_nn {n m : Int} (h : 0 ≤ n) : Int.tdiv n m = n / m := Int.tdiv_eq_ediv_of_nonneg h
theorem tmod_nn {n m : Int} (h : 0 ≤ n) : Int.tmod n m = n % m := Int.tmod_eq_emod_of_nonneg h
theorem or_tab : ∀ x y : Fin 10, bOr .i64 ((x.val : Int) * 2 ^ 4) (y.val : Int) = (x.val : Int) * 16 + (y.val : Int) := by decide +kernel
theorem or_dig {x y : Int} (hx : 0 ≤ x ∧ x < 10) (hy : 0 ≤ y ∧ y < 10) : bOr .i64 (x * 2 ^ (Int.toNat 4)) y = x * 16 + y := by
  have := or_tab ⟨x.toNat, by omega⟩ ⟨y.toNat, by omega⟩
  simpa [Int.toNat_of_nonneg hx.1, Int.toNat_of_nonneg hy.1] using this
theorem pow100_succ (k : Nat) : (100 : Int) ^ (k + 1) = 100 ^ k * 100 := by rw [Int.pow_succ]
theorem pow100_pos (k : Nat) : (0 : Int) < 100 ^ k := Int.pow_pos (by decide)
theorem div_pow {n : Int} (k : Nat) : n / 100 ^ k / 100 = n / 100 ^ (k + 1) := by
  rw [pow100_succ, Int.ediv_ediv_of_nonneg (Int.le_of_lt (pow100_pos k))]
theorem div_pow_nn {n : Int} (h : 0 ≤ n) (k : Nat) : 0 ≤ n / 100 ^ k := Int.ediv_nonneg h (Int.le_of_lt (pow100_pos k))
theorem div_pow_le {n : Int} (h : 0 ≤ n) (k : Nat) : n / 100 ^ k ≤ n := Int.ediv_le_self _ h
/-- The zeros that are written over from behind. -/
theorem set_last (b t : List UInt8) (m : Nat) (x : UInt8) : ((b ++ List.replicate (m + 1) 0) ++ t).set (b.length + m) x = (b ++ List.replicate m 0) ++ (x :: t) := by
  rw [List.replicate_succ', ← List.append_assoc, List.append_assoc (b ++ List.replicate m 0), List.set_append_right _ _ (by simp)]
  simp
theorem take_self {b r : List UInt8} (h : b.length ≤ r.length) : b.take (min b.length r.length) = b := by
  rw [Nat.min_eq_left h, List.take_length]
theorem p_PutDecimal (b : List UInt8) (n size : Int) (hb : b.length ≤ 100000000) (hn : n ≤ 9223372036854775807) : f_packed_PutDecimal b n size = some (putF b n size) := by
  unfold f_packed_PutDecimal putF
  by_cases h : size < 1 ∨ size > 9 ∨ n < 0
  · rw [if_pos (by simpa [or_assoc] using h), if_pos h]
  · rw [if_neg (by simpa [or_assoc] using h), if_neg h]
    have h1 : 1 ≤ size ∧ size ≤ 9 ∧ 0 ≤ n := by omega
    obtain ⟨k, rfl⟩ : ∃ k : Nat, size = k := ⟨size.toNat, by omega⟩
    have e0 : Int.toNat ((b.length : Int) + (k : Int)) = b.length + k := by omega
    have e1 : b.take (min b.length (List.replicate (Int.toNat ((b.length : Int) + (k : Int))) 0 : List UInt8).length) ++ (List.replicate (Int.toNat ((b.length : Int) + (k : Int))) 0 : List UInt8).drop (min b.length (List.replicate (Int.toNat ((b.length : Int) + (k : Int))) 0 : List UInt8).length) = b ++ List.replicate k 0 := by
      rw [e0, List.length_replicate, Nat.min_eq_left (by omega), List.take_length, List.drop_replicate]
      congr 2; omega
    rw [e1, ck_pos (by omega), ck_pos (by omega), ck_pos (by simp; omega)]
    have := loop_post (step := fun s => f_packed_PutDecimal_l1 b s.1 s.2.1 s.2.2) (fun r => r = if n / 100 ^ (k : Int).toNat > 0 then ([], 6) else (b ++ packF (k : Int).toNat n, 0))
      (fun s : List UInt8 × Int × Int => ∃ j, j ≤ k ∧ s = ((b ++ List.replicate (k - j) 0) ++ packF j n, n / 100 ^ j, ((b.length + k - j : Nat) : Int) - 1)) (fun s => (s.2.2 + 1).toNat) (fun s hI => by
        obtain ⟨j, hj, rfl⟩ := hI
        simp only []
        have hnn := div_pow_nn h1.2.2 j
        have hle := div_pow_le h1.2.2 j
        unfold f_packed_PutDecimal_l1
        by_cases hjk : j = k
        · subst hjk
          rw [if_neg (by simp; omega)]
          refine .inl ⟨_, ?_, rfl⟩
          unfold f_packed_PutDecimal_j1
          simp only [Nat.sub_self, List.replicate_zero, List.append_nil, Int.toNat_natCast]
          by_cases hp : n / 100 ^ j > 0
          · rw [if_pos (by simpa using hp), if_pos hp]; rfl
          · rw [if_neg (by simpa using hp), if_neg hp]; rfl
        · obtain ⟨m, hm⟩ : ∃ m, k - j = m + 1 := ⟨k - j - 1, by omega⟩
          rw [if_pos (by simp; omega)]
          generalize hq : n / 100 ^ j = q at hnn hle
          have hq10 : 0 ≤ q / 10 := by omega
          rw [tdiv_nn hnn, tdiv_nn hnn, tmod_nn hq10, tmod_nn hnn]
          have hx : 0 ≤ q / 10 % 10 ∧ q / 10 % 10 < 10 := by omega
          have e4 : (2 : Int) ^ (Int.toNat 4) = 16 := by decide
          rw [or_dig hx (by omega), e4]
          have hlen : ((b ++ List.replicate (k - j) 0) ++ packF j n).length = b.length + k := by simp [packF_len]; omega
          have ei : Int.toNat (((b.length + k - j : Nat) : Int) - 1) = b.length + m := by omega
          rw [ck_pos (by omega), ck_pos (by omega), ck_pos (by omega), ck_pos (by omega), ck_pos (by rw [hlen]; omega), ck_pos (by rw [hlen]; omega), ck_pos (by omega), ck_pos (by omega)]
          refine .inr ⟨_, rfl, ⟨j + 1, by omega, ?_⟩, ?_⟩
          · have e5 : k - (j + 1) = m := by omega
            rw [ei, hm, set_last, e5]
            refine Prod.ext ?_ (Prod.ext ?_ ?_)
            · show _ = _ ++ packF (j + 1) n
              rw [packF, hq]; rfl
            · show q / 100 = n / 100 ^ (j + 1)
              rw [← hq, div_pow]
            · simp only []; omega
          · simp only []; omega) (s := (b ++ List.replicate k 0, n, ((b ++ List.replicate k 0).length : Int) - 1)) ⟨0, by omega, by simp [packF]⟩ (by simp; omega)
    obtain ⟨r, hr, rfl⟩ := this
    exact hr
theorem p_rPutDecimal (b : List UInt8) (n size : Int) (hb : b.length ≤ 100000000) (hn : n ≤ 9223372036854775807) : f_billingref11_PutDecimal b n size = some (putF b n size) := by
  unfold f_billingref11_PutDecimal putF
  by_cases h : size < 1 ∨ size > 9 ∨ n < 0
  · rw [if_pos (by simpa [or_assoc] using h), if_pos h]
  · rw [if_neg (by simpa [or_assoc] using h), if_neg h]
    have h1 : 1 ≤ size ∧ size ≤ 9 ∧ 0 ≤ n := by omega
    obtain ⟨k, rfl⟩ : ∃ k : Nat, size = k := ⟨size.toNat, by omega⟩
    rw [ck_pos (by omega), ck_pos (by omega)]
    have := loop_post (step := fun s => f_billingref11_PutDecimal_l1 b s.1 s.2.1 s.2.2) (fun r => r = if n / 100 ^ (k : Int).toNat > 0 then ([], 6) else (b ++ packF (k : Int).toNat n, 0))
      (fun s : List UInt8 × Int × Int => ∃ j, j ≤ k ∧ s = (([] ++ List.replicate (k - j) 0) ++ packF j n, n / 100 ^ j, ((k - j : Nat) : Int) - 1)) (fun s => (s.2.2 + 1).toNat) (fun s hI => by
        obtain ⟨j, hj, rfl⟩ := hI
        simp only []
        have hnn := div_pow_nn h1.2.2 j
        have hle := div_pow_le h1.2.2 j
        unfold f_billingref11_PutDecimal_l1
        by_cases hjk : j = k
        · subst hjk
          rw [if_neg (by simp)]
          refine .inl ⟨_, ?_, rfl⟩
          unfold f_billingref11_PutDecimal_j1
          simp only [Nat.sub_self, List.replicate_zero, List.append_nil, List.nil_append, Int.toNat_natCast]
          by_cases hp : n / 100 ^ j > 0
          · rw [if_pos (by simpa using hp), if_pos hp]; rfl
          · rw [if_neg (by simpa using hp), if_neg hp, ck_pos (by simp; omega), ck_pos (by simp [packF_len]; omega)]; rfl
        · obtain ⟨m, hm⟩ : ∃ m, k - j = m + 1 := ⟨k - j - 1, by omega⟩
          rw [if_pos (by simp; omega)]
          generalize hq : n / 100 ^ j = q at hnn hle
          have hq10 : 0 ≤ q / 10 := by omega
          rw [tdiv_nn hnn, tdiv_nn hnn, tmod_nn hq10, tmod_nn hnn]
          have hx : 0 ≤ q / 10 % 10 ∧ q / 10 % 10 < 10 := by omega
          have hlen : (([] ++ List.replicate (k - j) 0) ++ packF j n).length = k := by simp [packF_len]; omega
          have ei : Int.toNat (((k - j : Nat) : Int) - 1) = ([] : List UInt8).length + m := by simp; omega
          rw [ck_pos (by omega), ck_pos (by omega), ck_pos (by omega), ck_pos (by omega), ck_pos (by omega), ck_pos (by rw [hlen]; omega), ck_pos (by rw [hlen]; omega), ck_pos (by omega), ck_pos (by omega)]
          refine .inr ⟨_, rfl, ⟨j + 1, by omega, ?_⟩, ?_⟩
          · have e5 : k - (j + 1) = m := by omega
            rw [ei, hm, set_last, e5]
            refine Prod.ext ?_ (Prod.ext ?_ ?_)
            · show _ = _ ++ packF (j + 1) n
              rw [packF, hq]; rfl
            · show q / 100 = n / 100 ^ (j + 1)
              rw [← hq, div_pow]
            · simp only []; omega
          · simp only []; omega) (s := (List.replicate (Int.toNat (k : Int)) 0, n, (k : Int) - 1)) ⟨0, by omega, by simp [packF]⟩ (by simp; omega)
    obtain ⟨r, hr, rfl⟩ := this
    exact hr
/-! their reading -/
theorem u8_all {p : UInt8 → Prop} (h : ∀ n : Fin 256, p (UInt8.ofNat n.val)) (x : UInt8) : p x := by
  have := h ⟨x.toNat, x.toNat_lt⟩
  simpa using this
theorem u8_hi (x : UInt8) : u8shr x 4 = x / 16 := u8_all (p := fun x => u8shr x 4 = x / 16) (by decide +kernel) x
theorem u8_lo (x : UInt8) : x &&& 15 = x % 16 := u8_all (p := fun x => x &&& 15 = x % 16) (by decide +kernel) x
theorem u8_hin (x : UInt8) : (x / 16).toNat = x.toNat / 16 := by simp
theorem u8_lon (x : UInt8) : (x % 16).toNat = x.toNat % 16 := by simp
def decS : Int → List UInt8 → Int × Int
  | n, [] => (n, 0)
  | n, x :: xs => if 9 < x.toNat / 16 ∨ 9 < x.toNat % 16 then (0, 1) else decS (100 * n + ((x.toNat / 16 : Nat) : Int) * 10 + ((x.toNat % 16 : Nat) : Int)) xs
def decD (b : List UInt8) : Int × Int := if b.length < 1 ∨ b.length > 9 then (0, 6) else decS 0 b
theorem decS_drop {b : List UInt8} {i : Nat} (n : Int) (h : i < b.length) : decS n (b.drop i) = if 9 < (nth b i).toNat / 16 ∨ 9 < (nth b i).toNat % 16 then (0, 1) else decS (100 * n + (((nth b i).toNat / 16 : Nat) : Int) * 10 + (((nth b i).toNat % 16 : Nat) : Int)) (b.drop (i + 1)) := by
  rw [nth_eq h, List.drop_eq_getElem_cons h, decS]
theorem u8_gt9h (x : UInt8) : (decide ((x / 16) > 9)) = decide (9 < x.toNat / 16) := by
  rw [Bool.eq_iff_iff, decide_eq_true_iff, decide_eq_true_iff, gt_iff_lt, UInt8.lt_iff_toNat_lt, u8_hin]; exact Iff.rfl
theorem u8_gt9l (x : UInt8) : (decide ((x % 16) > 9)) = decide (9 < x.toNat % 16) := by
  rw [Bool.eq_iff_iff, decide_eq_true_iff, decide_eq_true_iff, gt_iff_lt, UInt8.lt_iff_toNat_lt, u8_lon]; exact Iff.rfl
/-- What has been read is small. -/
def decI (b : List UInt8) (n i : Int) : Prop := 0 ≤ i ∧ i ≤ (b.length : Int) ∧ 0 ≤ n ∧ n < 100 ^ i.toNat
theorem decI_step {b : List UInt8} {n i : Int} {x y : Nat} (h : decI b n i) (hi : i < (b.length : Int)) (hx : x ≤ 9) (hy : y ≤ 9) : decI b (100 * n + (x : Int) * 10 + (y : Int)) (i + 1) := by
  obtain ⟨h1, h2, h3, h4⟩ := h
  have : (i + 1).toNat = i.toNat + 1 := by omega
  refine ⟨by omega, by omega, by omega, ?_⟩
  rw [this, pow100_succ]
  omega
theorem pow_le8 {k : Nat} (h : k ≤ 8) : (100 : Int) ^ k ≤ 10000000000000000 := by
  have : ∀ j : Fin 9, (100 : Int) ^ j.val ≤ 10000000000000000 := by decide +kernel
  exact this ⟨k, by omega⟩
theorem p_Decimal (b : List UInt8) (hb : b.length ≤ 1000000000) : f_packed_Decimal b = some (decD b) := by
  unfold f_packed_Decimal decD
  by_cases h : b.length < 1 ∨ b.length > 9
  · rw [if_pos (by simp; omega), if_pos h]
  · rw [if_neg (by simp; omega), if_neg h]
    refine loop_spec (fun s => some (decS s.1 (b.drop s.2.toNat))) (fun s : Int × Int => decI b s.1 s.2) (fun s => ((b.length : Int) - s.2).toNat) (fun s hI => ?_) ⟨by omega, by omega, by omega, by simp⟩ (by simp; omega)
    obtain ⟨n, i⟩ := s
    obtain ⟨h1, h2, h3, h4⟩ := id hI
    simp only [] at *
    unfold f_packed_Decimal_l1
    by_cases hi : i < (b.length : Int)
    · have hp := pow_le8 (k := i.toNat) (by omega)
      rw [if_pos (by simpa using hi), ck_pos ⟨h1, hi⟩, ck_pos (by decide), u8_hi, u8_lo, u8_gt9h, u8_gt9l]
      have hd := decS_drop n (show i.toNat < b.length by omega)
      generalize nth b (i.toNat) = x at hd
      by_cases hx : 9 < x.toNat / 16 ∨ 9 < x.toNat % 16
      · rw [if_pos (by simpa using hx)]
        exact .inl ⟨_, rfl, by rw [hd, if_pos hx]⟩
      · rw [if_neg (by simpa using hx), u8_hin, u8_lon, ck_pos (by omega), ck_pos (by decide), ck_pos (by omega), ck_pos (by omega), ck_pos (by omega), ck_pos (by omega)]
        refine .inr ⟨_, rfl, decI_step hI hi (by omega) (by omega), by simp only []; omega, ?_⟩
        rw [hd, if_neg hx, show (i + 1).toNat = i.toNat + 1 by omega]
    · rw [if_neg (by simpa using hi)]
      refine .inl ⟨_, rfl, ?_⟩
      rw [List.drop_of_length_le (by omega)]; rfl
theorem p_rDecimal (b : List UInt8) (hb : b.length ≤ 1000000000) : f_billingref11_Decimal b = some (decD b) := by
  unfold f_billingref11_Decimal decD
  by_cases h : b.length < 1 ∨ b.length > 9
  · rw [if_pos (by simp; omega), if_pos h]
  · rw [if_neg (by simp; omega), if_neg h]
    refine loop_spec (fun s => some (decS s.1 (b.drop s.2.toNat))) (fun s : Int × Int => decI b s.1 s.2) (fun s => ((b.length : Int) - s.2).toNat) (fun s hI => ?_) ⟨by omega, by omega, by omega, by simp⟩ (by simp; omega)
    obtain ⟨n, i⟩ := s
    obtain ⟨h1, h2, h3, h4⟩ := id hI
    simp only [] at *
    unfold f_billingref11_Decimal_l1
    by_cases hi : i < (b.length : Int)
    · have hp := pow_le8 (k := i.toNat) (by omega)
      rw [if_pos (by simpa using hi), ck_pos ⟨h1, hi⟩, ck_pos (by decide), ck_pos (fun _ => ⟨h1, hi⟩), ck_pos (fun _ => by decide), u8_gt9h, u8_gt9l]
      have hd := decS_drop n (show i.toNat < b.length by omega)
      generalize nth b (i.toNat) = x at hd
      by_cases hx : 9 < x.toNat / 16 ∨ 9 < x.toNat % 16
      · rw [if_pos (by simpa using hx)]
        exact .inl ⟨_, rfl, by rw [hd, if_pos hx]⟩
      · rw [if_neg (by simpa using hx), u8_hin, u8_lon, ck_pos (by omega), ck_pos ⟨h1, hi⟩, ck_pos (by decide), ck_pos (by omega), ck_pos (by omega), ck_pos ⟨h1, hi⟩, ck_pos (by decide), ck_pos (by omega), ck_pos (by omega)]
        refine .inr ⟨_, rfl, ?_, by simp only []; omega, ?_⟩
        · have := decI_step hI hi (show x.toNat / 16 ≤ 9 by omega) (show x.toNat % 16 ≤ 9 by omega)
          rw [Int.mul_comm 100 n] at this
          exact this
        · rw [hd, if_neg hx, show (i + 1).toNat = i.toNat + 1 by omega, Int.mul_comm 100 n]
    · rw [if_neg (by simpa using hi)]
      refine .inl ⟨_, rfl, ?_⟩
      rw [List.drop_of_length_le (by omega)]; rfl
theorem pk_nat (q : Int) (h : 0 ≤ q) : (pk q).toNat / 16 = (q / 10 % 10).toNat ∧ (pk q).toNat % 16 = (q % 10).toNat := by
  have key : ∀ x y : Fin 10, (UInt8.ofInt ((x.val : Int) * 16 + (y.val : Int))).toNat = x.val * 16 + y.val := by decide +kernel
  have := key ⟨(q / 10 % 10).toNat, by omega⟩ ⟨(q % 10).toNat, by omega⟩
  simp only [Int.toNat_of_nonneg (show 0 ≤ q / 10 % 10 by omega), Int.toNat_of_nonneg (show 0 ≤ q % 10 by omega)] at this
  unfold pk
  rw [this]
  omega
/-- A number is recovered. -/
theorem dec_pack {n : Int} (h : 0 ≤ n) : ∀ (k : Nat) (m : Int), decS m (packF k n) = (m * 100 ^ k + n % 100 ^ k, 0)
  | 0, m => by simp [packF, decS, Int.emod_one]
  | k + 1, m => by
    obtain ⟨h1, h2⟩ := pk_nat (n / 100 ^ k) (div_pow_nn h k)
    have hq := div_pow_nn h k
    rw [packF, decS, h1, h2, if_neg (by omega), dec_pack h k]
    have e : n % 100 ^ (k + 1) = (n / 100 ^ k % 100) * 100 ^ k + n % 100 ^ k := by
      rw [Int.emod_def n (100 ^ (k + 1)), ← div_pow, pow100_succ, Int.emod_def n (100 ^ k), Int.emod_def (n / 100 ^ k) 100]
      generalize n / 100 ^ k / 100 = u
      generalize n / 100 ^ k = q
      generalize (100 : Int) ^ k = P
      have a1 : P * 100 * u = 100 * (P * u) := by rw [Int.mul_comm P 100, Int.mul_assoc]
      have a2 : (q - 100 * u) * P = P * q - 100 * (P * u) := by rw [Int.sub_mul, Int.mul_comm q P, Int.mul_assoc, Int.mul_comm u P]
      omega
    have e2 : ((n / 100 ^ k / 10 % 10).toNat : Int) * 10 + ((n / 100 ^ k % 10).toNat : Int) = n / 100 ^ k % 100 := by omega
    refine Prod.ext ?_ rfl
    simp only []
    rw [e, ← e2, pow100_succ, Int.add_mul, Int.add_mul, Int.add_mul]
    have e3 : 100 * m * 100 ^ k = m * (100 ^ k * 100) := by rw [Int.mul_comm 100 m, Int.mul_assoc, Int.mul_comm 100]
    rw [e3]; omega
theorem decD_pack {n : Int} {k : Nat} (h : 0 ≤ n) (hn : n < 100 ^ k) (hk : 1 ≤ k ∧ k ≤ 9) : decD (packF k n) = (n, 0) := by
  unfold decD
  rw [packF_len, if_neg (by omega), dec_pack h, Int.emod_eq_of_lt h hn]
  simp
theorem awake_true : f_billinglaw11_awake = some true := by kernel_rfl
theorem decimals_true (b : List UInt8) (n size : Int) (hn : n ≤ 9223372036854775807) : f_billinglaw11_PackedDecimals b n size = some true := by
  unfold f_billinglaw11_PackedDecimals
  rw [awake_true]
  by_cases h : b.length > 100
  · rw [if_pos (by simp; omega)]; rfl
  · rw [if_neg (by simp; omega), p_PutDecimal b n size (by omega) hn, p_rPutDecimal b n size (by omega) hn, p_Decimal b (by omega), p_rDecimal b (by omega)]
    simp only [Option.bind_some, bne_self_eq_false, Bool.or_false, Bool.or_self]
    rw [if_neg (by simp)]
    by_cases ho : (putF b n size).2 = 0
    · rw [if_neg (by simpa using ho)]
      have hx : ∃ k : Nat, 1 ≤ k ∧ k ≤ 9 ∧ 0 ≤ n ∧ n < 100 ^ k ∧ (putF b n size).1 = b ++ packF k n := by
        unfold putF at ho ⊢
        by_cases h1 : size < 1 ∨ size > 9 ∨ n < 0
        · rw [if_pos h1] at ho; exact absurd ho (by decide)
        · rw [if_neg h1] at ho ⊢
          by_cases h2 : n / 100 ^ size.toNat > 0
          · rw [if_pos h2] at ho; exact absurd ho (by decide)
          · rw [if_neg h2]
            refine ⟨size.toNat, by omega, by omega, by omega, ?_, rfl⟩
            have h3 : n / 100 ^ size.toNat < 1 := by omega
            have := Int.lt_mul_of_ediv_lt (pow100_pos size.toNat) h3
            omega
      obtain ⟨k, k1, k2, k3, k4, k5⟩ := hx
      rw [k5, ck_pos (by rw [List.length_append]; omega)]
      have e : (b ++ packF k n).drop (Int.toNat ((b.length : Int))) = packF k n := by simp
      rw [e, p_Decimal _ (by rw [packF_len]; omega), decD_pack k3 k4 ⟨k1, k2⟩]
      simp [gcall_mk]
    · rw [if_pos (by simpa using ho)]
end Go.Proofs.YtlgoaojmancfpaaDoor
