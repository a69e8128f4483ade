import Derived.Test.YtlgoaojmancfpaaDoorR4
set_option linter.unusedSimpArgs false
set_option linter.unusedVariables false
namespace Go.Proofs.YtlgoaojmancfpaaDoor
open Go.RowKit Go.Abs
/-! telephone numbers are read -/
def nibAt (f : List UInt8) (k : Nat) : UInt8 := if k % 2 = 0 then nth f (k / 2) / 16 else nth f (k / 2) % 16
def telN (f : List UInt8) : Nat := (nth f 0).toNat / 16
/-- From the nibble k on, m of them to go. -/
def telG (f : List UInt8) : Nat → Nat → List UInt8 → List UInt8 × Bool
  | _, 0, out => (out, true)
  | k, m + 1, out => if k ≤ telN f ∧ (nibAt f k).toNat ≤ 9 then telG f (k + 1) m (out ++ [48 + nibAt f k]) else if k ≤ telN f ∨ nibAt f k ≠ 0 then ([], false) else telG f (k + 1) m out
def telD (f : List UInt8) : List UInt8 × Bool := telG f 1 15 []
theorem le9 (x : UInt8) : decide (x ≤ 9) = decide (x.toNat ≤ 9) := by
  rw [Bool.eq_iff_iff, decide_eq_true_iff, decide_eq_true_iff, UInt8.le_iff_toNat_le]; exact Iff.rfl
theorem p_number (f : List UInt8) (hf : f.length = 8) : f_packed_number f = some (telD f) := by
  unfold f_packed_number
  rw [ck_pos (by omega), ck_pos (by decide)]
  refine loop_spec (fun s => some (telG f (s.2.toNat + 1) (15 - s.2.toNat) s.1)) (fun s : List UInt8 × Int => 0 ≤ s.2 ∧ s.2 ≤ 15 ∧ (s.1.length : Int) ≤ s.2) (fun s => (15 - s.2).toNat) (fun s hI => ?_) ⟨by omega, by omega, by simp⟩ (by simp)
  obtain ⟨out, i⟩ := s
  obtain ⟨h1, h2, h3⟩ := hI
  simp only [] at h1 h2 h3 ⊢
  unfold f_packed_number_l1
  by_cases hi : i < 15
  · rw [if_pos (by simpa using hi), ck_pos (by omega), tmod_nn h1, tdiv_nn h1, tdiv_nn (by omega), ck_pos (by omega), ck_pos (by rw [hf]; omega), ck_pos (by decide), ck_pos (by decide)]
    obtain ⟨m, hm⟩ : ∃ m, 15 - i.toNat = m + 1 := ⟨14 - i.toNat, by omega⟩
    have hm2 : 15 - (i + 1).toNat = m := by omega
    have hk2 : (i + 1).toNat + 1 = i.toNat + 1 + 1 := by omega
    have main : ∀ y : UInt8, y = nibAt f (i.toNat + 1) → (∃ r, f_packed_number_j1 f out i y = some (.inr r) ∧ some (telG f (i.toNat + 1) (15 - i.toNat) out) = some r) ∨ ∃ s' : List UInt8 × Int, f_packed_number_j1 f out i y = some (.inl s') ∧ (0 ≤ s'.2 ∧ s'.2 ≤ 15 ∧ (s'.1.length : Int) ≤ s'.2) ∧ (15 - s'.2).toNat < (15 - i).toNat ∧ some (telG f (s'.2.toNat + 1) (15 - s'.2.toNat) s'.1) = some (telG f (i.toNat + 1) (15 - i.toNat) out) := by
      rintro y rfl
      unfold f_packed_number_j1
      rw [u8_hi, u8_hin, le9, hm, telG]
      have e1 : (i < (((nth f (Int.toNat 0)).toNat / 16 : Nat) : Int)) ↔ i.toNat + 1 ≤ telN f := by unfold telN; rw [show Int.toNat 0 = 0 from rfl]; omega
      by_cases c1 : i.toNat + 1 ≤ telN f
      · by_cases c2 : (nibAt f (i.toNat + 1)).toNat ≤ 9
        · rw [if_pos (by simp only [Bool.and_eq_true, decide_eq_true_eq]; exact ⟨e1.2 c1, c2⟩), if_pos ⟨c1, c2⟩, ck_pos (by simp; omega), ck_pos (by omega)]
          refine .inr ⟨_, rfl, ⟨by simp only []; omega, by simp only []; omega, by simp; omega⟩, by simp only []; omega, ?_⟩
          simp only []
          rw [hm2, hk2]
        · rw [if_neg (fun h => c2 h.2 : ¬ (i.toNat + 1 ≤ telN f ∧ (nibAt f (i.toNat + 1)).toNat ≤ 9)), if_neg (by simp only [Bool.and_eq_true, decide_eq_true_eq]; exact fun h => c2 h.2), if_pos (by simp only [Bool.or_eq_true, decide_eq_true_eq]; exact .inl (e1.2 c1)), if_pos (.inl c1)]
          exact .inl ⟨_, rfl, rfl⟩
      · rw [if_neg (fun h => c1 h.1 : ¬ (i.toNat + 1 ≤ telN f ∧ (nibAt f (i.toNat + 1)).toNat ≤ 9)), if_neg (by simp only [Bool.and_eq_true, decide_eq_true_eq]; exact fun h => c1 (e1.1 h.1))]
        by_cases c3 : nibAt f (i.toNat + 1) ≠ 0
        · rw [if_pos (by simp only [Bool.or_eq_true, bne_iff_ne]; exact .inr c3), if_pos (.inr c3)]
          exact .inl ⟨_, rfl, rfl⟩
        · rw [if_neg (by simp only [Bool.or_eq_true, decide_eq_true_eq, bne_iff_ne]; exact fun h => h.elim (fun h => c1 (e1.1 h)) c3), if_neg (fun h => h.elim c1 c3), ck_pos (by omega)]
          refine .inr ⟨_, rfl, ⟨by simp only []; omega, by simp only []; omega, by simp only []; omega⟩, by simp only []; omega, ?_⟩
          simp only []
          rw [hm2, hk2]
    by_cases hp : i % 2 = 0
    · rw [if_pos (by simpa using hp), ck_pos (by omega), ck_pos (by rw [hf]; omega)]
      refine main _ ?_
      unfold nibAt
      rw [if_neg (by omega), u8_lo, show Int.toNat (i / 2) = (i.toNat + 1) / 2 by omega]
    · rw [if_neg (by simpa using hp)]
      refine main _ ?_
      unfold nibAt
      rw [if_pos (by omega), u8_hi, show Int.toNat ((i + 1) / 2) = (i.toNat + 1) / 2 by omega]
  · have : i = 15 := by omega
    subst this
    rw [if_neg (by simp)]
    exact .inl ⟨_, rfl, rfl⟩
theorem gt9 (x : UInt8) : decide (x > 9) = decide (9 < x.toNat) := by
  rw [Bool.eq_iff_iff, decide_eq_true_iff, decide_eq_true_iff, gt_iff_lt, UInt8.lt_iff_toNat_lt]; exact Iff.rfl
theorem p_text (f : List UInt8) (hf : f.length = 8) : f_billingref11_text f = some (telD f) := by
  unfold f_billingref11_text
  rw [ck_pos (by omega), ck_pos (by decide)]
  refine loop_spec (fun s => some (telG f s.2.toNat (16 - s.2.toNat) s.1)) (fun s : List UInt8 × Int => 1 ≤ s.2 ∧ s.2 ≤ 16 ∧ (s.1.length : Int) ≤ s.2) (fun s => (16 - s.2).toNat) (fun s hI => ?_) ⟨by omega, by omega, by simp⟩ (by simp)
  obtain ⟨out, i⟩ := s
  obtain ⟨h1, h2, h3⟩ := hI
  simp only [] at h1 h2 h3 ⊢
  unfold f_billingref11_text_l1
  by_cases hi : i ≤ 15
  · rw [if_pos (by simpa using hi), tmod_nn (by omega), tdiv_nn (by omega), ck_pos (by omega), ck_pos (by rw [hf]; omega), ck_pos (by decide), ck_pos (by decide)]
    obtain ⟨m, hm⟩ : ∃ m, 16 - i.toNat = m + 1 := ⟨15 - i.toNat, by omega⟩
    have hm2 : 16 - (i + 1).toNat = m := by omega
    have hk2 : (i + 1).toNat = i.toNat + 1 := by omega
    have main : ∀ y : UInt8, y = nibAt f i.toNat → (∃ r, f_billingref11_text_j1 f out i y = some (.inr r) ∧ some (telG f i.toNat (16 - i.toNat) out) = some r) ∨ ∃ s' : List UInt8 × Int, f_billingref11_text_j1 f out i y = some (.inl s') ∧ (1 ≤ s'.2 ∧ s'.2 ≤ 16 ∧ (s'.1.length : Int) ≤ s'.2) ∧ (16 - s'.2).toNat < (16 - i).toNat ∧ some (telG f s'.2.toNat (16 - s'.2.toNat) s'.1) = some (telG f i.toNat (16 - i.toNat) out) := by
      rintro y rfl
      unfold f_billingref11_text_j1
      rw [u8_hin, gt9, hm, telG]
      have e1 : (i ≤ (((nth f (Int.toNat 0)).toNat / 16 : Nat) : Int)) ↔ i.toNat ≤ telN f := by unfold telN; rw [show Int.toNat 0 = 0 from rfl]; omega
      have e2 : (i > (((nth f (Int.toNat 0)).toNat / 16 : Nat) : Int)) ↔ ¬ i.toNat ≤ telN f := by rw [← e1]; omega
      by_cases c1 : i.toNat ≤ telN f
      · by_cases c2 : (nibAt f i.toNat).toNat ≤ 9
        · rw [if_neg (by simp only [Bool.or_eq_true, Bool.and_eq_true, decide_eq_true_eq]; exact fun h => h.elim (fun h => by omega) (fun h => e2.1 h.1 c1)), if_pos (by simpa using e1.2 c1), if_pos ⟨c1, c2⟩, ck_pos (by simp; omega), ck_pos (by omega)]
          refine .inr ⟨_, rfl, ⟨by simp only []; omega, by simp only []; omega, by simp; omega⟩, by simp only []; omega, ?_⟩
          simp only []
          rw [hm2, hk2]
        · rw [if_pos (by simp only [Bool.or_eq_true, Bool.and_eq_true, decide_eq_true_eq]; exact .inl ⟨e1.2 c1, by omega⟩), if_neg (fun h => c2 h.2), if_pos (.inl c1)]
          exact .inl ⟨_, rfl, rfl⟩
      · rw [if_neg (fun h : i.toNat ≤ telN f ∧ _ => c1 h.1)]
        by_cases c3 : nibAt f i.toNat ≠ 0
        · rw [if_pos (by simp only [Bool.or_eq_true, Bool.and_eq_true, decide_eq_true_eq, bne_iff_ne]; exact .inr ⟨e2.2 c1, c3⟩), if_pos (.inr c3)]
          exact .inl ⟨_, rfl, rfl⟩
        · rw [if_neg (by simp only [Bool.or_eq_true, Bool.and_eq_true, decide_eq_true_eq, bne_iff_ne]; exact fun h => h.elim (fun h => c1 (e1.1 h.1)) (fun h => c3 h.2)), if_neg (by simp only [decide_eq_true_eq]; exact fun h => c1 (e1.1 h)), if_neg (fun h => h.elim c1 c3), ck_pos (by omega)]
          refine .inr ⟨_, rfl, ⟨by simp only []; omega, by simp only []; omega, by simp only []; omega⟩, by simp only []; omega, ?_⟩
          simp only []
          rw [hm2, hk2]
    by_cases hp : i % 2 = 1
    · rw [if_pos (by simpa using hp), ck_pos (by omega), ck_pos (by rw [hf]; omega), ck_pos (by decide)]
      refine main _ ?_
      unfold nibAt
      rw [if_neg (by omega), show Int.toNat (i / 2) = i.toNat / 2 by omega]
    · rw [if_neg (by simpa using hp)]
      refine main _ ?_
      unfold nibAt
      rw [if_pos (by omega), show Int.toNat (i / 2) = i.toNat / 2 by omega]
  · have : i = 16 := by omega
    subst this
    rw [if_neg (by simp)]
    exact .inl ⟨_, rfl, rfl⟩
theorem telG_len (f : List UInt8) : ∀ (m k : Nat) (out : List UInt8), (telG f k m out).1.length ≤ out.length + m
  | 0, k, out => by simp [telG]
  | m + 1, k, out => by
    unfold telG
    split
    · have := telG_len f m (k + 1) (out ++ [48 + nibAt f k])
      simp at this ⊢; omega
    · split
      · simp
      · have := telG_len f m (k + 1) out
        omega
theorem telD_len (f : List UInt8) : (telD f).1.length ≤ 15 := by have := telG_len f 15 1 []; simpa [telD] using this
/-! records are read -/
def Z : Record := ⟨0, 0, 0, [], [], 0, 0, 0, 0, false, 0, false⟩
def cut (b : List UInt8) (i n : Nat) : List UInt8 := (b.drop i).take n
def recF (b : List UInt8) : Record := ⟨(decD (cut b 0 1)).1, (decD (cut b 1 5)).1, (((nth b 6).toNat / 16 : Nat) : Int), (telD (cut b 7 8)).1, (telD (cut b 15 8)).1, (decD (cut b 23 6)).1, (decD (cut b 29 7)).1, (decD (cut b 36 5)).1, (decD (cut b 41 1)).1, (nth b 6 % 2) == 1, (decD (cut b 42 2)).1, decide (nth b 6 % 16 ≥ 2)⟩
def formB (b : List UInt8) : Bool := ((decD (cut b 0 1)).2 == 0) && ((decD (cut b 1 5)).2 == 0) && (telD (cut b 7 8)).2 && (telD (cut b 15 8)).2 && ((decD (cut b 23 6)).2 == 0) && ((decD (cut b 29 7)).2 == 0) && ((decD (cut b 36 5)).2 == 0) && ((decD (cut b 41 1)).2 == 0) && ((decD (cut b 42 2)).2 == 0) && decide (nth b 6 % 16 ≤ 3)
def unpackF (b : List UInt8) : Record × Int :=
  if b.length < 45 then (Z, 2) else if b.length > 45 then (Z, 3) else if sumF (b.take 44) ≠ nth b 44 then (Z, 4)
  else if formB b = false then (Z, 1) else if errF (recF b) ≠ 0 then (Z, errF (recF b)) else (recF b, 0)
theorem p_field (b : List UInt8) (bad : Bool) (n : Nat) (h : n ≤ b.length) : g_packed_reader_field (n : Int) ⟨b, bad⟩ = some (b.take n, ⟨b.drop n, bad⟩) := by
  unfold g_packed_reader_field
  simp only []
  rw [ck_pos (by omega), ck_pos (by omega), Int.toNat_natCast]
theorem p_rdecimal (b : List UInt8) (bad : Bool) (n : Nat) (h : n ≤ b.length) (hn : n ≤ 1000) : g_packed_reader_decimal (n : Int) ⟨b, bad⟩ = some ((decD (b.take n)).1, ⟨b.drop n, bad || ((decD (b.take n)).2 != 0)⟩) := by
  unfold g_packed_reader_decimal
  rw [p_field b bad n h]
  simp only [Option.bind_some]
  rw [p_Decimal _ (by simp; omega)]
  rfl
theorem p_rnumber (b : List UInt8) (bad : Bool) (h : 8 ≤ b.length) : g_packed_reader_number ⟨b, bad⟩ = some ((telD (b.take 8)).1, ⟨b.drop 8, bad || !(telD (b.take 8)).2⟩) := by
  unfold g_packed_reader_number
  rw [show (8 : Int) = ((8 : Nat) : Int) from rfl, p_field b bad 8 h]
  simp only [Option.bind_some]
  rw [p_number _ (by simp; omega)]
  rfl
theorem drop_cut (b : List UInt8) (i n : Nat) : (b.drop i).take n = cut b i n := rfl
theorem u8_bits (x : UInt8) : (x % 16 ≤ 3) → ((x &&& 1) != 0) = ((x % 2) == 1) ∧ ((x &&& 2) != 0) = decide (x % 16 ≥ 2) := u8_all (p := fun x => x % 16 ≤ 3 → ((x &&& 1) != 0) = ((x % 2) == 1) ∧ ((x &&& 2) != 0) = decide (x % 16 ≥ 2)) (by decide +kernel) x
theorem p_Decode11 (b : List UInt8) (hb : b.length ≤ 100000) : f_packed_Decode b = some (unpackF b) := by
  unfold f_packed_Decode unpackF
  by_cases h1 : b.length < 45
  · rw [if_pos (by simp; omega), if_pos h1]; rfl
  · rw [if_neg (by simp; omega), if_neg h1]
    by_cases h2 : b.length > 45
    · rw [if_pos (by simp; omega), if_pos h2]; rfl
    · have hl : b.length = 45 := by omega
      rw [if_neg (by simp; omega), if_neg h2, ck_pos (by omega), p_sum _ (by simp; omega)]
      simp only [Option.bind_some]
      rw [ck_pos (by omega), show Int.toNat 44 = 44 from rfl]
      by_cases h3 : sumF (b.take 44) ≠ nth b 44
      · rw [if_pos (by simpa using h3), if_pos h3]; rfl
      · rw [if_neg (by simpa using h3), if_neg h3]
        rw [show (1 : Int) = ((1 : Nat) : Int) from rfl, p_rdecimal _ _ 1 (by omega) (by omega)]
        simp only [Option.bind_some]
        rw [show (5 : Int) = ((5 : Nat) : Int) from rfl, p_rdecimal _ _ 5 (by simp; omega) (by omega)]
        simp only [Option.bind_some]
        rw [p_field _ _ 1 (by simp; omega)]
        simp only [Option.bind_some]
        rw [ck_pos (by simp; omega), ck_pos (by decide), p_rnumber _ _ (by simp; omega)]
        simp only [Option.bind_some]
        rw [p_rnumber _ _ (by simp; omega)]
        simp only [Option.bind_some]
        rw [show (6 : Int) = ((6 : Nat) : Int) from rfl, p_rdecimal _ _ 6 (by simp; omega) (by omega)]
        simp only [Option.bind_some]
        rw [show (7 : Int) = ((7 : Nat) : Int) from rfl, p_rdecimal _ _ 7 (by simp; omega) (by omega)]
        simp only [Option.bind_some]
        rw [p_rdecimal _ _ 5 (by simp; omega) (by omega)]
        simp only [Option.bind_some]
        rw [p_rdecimal _ _ 1 (by simp; omega) (by omega)]
        simp only [Option.bind_some]
        rw [show (2 : Int) = ((2 : Nat) : Int) from rfl, p_rdecimal _ _ 2 (by simp; omega) (by omega)]
        simp only [Option.bind_some, List.drop_drop, drop_cut, Nat.reduceAdd, Bool.false_or, u8_hi, u8_lo, u8_hin]
        have e0 : b.take 1 = cut b 0 1 := rfl
        have e6 : nth (cut b 6 1) (Int.toNat 0) = nth b 6 := by
          rw [show Int.toNat 0 = 0 from rfl, nth_eq (by simp [cut]; omega), nth_eq (by omega)]
          simp [cut]
        rw [e0, e6]
        have hbad : (((((((((((decD (cut b 0 1)).2 != 0) || ((decD (cut b 1 5)).2 != 0)) || !(telD (cut b 7 8)).2) || !(telD (cut b 15 8)).2) || ((decD (cut b 23 6)).2 != 0)) || ((decD (cut b 29 7)).2 != 0)) || ((decD (cut b 36 5)).2 != 0)) || ((decD (cut b 41 1)).2 != 0)) || ((decD (cut b 42 2)).2 != 0)) || decide (nth b 6 % 16 > 3)) = !formB b := by
          have : decide (nth b 6 % 16 > 3) = !decide (nth b 6 % 16 ≤ 3) := by
            rw [Bool.eq_iff_iff]; simp
          unfold formB
          rw [this]
          simp only [Bool.not_and, bne, Bool.or_assoc]
        rw [hbad]
        by_cases hf : formB b = false
        · rw [if_pos (by simp [hf]), if_pos hf]; rfl
        · rw [if_neg (by simpa using hf), if_neg hf]
          have h16 : nth b 6 % 16 ≤ 3 := by
            have hf' : formB b = true := by simpa using hf
            unfold formB at hf'
            simp only [Bool.and_eq_true, decide_eq_true_eq] at hf'
            exact hf'.2
          obtain ⟨b1, b2⟩ := u8_bits _ h16
          rw [b1, b2]
          rw [show (⟨(decD (cut b 0 1)).1, (decD (cut b 1 5)).1, (((nth b 6).toNat / 16 : Nat) : Int), (telD (cut b 7 8)).1, (telD (cut b 15 8)).1, (decD (cut b 23 6)).1, (decD (cut b 29 7)).1, (decD (cut b 36 5)).1, (decD (cut b 41 1)).1, (nth b 6 % 2) == 1, (decD (cut b 42 2)).1, decide (nth b 6 % 16 ≥ 2)⟩ : Record) = recF b from rfl]
          rw [p_Encode (recF b) (by have := telD_len (cut b 7 8); simp only [recF]; omega) (by have := telD_len (cut b 15 8); simp only [recF]; omega)]
          simp only [Option.bind_some]
          by_cases he : errF (recF b) ≠ 0
          · rw [if_pos (by simpa using he), if_pos he]; rfl
          · rw [if_neg (by simpa using he), if_neg he]
theorem slice_cut (b : List UInt8) (i j : Nat) (h : i ≤ j) : (b.take j).drop i = cut b i (j - i) := by
  unfold cut
  rw [List.drop_take]
theorem p_rDecode11 (b : List UInt8) (hb : b.length ≤ 100000) : f_billingref11_Decode b = some (unpackF b) := by
  unfold f_billingref11_Decode unpackF
  by_cases h1 : b.length < 45
  · rw [if_pos (by simp; omega), if_pos h1]; rfl
  · rw [if_neg (by simp; omega), if_neg h1]
    by_cases h2 : b.length > 45
    · rw [if_pos (by simp; omega), if_pos h2]; rfl
    · have hl : b.length = 45 := by omega
      rw [if_neg (by simp; omega), if_neg h2, ck_pos (by omega), p_rsum _ (by simp; omega)]
      simp only [Option.bind_some]
      rw [ck_pos (by omega), show Int.toNat 44 = 44 from rfl]
      by_cases h3 : sumF (b.take 44) ≠ nth b 44
      · rw [if_pos (by simpa using h3), if_pos h3]; rfl
      · rw [if_neg (by simpa using h3), if_neg h3, ck_pos (by omega), ck_pos (by decide)]
        -- seven numbers, one after the other
        have hstep : ∀ (k i j : Nat) (ns : List Int) (ok : Bool), k < 7 → ns.length ≤ 7 → nth ([0, 1, 23, 29, 36, 41, 42] : List Int) k = (i : Int) → nth ([1, 6, 29, 36, 41, 42, 44] : List Int) k = (j : Int) → i ≤ j → j ≤ 44 →
            f_billingref11_Decode_l1 b ns ok (k : Int) = some (.inl (ns ++ [(decD (cut b i (j - i))).1], ok && ((decD (cut b i (j - i))).2 == 0), (k : Int) + 1)) := by
          intro k i j ns ok hk hns e1 e2 hij hj
          unfold f_billingref11_Decode_l1
          rw [Int.toNat_natCast, e1, e2, if_pos (by simp; omega), ck_pos (by simp; omega), ck_pos (by simp; omega), ck_pos (by omega), Int.toNat_natCast, Int.toNat_natCast, slice_cut b i j hij, p_rDecimal _ (by simp [cut]; omega)]
          simp only [Option.bind_some]
          rw [ck_pos (by simp; omega), ck_pos (by omega)]
        have iter7 : ∀ (n : Nat) (ns : List Int) (ok : Bool) (r : Record × Int), f_billingref11_Decode_l1 b ns ok 7 = some (.inr r) → iter (fun s => f_billingref11_Decode_l1 b s.1 s.2.1 s.2.2) (n + 1) (ns, ok, 7) = some r := by
          intro n ns ok r h
          unfold iter
          simp only [h]
        have one : ∀ (n k i j : Nat) (ns : List Int) (ok : Bool), k < 7 → ns.length ≤ 7 → nth ([0, 1, 23, 29, 36, 41, 42] : List Int) k = (i : Int) → nth ([1, 6, 29, 36, 41, 42, 44] : List Int) k = (j : Int) → i ≤ j → j ≤ 44 →
            iter (fun s => f_billingref11_Decode_l1 b s.1 s.2.1 s.2.2) (n + 1) (ns, ok, (k : Int)) = iter (fun s => f_billingref11_Decode_l1 b s.1 s.2.1 s.2.2) n (ns ++ [(decD (cut b i (j - i))).1], ok && ((decD (cut b i (j - i))).2 == 0), ((k + 1 : Nat) : Int)) := by
          intro n k i j ns ok hk hns e1 e2 hij hj
          conv => lhs; unfold iter
          rw [hstep k i j ns ok hk hns e1 e2 hij hj]
          rfl
        unfold loop
        rw [show (18446744073709551616 : Nat) = 18446744073709551608 + 8 from rfl]
        have z : (([] : List Int), decide (nth b (Int.toNat 6) % 16 ≤ 3), (0 : Int)) = (([] : List Int), decide (nth b 6 % 16 ≤ 3), ((0 : Nat) : Int)) := rfl
        rw [z, one _ 0 0 1 _ _ (by omega) (by simp) rfl rfl (by omega) (by omega), one _ 1 1 6 _ _ (by omega) (by simp) rfl rfl (by omega) (by omega), one _ 2 23 29 _ _ (by omega) (by simp) rfl rfl (by omega) (by omega), one _ 3 29 36 _ _ (by omega) (by simp) rfl rfl (by omega) (by omega),
          one _ 4 36 41 _ _ (by omega) (by simp) rfl rfl (by omega) (by omega), one _ 5 41 42 _ _ (by omega) (by simp) rfl rfl (by omega) (by omega), one _ 6 42 44 _ _ (by omega) (by simp) rfl rfl (by omega) (by omega)]
        refine iter7 _ _ _ _ ?_
        unfold f_billingref11_Decode_l1
        rw [if_neg (by simp)]
        unfold f_billingref11_Decode_j1
        simp only [List.nil_append, List.cons_append, Nat.reduceSub, Nat.reduceAdd]
        rw [ck_pos (by omega), show Int.toNat 15 = 15 from rfl, show Int.toNat 7 = 7 from rfl, slice_cut b 7 15 (by omega), p_text _ (by simp [cut]; omega)]
        simp only [Option.bind_some, Nat.reduceSub]
        rw [ck_pos (by omega), show Int.toNat 23 = 23 from rfl, slice_cut b 15 23 (by omega), p_text _ (by simp [cut]; omega)]
        simp only [Option.bind_some, Nat.reduceSub]
        have hok : ((!(decide (nth b 6 % 16 ≤ 3) && (decD (cut b 0 1)).2 == 0 && (decD (cut b 1 5)).2 == 0 && (decD (cut b 23 6)).2 == 0 && (decD (cut b 29 7)).2 == 0 && (decD (cut b 36 5)).2 == 0 && (decD (cut b 41 1)).2 == 0 && (decD (cut b 42 2)).2 == 0)) || !(telD (cut b 7 8)).2 || !(telD (cut b 15 8)).2) = !formB b := by
          unfold formB
          generalize decide (nth b 6 % 16 ≤ 3) = q0
          generalize ((decD (cut b 0 1)).2 == 0) = q1
          generalize ((decD (cut b 1 5)).2 == 0) = q2
          generalize (telD (cut b 7 8)).2 = q3
          generalize (telD (cut b 15 8)).2 = q4
          generalize ((decD (cut b 23 6)).2 == 0) = q5
          generalize ((decD (cut b 29 7)).2 == 0) = q6
          generalize ((decD (cut b 36 5)).2 == 0) = q7
          generalize ((decD (cut b 41 1)).2 == 0) = q8
          generalize ((decD (cut b 42 2)).2 == 0) = q9
          cases q0 <;> cases q1 <;> cases q2 <;> cases q3 <;> cases q4 <;> cases q5 <;> cases q6 <;> cases q7 <;> cases q8 <;> cases q9 <;> rfl
        rw [hok]
        by_cases hf : formB b = false
        · rw [if_pos (by simp [hf]), if_pos hf]; rfl
        · rw [if_neg (by simpa using hf), if_neg hf]
          rw [ck_pos (by simp), ck_pos (by simp), ck_pos (by omega), ck_pos (by decide), ck_pos (by simp), ck_pos (by simp), ck_pos (by simp), ck_pos (by simp), ck_pos (by simp), ck_pos (by omega), ck_pos (by decide), ck_pos (by omega), ck_pos (by decide), u8_hin]
          have hrec : ∀ x : Record, x = recF b → (f_billingref09_Error x).bind (fun y4 => if (y4 != 0) = true then some ((⟨0, 0, 0, ([] : List UInt8), ([] : List UInt8), 0, 0, 0, 0, false, 0, false⟩ : Record), y4) else some (x, 0)) = some (if errF (recF b) ≠ 0 then (Z, errF (recF b)) else (recF b, 0)) := by
            rintro x rfl
            rw [p_rError (recF b) (by have := telD_len (cut b 7 8); simp only [recF]; omega) (by have := telD_len (cut b 15 8); simp only [recF]; omega)]
            simp only [Option.bind_some]
            by_cases he : errF (recF b) ≠ 0
            · rw [if_pos (by simpa using he), if_pos he]; rfl
            · rw [if_neg (by simpa using he), if_neg he]
          exact (congrArg (Option.map fun z => Sum.inr z) (hrec _ rfl)).trans rfl
end Go.Proofs.YtlgoaojmancfpaaDoor
