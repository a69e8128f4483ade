import Derived.Test.YtlgoaojmancfpaaDoorR2
set_option linter.unusedSimpArgs false
set_option linter.unusedVariables false
namespace Go.Proofs.YtlgoaojmancfpaaDoor
open Go.RowKit Go.Abs
/-! telephone numbers: a byte for the length and the first digit, seven for the others -/
/-- Nibble number k of a field, when the first i digits of s are in. -/
def nibI (s : List UInt8) (i k : Nat) : UInt8 := if k = 0 then UInt8.ofNat s.length else if k ≤ i then nth s (k - 1) - 48 else 0
def telI (s : List UInt8) (i : Nat) : List UInt8 := (List.range 8).map fun j => nibI s i (2 * j) * 16 + nibI s i (2 * j + 1)
def telF (s : List UInt8) : List UInt8 := telI s s.length
theorem telI_len (s : List UInt8) (i : Nat) : (telI s i).length = 8 := by simp [telI]
theorem telI_nth {s : List UInt8} {i j : Nat} (h : j < 8) : nth (telI s i) j = nibI s i (2 * j) * 16 + nibI s i (2 * j + 1) := by
  rw [nth_eq (by rw [telI_len]; exact h)]
  simp [telI]
theorem telI_next {s : List UInt8} {i : Nat} (hi : i < 15) : telI s (i + 1) = (telI s i).set ((i + 1) / 2) (nibI s (i + 1) (2 * ((i + 1) / 2)) * 16 + nibI s (i + 1) (2 * ((i + 1) / 2) + 1)) := by
  apply List.ext_getElem?
  intro j
  rw [List.getElem?_set, telI_len]
  by_cases hj : j < 8
  · by_cases e : (i + 1) / 2 = j
    · subst e
      rw [if_pos rfl, if_pos hj]
      simp [telI, hj]
    · rw [if_neg e]
      simp only [telI, List.getElem?_map, List.getElem?_range hj, Option.map_some, Option.some.injEq]
      have a : ∀ k, k ≠ i + 1 → nibI s (i + 1) k = nibI s i k := fun k hk => by
        unfold nibI
        by_cases h0 : k = 0
        · rw [if_pos h0, if_pos h0]
        · rw [if_neg h0, if_neg h0]
          by_cases h1 : k ≤ i
          · rw [if_pos h1, if_pos (by omega)]
          · rw [if_neg h1, if_neg (by omega)]
      rw [a _ (by omega), a _ (by omega)]
  · rw [List.getElem?_eq_none (by rw [telI_len]; omega)]
    rw [if_neg (by omega), List.getElem?_eq_none (by rw [telI_len]; omega)]
theorem nib_digs {s : List UInt8} (hs : s.all isDig = true) {i k : Nat} (hk : 1 ≤ k) (hi : i ≤ s.length) : (nibI s i k).toNat ≤ 9 := by
  unfold nibI
  rw [if_neg (by omega)]
  by_cases h : k ≤ i
  · rw [if_pos h]
    have hm : nth s (k - 1) ∈ s := by rw [nth_eq (by omega)]; exact List.getElem_mem _
    have := List.all_eq_true.1 hs _ hm
    simp only [isDig, Bool.and_eq_true, decide_eq_true_eq, UInt8.le_iff_toNat_le] at this
    have e : (nth s (k - 1) - 48).toNat = (nth s (k - 1)).toNat - 48 := UInt8.toNat_sub_of_le _ _ (by rw [UInt8.le_iff_toNat_le]; exact this.1)
    rw [e]
    have h2 : (nth s (k - 1)).toNat ≤ 57 := this.2
    omega
  · rw [if_neg h]; decide
theorem or_lo : ∀ x y : Fin 16, (UInt8.ofNat x.val * 16 + 0) ||| UInt8.ofNat y.val = UInt8.ofNat x.val * 16 + UInt8.ofNat y.val := by decide +kernel
theorem or_nib {x y : UInt8} (hx : x.toNat < 16) (hy : y.toNat < 16) : (x * 16 + 0) ||| y = x * 16 + y := by
  have := or_lo ⟨x.toNat, hx⟩ ⟨y.toNat, hy⟩
  simpa using this
theorem shl4 (x : UInt8) : u8shl x 4 = x * 16 := u8_all (p := fun x => u8shl x 4 = x * 16) (by decide +kernel) x
theorem len16 {n : Nat} (h : n ≤ 15) : UInt8.ofInt ((n : Int) * 16) = UInt8.ofNat n * 16 := by
  have : ∀ j : Fin 16, UInt8.ofInt ((j.val : Int) * 16) = UInt8.ofNat j.val * 16 := by decide +kernel
  exact this ⟨n, by omega⟩
theorem nib_lt {s : List UInt8} (hs : s.all isDig = true) (hl : s.length ≤ 15) {i k : Nat} (hi : i ≤ s.length) : (nibI s i k).toNat < 16 := by
  by_cases h : k = 0
  · subst h
    unfold nibI
    rw [if_pos rfl]
    simp; omega
  · have := nib_digs hs (i := i) (k := k) (by omega) hi; omega
theorem telI_zero {s : List UInt8} (hl : s.length ≤ 15) : telI s 0 = (List.replicate 8 0 : List UInt8).set 0 (UInt8.ofInt ((s.length : Int) * 16)) := by
  rw [len16 hl]
  simp [telI, nibI, List.range_succ, List.replicate]
theorem nib_new {s : List UInt8} {i : Nat} : nibI s (i + 1) (i + 1) = nth s i - 48 := by simp [nibI]
theorem nib_zero {s : List UInt8} {i k : Nat} (h : i < k) : nibI s i k = 0 := by unfold nibI; rw [if_neg (by omega), if_neg (by omega)]
theorem nib_old {s : List UInt8} {i k : Nat} (h : k ≠ i + 1) : nibI s (i + 1) k = nibI s i k := by
  unfold nibI
  by_cases h0 : k = 0
  · rw [if_pos h0, if_pos h0]
  · rw [if_neg h0, if_neg h0]
    by_cases h1 : k ≤ i
    · rw [if_pos h1, if_pos (by omega)]
    · rw [if_neg h1, if_neg (by omega)]
theorem p_putNumber (s out : List UInt8) (hs : s.all isDig = true) (hl : s.length ≤ 15) (ho : out.length ≤ 100000000) : g_packed_putNumber s out = some (out ++ telF s) := by
  unfold g_packed_putNumber
  have e4 : (2 : Int) ^ (Int.toNat 4) = 16 := by decide
  rw [e4, ck_pos (by omega), ck_pos (by decide), ck_pos (by decide), show Int.toNat 0 = 0 from rfl, ← telI_zero hl]
  have := loop_post (step := fun q => g_packed_putNumber_l1 s out q.1 q.2) (fun r => r = out ++ telF s) (fun q : Int × List UInt8 => ∃ i : Nat, i ≤ s.length ∧ q = ((i : Int), telI s i)) (fun q => ((s.length : Int) - q.1).toNat) (fun q hI => by
    obtain ⟨i, hi, rfl⟩ := hI
    simp only []
    unfold g_packed_putNumber_l1
    by_cases h : i < s.length
    · rw [if_pos (by simpa using h), ck_pos (by omega), ck_pos (by decide), tmod_nn (by omega)]
      have hlen := telI_len s i
      have hnx := telI_next (s := s) (i := i) (by omega)
      refine .inr ⟨((i : Int) + 1, telI s (i + 1)), ?_, ⟨i + 1, by omega, by simp⟩, by simp only []; omega⟩
      by_cases hp : i % 2 = 0
      · rw [if_pos (by simp; omega), tdiv_nn (by omega)]
        have ei : Int.toNat ((i : Int) / 2) = (i + 1) / 2 := by omega
        rw [ck_pos (by omega), ck_pos (by omega), ck_pos (by rw [hlen]; omega), ck_pos (by omega), ck_pos (by rw [hlen]; omega), ck_pos (by omega), ei, telI_nth (by omega), Int.toNat_natCast]
        have e1 : 2 * ((i + 1) / 2) = i := by omega
        rw [hnx, e1, nib_zero (by omega : i < i + 1), nib_new, nib_old (by omega : i ≠ i + 1), or_nib (nib_lt hs hl (by omega)) (by rw [← nib_new (i := i)]; exact nib_lt hs hl (by omega))]
      · rw [if_neg (by simp; omega), tdiv_nn (by omega)]
        have ei : Int.toNat (((i : Int) + 1) / 2) = (i + 1) / 2 := by omega
        rw [ck_pos (by omega), ck_pos (by omega), ck_pos (by decide), ck_pos (by omega), ck_pos (by rw [hlen]; omega), ck_pos (by omega), ei, Int.toNat_natCast]
        have e1 : 2 * ((i + 1) / 2) = i + 1 := by omega
        rw [hnx, e1, nib_zero (by omega : i + 1 < i + 1 + 1), nib_new, shl4]
        simp
    · have : i = s.length := by omega
      subst this
      rw [if_neg (by simp)]
      refine .inl ⟨_, ?_, rfl⟩
      unfold g_packed_putNumber_j1
      rw [ck_pos ⟨telI_len _ _, by rw [telI_len]; omega⟩]
      rfl) (s := (0, telI s 0)) ⟨0, by omega, by simp⟩ (by simp; omega)
  obtain ⟨r, hr, rfl⟩ := this
  exact hr
theorem p_digits (s : List UInt8) (hs : s.all isDig = true) (hl : s.length ≤ 15) : f_billingref11_digits s = some (telF s) := by
  unfold f_billingref11_digits
  rw [ck_pos (by decide), ck_pos (by omega), ck_pos (by decide), ck_pos (by decide), show Int.toNat 0 = 0 from rfl, show Int.toNat 8 = 8 from rfl, ← telI_zero hl]
  have := loop_post (step := fun q => f_billingref11_digits_l1 s q.1 q.2) (fun r => r = telF s) (fun q : List UInt8 × Int => ∃ i : Nat, i ≤ s.length ∧ q = (telI s i, (i : Int))) (fun q => ((s.length : Int) - q.2).toNat) (fun q hI => by
    obtain ⟨i, hi, rfl⟩ := hI
    simp only []
    unfold f_billingref11_digits_l1
    by_cases h : i < s.length
    · rw [if_pos (by simpa using h), ck_pos (by omega), ck_pos (by decide), tmod_nn (by omega)]
      have hlen := telI_len s i
      have hnx := telI_next (s := s) (i := i) (by omega)
      refine .inr ⟨(telI s (i + 1), (i : Int) + 1), ?_, ⟨i + 1, by omega, by simp⟩, by simp only []; omega⟩
      have ei : Int.toNat (((i : Int) + 1) / 2) = (i + 1) / 2 := by omega
      by_cases hp : i % 2 = 0
      · rw [if_neg (by simp; omega), tdiv_nn (by omega)]
        rw [ck_pos (by omega), ck_pos (by omega), ck_pos (by rw [hlen]; omega), ck_pos (by rw [hlen]; omega), ck_pos (by omega), ck_pos (by rw [hlen]; omega), ck_pos (by rw [hlen]; omega), ck_pos (by omega), ei, telI_nth (by omega), Int.toNat_natCast]
        have e1 : 2 * ((i + 1) / 2) = i := by omega
        rw [hnx, e1, nib_zero (by omega : i < i + 1), nib_new, nib_old (by omega : i ≠ i + 1)]
        simp
      · rw [if_pos (by simp; omega), tdiv_nn (by omega)]
        rw [ck_pos (by omega), ck_pos (by omega), ck_pos (by rw [hlen]; omega), ck_pos (by rw [hlen]; omega), ck_pos (by omega), ck_pos (by rw [hlen]; omega), ck_pos (by rw [hlen]; omega), ck_pos (by omega), ei, telI_nth (by omega), Int.toNat_natCast]
        have e1 : 2 * ((i + 1) / 2) = i + 1 := by omega
        rw [hnx, e1, nib_zero (by omega : i < i + 1 + 1), nib_zero (by omega : i + 1 < i + 1 + 1), nib_new, nib_zero (by omega : i < i + 1)]
        simp
    · have : i = s.length := by omega
      subst this
      rw [if_neg (by simp)]
      exact .inl ⟨_, rfl, rfl⟩) (s := (telI s 0, 0)) ⟨0, by omega, by simp⟩ (by simp; omega)
  obtain ⟨r, hr, rfl⟩ := this
  exact hr
/-! the check byte -/
def sumF (b : List UInt8) : UInt8 := b.foldl (· + ·) 0
theorem foldl_drop {b : List UInt8} {i : Nat} (n : UInt8) (h : i < b.length) : (b.drop i).foldl (· + ·) n = (b.drop (i + 1)).foldl (· + ·) (n + nth b i) := by
  rw [nth_eq h, List.drop_eq_getElem_cons h, List.foldl_cons]
theorem p_sum (b : List UInt8) (hb : b.length ≤ 1000000000) : f_packed_sum b = some (sumF b) := by
  unfold f_packed_sum
  refine loop_spec (fun s => some ((b.drop s.2.toNat).foldl (· + ·) s.1)) (fun s : UInt8 × Int => 0 ≤ s.2 ∧ s.2 ≤ (b.length : Int)) (fun s => ((b.length : Int) - s.2).toNat) (fun s hI => ?_) ⟨by omega, by omega⟩ (by simp; omega)
  obtain ⟨n, i⟩ := s
  simp only [] at hI ⊢
  unfold f_packed_sum_l1
  by_cases hi : i < (b.length : Int)
  · rw [if_pos (by simpa using hi), ck_pos ⟨hI.1, hi⟩, ck_pos (by omega)]
    refine .inr ⟨_, rfl, by simp only []; omega, by simp only []; omega, ?_⟩
    rw [foldl_drop n (by omega : i.toNat < b.length), show (i + 1).toNat = i.toNat + 1 by omega]
  · rw [if_neg (by simpa using hi)]
    refine .inl ⟨_, rfl, ?_⟩
    rw [List.drop_of_length_le (by omega)]; rfl
theorem add_mod (n : Int) (x : UInt8) (h : 0 ≤ n) : UInt8.ofInt ((n + (x.toNat : Int)) % 256) = UInt8.ofInt n + x := by
  have e1 : ∀ m : Int, 0 ≤ m → UInt8.ofInt m = UInt8.ofNat m.toNat := fun m hm => by
    apply UInt8.toNat_inj.1
    simp [UInt8.ofInt]
    omega
  rw [e1 _ (by omega), e1 n h]
  apply UInt8.toNat_inj.1
  simp only [UInt8.toNat_add, UInt8.toNat_ofNat']
  have := x.toNat_lt
  omega
theorem p_rsum (b : List UInt8) (hb : b.length ≤ 1000000000) : f_billingref11_sum b = some (sumF b) := by
  unfold f_billingref11_sum
  refine loop_spec (fun s => some ((b.drop s.2.toNat).foldl (· + ·) (UInt8.ofInt s.1))) (fun s : Int × Int => 0 ≤ s.2 ∧ s.2 ≤ (b.length : Int) ∧ 0 ≤ s.1 ∧ s.1 < 256) (fun s => ((b.length : Int) - s.2).toNat) (fun s hI => ?_) ⟨by omega, by omega, by omega, by omega⟩ (by simp; omega)
  obtain ⟨n, i⟩ := s
  simp only [] at hI ⊢
  unfold f_billingref11_sum_l1
  by_cases hi : i < (b.length : Int)
  · have hx := (nth b i.toNat).toNat_lt
    rw [if_pos (by simpa using hi), ck_pos ⟨hI.1, hi⟩, ck_pos (by omega), ck_pos (by decide), ck_pos (by omega), tmod_nn (by omega)]
    refine .inr ⟨_, rfl, ⟨by simp only []; omega, by simp only []; omega, by simp only []; omega, by simp only []; omega⟩, by simp only []; omega, ?_⟩
    rw [foldl_drop _ (by omega : i.toNat < b.length), show (i + 1).toNat = i.toNat + 1 by omega]
    simp only []
    rw [add_mod n _ hI.2.2.1]
  · rw [if_neg (by simpa using hi)]
    refine .inl ⟨_, rfl, ?_⟩
    rw [List.drop_of_length_le (by omega)]; rfl
end Go.Proofs.YtlgoaojmancfpaaDoor
