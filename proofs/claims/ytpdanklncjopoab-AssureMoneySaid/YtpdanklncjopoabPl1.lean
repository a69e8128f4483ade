import Derived.Test.YtpdanklncjopoabB9
set_option linter.unusedSimpArgs false
set_option linter.unusedVariables false
namespace Go.Proofs.Ytpdanklncjopoab
open Go.RowKit Go.Abs

def nameF (k : Int) : List UInt8 :=
  if k = 1 then [105, 110, 116, 97, 107, 101] else if k = 2 then [117, 115, 97, 103, 101] else if k = 3 then [117, 110, 105, 116, 115] else if k = 4 then [109, 111, 110, 101, 121]
  else if k = 5 then [105, 110, 118, 111, 105, 99, 101] else if k = 6 then [108, 101, 100, 103, 101, 114] else [63]
/-- A number laid into a list in ascending order. -/
def insK : List Int → Int → List Int
  | [], n => [n]
  | a :: t, n => if a < n then a :: insK t n else if a = n then a :: t else n :: a :: t
theorem insK_cut : ∀ (l : List Int) (n : Int) (k : Nat), k ≤ l.length → (∀ j, j < k → nth l j < n) → insK l n = l.take k ++ insK (l.drop k) n
  | l, n, 0, _, _ => by simp
  | [], n, k + 1, h, _ => by simp at h
  | a :: t, n, k + 1, h, hj => by
    have h0 := hj 0 (by omega)
    have := insK_cut t n k (by simpa using h) (fun j hjk => by have := hj (j + 1) (by omega); simpa [nth] using this)
    have h0' : a < n := by simpa [nth] using h0
    simp [insK, h0', this]
theorem insK_found {l : List Int} {n : Int} {k : Nat} (h : k < l.length) (hj : ∀ j, j < k → nth l j < n) (he : nth l k = n) : insK l n = l := by
  rw [insK_cut l n k (by omega) hj, drop_nth h]
  simp only [insK, he]
  rw [if_neg (by omega)]
  have h2 := drop_nth h
  rw [he] at h2
  simp only [if_true]
  rw [← h2, List.take_append_drop]
theorem insK_new {l : List Int} {n : Int} {k : Nat} (h : k ≤ l.length) (hj : ∀ j, j < k → nth l j < n) (he : k < l.length → ¬ nth l k < n ∧ nth l k ≠ n) : insK l n = l.take k ++ [n] ++ l.drop k := by
  rw [insK_cut l n k h hj]
  by_cases hk : k < l.length
  · obtain ⟨h1, h2⟩ := he hk
    rw [drop_nth hk]
    simp [insK, h1, h2]
  · rw [List.drop_of_length_le (by omega)]
    simp [insK]
theorem insK_len (l : List Int) (n : Int) : (insK l n).length ≤ l.length + 1 := by
  induction l with
  | nil => simp [insK]
  | cons a t ih =>
    unfold insK
    split
    · simp; omega
    · split <;> simp
/-- Strictly ascending. -/
def Asc (l : List Int) : Prop := ∀ i j, i < j → j < l.length → nth l i < nth l j
theorem nth_cons_succ {a : Int} {t : List Int} {j : Nat} : nth (a :: t) (j + 1) = nth t j := by simp [nth]
theorem nth_cons_zero {a : Int} {t : List Int} : nth (a :: t) 0 = a := by simp [nth]
theorem Asc.tail {a : Int} {t : List Int} (h : Asc (a :: t)) : Asc t := fun i j hij hj => by
  have := h (i + 1) (j + 1) (by omega) (by simpa using hj)
  simpa [nth_cons_succ] using this
theorem Asc.cons {a : Int} {t : List Int} (h : Asc t) (ha : ∀ j, j < t.length → a < nth t j) : Asc (a :: t) := by
  intro i j hij hj
  cases j with
  | zero => omega
  | succ j =>
    rw [nth_cons_succ]
    cases i with
    | zero => rw [nth_cons_zero]; exact ha j (by simpa using hj)
    | succ i => rw [nth_cons_succ]; exact h i j (by omega) (by simpa using hj)
theorem insK_mem {l : List Int} {n : Int} : ∀ {j : Nat}, j < (insK l n).length → nth (insK l n) j = n ∨ ∃ i, i < l.length ∧ nth (insK l n) j = nth l i := by
  induction l with
  | nil =>
    intro j hj
    simp [insK] at hj
    subst hj
    exact .inl (by simp [insK, nth])
  | cons a t ih =>
    intro j hj
    by_cases h1 : a < n
    · have e : insK (a :: t) n = a :: insK t n := by simp [insK, h1]
      rw [e] at hj ⊢
      cases j with
      | zero => exact .inr ⟨0, by simp, by simp [nth]⟩
      | succ j =>
        rw [nth_cons_succ]
        rcases ih (by simpa using hj) with h | ⟨i, hi, h⟩
        · exact .inl h
        · exact .inr ⟨i + 1, by simpa using hi, by rw [nth_cons_succ]; exact h⟩
    · by_cases h2 : a = n
      · have e : insK (a :: t) n = a :: t := by simp [insK, h1, h2]
        rw [e] at hj ⊢
        exact .inr ⟨j, hj, rfl⟩
      · have e : insK (a :: t) n = n :: a :: t := by simp [insK, h1, h2]
        rw [e] at hj ⊢
        cases j with
        | zero => exact .inl (by simp [nth])
        | succ j => exact .inr ⟨j, by simpa using hj, by rw [nth_cons_succ]⟩
theorem insK_asc {l : List Int} {n : Int} (h : Asc l) : Asc (insK l n) := by
  induction l with
  | nil => intro i j hij hj; simp [insK] at hj; omega
  | cons a t ih =>
    have ha : ∀ j, j < t.length → a < nth t j := fun j hj => by
      have := h 0 (j + 1) (by omega) (by simpa using hj)
      simpa [nth_cons_zero, nth_cons_succ] using this
    by_cases h1 : a < n
    · have e : insK (a :: t) n = a :: insK t n := by simp [insK, h1]
      rw [e]
      refine (ih h.tail).cons fun j hj => ?_
      rcases insK_mem hj with h | ⟨i, hi, h⟩
      · rw [h]; exact h1
      · rw [h]; exact ha i hi
    · by_cases h2 : a = n
      · have e : insK (a :: t) n = a :: t := by simp [insK, h1, h2]
        rw [e]; exact h
      · have e : insK (a :: t) n = n :: a :: t := by simp [insK, h1, h2]
        rw [e]
        refine h.cons fun j hj => ?_
        cases j with
        | zero => rw [nth_cons_zero]; omega
        | succ j => rw [nth_cons_succ]; have := ha j (by simpa using hj); omega

/-! ### decimal digits -/
def digit (n : Nat) : UInt8 := UInt8.ofNat (48 + n)
def digF : Nat → Nat → List UInt8
  | 0, _ => []
  | f + 1, n => if n < 10 then [digit n] else digF f (n / 10) ++ [digit (n % 10)]
def digs (n : Nat) : List UInt8 := digF 20 n
theorem digF_succ : ∀ (f n : Nat), n < 10 ^ f → 0 < f → digF (f + 1) n = digF f n
  | 0, _, _, h => by omega
  | 1, n, h, _ => by simp at h; simp [digF, h]
  | f + 2, n, h, _ => by
    by_cases hn : n < 10
    · simp [digF, hn]
    · rw [digF, if_neg hn, digF_succ (f + 1) (n / 10) (by rw [Nat.pow_succ] at h; omega) (by omega)]
      conv => rhs; rw [digF, if_neg hn]
theorem digs_small {n : Nat} (h : n < 10) : digs n = [digit n] := by simp [digs, digF, h]
theorem digs_big {n : Nat} (h : 10 ≤ n) (hb : n < 10 ^ 20) : digs n = digs (n / 10) ++ [digit (n % 10)] := by
  unfold digs
  rw [digF, if_neg (by omega), ← digF_succ 19 (n / 10) (by omega) (by omega)]
theorem digit_byte {n : Nat} (h : n < 10) : ((digit n).toNat : Int) = 48 + n := by
  unfold digit
  rw [UInt8.toNat_ofNat']
  have : (48 + n) % 2 ^ 8 = 48 + n := Nat.mod_eq_of_lt (by omega)
  omega
theorem digs_len : ∀ (f n : Nat), (digF f n).length ≤ f
  | 0, _ => by simp [digF]
  | f + 1, n => by
    unfold digF
    split
    · simp
    · have := digs_len f (n / 10)
      simp; omega
def decF (n : Int) : List UInt8 := if 0 ≤ n then digs n.toNat else 45 :: digs (-n).toNat
theorem decF_len (n : Int) : (decF n).length ≤ 21 := by
  unfold decF digs
  split
  · have := digs_len 20 n.toNat; omega
  · have := digs_len 20 (-n).toNat; simp; omega
end Go.Proofs.Ytpdanklncjopoab
