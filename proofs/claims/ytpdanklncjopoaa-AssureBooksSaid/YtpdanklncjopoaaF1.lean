import Derived.Test.YtpdanklncjopoaaLF
set_option linter.unusedSimpArgs false
set_option linter.unusedVariables false
namespace Go.Proofs.Ytpdanklncjopoaa
open Go.RowKit Go.Abs
theorem gcall_mk {α : Type} [Inhabited α] {b : Bool} {x : α} : gcall b (some x) = some (if b = true then x else default) := by
  unfold gcall; split <;> rfl
def insK : List Int → Int → List Int
  | [], n => [n]
  | a :: t, n => if a < n then a :: insK t n else if a = n then a :: t else n :: a :: t
theorem insK_cut : ∀ (l : List Int) (n : Int) (k : Nat), k ≤ l.length → (∀ j, j < k → nth l j < n) → insK l n = l.take k ++ insK (l.drop k) n
  | l, n, 0, _, _ => by simp
  | [], n, k + 1, h, _ => by simp at h
  | a :: t, n, k + 1, h, hj => by
    have h0 := hj 0 (by omega)
    have := insK_cut t n k (by simpa using h) (fun j hjk => by have := hj (j + 1) (by omega); simpa [nth] using this)
    have h0' : a < n := by simpa [nth] using h0
    simp [insK, h0', this]
theorem insK_found {l : List Int} {n : Int} {k : Nat} (h : k < l.length) (hj : ∀ j, j < k → nth l j < n) (he : nth l k = n) : insK l n = l := by
  rw [insK_cut l n k (by omega) hj, drop_nth h]
  simp only [insK, he]
  rw [if_neg (by omega)]
  have h2 := drop_nth h
  rw [he] at h2
  simp only [if_true]
  rw [← h2, List.take_append_drop]
theorem insK_new {l : List Int} {n : Int} {k : Nat} (h : k ≤ l.length) (hj : ∀ j, j < k → nth l j < n) (he : k < l.length → ¬ nth l k < n ∧ nth l k ≠ n) : insK l n = l.take k ++ [n] ++ l.drop k := by
  rw [insK_cut l n k h hj]
  by_cases hk : k < l.length
  · obtain ⟨h1, h2⟩ := he hk
    rw [drop_nth hk]
    simp [insK, h1, h2]
  · rw [List.drop_of_length_le (by omega)]
    simp [insK]
theorem insK_len (l : List Int) (n : Int) : (insK l n).length ≤ l.length + 1 := by
  induction l with
  | nil => simp [insK]
  | cons a t ih =>
    unfold insK
    split
    · simp; omega
    · split <;> simp
/-- Strictly ascending. -/
def Asc (l : List Int) : Prop := ∀ i j, i < j → j < l.length → nth l i < nth l j
theorem nth_cons_succ {a : Int} {t : List Int} {j : Nat} : nth (a :: t) (j + 1) = nth t j := by simp [nth]
theorem nth_cons_zero {a : Int} {t : List Int} : nth (a :: t) 0 = a := by simp [nth]
theorem Asc.tail {a : Int} {t : List Int} (h : Asc (a :: t)) : Asc t := fun i j hij hj => by
  have := h (i + 1) (j + 1) (by omega) (by simpa using hj)
  simpa [nth_cons_succ] using this
theorem Asc.cons {a : Int} {t : List Int} (h : Asc t) (ha : ∀ j, j < t.length → a < nth t j) : Asc (a :: t) := by
  intro i j hij hj
  cases j with
  | zero => omega
  | succ j =>
    rw [nth_cons_succ]
    cases i with
    | zero => rw [nth_cons_zero]; exact ha j (by simpa using hj)
    | succ i => rw [nth_cons_succ]; exact h i j (by omega) (by simpa using hj)
theorem insK_mem {l : List Int} {n : Int} : ∀ {j : Nat}, j < (insK l n).length → nth (insK l n) j = n ∨ ∃ i, i < l.length ∧ nth (insK l n) j = nth l i := by
  induction l with
  | nil =>
    intro j hj
    simp [insK] at hj
    subst hj
    exact .inl (by simp [insK, nth])
  | cons a t ih =>
    intro j hj
    by_cases h1 : a < n
    · have e : insK (a :: t) n = a :: insK t n := by simp [insK, h1]
      rw [e] at hj ⊢
      cases j with
      | zero => exact .inr ⟨0, by simp, by simp [nth]⟩
      | succ j =>
        rw [nth_cons_succ]
        rcases ih (by simpa using hj) with h | ⟨i, hi, h⟩
        · exact .inl h
        · exact .inr ⟨i + 1, by simpa using hi, by rw [nth_cons_succ]; exact h⟩
    · by_cases h2 : a = n
      · have e : insK (a :: t) n = a :: t := by simp [insK, h1, h2]
        rw [e] at hj ⊢
        exact .inr ⟨j, hj, rfl⟩
      · have e : insK (a :: t) n = n :: a :: t := by simp [insK, h1, h2]
        rw [e] at hj ⊢
        cases j with
        | zero => exact .inl (by simp [nth])
        | succ j => exact .inr ⟨j, by simpa using hj, by rw [nth_cons_succ]⟩
theorem insK_asc {l : List Int} {n : Int} (h : Asc l) : Asc (insK l n) := by
  induction l with
  | nil => intro i j hij hj; simp [insK] at hj; omega
  | cons a t ih =>
    have ha : ∀ j, j < t.length → a < nth t j := fun j hj => by
      have := h 0 (j + 1) (by omega) (by simpa using hj)
      simpa [nth_cons_zero, nth_cons_succ] using this
    by_cases h1 : a < n
    · have e : insK (a :: t) n = a :: insK t n := by simp [insK, h1]
      rw [e]
      refine (ih h.tail).cons fun j hj => ?_
      rcases insK_mem hj with h | ⟨i, hi, h⟩
      · rw [h]; exact h1
      · rw [h]; exact ha i hi
    · by_cases h2 : a = n
      · have e : insK (a :: t) n = a :: t := by simp [insK, h1, h2]
        rw [e]; exact h
      · have e : insK (a :: t) n = n :: a :: t := by simp [insK, h1, h2]
        rw [e]
        refine h.cons fun j hj => ?_
        cases j with
        | zero => rw [nth_cons_zero]; omega
        | succ j => rw [nth_cons_succ]; have := ha j (by simpa using hj); omega

/-! ### decimal digits -/
def digit (n : Nat) : UInt8 := UInt8.ofNat (48 + n)
def digF : Nat → Nat → List UInt8
  | 0, _ => []
  | f + 1, n => if n < 10 then [digit n] else digF f (n / 10) ++ [digit (n % 10)]
def digs (n : Nat) : List UInt8 := digF 20 n
theorem digF_succ : ∀ (f n : Nat), n < 10 ^ f → 0 < f → digF (f + 1) n = digF f n
  | 0, _, _, h => by omega
  | 1, n, h, _ => by simp at h; simp [digF, h]
  | f + 2, n, h, _ => by
    by_cases hn : n < 10
    · simp [digF, hn]
    · rw [digF, if_neg hn, digF_succ (f + 1) (n / 10) (by rw [Nat.pow_succ] at h; omega) (by omega)]
      conv => rhs; rw [digF, if_neg hn]
theorem digs_small {n : Nat} (h : n < 10) : digs n = [digit n] := by simp [digs, digF, h]
theorem digs_big {n : Nat} (h : 10 ≤ n) (hb : n < 10 ^ 20) : digs n = digs (n / 10) ++ [digit (n % 10)] := by
  unfold digs
  rw [digF, if_neg (by omega), ← digF_succ 19 (n / 10) (by omega) (by omega)]
theorem digit_byte {n : Nat} (h : n < 10) : ((digit n).toNat : Int) = 48 + n := by
  unfold digit
  rw [UInt8.toNat_ofNat']
  have : (48 + n) % 2 ^ 8 = 48 + n := Nat.mod_eq_of_lt (by omega)
  omega
theorem digs_len : ∀ (f n : Nat), (digF f n).length ≤ f
  | 0, _ => by simp [digF]
  | f + 1, n => by
    unfold digF
    split
    · simp
    · have := digs_len f (n / 10)
      simp; omega
def decF (n : Int) : List UInt8 := if 0 ≤ n then digs n.toNat else 45 :: digs (-n).toNat
theorem decF_len (n : Int) : (decF n).length ≤ 21 := by
  unfold decF digs
  split
  · have := digs_len 20 n.toNat; omega
  · have := digs_len 20 (-n).toNat; simp; omega
theorem u64_neg {n : Int} (h1 : -9223372036854775808 ≤ n) (h2 : n < 0) : IntKind.u64.wrap (0 - IntKind.u64.wrap n) = ((-n).toNat : Int) := by
  simp only [IntKind.wrap]
  simp [IntKind.signed, IntKind.bits]
  omega
theorem u64_pos {n : Int} (h1 : 0 ≤ n) (h2 : n ≤ 9223372036854775807) : IntKind.u64.wrap n = (n.toNat : Int) := by
  simp only [IntKind.wrap]
  simp [IntKind.signed, IntKind.bits]
  omega
theorem digs_step {m : Nat} (ds : List UInt8) (h0 : 0 < m) (hb : m < 10 ^ 20) : (if m = 0 then [] else digs m) ++ ds = (if m / 10 = 0 then [] else digs (m / 10)) ++ (digit (m % 10) :: ds) := by
  rw [if_neg (by omega)]
  by_cases h : m < 10
  · rw [if_pos (by omega), digs_small h, Nat.mod_eq_of_lt h]; rfl
  · rw [if_neg (by omega), digs_big (by omega) hb]; simp
theorem digs_first {n : Nat} (hb : n < 10 ^ 20) : digs n = (if n / 10 = 0 then [] else digs (n / 10)) ++ [digit (n % 10)] := by
  by_cases h0 : n = 0
  · subst h0; rfl
  · have h := digs_step (m := n) [] (by omega) hb
    rw [if_neg h0, List.append_nil] at h
    exact h
theorem u8_digit {m : Nat} : IntKind.u8.wrap (IntKind.u64.wrap (48 + (m : Int).tmod 10)) = ((digit (m % 10)).toNat : Int) := by
  have h1 : (m : Int).tmod 10 = ((m % 10 : Nat) : Int) := by rw [Int.tmod_eq_emod_of_nonneg (by omega)]; omega
  rw [h1, digit_byte (by omega)]
  simp only [IntKind.wrap]
  simp [IntKind.signed, IntKind.bits]
  omega
theorem u64_quo {m : Nat} (h : m < 18446744073709551616) : IntKind.u64.wrap ((m : Int).tdiv 10) = ((m / 10 : Nat) : Int) := by
  have h1 : (m : Int).tdiv 10 = ((m / 10 : Nat) : Int) := by rw [Int.tdiv_eq_ediv_of_nonneg (by omega)]; omega
  rw [h1]
  simp only [IntKind.wrap]
  simp [IntKind.signed, IntKind.bits]
  omega
def keysOn (l : List Int) (s : List Int) : List Int := l.foldl insK s
theorem keysOn_take {l s : List Int} {k : Nat} (h : k < l.length) : keysOn (l.take (k + 1)) s = insK (keysOn (l.take k) s) (nth l k) := by
  unfold keysOn; rw [take_nth h, List.foldl_append]; rfl
theorem keysOn_len (l s : List Int) : (keysOn l s).length ≤ l.length + s.length := by
  induction l generalizing s with
  | nil => simp [keysOn]
  | cons a t ih =>
    have h1 := ih (insK s a)
    have h2 := insK_len s a
    have e : keysOn (a :: t) s = keysOn t (insK s a) := rfl
    rw [e]; simp; omega
theorem keysOn_take_len {l s : List Int} {k : Nat} : (keysOn (l.take k) s).length ≤ l.length + s.length := by
  have h1 := keysOn_len (l.take k) s
  have h2 : (l.take k).length ≤ l.length := by simp; omega
  omega
theorem keysOn_asc {l s : List Int} (h : Asc s) : Asc (keysOn l s) := by
  induction l generalizing s with
  | nil => exact h
  | cons a t ih => exact ih (insK_asc h)
theorem asc_nil : Asc [] := fun i j _ h => by simp at h
theorem insK_has {l : List Int} {n x : Int} : x ∈ insK l n → x = n ∨ x ∈ l := by
  induction l with
  | nil => intro h; simp [insK] at h; exact .inl h
  | cons a t ih =>
    intro h
    unfold insK at h
    split at h
    · rcases List.mem_cons.1 h with h | h
      · exact .inr (by rw [h]; exact List.mem_cons_self)
      · rcases ih h with h | h
        · exact .inl h
        · exact .inr (List.mem_cons_of_mem _ h)
    · split at h
      · exact .inr h
      · rcases List.mem_cons.1 h with h | h
        · exact .inl h
        · exact .inr h
theorem keysOn_has {l : List Int} : ∀ {s : List Int} {x : Int}, x ∈ keysOn l s → x ∈ s ∨ x ∈ l := by
  induction l with
  | nil => intro s x h; exact .inl h
  | cons a t ih =>
    intro s x h
    rcases ih (s := insK s a) h with h | h
    · rcases insK_has h with h | h
      · exact .inr (by rw [h]; exact List.mem_cons_self)
      · exact .inl h
    · exact .inr (List.mem_cons_of_mem _ h)
theorem mid {a b : Int} (h0 : 0 ≤ a) (h : a < b) : Int.tdiv (a + b) 2 = (a + b) / 2 := Int.tdiv_eq_ediv_of_nonneg (by omega)
theorem p_keys {l : List Int} {n : Int} (hl : l.length ≤ 100000) (ha : Asc l) : f_assure_keys l n = some (insK l n) := by
  have hj : ∀ i : Int, 0 ≤ i → i ≤ (l.length : Int) → (∀ j, j < i.toNat → nth l j < n) → (i < (l.length : Int) → ¬ nth l i.toNat < n) → f_assure_keys_j1 l n i = some (insK l n) := by
    intro i h0 h1 hlo hhi
    unfold f_assure_keys_j1
    rw [ck_pos (by intro h; simp at h; omega)]
    by_cases he : i < (l.length : Int) ∧ nth l i.toNat = n
    · rw [if_pos (by simpa using he), insK_found (k := i.toNat) (by omega) hlo he.2]
    · rw [if_neg (by simpa using he), ck_pos (by omega), ck_pos (by simp; omega), ck_pos (by simp; omega), ck_pos (by omega), ck_pos (by simp; omega)]
      rw [insK_new (k := i.toNat) (by omega) hlo (fun h => ⟨hhi (by omega), fun e => he ⟨by omega, e⟩⟩)]
  unfold f_assure_keys
  exact loop_spec (step := fun s => f_assure_keys_l1 l n s.1 s.2) (fun _ => some (insK l n)) (fun s => 0 ≤ s.1 ∧ s.1 ≤ s.2 ∧ s.2 ≤ (l.length : Int) ∧ (∀ j, j < s.1.toNat → nth l j < n) ∧ (∀ j, s.2.toNat ≤ j → j < l.length → ¬ nth l j < n)) (fun s => (s.2 - s.1).toNat) (fun s hI => by
    obtain ⟨a, b⟩ := s
    obtain ⟨i0, i1, i2, i3, i4⟩ := hI
    simp only at i0 i1 i2 i3 i4 ⊢
    unfold f_assure_keys_l1
    by_cases hab : a < b
    · rw [if_pos (by simpa using hab), mid i0 hab, ck_pos (by omega), ck_pos (by omega), ck_pos (by omega)]
      by_cases hm : nth l (Int.toNat ((a + b) / 2)) < n
      · rw [if_pos (by simpa using hm), ck_pos (by omega)]
        refine .inr ⟨_, rfl, ⟨by simp only; omega, by simp only; omega, by simp only; omega, fun j hj => ?_, i4⟩, by simp only; omega, trivial⟩
        simp only at hj
        by_cases e : j = Int.toNat ((a + b) / 2)
        · rw [e]; exact hm
        · have := ha j (Int.toNat ((a + b) / 2)) (by omega) (by omega)
          omega
      · rw [if_neg (by simpa using hm)]
        refine .inr ⟨_, rfl, ⟨by simp only; omega, by simp only; omega, by simp only; omega, i3, fun j h1 h2 => ?_⟩, by simp only; omega, trivial⟩
        simp only at h1
        by_cases e : j = Int.toNat ((a + b) / 2)
        · rw [e]; exact hm
        · have := ha (Int.toNat ((a + b) / 2)) j (by omega) h2
          omega
    · rw [if_neg (by simpa using hab), hj a i0 (by omega) i3 (fun h => i4 _ (by omega) (by omega))]
      exact .inl ⟨_, rfl, rfl⟩) ⟨by simp, by simp, by simp, by simp, fun j h1 h2 => by simp at h1; omega⟩ (by simp only; omega)
theorem p_rKeys {l : List Int} {n : Int} (hl : l.length ≤ 100000) (ha : Asc l) : f_billingref54_Keys l n = some (insK l n) := by
  have hj : ∀ i : Int, 0 ≤ i → i ≤ (l.length : Int) → (∀ j, j < i.toNat → nth l j < n) → (i < (l.length : Int) → ¬ nth l i.toNat < n) → f_billingref54_Keys_j1 l n i = some (insK l n) := by
    intro i h0 h1 hlo hhi
    unfold f_billingref54_Keys_j1
    rw [ck_pos (by intro h; simp at h; omega)]
    by_cases he : i < (l.length : Int) ∧ nth l i.toNat = n
    · rw [if_pos (by simpa using he), insK_found (k := i.toNat) (by omega) hlo he.2]
    · rw [if_neg (by simpa using he), ck_pos (by omega), ck_pos (by simp; omega), ck_pos (by simp; omega), ck_pos (by omega), ck_pos (by simp; omega)]
      rw [insK_new (k := i.toNat) (by omega) hlo (fun h => ⟨hhi (by omega), fun e => he ⟨by omega, e⟩⟩), List.nil_append]
  unfold f_billingref54_Keys
  exact loop_spec (step := fun s => f_billingref54_Keys_l1 l n s) (fun _ => some (insK l n)) (fun s => 0 ≤ s ∧ s ≤ (l.length : Int) ∧ (∀ j, j < s.toNat → nth l j < n)) (fun s => ((l.length : Int) - s).toNat) (fun i hI => by
    obtain ⟨i0, i1, i3⟩ := hI
    unfold f_billingref54_Keys_l1
    rw [ck_pos (by intro h; simp at h; omega)]
    by_cases hm : i < (l.length : Int) ∧ nth l i.toNat < n
    · rw [if_pos (by simpa using hm), ck_pos (by omega)]
      refine .inr ⟨_, rfl, ⟨by omega, by omega, fun j hj => ?_⟩, by omega, rfl⟩
      by_cases e : j = i.toNat
      · rw [e]; exact hm.2
      · exact i3 j (by omega)
    · rw [if_neg (by simpa using hm), hj i i0 i1 i3 (fun h h' => hm ⟨h, h'⟩)]
      exact .inl ⟨_, rfl, rfl⟩) ⟨by simp, by simp, by simp⟩ (by omega)
end Go.Proofs.Ytpdanklncjopoaa
