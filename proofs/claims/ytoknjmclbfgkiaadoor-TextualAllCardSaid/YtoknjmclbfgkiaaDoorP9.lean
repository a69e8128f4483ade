import Derived.Test.YtoknjmclbfgkiaaDoorD1
import Derived.Lib.Split
import Derived.Lib.Join
import Derived.Lib.ItoaNum
import Derived.Lib.ItoaLen
set_option linter.unusedSimpArgs false
set_option linter.unusedVariables false
namespace Go.Proofs.YtoknjmclbfgkiaaDoor
open Go.RowKit Go.Abs
/-! ### cutting at a letter -/
def free (c : UInt8) (a : List UInt8) : Prop := ∀ x, x ∈ a → x ≠ c
def cutL (c : UInt8) : List UInt8 → List (List UInt8)
  | [] => [[]]
  | x :: r => if x = c then [] :: cutL c r else (x :: (cutL c r).headD []) :: (cutL c r).tail
theorem cutL_eta (c : UInt8) (s : List UInt8) : cutL c s = (cutL c s).headD [] :: (cutL c s).tail := by
  cases s with
  | nil => rfl
  | cons x r => unfold cutL; split <;> rfl
theorem cutL_ne (c : UInt8) (s : List UInt8) : cutL c s ≠ [] := by rw [cutL_eta]; simp
theorem cutL_hit {c : UInt8} {r : List UInt8} : cutL c (c :: r) = [] :: cutL c r := by simp [cutL]
theorem cutL_step {c x : UInt8} {r : List UInt8} (h : x ≠ c) : cutL c (x :: r) = (x :: (cutL c r).headD []) :: (cutL c r).tail := by simp [cutL, h]
theorem cutL_free {c : UInt8} : ∀ {a : List UInt8}, free c a → ∀ r, cutL c (a ++ r) = (a ++ (cutL c r).headD []) :: (cutL c r).tail
  | [], _, r => cutL_eta c r
  | x :: a, h, r => by
    rw [List.cons_append, cutL_step (h x (by simp)), cutL_free (fun y hy => h y (by simp [hy])) r]
    rfl
theorem cutL_word {c : UInt8} {a : List UInt8} (h : free c a) : cutL c a = [a] := by
  have := cutL_free h []
  simpa [cutL] using this
theorem cutL_more {c : UInt8} {a r : List UInt8} (h : free c a) : cutL c (a ++ c :: r) = a :: cutL c r := by
  rw [cutL_free h, cutL_hit]; simp
theorem cutL_len (c : UInt8) : ∀ s : List UInt8, (cutL c s).length ≤ s.length + 1
  | [] => by simp [cutL]
  | x :: r => by
    have := cutL_len c r
    unfold cutL
    split
    · simp; omega
    · rw [cutL_eta c r] at this; simp at this ⊢; omega
theorem cutL_hd {c : UInt8} {r : List UInt8} : (cutL c r).headD [] ∈ cutL c r := by
  cases h : cutL c r with
  | nil => exact absurd h (cutL_ne c r)
  | cons a b => simp
theorem cutL_mem (c : UInt8) : ∀ (s w : List UInt8), w ∈ cutL c s → free c w ∧ w.length ≤ s.length
  | [], w, h => by
    simp [cutL] at h
    subst h
    exact ⟨fun x hx => (by simp at hx), Nat.le_refl _⟩
  | x :: r, w, h => by
    by_cases hx : x = c
    · subst hx
      rw [cutL_hit] at h
      rcases List.mem_cons.1 h with rfl | h
      · exact ⟨fun y hy => (by simp at hy), by simp⟩
      · have := cutL_mem x r w h
        exact ⟨this.1, by simp; omega⟩
    · rw [cutL_step hx] at h
      rcases List.mem_cons.1 h with rfl | h
      · have h0 := cutL_mem c r ((cutL c r).headD []) cutL_hd
        refine ⟨fun y hy => ?_, by simp only [List.length_cons]; omega⟩
        rcases List.mem_cons.1 hy with rfl | hy
        · exact hx
        · exact h0.1 y hy
      · have h0 := cutL_mem c r w (by rw [cutL_eta c r]; simp [h])
        exact ⟨h0.1, by simp; omega⟩
theorem joinTail_cons (c : UInt8) (w : List UInt8) (ws : List (List UInt8)) : Go.Lib.joinTail [c] (w :: ws) = c :: (w ++ Go.Lib.joinTail [c] ws) := by simp [Go.Lib.joinTail]
theorem cut_join {c : UInt8} : ∀ (ws : List (List UInt8)), ws ≠ [] → (∀ w, w ∈ ws → free c w) → cutL c (Go.Lib.join ws [c]) = ws
  | [], h, _ => absurd rfl h
  | [w], _, h => by rw [Go.Lib.join_one]; exact cutL_word (h w (by simp))
  | w :: v :: ws, _, h => by
    rw [Go.Lib.join_cons, joinTail_cons, ← Go.Lib.join_cons, cutL_more (h w (by simp)), cut_join (v :: ws) (by simp) (fun u hu => h u (by simp [hu]))]
theorem cutL_snoc {c : UInt8} : ∀ t : List UInt8, cutL c (t ++ [c]) = cutL c t ++ [[]]
  | [] => by simp [cutL]
  | x :: r => by
    have ih := cutL_snoc (c := c) r
    by_cases hx : x = c
    · subst hx
      rw [List.cons_append, cutL_hit, cutL_hit, ih]; rfl
    · rw [List.cons_append, cutL_step hx, cutL_step hx, ih, cutL_eta c r]; rfl
theorem free_of_take {c : UInt8} {s : List UInt8} {i : Nat} (h : ∀ j, j < i → s[j]? ≠ some c) : free c (s.take i) := by
  intro x hx he
  subst he
  obtain ⟨j, hj, rfl⟩ := List.getElem_of_mem hx
  rw [List.length_take] at hj
  exact h j (by omega) (by rw [List.getElem_take, List.getElem?_eq_getElem (by omega)])
theorem occ_at {s : List UInt8} {c : UInt8} {j : Nat} : Go.Lib.occAt s [c] j = true ↔ s[j]? = some c := by
  constructor
  · exact Go.Lib.occAt_head rfl
  · intro h
    obtain ⟨hj, he⟩ := List.getElem?_eq_some_iff.1 h
    unfold Go.Lib.occAt
    rw [List.drop_eq_getElem_cons hj, he]
    simp
theorem splitK_cut (c : UInt8) : ∀ (n : Nat) (s : List UInt8), s.length ≤ n → Go.Lib.splitK [c] 0 (Go.Lib.count s [c]) s = cutL c s := by
  intro n
  induction n with
  | zero =>
    intro s hs
    have : s = [] := by simpa using hs
    subst this
    rw [Go.Lib.count_miss (by rfl)]
    rfl
  | succ n ih =>
    intro s hs
    rcases Go.Lib.index_spec s [c] with ⟨h1, h2⟩ | ⟨i, h1, h2, h3, h4⟩
    · rw [Go.Lib.count_miss h1]
      have hf : free c s := by
        intro x hx he
        subst he
        obtain ⟨j, hj, he⟩ := List.getElem_of_mem hx
        have := h2 j (by omega)
        rw [occ_at.2 (by rw [List.getElem?_eq_getElem hj, he])] at this
        cases this
      rw [cutL_word hf]
      rfl
    · have hi := occ_at.1 h3
      obtain ⟨hlt, he⟩ := List.getElem?_eq_some_iff.1 hi
      rw [Go.Lib.count_hit (by simp) h1, Nat.add_comm 1, Go.Lib.splitK, h1]
      have hm : ¬ (((i : Int) == -1) = true) := by rw [beq_iff_eq]; omega
      rw [if_neg hm]
      simp only [Int.toNat_natCast, Nat.add_zero, List.length_singleton]
      rw [ih _ (by simp; omega)]
      have hs2 : s = s.take i ++ c :: s.drop (i + 1) := by
        have := List.take_append_drop i s
        rw [List.drop_eq_getElem_cons hlt, he] at this
        exact this.symm
      have hf : free c (s.take i) := free_of_take (fun j hj h => by
        have := h4 j hj
        rw [occ_at.2 h] at this
        cases this)
      conv => rhs; rw [hs2, cutL_more hf]
theorem split_cut (s : List UInt8) (c : UInt8) : Go.Lib.split s [c] = cutL c s := splitK_cut c _ s (Nat.le_refl _)

/-! ### numerals -/
def isDg (c : UInt8) : Bool := decide (48 ≤ c) && decide (c ≤ 57)
def dgv (c : UInt8) : Int := (c.toNat : Int) - 48
theorem isDg_iff {c : UInt8} : isDg c = true ↔ 48 ≤ c.toNat ∧ c.toNat ≤ 57 := by
  simp only [isDg, Bool.and_eq_true, decide_eq_true_eq]
  exact ⟨fun h => ⟨h.1, h.2⟩, fun h => ⟨h.1, h.2⟩⟩
def numF (n : Int) : List UInt8 → Int
  | [] => n
  | c :: r => numF (n * 10 + dgv c) r
theorem numF_app : ∀ (a b : List UInt8) (n : Int), numF n (a ++ b) = numF (numF n a) b
  | [], _, _ => rfl
  | c :: a, b, n => numF_app a b _
def vOK (s : List UInt8) : Bool := s.all isDg && decide (1 ≤ s.length) && decide (s.length ≤ 15) && !(decide (s.headD 0 = 48) && decide (1 < s.length))
def valF (s : List UInt8) : Int := if vOK s = true then numF 0 s else -1
theorem numF_bd : ∀ (s : List UInt8) (n : Int) (k : Nat), s.all isDg = true → 0 ≤ n → n < 10 ^ k → 0 ≤ numF n s ∧ numF n s < 10 ^ (k + s.length)
  | [], n, k, _, h0, h1 => ⟨h0, h1⟩
  | c :: r, n, k, h, h0, h1 => by
    simp only [List.all_cons, Bool.and_eq_true] at h
    have hc := isDg_iff.1 h.1
    have := numF_bd r (n * 10 + dgv c) (k + 1) h.2 (by unfold dgv; omega) (by unfold dgv; rw [Int.pow_succ]; omega)
    rw [show k + (c :: r).length = k + 1 + r.length from by simp; omega]
    exact this
theorem vOK_nn {s : List UInt8} (h : vOK s = true) : 0 ≤ numF 0 s ∧ numF 0 s < 1000000000000000 := by
  simp only [vOK, Bool.and_eq_true, decide_eq_true_eq] at h
  have := numF_bd s 0 0 h.1.1.1 (by omega) (by decide)
  refine ⟨this.1, ?_⟩
  have h2 : (10 : Int) ^ (0 + s.length) ≤ 10 ^ 15 := by
    rw [Nat.zero_add]
    exact_mod_cast Nat.pow_le_pow_right (by decide) h.1.2
  have h3 : (10 : Int) ^ 15 = 1000000000000000 := by decide
  omega
theorem valF_neg {s : List UInt8} : valF s < 0 ↔ vOK s = false := by
  unfold valF
  cases h : vOK s with
  | true => have := vOK_nn h; simp; omega
  | false => simp
theorem dec_digs (u : Nat) : (Go.Lib.decDigits u).all isDg = true := by
  induction u using Nat.strongRecOn with
  | _ u ih =>
    rw [Go.Lib.decDigits]
    split
    · have hb : (UInt8.ofNat (48 + u)).toNat = 48 + u := by simp; omega
      simp only [List.all_cons, List.all_nil, Bool.and_true]
      exact isDg_iff.2 (by omega)
    · have hb : (UInt8.ofNat (48 + u % 10)).toNat = 48 + u % 10 := by simp; omega
      rw [List.all_append, ih (u / 10) (by omega)]
      simp only [List.all_cons, List.all_nil, Bool.and_true, Bool.true_and]
      exact isDg_iff.2 (by omega)
theorem dec_val (u : Nat) : numF 0 (Go.Lib.decDigits u) = u := by
  induction u using Nat.strongRecOn with
  | _ u ih =>
    rw [Go.Lib.decDigits]
    split
    · have hb : (UInt8.ofNat (48 + u)).toNat = 48 + u := by simp; omega
      simp only [numF, dgv, hb]; omega
    · have hb : (UInt8.ofNat (48 + u % 10)).toNat = 48 + u % 10 := by simp; omega
      rw [numF_app, ih (u / 10) (by omega)]
      simp only [numF, dgv, hb]; omega
theorem dec_head (u : Nat) (h : 1 ≤ u) : (Go.Lib.decDigits u).headD 0 ≠ 48 := by
  induction u using Nat.strongRecOn with
  | _ u ih =>
    rw [Go.Lib.decDigits]
    split
    · intro hh
      have hb : (UInt8.ofNat (48 + u)).toNat = 48 + u := by simp; omega
      simp only [List.headD_cons] at hh
      rw [hh] at hb
      have : (48 : UInt8).toNat = 48 := rfl
      omega
    · have := ih (u / 10) (by omega) (by omega)
      have hl := Go.Lib.nDigits_pos (u / 10)
      have hl2 := Go.Lib.decDigits_length (u / 10)
      cases hd : Go.Lib.decDigits (u / 10) with
      | nil => rw [hd] at hl2; simp at hl2; omega
      | cons a b => rw [hd] at this; simpa using this
theorem dec_vOK (u : Nat) (h : u < 1000000000000000) : vOK (Go.Lib.decDigits u) = true := by
  have hp := Go.Lib.nDigits_pos u
  have hl := Go.Lib.decDigits_length u
  have h15 : Go.Lib.nDigits u ≤ 15 := by
    by_cases hz : Go.Lib.nDigits u ≤ 15
    · exact hz
    · exfalso
      have h2 : 10 ^ 15 ≤ 10 ^ (Go.Lib.nDigits u - 1) := Nat.pow_le_pow_right (by decide) (by omega)
      have key : ∀ u, Go.Lib.nDigits u = 1 ∨ 10 ^ (Go.Lib.nDigits u - 1) ≤ u := by
        intro u
        induction u using Nat.strongRecOn with
        | _ u ih =>
          by_cases hu : u < 10
          · exact .inl (Go.Lib.nDigits_small hu)
          · right
            rw [Go.Lib.nDigits_big hu, Nat.add_sub_cancel]
            rcases ih (u / 10) (by omega) with h | h
            · rw [h]; omega
            · have hp := Go.Lib.nDigits_pos (u / 10)
              obtain ⟨k, hk⟩ : ∃ k, Go.Lib.nDigits (u / 10) = k + 1 := ⟨Go.Lib.nDigits (u / 10) - 1, by omega⟩
              rw [hk] at h ⊢
              rw [Nat.add_sub_cancel] at h
              rw [Nat.pow_succ]
              omega
      rcases key u with h | h
      · omega
      · have h3 : (10 : Nat) ^ 15 = 1000000000000000 := by decide
        omega
  simp only [vOK, Bool.and_eq_true, decide_eq_true_eq, dec_digs, true_and, hl, Bool.not_eq_true', Bool.and_eq_false_iff, decide_eq_false_iff_not]
  refine ⟨⟨hp, h15⟩, ?_⟩
  by_cases hu : u < 10
  · right; rw [Go.Lib.nDigits_small hu]; omega
  · left; exact dec_head u (by omega)
theorem itoa_dec {n : Int} (h : 0 ≤ n) : Go.Lib.itoa n = Go.Lib.decDigits n.toNat := by unfold Go.Lib.itoa; rw [if_neg (by omega)]
theorem itoa_vOK {n : Int} (h : 0 ≤ n) (h1 : n < 1000000000000000) : vOK (Go.Lib.itoa n) = true := by rw [itoa_dec h]; exact dec_vOK _ (by omega)
theorem itoa_val {n : Int} (h : 0 ≤ n) : numF 0 (Go.Lib.itoa n) = n := by rw [itoa_dec h, dec_val]; omega
theorem digs_free {s : List UInt8} (h : s.all isDg = true) {c : UInt8} (hc : isDg c = false) : free c s := by
  intro x hx he
  subst he
  have := List.all_eq_true.1 h x hx
  rw [hc] at this
  cases this
theorem itoa_free {n : Int} (h : 0 ≤ n) {c : UInt8} (hc : isDg c = false) : free c (Go.Lib.itoa n) := by rw [itoa_dec h]; exact digs_free (dec_digs _) hc
theorem itoa_ne {n : Int} (h : 0 ≤ n) : Go.Lib.itoa n ≠ [] := by
  rw [itoa_dec h]
  intro he
  have hp := Go.Lib.nDigits_pos n.toNat
  have hl := Go.Lib.decDigits_length n.toNat
  rw [he] at hl
  simp at hl
  omega
end Go.Proofs.YtoknjmclbfgkiaaDoor
