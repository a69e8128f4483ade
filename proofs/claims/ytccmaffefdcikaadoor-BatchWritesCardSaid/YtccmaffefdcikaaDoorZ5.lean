/- Our own texts V1 U4 U5 C1 C2 C3 of this seat in one. -/
import Derived.Test.YtccmaffefdcikaaDoorZ4
import Derived.Deep.Slices
import Derived.ChangeArms
import Derived.ProofKit
import Derived.Below
import Derived.ChangeSame
set_option linter.unusedSimpArgs false
set_option linter.unusedVariables false
namespace Go.Proofs.YtccmaffefdcikaaDoor
open Go.RowKit Go.Abs
def Sh200 (r : Record) : Prop := r.a.length ≤ 200 ∧ r.b.length ≤ 200
instance (r : Record) : Decidable (Sh200 r) := by unfold Sh200; infer_instance
theorem few_tot (l : List Record) : ∃ b, f_billinglaw12_few l = some b ∧ (b = true → l.length ≤ 40 ∧ ∀ r, r ∈ l → Sh200 r) := by
  unfold f_billinglaw12_few
  obtain ⟨b, h1, h2⟩ := loop_post (step := fun i : Int => f_billinglaw12_few_l1 l i) (fun b => b = true → l.length ≤ 40 ∧ ∀ r, r ∈ l → Sh200 r) (fun i : Int => 0 ≤ i ∧ i ≤ 41 ∧ i ≤ (l.length : Int) ∧ ∀ r, r ∈ l.take i.toNat → Sh200 r) (fun i => (41 - i).toNat) (fun i hI => by
    obtain ⟨h0, h1, h2, h3⟩ := hI
    show (∃ r, f_billinglaw12_few_l1 l i = _ ∧ _) ∨ ∃ s', f_billinglaw12_few_l1 l i = _ ∧ _
    unfold f_billinglaw12_few_l1
    by_cases h : i < (l.length : Int) ∧ i < 41
    · rw [if_pos (by simp [h]), ck_pos (by omega), ck_pos (by omega)]
      by_cases hs : Sh200 (nth l i.toNat)
      · have hs' := hs
        unfold Sh200 at hs'
        rw [if_neg (by simp; omega), ck_pos (by omega)]
        refine .inr ⟨i + 1, rfl, ⟨by omega, by omega, by omega, ?_⟩, by omega⟩
        rw [show (i + 1).toNat = i.toNat + 1 from by omega, take_nth (by omega)]
        intro r hr
        rcases List.mem_append.1 hr with hr | hr
        · exact h3 r hr
        · simp at hr; subst hr; exact hs
      · have hs' := hs
        unfold Sh200 at hs'
        rw [if_pos (by simp; omega)]
        exact .inl ⟨_, rfl, by simp⟩
    · rw [if_neg (by simp; omega)]
      unfold f_billinglaw12_few_j1
      refine .inl ⟨_, rfl, fun hb => ?_⟩
      simp at hb
      have : i = l.length := by omega
      refine ⟨by omega, fun r hr => h3 r ?_⟩
      rw [List.take_of_length_le (by omega)]
      exact hr) (s := 0) ⟨by omega, by omega, by omega, by simp⟩ (by simp)
  exact ⟨b, h1, h2⟩

def okT (r : Record) : Bool := decide (1 ≤ r.kind ∧ r.kind ≤ 4 ∧ 0 ≤ r.units ∧ r.units ≤ 1099511627776)
def addT (u : List Int) (r : Record) : List Int := if okT r = true then setN u 5 r.kind.toNat (nth u r.kind.toNat + r.units) else u
def totT (l : List Record) : List Int := l.foldl addT [0, 0, 0, 0, 0]
def conT (r : Record) (k : Nat) : Int := if okT r = true ∧ r.kind.toNat = k then r.units else 0
def sumT : List Record → Nat → Int
  | [], _ => 0
  | r :: l, k => conT r k + sumT l k
theorem conT_bd (r : Record) (k : Nat) : 0 ≤ conT r k ∧ conT r k ≤ 1099511627776 := by
  unfold conT
  split
  · rename_i h
    have := h.1
    simp only [okT, decide_eq_true_eq] at this
    exact ⟨this.2.2.1, this.2.2.2⟩
  · omega
theorem sumT_bd : ∀ (l : List Record) (k : Nat), 0 ≤ sumT l k ∧ sumT l k ≤ l.length * 1099511627776
  | [], k => by simp [sumT]
  | r :: l, k => by
    have h1 := conT_bd r k
    have h2 := sumT_bd l k
    simp only [sumT, List.length_cons]
    omega
theorem addT_len {u : List Int} (h : u.length = 5) (r : Record) : (addT u r).length = 5 := by
  unfold addT; split
  · exact setN_len _ _ _ _
  · exact h
theorem nth_addT (u : List Int) (r : Record) {k : Nat} (hk : k < 5) : nth (addT u r) k = nth u k + conT r k := by
  unfold addT conT
  by_cases h : okT r = true
  · rw [if_pos h, nth_setN hk]
    by_cases h2 : r.kind.toNat = k
    · rw [if_pos h2, if_pos ⟨h, h2⟩, h2]
    · rw [if_neg h2, if_neg (fun h3 => h2 h3.2)]; omega
  · rw [if_neg h, if_neg (fun h3 => h h3.1)]; omega
theorem nth_fold : ∀ (l : List Record) (u : List Int) {k : Nat}, k < 5 → nth (l.foldl addT u) k = nth u k + sumT l k
  | [], u, k, _ => by simp [sumT]
  | r :: l, u, k, hk => by
    simp only [List.foldl_cons, sumT]
    rw [nth_fold l _ hk, nth_addT u r hk]; omega
theorem nth_totT (l : List Record) {k : Nat} (hk : k < 5) : nth (totT l) k = sumT l k := by
  unfold totT
  rw [nth_fold l _ hk]
  have : nth ([0, 0, 0, 0, 0] : List Int) k = 0 := by
    match k, hk with
    | 0, _ => rfl
    | 1, _ => rfl
    | 2, _ => rfl
    | 3, _ => rfl
    | 4, _ => rfl
  omega
theorem five {u : List Int} (h : u.length = 5) : [nth u 0, nth u 1, nth u 2, nth u 3, nth u 4] = u := by
  match u, h with
  | [a, b, c, d, e], _ => rfl
theorem five_bd {u : List Int} {x : Int} (h : ∀ j, j < 5 → 0 ≤ nth u j ∧ nth u j ≤ x) {n : Int} (h1 : 1 ≤ n) (h2 : n ≤ 4) : 0 ≤ nth u n.toNat ∧ nth u n.toNat ≤ x := h _ (by omega)
theorem p_Totals (l : List Record) (hl : l.length ≤ 1000) : f_batch_Totals l = some ⟨(l.length : Int), totT l⟩ := by
  unfold f_batch_Totals
  have := loop_spec (step := fun s : Int × Int × Int × Int × Int × Int => f_batch_Totals_l1 l s.1 s.2.1 s.2.2.1 s.2.2.2.1 s.2.2.2.2.1 s.2.2.2.2.2)
    (fun s => some ⟨(l.length : Int), (l.drop s.1.toNat).foldl addT [s.2.1, s.2.2.1, s.2.2.2.1, s.2.2.2.2.1, s.2.2.2.2.2]⟩)
    (fun s => 0 ≤ s.1 ∧ s.1 ≤ (l.length : Int) ∧ ∀ j, j < 5 → 0 ≤ nth [s.2.1, s.2.2.1, s.2.2.2.1, s.2.2.2.2.1, s.2.2.2.2.2] j ∧ nth [s.2.1, s.2.2.1, s.2.2.2.1, s.2.2.2.2.1, s.2.2.2.2.2] j ≤ s.1 * 1099511627776)
    (fun s => ((l.length : Int) - s.1).toNat) (by
      rintro ⟨i, c1, c2, c3, c4, c5⟩ ⟨h0, h1, h2⟩
      simp only at h0 h1 h2 ⊢
      unfold f_batch_Totals_l1
      by_cases hi : i < (l.length : Int)
      · right
        have hd := drop_nth (l := l) (k := i.toNat) (by omega)
        rw [if_pos (by simpa using hi), ck_pos ⟨h0, hi⟩]
        generalize nth l i.toNat = r at *
        simp only [f_batch_within, Option.bind_some, gcall_mk]
        have hfive := five (u := [c1, c2, c3, c4, c5]) rfl
        generalize hu : [c1, c2, c3, c4, c5] = u at *
        have hul : u.length = 5 := by rw [← hu]; rfl
        by_cases hk : okT r = true
        · have hk' := hk
          simp only [okT, decide_eq_true_eq] at hk'
          have hb := five_bd h2 hk'.1 hk'.2.1
          have hadd : addT u r = setN u 5 r.kind.toNat (nth u r.kind.toNat + r.units) := if_pos hk
          rw [if_pos (by simp; omega), ck_pos (by omega), ck_pos (by omega), ck_pos (by omega), ck_pos (by omega), ck_pos (by omega), ck_pos (by omega)]
          refine ⟨_, rfl, ⟨by omega, by omega, ?_⟩, by omega, ?_⟩
          · simp only
            rw [← hadd, five (addT_len hul r)]
            intro j hj
            rw [nth_addT u r hj]
            have := h2 j hj
            have := conT_bd r j
            omega
          · simp only
            rw [← hadd, five (addT_len hul r), show (i + 1).toNat = i.toNat + 1 from by omega, hd, List.foldl_cons]
        · have hk' := hk
          simp only [okT, decide_eq_true_eq] at hk'
          have hadd : addT u r = u := if_neg hk
          rw [if_neg (by simp; omega), ck_pos (by omega)]
          refine ⟨_, rfl, ⟨by omega, by omega, ?_⟩, by omega, ?_⟩
          · simp only
            rw [hu]
            intro j hj
            have := h2 j hj
            omega
          · simp only
            rw [hu, show (i + 1).toNat = i.toNat + 1 from by omega, hd, List.foldl_cons, hadd]
      · left
        rw [if_neg (by simpa using hi), List.drop_of_length_le (by omega)]
        exact ⟨_, rfl, rfl⟩) (s := (0, 0, 0, 0, 0, 0)) ⟨by simp, by simp, by
          intro j hj
          match j, hj with
          | 0, _ => simp [nth]
          | 1, _ => simp [nth]
          | 2, _ => simp [nth]
          | 3, _ => simp [nth]
          | 4, _ => simp [nth]⟩ (by simp; omega)
  rw [this]; rfl
theorem p_rTotals (l : List Record) (hl : l.length ≤ 1000) : f_billingref12_Totals l = some ⟨(l.length : Int), totT l⟩ := by
  unfold f_billingref12_Totals
  have := loop_spec (step := fun s : Int × Int × Int × Int × Int × Int => f_billingref12_Totals_l1 l s.1 s.2.1 s.2.2.1 s.2.2.2.1 s.2.2.2.2.1 s.2.2.2.2.2)
    (fun s => some ⟨(l.length : Int), (l.drop s.1.toNat).foldl addT [s.2.1, s.2.2.1, s.2.2.2.1, s.2.2.2.2.1, s.2.2.2.2.2]⟩)
    (fun s => 0 ≤ s.1 ∧ s.1 ≤ (l.length : Int) ∧ ∀ j, j < 5 → 0 ≤ nth [s.2.1, s.2.2.1, s.2.2.2.1, s.2.2.2.2.1, s.2.2.2.2.2] j ∧ nth [s.2.1, s.2.2.1, s.2.2.2.1, s.2.2.2.2.1, s.2.2.2.2.2] j ≤ s.1 * 1099511627776)
    (fun s => ((l.length : Int) - s.1).toNat) (by
      rintro ⟨i, c1, c2, c3, c4, c5⟩ ⟨h0, h1, h2⟩
      simp only at h0 h1 h2 ⊢
      unfold f_billingref12_Totals_l1
      by_cases hi : i < (l.length : Int)
      · right
        have hd := drop_nth (l := l) (k := i.toNat) (by omega)
        rw [if_pos (by simpa using hi), ck_pos ⟨h0, hi⟩]
        generalize nth l i.toNat = r at *
        have hfive := five (u := [c1, c2, c3, c4, c5]) rfl
        generalize hu : [c1, c2, c3, c4, c5] = u at *
        have hul : u.length = 5 := by rw [← hu]; rfl
        by_cases hk : okT r = true
        · have hk' := hk
          simp only [okT, decide_eq_true_eq] at hk'
          have hb := five_bd h2 hk'.1 hk'.2.1
          have hadd : addT u r = setN u 5 r.kind.toNat (nth u r.kind.toNat + r.units) := if_pos hk
          rw [if_pos (by simp; omega), ck_pos (by omega), ck_pos (by omega), ck_pos (by omega), ck_pos (by omega), ck_pos (by omega), ck_pos (by omega)]
          refine ⟨_, rfl, ⟨by omega, by omega, ?_⟩, by omega, ?_⟩
          · simp only
            rw [← hadd, five (addT_len hul r)]
            intro j hj
            rw [nth_addT u r hj]
            have := h2 j hj
            have := conT_bd r j
            omega
          · simp only
            rw [← hadd, five (addT_len hul r), show (i + 1).toNat = i.toNat + 1 from by omega, hd, List.foldl_cons]
        · have hk' := hk
          simp only [okT, decide_eq_true_eq] at hk'
          have hadd : addT u r = u := if_neg hk
          rw [if_neg (by simp; omega), ck_pos (by omega)]
          refine ⟨_, rfl, ⟨by omega, by omega, ?_⟩, by omega, ?_⟩
          · simp only
            rw [hu]
            intro j hj
            have := h2 j hj
            omega
          · simp only
            rw [hu, show (i + 1).toNat = i.toNat + 1 from by omega, hd, List.foldl_cons, hadd]
      · left
        rw [if_neg (by simpa using hi), List.drop_of_length_le (by omega)]
        exact ⟨_, rfl, rfl⟩) (s := (0, 0, 0, 0, 0, 0)) ⟨by simp, by simp, by
          intro j hj
          match j, hj with
          | 0, _ => simp [nth]
          | 1, _ => simp [nth]
          | 2, _ => simp [nth]
          | 3, _ => simp [nth]
          | 4, _ => simp [nth]⟩ (by simp; omega)
  rw [this]; rfl
end Go.Proofs.YtccmaffefdcikaaDoor

set_option linter.unusedSimpArgs false
set_option linter.unusedVariables false
namespace Go.Proofs.YtccmaffefdcikaaDoor
open Go.RowKit Go.Abs
/-- A loop that puts together what the elements give. -/
theorem collect {α R : Type} [Inhabited α] {step : List UInt8 × Int → Option ((List UInt8 × Int) ⊕ R)} (l : List α) (f : α → List UInt8) (G : List UInt8 → Option R) (B : Nat) (hB : ∀ x, x ∈ l → (f x).length ≤ B) (hb : l.length * B ≤ 900000000) (hl : l.length ≤ 1000000000)
    (h1 : ∀ (out : List UInt8) (i : Int), 0 ≤ i → i < (l.length : Int) → out.length ≤ 900000000 → step (out, i) = some (.inl (out ++ f (nth l i.toNat), i + 1)))
    (h2 : ∀ (out : List UInt8), out.length ≤ 900000000 → ∃ r, step (out, (l.length : Int)) = some (.inr r) ∧ G out = some r) : loop step ([], 0) = G (l.map f).flatten := by
  have := loop_spec (step := step) (fun s => G (s.1 ++ ((l.drop s.2.toNat).map f).flatten)) (fun s => 0 ≤ s.2 ∧ s.2 ≤ (l.length : Int) ∧ s.1.length ≤ s.2.toNat * B) (fun s => ((l.length : Int) - s.2).toNat) (by
    rintro ⟨out, i⟩ ⟨k0, k1, k2⟩
    simp only at k0 k1 k2 ⊢
    have hle : out.length ≤ 900000000 := Nat.le_trans k2 (Nat.le_trans (Nat.mul_le_mul_right B (by omega)) hb)
    by_cases hi : i < (l.length : Int)
    · right
      have hd := drop_nth (l := l) (k := i.toNat) (by omega)
      have hm : nth l i.toNat ∈ l := by rw [nth_eq (by omega)]; exact List.getElem_mem _
      have hx := hB _ hm
      refine ⟨_, h1 out i k0 hi hle, ⟨by simp only; omega, by simp only; omega, ?_⟩, by simp only; omega, ?_⟩
      · simp only
        rw [show (i + 1).toNat = i.toNat + 1 from by omega, Nat.succ_mul, List.length_append]; omega
      · simp only
        rw [show (i + 1).toNat = i.toNat + 1 from by omega, hd]
        simp
    · left
      have e : i = (l.length : Int) := by omega
      subst e
      obtain ⟨r, a1, a2⟩ := h2 out hle
      exact ⟨r, a1, by rw [List.drop_of_length_le (by omega)]; simpa using a2⟩) (s := ([], 0)) ⟨by simp, by simp, by simp⟩ (by simp; omega)
  rw [this]; simp
def numsF (l : List Int) : List UInt8 := (l.map fun n => vb (2 * n)).flatten
def NumL (l : List Int) : Prop := ∀ n, n ∈ l → 0 ≤ n ∧ n ≤ 9223372036854775807
theorem NumL.nth {l : List Int} (h : NumL l) {k : Nat} (hk : k < l.length) : 0 ≤ Go.Abs.nth l k ∧ Go.Abs.nth l k ≤ 9223372036854775807 := by
  rw [nth_eq hk]; exact h _ (List.getElem_mem hk)
theorem p_nums (l : List Int) (h : NumL l) (hl : l.length ≤ 1000000) : g_batch_all_int_byte l = some (numsF l) := by
  unfold g_batch_all_int_byte
  refine collect (step := fun s : List UInt8 × Int => g_batch_all_int_byte_l1 l s.1 s.2) l (fun n => vb (2 * n)) some 10 (fun n hn => vb_le (by have := h n hn; omega)) (by omega) (by omega) (fun out i h0 hi ho => ?_) (fun out ho => ?_)
  · have hn := h.nth (k := i.toNat) (by omega)
    have hv := vb_le (u := 2 * Go.Abs.nth l i.toNat) (by omega)
    show g_batch_all_int_byte_l1 l out i = _
    unfold g_batch_all_int_byte_l1 f_batch_number
    rw [if_pos (by simpa using hi), ck_pos ⟨h0, hi⟩, p_PutC _ hn.1 hn.2]
    simp only [Option.bind_some]
    rw [ck_pos (by omega), ck_pos (by omega)]
  · show ∃ r, g_batch_all_int_byte_l1 l out (l.length : Int) = _ ∧ _
    unfold g_batch_all_int_byte_l1
    rw [if_neg (by simp)]
    exact ⟨_, rfl, rfl⟩
theorem p_rnums (l : List Int) (h : NumL l) (hl : l.length ≤ 1000000) : f_billingref12_numbers l = some (numsF l) := by
  unfold f_billingref12_numbers
  refine collect (step := fun s : List UInt8 × Int => f_billingref12_numbers_l1 l s.1 s.2) l (fun n => vb (2 * n)) some 10 (fun n hn => vb_le (by have := h n hn; omega)) (by omega) (by omega) (fun out i h0 hi ho => ?_) (fun out ho => ?_)
  · have hn := h.nth (k := i.toNat) (by omega)
    show f_billingref12_numbers_l1 l out i = _
    unfold f_billingref12_numbers_l1
    rw [if_pos (by simpa using hi), ck_pos ⟨h0, hi⟩, p_rPut _ _ hn.1 hn.2 ho]
    simp only [Option.bind_some]
    rw [ck_pos (by omega)]
  · show ∃ r, f_billingref12_numbers_l1 l out (l.length : Int) = _ ∧ _
    unfold f_billingref12_numbers_l1
    rw [if_neg (by simp)]
    exact ⟨_, rfl, rfl⟩
theorem sum_same (b : List UInt8) : f_billingref08_Sum b = f_frame_Sum b := rfl
theorem sum_tot (b : List UInt8) (hb : b.length ≤ 1000000000) : ∃ n, f_frame_Sum b = some n := by
  unfold f_frame_Sum
  obtain ⟨r, h, _⟩ := loop_post (step := fun s : Int × Int => f_frame_Sum_l1 b s.1 s.2) (fun _ => True) (fun s => 0 ≤ s.2 ∧ s.2 ≤ (b.length : Int)) (fun s => ((b.length : Int) - s.2).toNat) (by
    rintro ⟨n, i⟩ ⟨h0, h1⟩
    simp only at h0 h1 ⊢
    unfold f_frame_Sum_l1
    by_cases hi : i < (b.length : Int)
    · rw [if_pos (by simpa using hi), ck_pos ⟨h0, hi⟩, ck_pos (by omega)]
      exact .inr ⟨_, rfl, ⟨by simp only; omega, by simp only; omega⟩, by simp only; omega⟩
    · rw [if_neg (by simpa using hi)]
      exact .inl ⟨_, rfl, trivial⟩) (s := (2166136261, 0)) ⟨by simp, by simp⟩ (by simp; omega)
  exact ⟨r, h⟩
def sumW (b : List UInt8) : Int := (f_frame_Sum b).getD 0
theorem p_Sum (b : List UInt8) (hb : b.length ≤ 1000000000) : f_frame_Sum b = some (sumW b) := by
  obtain ⟨n, h⟩ := sum_tot b hb
  unfold sumW; rw [h]; rfl
def wrapF (b : List UInt8) : List UInt8 := vb (2 * (b.length : Int)) ++ [UInt8.ofInt (Int.fdiv (sumW b) (2 ^ (min (Int.toNat (24)) 32))), UInt8.ofInt (Int.fdiv (sumW b) (2 ^ (min (Int.toNat (16)) 32))), UInt8.ofInt (Int.fdiv (sumW b) (2 ^ (min (Int.toNat (8)) 32))), UInt8.ofInt (sumW b)] ++ b
theorem wrapF_len (b : List UInt8) (hb : b.length ≤ 1000000000) : (wrapF b).length ≤ b.length + 14 := by
  have := vb_le (u := 2 * (b.length : Int)) (by omega)
  simp [wrapF]; omega
theorem p_wrap (b out : List UInt8) (hb : b.length ≤ 1048576) (ho : out.length ≤ 900000000) : g_frame_wrap_v1 b out = some (out ++ wrapF b) := by
  have hv := vb_le (u := 2 * (b.length : Int)) (by omega)
  unfold g_frame_wrap_v1
  rw [p_Sum b (by omega), p_PutC _ (by omega) (by omega)]
  simp only [Option.bind_some]
  rw [ck_pos (by omega), ck_pos (by decide), ck_pos (by decide), ck_pos (by decide), ck_pos (by simp; omega), ck_pos (by simp; omega)]
  simp [wrapF]
theorem p_rWrap (b : List UInt8) (hb : b.length ≤ 1048576) : f_billingref08_Wrap b = some (wrapF b, 0) := by
  have hv := vb_le (u := 2 * (b.length : Int)) (by omega)
  unfold f_billingref08_Wrap
  rw [if_neg (by simp; omega), sum_same, p_Sum b (by omega), p_rPut [] _ (by omega) (by omega) (by simp)]
  simp only [Option.bind_some, List.nil_append]
  rw [ck_pos (by decide), ck_pos (by decide), ck_pos (by decide), ck_pos (by simp; omega), ck_pos (by simp; omega)]
  simp [wrapF]
def joinW (l : List (List UInt8)) : List UInt8 := (l.map wrapF).flatten
theorem nth_mem' {α : Type} [Inhabited α] {l : List α} {k : Nat} (h : k < l.length) : nth l k ∈ l := by rw [nth_eq h]; exact List.getElem_mem _
theorem p_Join (l : List (List UInt8)) (h : ∀ x, x ∈ l → x.length ≤ 1048576) (hl : l.length ≤ 100) : f_frame_Join l = some (joinW l, 0) := by
  unfold f_frame_Join
  refine collect (step := fun s : List UInt8 × Int => f_frame_Join_l1 l s.1 s.2) l wrapF (fun o => some (o, 0)) 1048590 (fun x hx => by have := wrapF_len x (by have := h x hx; omega); have := h x hx; omega) (by omega) (by omega) (fun out i h0 hi ho => ?_) (fun out ho => ?_)
  · have hx := h _ (nth_mem' (l := l) (k := i.toNat) (by omega))
    show f_frame_Join_l1 l out i = _
    unfold f_frame_Join_l1
    rw [if_pos (by simpa using hi), ck_pos ⟨h0, hi⟩, if_neg (by simp; omega), p_wrap _ _ hx ho]
    simp only [Option.bind_some]
    rw [ck_pos (by omega)]
  · show ∃ r, f_frame_Join_l1 l out (l.length : Int) = _ ∧ _
    unfold f_frame_Join_l1
    rw [if_neg (by simp)]
    exact ⟨_, rfl, rfl⟩
theorem p_rJoin (l : List (List UInt8)) (h : ∀ x, x ∈ l → x.length ≤ 1048576) (hl : l.length ≤ 100) : f_billingref08_Join l = some (joinW l, 0) := by
  unfold f_billingref08_Join
  refine collect (step := fun s : List UInt8 × Int => f_billingref08_Join_l1 l s.1 s.2) l wrapF (fun o => some (o, 0)) 1048590 (fun x hx => by have := wrapF_len x (by have := h x hx; omega); have := h x hx; omega) (by omega) (by omega) (fun out i h0 hi ho => ?_) (fun out ho => ?_)
  · have hx := h _ (nth_mem' (l := l) (k := i.toNat) (by omega))
    have hw := wrapF_len (nth l i.toNat) (by omega)
    show f_billingref08_Join_l1 l out i = _
    unfold f_billingref08_Join_l1
    rw [if_pos (by simpa using hi), ck_pos ⟨h0, hi⟩, p_rWrap _ hx]
    simp only [Option.bind_some]
    rw [if_neg (by simp), ck_pos (by omega), ck_pos (by omega)]
  · show ∃ r, f_billingref08_Join_l1 l out (l.length : Int) = _ ∧ _
    unfold f_billingref08_Join_l1
    rw [if_neg (by simp)]
    exact ⟨_, rfl, rfl⟩
end Go.Proofs.YtccmaffefdcikaaDoor

set_option linter.unusedSimpArgs false
set_option linter.unusedVariables false
namespace Go.Proofs.YtccmaffefdcikaaDoor
open Go.RowKit Go.Abs
def recF (f : Int) (r : Record) : List UInt8 := if f = 2 then bytesT r else if f = 3 then bytesF r else lineF r ++ [10]
def payF (f : Int) (l : List Record) : List UInt8 := (l.map (recF f)).flatten
theorem lineF_le {r : Record} (h : errF r = 0) : (lineF r).length ≤ 400 := by
  obtain ⟨h1, h2⟩ := words_le (errF_good h)
  have := join_len [32] (wordsF r) 21 h2
  have h3 : (wordsF r).length * (21 + ([32] : List UInt8).length) ≤ 13 * 22 := Nat.mul_le_mul h1 (by simp)
  unfold lineF; omega
theorem recF_le {r : Record} (h : errF r = 0) (ha : r.a.length < 1000000000) (hb : r.b.length < 1000000000) (f : Int) : (recF f r).length ≤ 401 := by
  unfold recF
  split
  · have := enc_len (errF_good h) ha hb
    simp [bytesT]; omega
  · split
    · simp [bytesF, bodyF_len]
    · have := lineF_le h
      simp; omega
def OkL (l : List Record) : Prop := ∀ r, r ∈ l → errF r = 0
theorem chkL_ok : ∀ (src : Int) (l : List Record), chkL src l = 0 → OkL l
  | src, [], _ => by intro r hr; cases hr
  | src, r :: l, h => by
    unfold chkL at h
    by_cases he : errF r = 0
    · rw [if_pos he] at h
      by_cases hs : r.source = src
      · rw [if_pos hs] at h
        intro x hx
        rcases List.mem_cons.1 hx with rfl | hx
        · exact he
        · exact chkL_ok src l h x hx
      · rw [if_neg hs] at h; cases h
    · rw [if_neg he] at h; exact absurd h he
theorem p_payload (f : Int) (l : List Record) (hf : 1 ≤ f ∧ f ≤ 3) (h : OkL l) (hs : SmL l) (hl : l.length ≤ 100) : f_batch_payload f l = some (payF f l) := by
  unfold f_batch_payload
  by_cases h2 : f = 2
  · subst h2
    rw [if_pos (by decide)]
    have : g_api_Record_byte l = some (payF 2 l) := by
      unfold g_api_Record_byte
      refine collect (step := fun s : List UInt8 × Int => g_api_Record_byte_l1 l s.1 s.2) l (recF 2) some 401 (fun x hx => recF_le (h x hx) (hs x hx).1 (hs x hx).2 2) (by omega) (by omega) (fun out i h0 hi ho => ?_) (fun out ho => ?_)
      · have hm := nth_mem' (l := l) (k := i.toNat) (by omega)
        have hr := recF_le (h _ hm) (hs _ hm).1 (hs _ hm).2 2
        have e : recF 2 (nth l i.toNat) = bytesT (nth l i.toNat) := by unfold recF; rw [if_pos rfl]
        rw [e] at hr ⊢
        show g_api_Record_byte_l1 l out i = _
        unfold g_api_Record_byte_l1
        rw [if_pos (by simpa using hi), ck_pos ⟨h0, hi⟩, p_Encode10 _ (hs _ hm).1 (hs _ hm).2, if_pos (h _ hm)]
        simp only [Option.bind_some]
        rw [ck_pos (by omega), ck_pos (by omega)]
      · show ∃ r, g_api_Record_byte_l1 l out (l.length : Int) = _ ∧ _
        unfold g_api_Record_byte_l1
        rw [if_neg (by simp)]
        exact ⟨_, rfl, rfl⟩
    rw [this]; rfl
  · rw [if_neg (by simpa using h2)]
    by_cases h3 : f = 3
    · subst h3
      rw [if_pos (by decide)]
      have : g_api_Record_byte_v1 l = some (payF 3 l) := by
        unfold g_api_Record_byte_v1
        refine collect (step := fun s : List UInt8 × Int => g_api_Record_byte_v1_l1 l s.1 s.2) l (recF 3) some 401 (fun x hx => recF_le (h x hx) (hs x hx).1 (hs x hx).2 3) (by omega) (by omega) (fun out i h0 hi ho => ?_) (fun out ho => ?_)
        · have hm := nth_mem' (l := l) (k := i.toNat) (by omega)
          have hr := recF_le (h _ hm) (hs _ hm).1 (hs _ hm).2 3
          have e : recF 3 (nth l i.toNat) = bytesF (nth l i.toNat) := by unfold recF; rw [if_neg (by decide), if_pos rfl]
          rw [e] at hr ⊢
          show g_api_Record_byte_v1_l1 l out i = _
          unfold g_api_Record_byte_v1_l1
          rw [if_pos (by simpa using hi), ck_pos ⟨h0, hi⟩, p_Encode11 _ (hs _ hm).1 (hs _ hm).2, if_pos (h _ hm)]
          simp only [Option.bind_some]
          rw [ck_pos (by omega), ck_pos (by omega)]
        · show ∃ r, g_api_Record_byte_v1_l1 l out (l.length : Int) = _ ∧ _
          unfold g_api_Record_byte_v1_l1
          rw [if_neg (by simp)]
          exact ⟨_, rfl, rfl⟩
      rw [this]; rfl
    · rw [if_neg (by simpa using h3)]
      have : g_api_Record_string l = some (payF f l) := by
        unfold g_api_Record_string
        refine collect (step := fun s : List UInt8 × Int => g_api_Record_string_l1 l s.1 s.2) l (recF f) some 401 (fun x hx => recF_le (h x hx) (hs x hx).1 (hs x hx).2 f) (by omega) (by omega) (fun out i h0 hi ho => ?_) (fun out ho => ?_)
        · have hm := nth_mem' (l := l) (k := i.toNat) (by omega)
          have hr := recF_le (h _ hm) (hs _ hm).1 (hs _ hm).2 f
          have e : recF f (nth l i.toNat) = lineF (nth l i.toNat) ++ [10] := by unfold recF; rw [if_neg h2, if_neg h3]
          rw [e] at hr ⊢
          simp only [List.length_append] at hr
          show g_api_Record_string_l1 l out i = _
          unfold g_api_Record_string_l1 f_batch_line
          rw [if_pos (by simpa using hi), ck_pos ⟨h0, hi⟩, p_Encode _ (hs _ hm).1 (hs _ hm).2, if_pos (h _ hm)]
          simp only [Option.bind_some]
          rw [ck_pos (by simp at hr ⊢; omega)]
          simp only [Option.bind_some]
          rw [ck_pos (by simp at hr ⊢; omega), ck_pos (by omega)]
        · show ∃ r, g_api_Record_string_l1 l out (l.length : Int) = _ ∧ _
          unfold g_api_Record_string_l1
          rw [if_neg (by simp)]
          exact ⟨_, rfl, rfl⟩
      rw [this]; rfl
def headN (b : Batch) : List Int := [b.source, b.number, b.format, (b.records.length : Int)]
def trailN (b : Batch) : List Int := [(b.records.length : Int), sumT b.records 1, sumT b.records 2, sumT b.records 3, sumT b.records 4]
def paysF (b : Batch) : List (List UInt8) := [numsF (headN b), payF b.format b.records, numsF (trailN b)]
def fileF (b : Batch) : List UInt8 := joinW (paysF b)
theorem numsF_le (l : List Int) (h : NumL l) : (numsF l).length ≤ l.length * 10 := by
  induction l with
  | nil => simp [numsF]
  | cons n l ih =>
    have h1 := vb_le (u := 2 * n) (by have := h n (by simp); omega)
    have h2 := ih fun x hx => h x (by simp [hx])
    unfold numsF at h2 ⊢
    simp only [List.map_cons, List.flatten_cons, List.length_append, List.length_cons]
    omega
theorem payF_le : ∀ (l : List Record) (f : Int), OkL l → SmL l → (payF f l).length ≤ l.length * 401
  | [], f, _, _ => by simp [payF]
  | r :: l, f, h, hs => by
    have h1 := recF_le (h r (by simp)) (hs r (by simp)).1 (hs r (by simp)).2 f
    have h2 := payF_le l f (fun x hx => h x (by simp [hx])) (fun x hx => hs x (by simp [hx]))
    unfold payF at h2 ⊢
    simp only [List.map_cons, List.flatten_cons, List.length_append, List.length_cons]
    omega
theorem chk_parts {b : Batch} (h : chkF b = 0) : (1 ≤ b.source ∧ b.source ≤ 99) ∧ (1 ≤ b.number ∧ b.number ≤ 999999999) ∧ (1 ≤ b.format ∧ b.format ≤ 3) ∧ b.records.length ≤ 4096 ∧ OkL b.records := by
  unfold chkF at h
  by_cases h1 : hdF b.source b.number b.format = 0
  · rw [if_pos h1] at h
    by_cases h2 : 4096 < b.records.length
    · rw [if_pos h2] at h; cases h
    · rw [if_neg h2] at h
      unfold hdF at h1
      by_cases h3 : (b.source < 1 ∨ 99 < b.source) ∨ (b.number < 1 ∨ 999999999 < b.number)
      · rw [if_pos h3] at h1; cases h1
      · rw [if_neg h3] at h1
        by_cases h4 : b.format < 1 ∨ 3 < b.format
        · rw [if_pos h4] at h1; cases h1
        · exact ⟨by omega, by omega, by omega, by omega, chkL_ok _ _ h⟩
  · rw [if_neg h1] at h; exact absurd h h1
theorem head_num {b : Batch} (h : chkF b = 0) : NumL (headN b) := by
  obtain ⟨h1, h2, h3, h4, _⟩ := chk_parts h
  intro n hn
  simp [headN] at hn
  omega
theorem trail_num {b : Batch} (h : chkF b = 0) : NumL (trailN b) := by
  obtain ⟨_, _, _, h4, _⟩ := chk_parts h
  have a1 := sumT_bd b.records 1
  have a2 := sumT_bd b.records 2
  have a3 := sumT_bd b.records 3
  have a4 := sumT_bd b.records 4
  intro n hn
  simp [trailN] at hn
  omega
theorem pays_le {b : Batch} (h : chkF b = 0) (hs : SmL b.records) (hl : b.records.length ≤ 100) : ∀ x, x ∈ paysF b → x.length ≤ 1048576 := by
  obtain ⟨_, _, _, _, h5⟩ := chk_parts h
  have a1 := numsF_le _ (head_num h)
  have a2 := numsF_le _ (trail_num h)
  have a3 := payF_le b.records b.format h5 hs
  intro x hx
  simp [paysF] at hx
  have b1 : (headN b).length = 4 := rfl
  have b2 : (trailN b).length = 5 := rfl
  rcases hx with rfl | rfl | rfl <;> omega
theorem p_Write (b : Batch) (hs : SmL b.records) (hl : b.records.length ≤ 100) : f_batch_Write b = some (if chkF b = 0 then fileF b else [], chkF b) := by
  unfold f_batch_Write
  rw [p_Check b hs]
  simp only [Option.bind_some]
  by_cases h : chkF b = 0
  · obtain ⟨h1, h2, h3, h4, h5⟩ := chk_parts h
    rw [if_neg (by simp [h]), if_pos h]
    unfold f_batch_headOf
    rw [p_Totals _ (by omega)]
    simp only [Option.bind_some, nth_totT b.records (k := 1) (by decide), nth_totT b.records (k := 2) (by decide), nth_totT b.records (k := 3) (by decide), nth_totT b.records (k := 4) (by decide)]
    rw [show ([b.source, b.number, b.format, (b.records.length : Int)] : List Int) = headN b from rfl, p_nums _ (head_num h) (by simp [headN]), p_payload _ _ h3 h5 hs hl]
    simp only [Option.bind_some]
    rw [ck_pos (by simp), show (([(b.records.length : Int)] : List Int) ++ [sumT b.records 1, sumT b.records 2, sumT b.records 3, sumT b.records 4]) = trailN b from rfl, p_nums _ (trail_num h) (by simp [trailN])]
    simp only [Option.bind_some]
    rw [show [numsF (headN b), payF b.format b.records, numsF (trailN b)] = paysF b from rfl, p_Join _ (pays_le h hs hl) (by simp [paysF])]
    simp only [Option.bind_some, h]; rfl
  · rw [if_pos (by simpa using h), if_neg h]
theorem p_rPays (b : Batch) (h : chkF b = 0) (hs : SmL b.records) (hl : b.records.length ≤ 100) : f_billingref12_Payloads b = some (paysF b) := by
  obtain ⟨h1, h2, h3, h4, h5⟩ := chk_parts h
  unfold f_billingref12_Payloads
  refine (collect (step := fun s : List UInt8 × Int => f_billingref12_Payloads_l1 b s.1 s.2) b.records (recF b.format) (fun o => some [numsF (headN b), o, numsF (trailN b)]) 401 (fun x hx => recF_le (h5 x hx) (hs x hx).1 (hs x hx).2 _) (by omega) (by omega) (fun out i h0 hi ho => ?_) (fun out ho => ?_)).trans rfl
  · have hm := nth_mem' (l := b.records) (k := i.toNat) (by omega)
    have hr := recF_le (h5 _ hm) (hs _ hm).1 (hs _ hm).2 b.format
    show f_billingref12_Payloads_l1 b out i = _
    unfold f_billingref12_Payloads_l1
    rw [if_pos (by simpa using hi), ck_pos ⟨h0, hi⟩]
    generalize hx : nth b.records i.toNat = r at *
    by_cases f1 : b.format = 1
    · have e : recF b.format r = lineF r ++ [10] := by unfold recF; rw [if_neg (by omega), if_neg (by omega)]
      rw [e] at hr ⊢
      simp only [List.length_append, List.length_cons, List.length_nil] at hr
      rw [if_pos (by simpa using f1), p_rEncode _ (hs _ hm).1 (hs _ hm).2, if_pos (h5 _ hm)]
      simp only [Option.bind_some]
      rw [ck_pos (by simp; omega), ck_pos (by simp; omega), ck_pos (by omega)]
    · rw [if_neg (by simpa using f1)]
      by_cases f2 : b.format = 2
      · have e : recF b.format r = bytesT r := by unfold recF; rw [if_pos f2]
        rw [e] at hr ⊢
        rw [if_pos (by simpa using f2), p_rEncode10 _ (hs _ hm).1 (hs _ hm).2, if_pos (h5 _ hm)]
        simp only [Option.bind_some]
        rw [ck_pos (by omega), ck_pos (by omega)]
      · have e : recF b.format r = bytesF r := by unfold recF; rw [if_neg f2, if_pos (by omega)]
        rw [e] at hr ⊢
        rw [if_neg (by simpa using f2), p_rEncode11 _ (hs _ hm).1 (hs _ hm).2, if_pos (h5 _ hm)]
        simp only [Option.bind_some]
        rw [ck_pos (by omega), ck_pos (by omega)]
  · show ∃ r, f_billingref12_Payloads_l1 b out (b.records.length : Int) = _ ∧ _
    unfold f_billingref12_Payloads_l1 f_billingref12_Payloads_j1
    rw [if_neg (by simp), p_rTotals _ (by omega)]
    simp only [Option.bind_some, nth_totT b.records (k := 1) (by decide), nth_totT b.records (k := 2) (by decide), nth_totT b.records (k := 3) (by decide), nth_totT b.records (k := 4) (by decide)]
    rw [show ([b.source, b.number, b.format, (b.records.length : Int)] : List Int) = headN b from rfl, p_rnums _ (head_num h) (by simp [headN]),
      show ([(b.records.length : Int), sumT b.records 1, sumT b.records 2, sumT b.records 3, sumT b.records 4] : List Int) = trailN b from rfl, p_rnums _ (trail_num h) (by simp [trailN])]
    exact ⟨_, rfl, rfl⟩
theorem p_rWrite (b : Batch) (hs : SmL b.records) (hl : b.records.length ≤ 100) : f_billingref12_Write b = some (if chkF b = 0 then fileF b else [], chkF b) := by
  unfold f_billingref12_Write
  rw [p_rCheck b hs]
  simp only [Option.bind_some]
  by_cases h : chkF b = 0
  · rw [if_neg (by simp [h]), if_pos h, p_rPays b h hs hl]
    simp only [Option.bind_some]
    rw [p_rJoin _ (pays_le h hs hl) (by simp [paysF])]
    simp only [Option.bind_some, h]; rfl
  · rw [if_pos (by simpa using h), if_neg h]
theorem writes_true (b : Batch) : f_billinglaw12_BatchWrites b = some true := by
  unfold f_billinglaw12_BatchWrites
  obtain ⟨x, hx, hx2⟩ := few_tot b.records
  rw [hx]
  simp only [Option.bind_some]
  cases x with
  | false => rw [if_pos (by decide), awake_true]; rfl
  | true =>
    obtain ⟨hl, hr⟩ := hx2 rfl
    have hs : SmL b.records := fun r hm => by have := hr r hm; unfold Sh200 at this; omega
    rw [if_neg (by simp), p_Write b hs (by omega), p_rWrite b hs (by omega), p_Check b hs, p_rCheck b hs]
    simp only [Option.bind_some, beq_self_eq_true, Bool.and_self, awake_true, gcall_mk, if_true]
end Go.Proofs.YtccmaffefdcikaaDoor

/- A row's arguments opened: what the given reading says of a typed argument, as data of this layer. -/
set_option linter.unusedSimpArgs false
set_option linter.unusedVariables false
set_option linter.unusedSectionVars false
namespace Go.Abs
open Go.RowKit Go.ChangeShapes Go.WideShapes Go.Deep

inductive Sh where
  | i (k : IntKind)
  | b
  | s
  | sl (row : List Sh)
inductive DFits : Sh → D → Prop where
  | i (k : IntKind) (n : Int) (h : (Lit.int k n).wf = true) : DFits (.i k) (.ex (.int k n))
  | b (x : Bool) : DFits .b (.ex (.bool x))
  | s (l : List UInt8) (h : l.length ≤ maxLen) : DFits .s (.ex (.string ⟨l.toArray⟩))
  | sl (row : List Sh) (rows : List (List D)) (hn : rows.length ≤ maxLen) (h1 : ∀ r, r ∈ rows → r.length = row.length)
      (h : ∀ r, r ∈ rows → ∀ (i : Nat) sh d, row[i]? = some sh → r[i]? = some d → DFits sh d) : DFits (.sl row) (.sl row.length rows)
def shapeFs (P : Program) (rec : TypeId → Option (List Sh)) : List Field → Nat → Option (List Sh)
  | [], _ => some []
  | f :: fs, off => match rec f.type with
    | some r => if Nat.beq f.offset off && Nat.beq r.length (P.cellsOf f.type) then (shapeFs P rec fs (off + r.length)).map (r ++ ·) else none
    | none => none
def shape (P : Program) : Nat → TypeId → Option (List Sh)
  | 0, _ => none
  | n + 1, t => match P.underlying t with
    | some (.int k) => some [.i k]
    | some .bool => some [.b]
    | some .string => some [.s]
    | some (.slice e) => match shape P n e with
      | some r => if Nat.beq r.length (P.cellsOf e) && Nat.blt 0 r.length then some [.sl r] else none
      | none => none
    | some (.struct fs) => match shapeFs P (shape P n) fs.toList 0 with
      | some r => if Nat.beq r.length (P.cellsOf t) then some r else none
      | none => none
    | _ => none
/-- What is read is data of the shape. -/
def Opens (lim : Nat → Nat) (w : World) (shs : List Sh) (cs : List Value) : Prop :=
  ∃ ds : List D, ds.length = shs.length ∧ cs.length = shs.length ∧ ∀ (i : Nat) sh d c, shs[i]? = some sh → ds[i]? = some d → cs[i]? = some c → DFits sh d ∧ DRep lim w d c ∧ c.oneCell' = true
theorem Opens.one {lim : Nat → Nat} {w : World} {sh : Sh} {d : D} {c : Value} (h1 : DFits sh d) (h2 : DRep lim w d c) (h3 : c.oneCell' = true) : Opens lim w [sh] [c] := by
  refine ⟨[d], rfl, rfl, fun i sh' d' c' ha hb hc => ?_⟩
  cases i with
  | zero => simp at ha hb hc; subst ha; subst hb; subst hc; exact ⟨h1, h2, h3⟩
  | succ i => simp at ha
theorem Opens.nil {lim : Nat → Nat} {w : World} : Opens lim w [] [] := ⟨[], rfl, rfl, fun i _ _ _ h => by simp at h⟩
theorem Opens.append {lim : Nat → Nat} {w : World} {s1 s2 : List Sh} {c1 c2 : List Value} (h : Opens lim w s1 c1) (k : Opens lim w s2 c2) : Opens lim w (s1 ++ s2) (c1 ++ c2) := by
  obtain ⟨d1, a1, b1, e1⟩ := h
  obtain ⟨d2, a2, b2, e2⟩ := k
  refine ⟨d1 ++ d2, by simp [a1, a2], by simp [b1, b2], fun i sh d c ha hb hc => ?_⟩
  by_cases hi : i < s1.length
  · rw [List.getElem?_append_left hi] at ha
    rw [List.getElem?_append_left (by omega)] at hb hc
    exact e1 i sh d c ha hb hc
  · rw [List.getElem?_append_right (by omega)] at ha hb hc
    rw [a1] at hb
    rw [b1] at hc
    exact e2 _ sh d c ha hb hc
section opening
variable {H : Type} {enc : TypeId × Value → H} {P : Program} {w : World} {held : Bool} {lim : Nat → Nat}
theorem opens_fields {rec : TypeId → Option (List Sh)} (cs : List Value) : ∀ (fs : List Field) (off : Nat) (shs : List Sh), shapeFs P rec fs off = some shs → cs.length = off + shs.length →
    (∀ (i : Nat) f, fs[i]? = some f → ∀ r, rec f.type = some r → r.length = P.cellsOf f.type → Opens lim w r ((cs.drop f.offset).take (P.cellsOf f.type))) → Opens lim w shs (cs.drop off)
  | [], off, shs, h, hl, _ => by
    simp [shapeFs] at h; subst h
    rw [List.drop_of_length_le (by simp at hl; omega)]
    exact .nil
  | f :: fs, off, shs, h, hl, hf => by
    unfold shapeFs at h
    split at h
    · rename_i r hr
      split at h
      · rename_i hc
        rw [Bool.and_eq_true] at hc
        replace hc := And.intro (Nat.eq_of_beq_eq_true hc.1) (Nat.eq_of_beq_eq_true hc.2)
        obtain ⟨rest, hrest, rfl⟩ := Option.map_eq_some_iff.1 h
        simp only [List.length_append] at hl
        have h1 := hf 0 f rfl r hr hc.2
        have h2 := opens_fields cs fs (off + r.length) rest hrest (by omega) fun i g hg => hf (i + 1) g (by simpa using hg)
        have e : cs.drop off = (cs.drop f.offset).take (P.cellsOf f.type) ++ cs.drop (off + r.length) := by
          rw [hc.1, ← hc.2, ← List.drop_drop, List.take_append_drop]
        rw [e]
        exact h1.append h2
      · cases h
    · cases h
theorem opens_shape (hlim : ∀ b off u, w.cell? ⟨b, off, none⟩ = some u → off < lim b) : ∀ (n : Nat) (t : TypeId) (shs : List Sh), shape P n t = some shs → ∀ fuel cs x, DataW.trod enc P w 0 (fun _ => true) held fuel t cs = some x → Opens lim w shs cs
  | 0, _, _, h => by simp [shape] at h
  | n + 1, t, shs, h => by
    intro fuel cs x ht
    unfold shape at h
    split at h
    · rename_i k hu
      cases h
      obtain ⟨m, rfl, _, hw⟩ := DataW.trod_int hu ht
      exact .one (.i k m hw) (.ex _) rfl
    · rename_i hu
      cases h
      obtain ⟨b, rfl, _⟩ := DataW.trod_bool hu ht
      exact .one (.b b) (.ex _) rfl
    · rename_i hu
      cases h
      obtain ⟨⟨a⟩, rfl, _, hs⟩ := DataW.trod_string hu ht
      exact .one (.s a.toList (by simpa [ByteArray.size] using hs)) (.ex _) rfl
    · rename_i e hu
      split at h
      · rename_i r hr
        split at h
        · rename_i hc
          cases h
          rw [Bool.and_eq_true] at hc
          obtain ⟨hc1, hc2⟩ := And.intro (Nat.eq_of_beq_eq_true hc.1) (blt_lt hc.2)
          rcases open_slice hu ht with ⟨rfl, _⟩ | ⟨a, len, cap, m, n', D0, Pl, rfl, hb, hl, hm, hmm, hx, hi⟩
          · exact .one (.sl r [] (Nat.zero_le _) (fun _ h => by cases h) (fun _ h => by cases h)) (.nil _ _) rfl
          · simp only [if_true] at hmm
            subst hmm
            obtain ⟨F, hF⟩ := choose_lt (n := m) (p := fun i (ds : List D) => ds.length = r.length ∧ ∀ (j : Nat) sh d, r[j]? = some sh → ds[j]? = some d → ∃ c, w.cell? (a.add (i * r.length + j)) = some c ∧ DFits sh d ∧ DRep lim w d c ∧ c.oneCell' = true) (fun i hi' => by
              obtain ⟨cs', h1, h2⟩ := hi i hi'
              obtain ⟨ds, k1, k2, k3⟩ := opens_shape hlim n e r hr n' cs' _ h2
              obtain ⟨_, h3, h4⟩ := World.cells?_some h1
              refine ⟨ds, k1, fun j sh d hj hd => ?_⟩
              have hjl : j < r.length := (List.getElem?_eq_some_iff.1 hj).1
              have hc' : cs'[j]? = some (cs'[j]'(by omega)) := List.getElem?_eq_getElem (by omega)
              refine ⟨cs'[j]'(by omega), ?_, k3 j sh d _ hj hd hc'⟩
              rw [← hc', ← h4 j (by omega), ← hc1, Go.Deep.add_add])
            have hfit : DFits (.sl r) (.sl r.length ((List.range len).map F)) := by
              refine .sl r _ (by simp; omega) (fun row hrow => ?_) fun row hrow i sh d hs hd => ?_
              · obtain ⟨i, hi2, rfl⟩ := List.mem_map.1 hrow
                exact (hF i (by have := List.mem_range.1 hi2; omega)).1
              · obtain ⟨i', hi2, rfl⟩ := List.mem_map.1 hrow
                obtain ⟨c, _, hh, _⟩ := (hF i' (by have := List.mem_range.1 hi2; omega)).2 i sh d hs hd
                exact hh
            refine .one hfit ?_ rfl
            rcases Nat.eq_zero_or_pos m with h0 | h0
            · subst h0
              have : len = 0 := by omega
              subst this
              exact .nil _ _
            · have hspot : a.spot = none := by
                obtain ⟨cs', h1, h2⟩ := hi 0 h0
                obtain ⟨_, h3, h4⟩ := World.cells?_some h1
                have h5 := h4 0 (by omega)
                have h6 : cs'[0]? = some (cs'[0]'(by omega)) := List.getElem?_eq_getElem (by omega)
                rw [h6] at h5
                unfold World.cell? at h5
                split at h5
                · split at h5
                  · cases h5
                  · rename_i hsp
                    simpa [Addr.add] using hsp
                · cases h5
              obtain ⟨b, off, sp⟩ := a
              simp only at hspot
              subst hspot
              have hcell : ∀ i j, i < m → j < r.length → ∀ sh d, r[j]? = some sh → (F i)[j]? = some d → ∃ c, w.cell? ⟨b, off + (i * r.length + j), none⟩ = some c ∧ DFits sh d ∧ DRep lim w d c ∧ c.oneCell' = true := fun i j hi' hj sh d hs hd => by
                obtain ⟨c, h1, h2⟩ := (hF i hi').2 j sh d hs hd
                rw [Addr.add_lit] at h1
                exact ⟨c, h1, h2⟩
              have hlen : ((List.range len).map F).length = len := by simp
              have key := DRep.sl (lim := lim) (w := w) r.length ((List.range len).map F) b off m (by rw [hlen]; exact hl) (fun row hrow => by
                obtain ⟨i, hi2, rfl⟩ := List.mem_map.1 hrow
                exact (hF i (by have := List.mem_range.1 hi2; omega)).1) (fun k hk => by
                rw [hlen] at hk
                have hdiv : k / r.length < len := Nat.div_lt_of_lt_mul (by rw [Nat.mul_comm]; exact hk)
                have hmod : k % r.length < r.length := Nat.mod_lt _ hc2
                obtain ⟨c, h1, h2, h3, h4⟩ := hcell (k / r.length) (k % r.length) (by omega) hmod _ _ (List.getElem?_eq_getElem hmod) (List.getElem?_eq_getElem (by rw [(hF _ (by omega)).1]; exact hmod))
                have e : k / r.length * r.length + k % r.length = k := by rw [Nat.mul_comm]; exact Nat.div_add_mod k r.length
                rw [e] at h1
                exact ⟨hlim _ _ _ h1, c, h1, h4⟩) (fun i j row c u h1 h2 h3 => by
                rw [List.getElem?_map] at h1
                obtain ⟨i', hi2, rfl⟩ := Option.map_eq_some_iff.1 h1
                have hil : i < len := by have := (List.getElem?_eq_some_iff.1 hi2).1; simpa using this
                have : i' = i := by rw [List.getElem?_range hil] at hi2; cases hi2; rfl
                subst this
                have hjl : j < r.length := by have := (List.getElem?_eq_some_iff.1 h2).1; rw [(hF _ (by omega)).1] at this; exact this
                obtain ⟨c', k1, k2, k3, k4⟩ := hcell i' j (by omega) hjl _ _ (List.getElem?_eq_getElem hjl) h2
                rw [h3] at k1
                cases k1
                exact k3)
              rw [hlen] at key
              exact key
        · cases h
      · cases h
    · rename_i fs hu
      split at h
      · rename_i r hr
        split at h
        · rename_i hc
          cases h
          have hc' := Nat.eq_of_beq_eq_true hc
          obtain ⟨ys, n', _, hy, hlen, hyl, hf⟩ := DataW.trod_struct hu ht
          have := opens_fields (lim := lim) (w := w) (P := P) cs fs.toList 0 _ hr (by omega) fun i f hi r' hr' hl' => by
            have h1 := hf i f (by simpa using hi)
            have hys : ys[i]? = some (ys[i]'(by have := (List.getElem?_eq_some_iff.1 hi).1; simp at this; omega)) := List.getElem?_eq_getElem _
            exact opens_shape hlim n f.type r' hr' n' _ _ (h1.trans hys)
          simpa using this
        · cases h
      · cases h
    · cases h
end opening
end Go.Abs

/- A law of data, true at all arguments of its shapes, as the row asks it. -/
set_option linter.unusedSimpArgs false
set_option linter.unusedVariables false
set_option linter.unusedSectionVars false
namespace Go.Abs
open Go.RowKit Go.ChangeShapes Go.WideShapes Go.Deep Go.ChangeAt

def limW (w : World) (b : Nat) : Nat := match w.heap[b]? with
  | some (.cells c _ _) => c.size
  | _ => 0
theorem limW_lt (w : World) (b off : Nat) (u : Value) (h : w.cell? ⟨b, off, none⟩ = some u) : off < limW w b := by
  unfold World.cell? at h
  unfold limW
  split at h
  · rename_i c e k hb
    simp only at hb
    rw [hb]
    simp only [Option.isSome_none, Bool.false_eq_true, if_false] at h
    exact (Array.getElem?_eq_some_iff.1 h).1
  · cases h
theorem Opens.top {lim : Nat → Nat} {w : World} {sh : Sh} {c : Value} (h : Opens lim w [sh] [c]) : ∃ d, DFits sh d ∧ DRep lim w d c := by
  obtain ⟨ds, h1, _, h3⟩ := h
  match ds, h1 with
  | [d], _ => exact ⟨d, (h3 0 sh d c rfl rfl rfl).1, (h3 0 sh d c rfl rfl rfl).2.1⟩
section top
variable {H : Type} {enc : TypeId × Value → H} {P : Program} {w : World} {held : Bool} {r : Reach} {b0 : Nat} {t : TypeId} {v : Value} {d : DataW H} {ps : List MemPlace}
end top
/-- A list of rows, each one a thing's. -/
theorem rows_of {α : Type} {row : α → List D} {p : α → Prop} : ∀ {rows : List (List D)}, (∀ r, r ∈ rows → ∃ x, p x ∧ r = row x) → ∃ l : List α, rows = l.map row ∧ ∀ x, x ∈ l → p x
  | [], _ => ⟨[], rfl, fun x h => by cases h⟩
  | r :: rows, h => by
    obtain ⟨x, hx, rfl⟩ := h r List.mem_cons_self
    obtain ⟨l, rfl, hl⟩ := rows_of (rows := rows) (row := row) (p := p) fun r' hr => h r' (List.mem_cons_of_mem _ hr)
    exact ⟨x :: l, rfl, fun y hy => by rcases List.mem_cons.1 hy with rfl | hy; exact hx; exact hl y hy⟩
theorem DFits.sl_inv {row : List Sh} {d : D} (h : DFits (.sl row) d) : ∃ rows, d = .sl row.length rows ∧ rows.length ≤ maxLen ∧ ∀ r, r ∈ rows → r.length = row.length ∧ ∀ (i : Nat) sh d, row[i]? = some sh → r[i]? = some d → DFits sh d := by
  cases h with
  | sl _ rows hn h1 h => exact ⟨rows, rfl, hn, fun r hr => ⟨h1 r hr, h r hr⟩⟩
theorem DFits.i_inv {d : D} (h : DFits (.i .i64) d) : ∃ n : Int, d = .ex (.int .i64 n) ∧ -9223372036854775808 ≤ n ∧ n ≤ 9223372036854775807 := by
  cases h with
  | i _ n hw => simp only [Lit.wf, Bool.and_eq_true, decide_eq_true_eq] at hw; exact ⟨n, rfl, hw⟩
theorem DFits.b_inv {d : D} (h : DFits .b d) : ∃ x : Bool, d = .ex (.bool x) := by cases h with | b x => exact ⟨x, rfl⟩
section
variable {H : Type} {enc : TypeId × Value → H} {P : Program}
theorem post_of_below {f : Func} {s : ChangeSpec} {apart fresh handsOn again : Bool} {W W' : World} {args : Array Value} {v : Value} {ds gs : List (DataW H)} {before pa pv : List MemPlace}
    (hW : DataW.Whole enc P f.params.toList s.vars apart W args.toList ds gs before)
    (hres : ∀ (b : Nat) (sp : Nat → Bool) (hd : Bool), DataW.TrodAll enc P W' b sp hd f.resultTypes.toList (v.resultList f.resultTypes.size) (s.fn H (ds ++ gs)).results [])
    (hargs : ∀ sp : Nat → Bool, (∀ p ∈ before, sp p.block = true) → DataW.TrodAll enc P W' 0 sp true f.params.toList args.toList (s.fn H (ds ++ gs)).args pa)
    (hvars : ∀ sp : Nat → Bool, (∀ p ∈ before, sp p.block = true) → DataW.TrodVars enc P W' sp s.vars (s.fn H (ds ++ gs)).vars pv)
    (hps : before = pa ++ pv) (hb : Below W.heap.size W W')
    (hok : ∀ (j : Nat) (t : TypeId) (r : Value), f.resultTypes[j]? = some t → (v.resultList f.resultTypes.size)[j]? = some r → Value.okWide P W' .any 0 t r) :
    s.post enc P f apart fresh handsOn again W args v W' := by
  have hlt : ∀ p ∈ before, p.block < W.heap.size := fun p hp => hW.lt p hp
  have hold : ∀ p ∈ before, (fun b => decide (b < W.heap.size)) p.block = true := fun p hp => by simpa using hlt p hp
  refine ⟨ds, gs, before, [], pa, pv, hW, hres _ _ _, hargs _ hold, hvars _ hold, World.keptBut_mono (fun p hp => ⟨hp, ?_⟩) (hb.frame (· ∈ before)), fun _ => ?_⟩
  · rw [hps, List.mem_append] at hp
    exact Or.inr hp
  · obtain ⟨_, _, _, _, _, hz, hn⟩ := hW
    refine ⟨hok, _, _, ([] ++ pa) ++ pv, ⟨[] ++ pa, pv, trodAll_append (hargs _ (fun _ _ => rfl)) (hres _ _ _), hvars _ (fun _ _ => rfl), rfl, ?_, ?_⟩, ?_⟩
    · intro b off hp
      have hin : MemPlace.cell b off ∈ before := by rw [hps]; simpa using hp
      rw [hb.frozen (hlt _ hin)]
      exact hz b off hin
    · intro ha
      have := hn ha
      rw [hps] at this
      simpa using this
    · intro p hp _
      rw [hps]
      simpa using hp
end
/-- The arguments stand as they stood. -/
theorem trodAll_stays {H : Type} {enc : TypeId × Value → H} {P : Program} (hl : laidOutB P = true) {W W' : World} (hb : Below W.heap.size W W') (sp : Nat → Bool) : ∀ {ts : List TypeId} {vs : List Value} {ds : List (DataW H)} {ps : List MemPlace},
    (ts.all fun t => P.readableRec t && decide (t < P.types.size)) = true → DataW.TrodAll enc P W 0 (fun _ => true) true ts vs ds ps → (∀ x ∈ ps, x.block < W.heap.size) → (∀ x ∈ ps, sp x.block = true) → DataW.TrodAll enc P W' 0 sp true ts vs ds ps
  | [], [], [], _, _, h, _, _ => h
  | t :: ts, v :: vs, d :: ds, ps, hr, h, hlt, hsp => by
    obtain ⟨p, q, h1, h2, rfl⟩ := h
    simp only [List.all_cons, Bool.and_eq_true, decide_eq_true_eq] at hr
    refine ⟨p, q, ?_, ?_, rfl⟩
    · exact WideElems.Trod_stays hl hr.1.1 hr.1.2 h1 (fun x hx => hb.same (hlt x (List.mem_append_left _ hx))) (fun x hx => hsp x (List.mem_append_left _ hx))
    · exact trodAll_stays hl hb sp (by simpa using hr.2) h2 (fun x hx => hlt x (List.mem_append_right _ hx)) (fun x hx => hsp x (List.mem_append_right _ hx))
end Go.Abs

/- Typed arguments: the readings of structs, strings and slices of them. -/
set_option linter.unusedSimpArgs false
set_option linter.unusedVariables false
set_option linter.unusedSectionVars false
namespace Go.Abs
open Go.RowKit Go.ChangeShapes Go.WideShapes Go.Deep Go.ChangeAt
theorem DFits.s_inv' {d : D} (h : DFits .s d) : ∃ l : List UInt8, d = .ex (.string ⟨l.toArray⟩) ∧ l.length ≤ maxLen := by cases h with | s l h => exact ⟨l, rfl, h⟩
theorem rows_of' {α : Type} {row : α → List D} {p : α → Prop} {rows : List (List D)} (h : ∀ r, r ∈ rows → ∃ x, r = row x ∧ p x) : ∃ l : List α, rows = l.map row ∧ ∀ x, x ∈ l → p x :=
  rows_of fun r hr => let ⟨x, h1, h2⟩ := h r hr; ⟨x, h2, h1⟩
theorem DFits.sl_of {sh : List Sh} {d : D} {α : Type} {row : α → List D} {p : α → Prop} (h : DFits (.sl sh) d)
    (hr : ∀ r : List D, r.length = sh.length → (∀ (i : Nat) h d, sh[i]? = some h → r[i]? = some d → DFits h d) → ∃ x, r = row x ∧ p x) :
    ∃ l : List α, d = .sl sh.length (l.map row) ∧ l.length ≤ maxLen ∧ ∀ z, z ∈ l → p z := by
  obtain ⟨rows, rfl, hn, h2⟩ := h.sl_inv
  obtain ⟨l, rfl, hl⟩ := rows_of' (row := row) (p := p) fun r hrm => hr r (h2 r hrm).1 (h2 r hrm).2
  exact ⟨l, rfl, by simpa using hn, hl⟩
section top
variable {H : Type} {enc : TypeId × Value → H} {P : Program} {w : World} {held : Bool} {r : Reach} {b0 : Nat} {t : TypeId} {v : Value} {d : DataW H} {ps : List MemPlace}
theorem top_agg {n : Nat} {shs : List Sh} {fs : Array Field} (hs : shape P n t = some shs) (ht : P.underlying t = some (.struct fs)) (hv : Value.okWide P w r b0 t v) (h : DataW.Trod enc P w 0 (fun _ => true) held t v d ps) :
    ∃ x : List D, x.length = shs.length ∧ (∀ (i : Nat) sh d, shs[i]? = some sh → x[i]? = some d → DFits sh d) ∧ DRep (limW w) w (.agg x) v := by
  obtain ⟨cs, rfl, _⟩ := okWide_struct ht hv
  obtain ⟨fuel, hf⟩ := h
  obtain ⟨ds, h1, h2, h3⟩ := opens_shape (limW_lt w) n t _ hs fuel _ _ hf
  have h2' : cs.size = shs.length := by simpa [Value.cells] using h2
  refine ⟨ds, h1, fun i sh d hi hd => ?_, .agg ds cs (by omega) (fun i u hu => ?_) fun i c u hc hu => ?_⟩
  · have hil : i < cs.size := by have := (List.getElem?_eq_some_iff.1 hi).1; omega
    exact (h3 i sh d cs[i] hi hd (by simp [Value.cells, hil])).1
  · have hil : i < shs.length := by have := (Array.getElem?_eq_some_iff.1 hu).1; omega
    exact (h3 i shs[i] (ds[i]'(by omega)) u (List.getElem?_eq_getElem hil) (List.getElem?_eq_getElem (by omega)) (by simpa [Value.cells] using hu)).2.2
  · have hil : i < shs.length := by have := (Array.getElem?_eq_some_iff.1 hu).1; omega
    exact (h3 i shs[i] c u (List.getElem?_eq_getElem hil) hc (by simpa [Value.cells] using hu)).2.1
end top
end Go.Abs
