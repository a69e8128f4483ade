import Derived.Test.YtlgoaojmancfpaaDoorR6
set_option linter.unusedSimpArgs false
set_option linter.unusedVariables false
namespace Go.Proofs.YtlgoaojmancfpaaDoor
open Go.RowKit Go.Abs
theorem Reject.eq_refl (r : Reject) : eqVs r.vals r.vals = true := by simp [Reject.vals, eqVs, eqV]
/-! n records of 45 bytes each, from the ith on -/
def okRs (b : List UInt8) : Nat → Nat → List Record
  | _, 0 => []
  | i, n + 1 => if (unpackF (cut b (i * 45) 45)).2 = 0 then (unpackF (cut b (i * 45) 45)).1 :: okRs b (i + 1) n else okRs b (i + 1) n
def noRs (b : List UInt8) : Nat → Nat → List Reject
  | _, 0 => []
  | i, n + 1 => if (unpackF (cut b (i * 45) 45)).2 = 0 then noRs b (i + 1) n else ⟨0, 0, i, (unpackF (cut b (i * 45) 45)).2⟩ :: noRs b (i + 1) n
theorem okRs_len (b : List UInt8) : ∀ n i : Nat, (okRs b i n).length ≤ n
  | 0, i => by simp [okRs]
  | n + 1, i => by
    have := okRs_len b n (i + 1)
    unfold okRs
    split
    · simp; omega
    · omega
theorem noRs_len (b : List UInt8) : ∀ n i : Nat, (noRs b i n).length ≤ n
  | 0, i => by simp [noRs]
  | n + 1, i => by
    have := noRs_len b n (i + 1)
    unfold noRs
    split
    · omega
    · simp; omega
def allF (b : List UInt8) : List Record × List Reject × Int :=
  if b.length % 45 ≠ 0 then ([], [], 2) else if b.length / 45 > 4096 then ([], [], 5) else (okRs b 0 (b.length / 45), noRs b 0 (b.length / 45), 0)
theorem cut_len (b : List UInt8) {i : Nat} (h : i < b.length / 45) : (cut b (i * 45) 45).length = 45 := by
  simp [cut]; omega
theorem len_mod (b : List UInt8) : (Int.tmod (b.length : Int) 45 != 0) = decide (b.length % 45 ≠ 0) := by
  rw [Bool.eq_iff_iff, decide_eq_true_iff, tmod_nn (by omega)]
  simp; omega
theorem len_div (b : List UInt8) : Int.tdiv (b.length : Int) 45 = ((b.length / 45 : Nat) : Int) := by
  rw [tdiv_nn (by omega)]; omega
theorem p_rAll11 (b : List UInt8) (hb : b.length ≤ 100000) : f_billingref11_All b = some (allF b) := by
  unfold f_billingref11_All allF
  rw [len_mod, len_div, ck_pos (by decide)]
  by_cases h1 : b.length % 45 ≠ 0
  · rw [if_pos (by simpa using h1), if_pos h1]
  · rw [if_neg (by simpa using h1), if_neg h1, ck_pos (by omega)]
    by_cases h2 : b.length / 45 > 4096
    · rw [if_pos (by simp; omega), if_pos h2]
    · rw [if_neg (by simp; omega), if_neg h2]
      have := loop_spec (step := fun st => f_billingref11_All_l1 b st.1 st.2.1 st.2.2)
        (fun st : List Record × List Reject × Int => some (st.1 ++ okRs b st.2.2.toNat (b.length / 45 - st.2.2.toNat), st.2.1 ++ noRs b st.2.2.toNat (b.length / 45 - st.2.2.toNat), (0 : Int)))
        (fun st => 0 ≤ st.2.2 ∧ st.2.2 ≤ ((b.length / 45 : Nat) : Int) ∧ (st.1.length : Int) ≤ st.2.2 ∧ (st.2.1.length : Int) ≤ st.2.2) (fun st => (((b.length / 45 : Nat) : Int) - st.2.2).toNat) (fun st hI => by
          obtain ⟨out, no, i⟩ := st
          obtain ⟨i0, i1, i2, i3⟩ := hI
          simp only at i0 i1 i2 i3 ⊢
          unfold f_billingref11_All_l1
          rw [len_div, ck_pos (by omega)]
          by_cases hi : i < ((b.length / 45 : Nat) : Int)
          · rw [if_pos (by simpa using hi), ck_pos (by omega), ck_pos (by omega), ck_pos (by omega), ck_pos (by omega)]
            rw [show (Int.toNat (i * 45)) = i.toNat * 45 by omega, show (Int.toNat ((i + 1) * 45)) = i.toNat * 45 + 45 by omega, slice_cut b _ _ (by omega), show i.toNat * 45 + 45 - i.toNat * 45 = 45 by omega]
            rw [p_rDecode11 _ (by rw [cut_len b (by omega)]; omega), Option.bind_some]
            rw [show b.length / 45 - i.toNat = (b.length / 45 - (i.toNat + 1)) + 1 by omega]
            by_cases hd : (unpackF (cut b (i.toNat * 45) 45)).2 = 0
            · rw [if_pos (by simp [hd]), ck_pos (by simp; omega), ck_pos (by omega)]
              refine .inr ⟨_, rfl, ⟨by simp only; omega, by simp only; omega, by simp; omega, by simp only; omega⟩, by simp only; omega, ?_⟩
              simp only
              rw [show (i + 1).toNat = i.toNat + 1 from by omega]
              simp [okRs, noRs, hd]
            · rw [if_neg (by simpa using hd), ck_pos (by simp; omega), ck_pos (by omega)]
              refine .inr ⟨_, rfl, ⟨by simp only; omega, by simp only; omega, by simp only; omega, by simp; omega⟩, by simp only; omega, ?_⟩
              simp only
              rw [show (i + 1).toNat = i.toNat + 1 from by omega]
              simp [okRs, noRs, hd]
              omega
          · rw [if_neg (by simpa using hi)]
            refine .inl ⟨_, rfl, ?_⟩
            rw [show b.length / 45 - i.toNat = 0 by omega]
            simp [okRs, noRs]) (s := ([], [], 0)) ⟨by simp, by simp; omega, by simp, by simp⟩ (by simp only; omega)
      rw [this]
      simp
theorem p_All11 (b : List UInt8) (hb : b.length ≤ 100000) : f_packed_All b = some (allF b) := by
  unfold f_packed_All allF
  rw [len_mod, len_div, ck_pos (by decide)]
  by_cases h1 : b.length % 45 ≠ 0
  · rw [if_pos (by simpa using h1), if_pos h1]
  · rw [if_neg (by simpa using h1), if_neg h1, ck_pos (by omega)]
    by_cases h2 : b.length / 45 > 4096
    · rw [if_pos (by simp; omega), if_pos h2]
    · rw [if_neg (by simp; omega), if_neg h2, ck_pos (by omega)]
      have := loop_spec (step := fun st => f_packed_All_l1 b st.1 st.2.1 st.2.2.1 st.2.2.2.1 st.2.2.2.2)
        (fun st : List Record × List Reject × Int × List UInt8 × Bool => some (st.1 ++ okRs b st.2.2.1.toNat (b.length / 45 - st.2.2.1.toNat), st.2.1 ++ noRs b st.2.2.1.toNat (b.length / 45 - st.2.2.1.toNat), (0 : Int)))
        (fun st => (0 ≤ st.2.2.1 ∧ st.2.2.1 ≤ ((b.length / 45 : Nat) : Int) ∧ (st.1.length : Int) ≤ st.2.2.1 ∧ (st.2.1.length : Int) ≤ st.2.2.1) ∧ st.2.2.2.1 = b.drop (st.2.2.1.toNat * 45) ∧ st.2.2.2.2 = false) (fun st => (((b.length / 45 : Nat) : Int) - st.2.2.1).toNat) (fun st hI => by
          obtain ⟨out, no, i, c, bad⟩ := st
          obtain ⟨⟨i0, i1, i2, i3⟩, e1, e2⟩ := hI
          simp only at i0 i1 i2 i3 e1 e2 ⊢
          subst e1 e2
          unfold f_packed_All_l1
          rw [len_div]
          by_cases hi : i < ((b.length / 45 : Nat) : Int)
          · rw [if_pos (by simpa using hi), show (45 : Int) = ((45 : Nat) : Int) from rfl, p_field _ _ 45 (by rw [List.length_drop]; omega), Option.bind_some]
            simp only [drop_cut]
            rw [p_Decode11 _ (by rw [cut_len b (by omega)]; omega), Option.bind_some]
            rw [show b.length / 45 - i.toNat = (b.length / 45 - (i.toNat + 1)) + 1 by omega]
            by_cases hd : (unpackF (cut b (i.toNat * 45) 45)).2 = 0
            · rw [if_neg (by simp [hd]), ck_pos (by simp; omega), ck_pos (by omega)]
              refine .inr ⟨_, rfl, ⟨⟨by simp only; omega, by simp only; omega, by simp; omega, by simp only; omega⟩, by simp only [List.drop_drop]; congr 1; omega, rfl⟩, by simp only; omega, ?_⟩
              simp only
              rw [show (i + 1).toNat = i.toNat + 1 from by omega]
              simp [okRs, noRs, hd]
            · rw [if_pos (by simpa using hd), ck_pos (by simp; omega), ck_pos (by omega)]
              refine .inr ⟨_, rfl, ⟨⟨by simp only; omega, by simp only; omega, by simp only; omega, by simp; omega⟩, by simp only [List.drop_drop]; congr 1; omega, rfl⟩, by simp only; omega, ?_⟩
              simp only
              rw [show (i + 1).toNat = i.toNat + 1 from by omega]
              simp [okRs, noRs, hd]
              omega
          · rw [if_neg (by simpa using hi)]
            refine .inl ⟨_, rfl, ?_⟩
            rw [show b.length / 45 - i.toNat = 0 by omega]
            simp [okRs, noRs]) (s := ([], [], 0, b, false)) ⟨⟨by simp, by simp; omega, by simp, by simp⟩, by simp, rfl⟩ (by simp only; omega)
      rw [this]
      simp
theorem p_Same (a : List Record) (hl : a.length ≤ 100000) : f_billingref09_Same a a = some true := by
  unfold f_billingref09_Same
  rw [if_neg (by simp), loop_all a (fun _ => true) true true (by omega) (fun i h0 h1 => ?_) (fun i hi => ?_)]
  · simp
  · unfold f_billingref09_Same_l1
    rw [if_pos (by simpa using h1), ck_pos (by omega), ck_pos (by omega), if_neg (by rw [Record.eq_refl]; simp), ck_pos (by omega)]
    rfl
  · unfold f_billingref09_Same_l1
    rw [if_neg (by simp; omega)]
theorem p_SameRejects (a : List Reject) (hl : a.length ≤ 100000) : f_billingref09_SameRejects a a = some true := by
  unfold f_billingref09_SameRejects
  rw [if_neg (by simp), loop_all a (fun _ => true) true true (by omega) (fun i h0 h1 => ?_) (fun i hi => ?_)]
  · simp
  · unfold f_billingref09_SameRejects_l1
    rw [if_pos (by simpa using h1), ck_pos (by omega), ck_pos (by omega), if_neg (by rw [Reject.eq_refl]; simp), ck_pos (by omega)]
    rfl
  · unfold f_billingref09_SameRejects_l1
    rw [if_neg (by simp; omega)]
theorem all_true (b : List UInt8) : f_billinglaw11_PackedAll b = some true := by
  unfold f_billinglaw11_PackedAll
  rw [awake_true]
  by_cases h : (b.length : Int) > 3000
  · rw [if_pos (by simpa using h)]; rfl
  · rw [if_neg (by simpa using h), p_All11 b (by omega), p_rAll11 b (by omega)]
    simp only [Option.bind_some]
    have hl : (allF b).1.length ≤ 100000 ∧ (allF b).2.1.length ≤ 100000 := by
      unfold allF
      split
      · simp
      · split
        · simp
        · have h1 := okRs_len b (b.length / 45) 0
          have h2 := noRs_len b (b.length / 45) 0
          exact ⟨by simp only; omega, by simp only; omega⟩
    rw [p_Same _ hl.1, p_SameRejects _ hl.2]
    simp [gcall_mk]
end Go.Proofs.YtlgoaojmancfpaaDoor
