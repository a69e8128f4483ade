import Derived.Test.YtpdanklncjopoaaLF
set_option linter.unusedSimpArgs false
set_option linter.unusedVariables false
namespace Go.Proofs.Ytpdanklncjopoaa
open Go.RowKit Go.Abs
theorem loop_count {R : Type} {step : Int → Option (Int ⊕ R)} (n : Nat) (hn : n < 18446744073709551616) (Q : R → Prop) (h : ∀ i, 0 ≤ i → i ≤ (n : Int) → (∃ r, step i = some (.inr r) ∧ Q r) ∨ (step i = some (.inl (i + 1)) ∧ i < (n : Int))) : ∃ r, loop step 0 = some r ∧ Q r := by
  refine loop_post Q (fun i : Int => 0 ≤ i ∧ i ≤ (n : Int)) (fun i => ((n : Int) - i).toNat) (fun i hI => ?_) ⟨by omega, by omega⟩ (by omega)
  rcases h i hI.1 hI.2 with h | ⟨h1, h2⟩
  · exact .inl h
  · exact .inr ⟨i + 1, h1, ⟨by omega, by omega⟩, by omega⟩
theorem usages_tot (l : List Usage) : ∃ b, f_billinglaw54_usages l = some b ∧ (b = true → (l.length : Int) ≤ 24) := by
  unfold f_billinglaw54_usages
  refine loop_count 25 (by omega) _ (fun i h0 h1 => ?_)
  unfold f_billinglaw54_usages_l1 f_billinglaw54_usages_j1
  by_cases h : i < (l.length : Int) ∧ i ≤ 24
  · rw [if_pos (by simp [h]), ck_pos (by omega), ck_pos (by omega)]
    split
    · exact .inl ⟨_, rfl, by simp⟩
    · rw [ck_pos (by omega)]
      exact .inr ⟨rfl, by omega⟩
  · rw [if_neg (by simp; omega)]
    exact .inl ⟨_, rfl, by simp⟩
theorem amount_tot (n : Int) : ∃ b, f_billingref54_amount n = some b ∧ (b = true ↔ -1125899906842624 ≤ n ∧ n ≤ 1125899906842624) := by
  unfold f_billingref54_amount f_billingref01_Valid
  exact ⟨_, rfl, by simp⟩
theorem gcall_tot {b : Bool} {n : Int} : ∃ c, gcall b (f_billingref54_amount n) = some c := by
  obtain ⟨c, hc, _⟩ := amount_tot n
  unfold gcall
  split
  · exact ⟨c, hc⟩
  · exact ⟨_, rfl⟩
theorem Rated_l2_tot (v0 : List Rated) (i : Int) (h0 : 0 ≤ i) (h1 : i < 1000000000) (hl : ((nth v0 i.toNat).given.length : Int) ≤ 24) : 
    ∃ r, loop (fun s => f_billingref54_Rated_l2 v0 i s) 0 = some r ∧ (r = Sum.inr false ∨ r = Sum.inl (i + 1)) := by
  refine loop_count 24 (by omega) _ (fun k hk hk2 => ?_)
  unfold f_billingref54_Rated_l2
  by_cases h : k < ((nth v0 i.toNat).given.length : Int)
  · rw [if_pos (by simpa using h), ck_pos (by omega)]
    obtain ⟨b, hb, hb2⟩ := amount_tot (nth ((nth v0 i.toNat).given) k.toNat).amount
    rw [hb]
    simp only [Option.bind_some]
    split
    · exact .inl ⟨_, rfl, by simp⟩
    · rw [ck_pos (by omega)]
      exact .inr ⟨rfl, by omega⟩
  · rw [if_neg (by simpa using h), ck_pos (by omega)]
    exact .inl ⟨_, rfl, by simp⟩
theorem Rated_l3_tot (v0 : List Rated) (i : Int) (h0 : 0 ≤ i) (h1 : i < 1000000000) (hl : ((nth v0 i.toNat).given.length : Int) ≤ 24) (hs : ((nth v0 i.toNat).segments.length : Int) ≤ 24) : 
    ∃ r, loop (fun s => f_billingref54_Rated_l3 v0 i s) 0 = some r ∧ (r = Sum.inr false ∨ r = Sum.inl (i + 1)) := by
  refine loop_count 24 (by omega) _ (fun k hk hk2 => ?_)
  unfold f_billingref54_Rated_l3 f_billingref54_Rated_j2
  obtain ⟨r, hr, hr2⟩ := Rated_l2_tot v0 i h0 h1 hl
  by_cases h : k < ((nth v0 i.toNat).segments.length : Int)
  · rw [if_pos (by simpa using h), ck_pos (by omega), ck_pos (by omega), ck_pos (by omega)]
    obtain ⟨b, hb, hb2⟩ := amount_tot (nth ((nth v0 i.toNat).segments) k.toNat).amount
    obtain ⟨c, hc⟩ := gcall_tot (b := !(decide ((nth (nth v0 i.toNat).segments k.toNat).units < 0) || decide ((nth (nth v0 i.toNat).segments k.toNat).units > 1099511627776))) (n := (nth ((nth v0 i.toNat).segments) k.toNat).amount)
    rw [hc]
    simp only [Option.bind_some]
    split
    · exact .inl ⟨_, rfl, by simp⟩
    · rw [ck_pos (by omega)]
      exact .inr ⟨rfl, by omega⟩
  · rw [if_neg (by simpa using h), hr]
    exact .inl ⟨_, rfl, hr2⟩
theorem Rated_l4_tot (v0 : List Rated) (i : Int) (h0 : 0 ≤ i) (h1 : i < 1000000000) (hl : ((nth v0 i.toNat).given.length : Int) ≤ 24) (hs : ((nth v0 i.toNat).segments.length : Int) ≤ 24) (ht : ((nth v0 i.toNat).takes.length : Int) ≤ 24) : 
    ∃ r, loop (fun s => f_billingref54_Rated_l4 v0 i s) 0 = some r ∧ (r = Sum.inr false ∨ r = Sum.inl (i + 1)) := by
  refine loop_count 24 (by omega) _ (fun k hk hk2 => ?_)
  unfold f_billingref54_Rated_l4 f_billingref54_Rated_j1
  obtain ⟨r, hr, hr2⟩ := Rated_l3_tot v0 i h0 h1 hl hs
  by_cases h : k < ((nth v0 i.toNat).takes.length : Int)
  · rw [if_pos (by simpa using h), ck_pos (by omega), ck_pos (by omega)]
    split
    · exact .inl ⟨_, rfl, by simp⟩
    · rw [ck_pos (by omega)]
      exact .inr ⟨rfl, by omega⟩
  · rw [if_neg (by simpa using h), hr]
    exact .inl ⟨_, rfl, hr2⟩
theorem Rated_tot (v0 : List Rated) : ∃ b, f_billingref54_Rated v0 24 = some b ∧ (b = true → (v0.length : Int) ≤ 24) := by
  unfold f_billingref54_Rated
  split
  · exact ⟨_, rfl, by simp⟩
  · rename_i hlen
    simp at hlen
    obtain ⟨b, hb⟩ : ∃ b, loop (fun s => f_billingref54_Rated_l1 v0 24 s) 0 = some b ∧ True := by
      refine loop_count 24 (by omega) _ (fun i h0 h1 => ?_)
      unfold f_billingref54_Rated_l1
      by_cases h : i < (v0.length : Int)
      · rw [if_pos (by simpa using h), ck_pos (by omega)]
        generalize hg : ((decide (((nth v0 (Int.toNat i)).takes.length : Int) > 24) || decide (((nth v0 (Int.toNat i)).segments.length : Int) > 24)) || decide (((nth v0 (Int.toNat i)).given.length : Int) > 24)) = g
        obtain ⟨y1, e1⟩ := gcall_tot (b := !g) (n := (nth v0 i.toNat).net)
        rw [e1, Option.bind_some]
        obtain ⟨y2, e2⟩ := gcall_tot (b := !(g || !y1)) (n := (nth v0 i.toNat).paid)
        rw [e2, Option.bind_some]
        obtain ⟨y3, e3⟩ := gcall_tot (b := !((g || !y1) || !y2)) (n := (nth v0 i.toNat).owed)
        rw [e3, Option.bind_some]
        obtain ⟨y4, e4⟩ := gcall_tot (b := !(((g || !y1) || !y2) || !y3)) (n := (nth v0 i.toNat).gross)
        rw [e4, Option.bind_some]
        obtain ⟨y5, e5⟩ := gcall_tot (b := !((((g || !y1) || !y2) || !y3) || !y4)) (n := (nth v0 i.toNat).setup)
        rw [e5, Option.bind_some]
        split
        · exact .inl ⟨_, rfl, trivial⟩
        · rename_i h2
          have hb : ¬ ((nth v0 i.toNat).takes.length : Int) > 24 ∧ ¬ ((nth v0 i.toNat).segments.length : Int) > 24 ∧ ¬ ((nth v0 i.toNat).given.length : Int) > 24 := by
            cases g with
            | true => simp at h2
            | false =>
              simp at hg
              omega
          obtain ⟨r, hr, hr2⟩ := Rated_l4_tot v0 i h0 (by omega) (by omega) (by omega) (by omega)
          rw [hr]
          rcases hr2 with rfl | rfl
          · exact .inl ⟨_, rfl, trivial⟩
          · exact .inr ⟨rfl, by omega⟩
      · rw [if_neg (by simpa using h)]
        exact .inl ⟨_, rfl, trivial⟩
    exact ⟨b, hb.1, fun _ => by omega⟩
theorem usagesF_len (us ru : List Usage) : (usagesF us ru).length ≤ us.length + ru.length := by
  have h1 := flat_take_len (leakU_len us ru) (keysU us ru) (keysU us ru).length
  have h2 := keysU_len us ru
  rw [List.take_length] at h1
  unfold usagesF; omega
theorem invF_len (rs : List Rated) (ls : List Line) : (invF rs ls).length ≤ ls.length + rs.length := by
  have h1 := flat_take_len (leakS_len rs ls) (keysI rs ls) (keysI rs ls).length
  have h2 := keysI_len rs ls
  rw [List.take_length] at h1
  unfold invF; omega
theorem usages_true (us : List Usage) (rs : List Rated) : f_billinglaw54_AssureUsages us rs = some true := by
  unfold f_billinglaw54_AssureUsages
  obtain ⟨a, ha, ha2⟩ := usages_tot us
  obtain ⟨b, hb, hb2⟩ := Rated_tot rs
  rw [ha, Option.bind_some]
  cases a with
  | false => simp [gcall, x_awake]
  | true =>
    cases b with
    | false => simp [gcall, hb, x_awake]
    | true =>
      have h1 := ha2 rfl
      have h2 := hb2 rfl
      simp only [gcall, hb, Bool.not_not, if_true, Option.bind_some, Bool.not_true, Bool.false_eq_true, if_false, List.nil_append, List.length_nil]
      rw [ck_pos (by omega), ck_pos (by omega)]
      unfold x_Usages x_rUsages
      rw [ck_pos (by omega)]
      have hu := usagesF_len us (rs.map Rated.usage)
      simp only [Option.bind_some, x_Same]
      rw [ck_pos (by rw [List.length_map] at hu; omega)]
      simp [sameL_refl, x_awake]
theorem invoices_true (rs : List Rated) (ls : List Line) : f_billinglaw54_AssureInvoices rs ls = some true := by
  unfold f_billinglaw54_AssureInvoices
  obtain ⟨b, hb, hb2⟩ := Rated_tot rs
  rw [hb, Option.bind_some]
  cases b with
  | false => simp [x_awake]
  | true =>
    have h2 := hb2 rfl
    split
    · rfl
    · rename_i hl
      simp at hl
      obtain ⟨r, hr, hr2⟩ : ∃ r, loop (fun s => f_billinglaw54_AssureInvoices_l1 rs ls s) 0 = some r ∧ r = true := by
        refine loop_count 24 (by omega) _ (fun i h0 h1 => ?_)
        unfold f_billinglaw54_AssureInvoices_l1
        by_cases h : i < (ls.length : Int)
        · rw [if_pos (by simpa using h), ck_pos (by omega), ck_pos (by omega)]
          split
          · exact .inl ⟨_, rfl, rfl⟩
          · rw [ck_pos (by omega)]
            exact .inr ⟨rfl, by omega⟩
        · rw [if_neg (by simpa using h)]
          unfold f_billinglaw54_AssureInvoices_j1
          refine .inl ⟨true, ?_, rfl⟩
          simp only [List.nil_append, List.length_nil]
          rw [ck_pos (by omega), ck_pos (by omega)]
          unfold x_Invoices x_rInvoices
          rw [ck_pos (by omega)]
          have hu := invF_len rs ls
          simp only [Option.bind_some, x_Same]
          rw [ck_pos (by omega)]
          simp [sameL_refl, x_awake, gcall]
      rw [hr, hr2]
end Go.Proofs.Ytpdanklncjopoaa
