import Derived.Test.YtpdanklncjopoaaF4
set_option linter.unusedSimpArgs false
set_option linter.unusedVariables false
namespace Go.Proofs.Ytpdanklncjopoaa
open Go.RowKit Go.Abs
def diffOf (a b : List (Int × Int)) (x : Int) : List Leak := if (alook a x).getD 0 = (alook b x).getD 0 then [] else [⟨6, x, (alook a x).getD 0, (alook b x).getD 0⟩]
theorem diffOf_len (a b : List (Int × Int)) (x : Int) : (diffOf a b x).length ≤ 1 := by unfold diffOf; split <;> simp
def diffs (a b : List (Int × Int)) (ks : List Int) : List Leak := (ks.map (diffOf a b)).flatten
theorem diffs_cons (a b : List (Int × Int)) (k : Int) (ks : List Int) : diffs a b (k :: ks) = diffOf a b k ++ diffs a b ks := rfl
theorem diffs_len (a b : List (Int × Int)) : ∀ ks : List Int, (diffs a b ks).length ≤ ks.length
  | [] => by simp [diffs]
  | k :: ks => by
    rw [diffs_cons]
    have := diffs_len a b ks
    have := diffOf_len a b k
    simp; omega
theorem p_differing {a b : List (Int × Int)} {ks : List Int} (hk : ks.length ≤ 100000) : g_assure_differing 6 ks a b = some (diffs a b ks) := by
  unfold g_assure_differing
  have := loop_spec (step := fun s => g_assure_differing_l1 6 ks a b s.1 s.2) (fun s : List Leak × Int => some (s.1 ++ diffs a b (ks.drop s.2.toNat))) (fun s => 0 ≤ s.2 ∧ s.2 ≤ (ks.length : Int) ∧ (s.1.length : Int) ≤ s.2) (fun s => ((ks.length : Int) - s.2).toNat) (fun s hI => by
    obtain ⟨o, i⟩ := s
    obtain ⟨i0, i1, i2⟩ := hI
    simp only at i0 i1 i2 ⊢
    unfold g_assure_differing_l1
    by_cases hlt : i < (ks.length : Int)
    · rw [if_pos (by simpa using hlt), ck_pos (by omega), drop_nth (show i.toNat < ks.length by omega), diffs_cons]
      unfold diffOf
      by_cases he : (alook a (nth ks i.toNat)).getD 0 = (alook b (nth ks i.toNat)).getD 0
      · rw [if_neg (by simpa using he), if_pos he, ck_pos (by omega)]
        refine .inr ⟨_, rfl, ⟨by simp only; omega, by simp only; omega, by simp only; omega⟩, by simp only; omega, ?_⟩
        simp only
        rw [show (i + 1).toNat = i.toNat + 1 by omega]; rfl
      · rw [if_pos (by simpa using he), if_neg he, ck_pos (by simp; omega), ck_pos (by omega)]
        refine .inr ⟨_, rfl, ⟨by simp only; omega, by simp only; omega, by simp; omega⟩, by simp only; omega, ?_⟩
        simp only
        rw [show (i + 1).toNat = i.toNat + 1 by omega, List.append_assoc]
    · rw [if_neg (by simpa using hlt), List.drop_of_length_le (by omega)]
      exact .inl ⟨_, rfl, by simp [diffs]⟩) (s := ([], 0)) ⟨by simp, by simp, by simp⟩ (by simp only; omega)
  rw [this]; simp
theorem acct_inj {n m : Int} (hn : 1 ≤ n ∧ n ≤ 9999) (hm : 1 ≤ m ∧ m ≤ 9999) (h : acct n = acct m) : n = m := by
  have h' := digs_inj (n := n.toNat) (m := m.toNat) (Nat.lt_of_lt_of_le (show n.toNat < 10000 by omega) (by decide)) (Nat.lt_of_lt_of_le (show m.toNat < 10000 by omega) (by decide)) (List.append_cancel_left h)
  omega
/-- The names of the accounts of the invoices. -/
def Names (inv : List Invoice) (nm : List (List UInt8 × Int)) : Prop :=
  (∀ x, x ∈ inv → alook nm (acct x.account) = some x.account) ∧ ∀ s n, alook nm s = some n → ∃ x, x ∈ inv ∧ x.account = n ∧ s = acct n
/-- What is booked so far. -/
def Booked (inv : List Invoice) (f : List UInt8 → Int) (bk : List (Int × Int)) : Prop := ∀ x, x ∈ inv → (alook bk x.account).getD 0 = f (acct x.account)
theorem p_posts {inv : List Invoice} {nm : List (List UInt8 × Int)} {ents : List Entry} (hi : OkI inv) (he : OkE ents) (hn : Names inv nm) {f : List UInt8 → Int} {i acc : Int} {bk : List (Int × Int)} (hb : Booked inv f bk) (h0 : 0 ≤ i) (h1 : i < (ents.length : Int))
    (hacc : -1125899906842624 * (24 * i) ≤ acc ∧ acc ≤ 1125899906842624 * (24 * i)) (hf : ∀ s, -1125899906842624 * (24 * i) ≤ f s ∧ f s ≤ 1125899906842624 * (24 * i)) :
    ∃ bk', loop (fun s => f_assure_Books_l2 ents nm i s.1 s.2.1 s.2.2) (acc, 0, bk) = some (.inl (acc + sumA (nth ents i.toNat).posts, i + 1, bk')) ∧ Booked inv (fun s => f s + if (nth ents i.toNat).text = invT then balP s (nth ents i.toNat).posts else 0) bk' := by
  have hp := he.2 _ (nth_in (show i.toNat < ents.length by omega))
  have hlen := he.1
  generalize hee : nth ents i.toNat = e at hp
  have := loop_post (step := fun s => f_assure_Books_l2 ents nm i s.1 s.2.1 s.2.2) (fun r : (Int × Int × List (Int × Int)) ⊕ List Leak => ∃ bk', r = .inl (acc + sumA e.posts, i + 1, bk') ∧ Booked inv (fun s => f s + if e.text = invT then balP s e.posts else 0) bk')
    (fun s : Int × Int × List (Int × Int) => 0 ≤ s.2.1 ∧ s.2.1 ≤ (e.posts.length : Int) ∧ (-1125899906842624 * (24 * i + s.2.1) ≤ s.1 ∧ s.1 ≤ 1125899906842624 * (24 * i + s.2.1)) ∧ s.1 + sumA (e.posts.drop s.2.1.toNat) = acc + sumA e.posts ∧
      ∃ g : List UInt8 → Int, Booked inv g s.2.2 ∧ (∀ x, -1125899906842624 * (24 * i + s.2.1) ≤ g x ∧ g x ≤ 1125899906842624 * (24 * i + s.2.1)) ∧ ∀ x, g x + (if e.text = invT then balP x (e.posts.drop s.2.1.toNat) else 0) = f x + if e.text = invT then balP x e.posts else 0) (fun s => ((e.posts.length : Int) - s.2.1).toNat) (fun s hI => by
      obtain ⟨a, k, b⟩ := s
      obtain ⟨i0, i1, i2, i3, g, g1, g2, g3⟩ := hI
      simp only at i0 i1 i2 i3 g1 g2 g3 ⊢
      have hl := hp.1
      unfold f_assure_Books_l2
      rw [hee]
      by_cases hk : k < (e.posts.length : Int)
      · have ha := hp.2 _ (nth_in (show k.toNat < e.posts.length by omega))
        rw [drop_nth (show k.toNat < e.posts.length by omega)] at i3
        rw [sumA] at i3
        generalize hpp : nth e.posts k.toNat = p at *
        rw [if_pos (by simpa using hk), ck_pos (by omega), ck_pos (by omega)]
        have hk1 : (k + 1).toNat = k.toNat + 1 := by omega
        by_cases hc : (alook nm p.account).isSome ∧ e.text = invT
        · obtain ⟨n, hn1⟩ := Option.isSome_iff_exists.1 hc.1
          obtain ⟨x, hx1, hx2, hx3⟩ := hn.2 _ _ hn1
          have hbx := g1 x hx1
          rw [hx2] at hbx
          have hgx := g2 (acct n)
          rw [if_pos (by simp [hn1, hc.2, invT]), hn1, Option.getD_some, hbx, ck_pos (by omega), ck_pos (by omega)]
          refine .inr ⟨_, rfl, ⟨by simp only; omega, by simp only; omega, ⟨by simp only; omega, by simp only; omega⟩, by simp only; rw [hk1]; omega, fun y => if y = acct n then g y + p.amount else g y, ?_, ?_, ?_⟩, by simp only; omega⟩
          · intro y hy
            simp only
            rw [alook_aset]
            by_cases hyn : y.account = n
            · rw [if_pos (by simpa using hyn), hyn, if_pos rfl]; rfl
            · rw [if_neg (by simpa using hyn), if_neg (fun h => hyn (acct_inj (hi.2 y hy).2 (by have := (hi.2 x hx1).2; omega) h)), g1 y hy]
          · intro y
            have := g2 y
            simp only
            split <;> omega
          · intro y
            have h3 := g3 y
            rw [if_pos hc.2, if_pos hc.2] at h3 ⊢
            rw [drop_nth (show k.toNat < e.posts.length by omega), hpp, balP, hx3] at h3
            simp only
            rw [hk1]
            by_cases hy : y = acct n
            · rw [if_pos hy]; rw [if_pos hy.symm] at h3; omega
            · rw [if_neg hy]; rw [if_neg (fun h => hy h.symm)] at h3; omega
        · rw [if_neg (by simpa [invT] using hc), ck_pos (by omega)]
          refine .inr ⟨_, rfl, ⟨by simp only; omega, by simp only; omega, ⟨by simp only; omega, by simp only; omega⟩, by simp only; rw [hk1]; omega, ?_⟩, by simp only; omega⟩
          by_cases ht : e.text = invT
          · have hnone : alook nm p.account = none := by
              cases hq : alook nm p.account with
              | none => rfl
              | some n => exact absurd ⟨by rw [hq]; rfl, ht⟩ hc
            refine ⟨fun y => if y = p.account then g y + p.amount else g y, ?_, ?_, ?_⟩
            · intro y hy
              simp only
              rw [if_neg (fun h => by have := hn.1 y hy; rw [h, hnone] at this; cases this), g1 y hy]
            · intro y
              have := g2 y
              simp only
              split <;> omega
            · intro y
              have h3 := g3 y
              rw [if_pos ht, if_pos ht] at h3 ⊢
              rw [drop_nth (show k.toNat < e.posts.length by omega), hpp, balP] at h3
              simp only
              rw [hk1]
              by_cases hy : y = p.account
              · rw [if_pos hy]; rw [if_pos hy.symm] at h3; omega
              · rw [if_neg hy]; rw [if_neg (fun h => hy h.symm)] at h3; omega
          · refine ⟨g, g1, fun y => by have := g2 y; simp only; omega, fun y => ?_⟩
            have h3 := g3 y
            rw [if_neg ht, if_neg ht] at h3 ⊢
            exact h3
      · rw [if_neg (by simpa using hk), ck_pos (by omega)]
        rw [List.drop_of_length_le (by omega)] at i3 g3
        refine .inl ⟨_, rfl, b, ?_, ?_⟩
        · simp only [sumA, Int.add_zero] at i3; rw [i3]
        · intro x hx
          rw [g1 x hx]
          have := g3 (acct x.account)
          simpa [balP] using this) (s := (acc, 0, bk)) ⟨by simp, by simp, ⟨by simp only; omega, by simp only; omega⟩, by simp, f, hb, fun x => by have := hf x; simp only; omega, fun x => by simp⟩ (by have := hp.1; simp only; omega)
  obtain ⟨r, r1, bk', r2, r3⟩ := this
  exact ⟨bk', by rw [r1, r2], r3⟩
end Go.Proofs.Ytpdanklncjopoaa
