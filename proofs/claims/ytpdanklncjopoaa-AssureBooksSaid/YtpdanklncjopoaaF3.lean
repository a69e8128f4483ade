import Derived.Test.YtpdanklncjopoaaF2
set_option linter.unusedSimpArgs false
set_option linter.unusedVariables false
namespace Go.Proofs.Ytpdanklncjopoaa
open Go.RowKit Go.Abs
/-! invoices and the ledger: what the document says -/
def recvT : List UInt8 := [114, 101, 99, 101, 105, 118, 97, 98, 108, 101, 58]
def invT : List UInt8 := [105, 110, 118, 111, 105, 99, 101]
def acct (n : Int) : List UInt8 := recvT ++ digs n.toNat
def sumA : List Post → Int
  | [] => 0
  | p :: r => p.amount + sumA r
def sumEs : List Entry → Int
  | [] => 0
  | e :: r => sumA e.posts + sumEs r
def balP (name : List UInt8) : List Post → Int
  | [] => 0
  | p :: r => (if p.account = name then p.amount else 0) + balP name r
def bookE (name : List UInt8) : List Entry → Int
  | [] => 0
  | e :: r => (if e.text = invT then balP name e.posts else 0) + bookE name r
def billI (k : Int) : List Invoice → Int
  | [] => 0
  | i :: r => (if i.account = k then i.total else 0) + billI k r
def OkP (l : List Post) : Prop := l.length ≤ 24 ∧ ∀ p, p ∈ l → -1125899906842624 ≤ p.amount ∧ p.amount ≤ 1125899906842624
def OkE (l : List Entry) : Prop := l.length ≤ 24 ∧ ∀ e, e ∈ l → OkP e.posts
def OkI (l : List Invoice) : Prop := l.length ≤ 24 ∧ ∀ i, i ∈ l → (-1125899906842624 ≤ i.total ∧ i.total ≤ 1125899906842624) ∧ 1 ≤ i.account ∧ i.account ≤ 9999
theorem nth_in {α : Type} [Inhabited α] {l : List α} {i : Nat} (h : i < l.length) : nth l i ∈ l := by rw [nth_eq h]; exact List.getElem_mem _
theorem p_Receivable {n : Int} (h0 : 0 ≤ n) (h1 : n ≤ 9999) : f_billingref47_Receivable n = some (acct n) := by
  unfold f_billingref47_Receivable
  rw [p_Int h0 (by omega), Option.bind_some, ck_pos]
  · rfl
  · have : (digs n.toNat).length ≤ 20 := digs_len 20 _
    simp; omega
/-- the sum of all amounts -/
theorem p_sum2 {ents : List Entry} (ho : OkE ents) {R : Type} (i acc : Int) (h0 : 0 ≤ i) (hi : i < (ents.length : Int)) (hacc : -1125899906842624 * (24 * i) ≤ acc ∧ acc ≤ 1125899906842624 * (24 * i)) :
    loop (fun s => f_billingref54_Books_l6 ents i s.1 s.2) (acc, 0) = some (.inl (acc + sumA (nth ents i.toNat).posts, i + 1)) := by
  have hp := ho.2 _ (nth_in (show i.toNat < ents.length by omega))
  have hlen := ho.1
  generalize hps : (nth ents i.toNat).posts = ps at hp
  have := loop_spec (step := fun s => f_billingref54_Books_l6 ents i s.1 s.2) (fun s : Int × Int => some (.inl (s.1 + sumA (ps.drop s.2.toNat), i + 1)))
    (fun s => 0 ≤ s.2 ∧ s.2 ≤ (ps.length : Int) ∧ -1125899906842624 * (24 * i + s.2) ≤ s.1 ∧ s.1 ≤ 1125899906842624 * (24 * i + s.2)) (fun s => ((ps.length : Int) - s.2).toNat) (fun s hI => by
      obtain ⟨a, k⟩ := s
      obtain ⟨i0, i1, i2, i3⟩ := hI
      simp only at i0 i1 i2 i3 ⊢
      have hl := hp.1
      unfold f_billingref54_Books_l6
      rw [ck_pos (by omega), hps]
      by_cases hk : k < (ps.length : Int)
      · have ha := hp.2 _ (nth_in (show k.toNat < ps.length by omega))
        rw [if_pos (by simpa using hk), ck_pos (by omega), ck_pos (by omega), ck_pos (by omega), ck_pos (by omega), drop_nth (show k.toNat < ps.length by omega), sumA]
        refine .inr ⟨_, rfl, ⟨by simp only; omega, by simp only; omega, by simp only; omega, by simp only; omega⟩, by simp only; omega, ?_⟩
        simp only
        rw [show (k + 1).toNat = k.toNat + 1 by omega, Int.add_assoc]
      · rw [if_neg (by simpa using hk), ck_pos (by omega), List.drop_of_length_le (by omega)]
        refine .inl ⟨_, rfl, ?_⟩
        simp [sumA]) (s := (acc, 0)) ⟨by simp, by simp, by simp only; omega, by simp only; omega⟩ (by have := hp.1; simp only; omega)
  rw [this]
  simp
theorem sumA_le : ∀ (l : List Post), (∀ p, p ∈ l → -1125899906842624 ≤ p.amount ∧ p.amount ≤ 1125899906842624) → -1125899906842624 * (l.length : Int) ≤ sumA l ∧ sumA l ≤ 1125899906842624 * (l.length : Int)
  | [], _ => by simp [sumA]
  | p :: r, h => by
    have h1 := h p List.mem_cons_self
    have h2 := sumA_le r fun q hq => h q (List.mem_cons_of_mem _ hq)
    rw [sumA, List.length_cons]
    omega
theorem balP_le (name : List UInt8) : ∀ (l : List Post), (∀ p, p ∈ l → -1125899906842624 ≤ p.amount ∧ p.amount ≤ 1125899906842624) → -1125899906842624 * (l.length : Int) ≤ balP name l ∧ balP name l ≤ 1125899906842624 * (l.length : Int)
  | [], _ => by simp [balP]
  | p :: r, h => by
    have h1 := h p List.mem_cons_self
    have h2 := balP_le name r fun q hq => h q (List.mem_cons_of_mem _ hq)
    rw [balP, List.length_cons]
    split <;> omega
/-- what an entry books on an account -/
theorem p_Balance {e : Entry} (ho : OkP e.posts) (name : List UInt8) : f_billingref47_Balance [e] name = some (balP name e.posts) := by
  have inner : loop (fun s => f_billingref47_Balance_l2 [e] name 0 s.1 s.2) (0, 0) = some (.inl (balP name e.posts, 1)) := by
    have := loop_spec (step := fun s => f_billingref47_Balance_l2 [e] name 0 s.1 s.2) (fun s : Int × Int => some (.inl (s.1 + balP name (e.posts.drop s.2.toNat), 1)))
      (fun s => 0 ≤ s.2 ∧ s.2 ≤ (e.posts.length : Int) ∧ -1125899906842624 * s.2 ≤ s.1 ∧ s.1 ≤ 1125899906842624 * s.2) (fun s => ((e.posts.length : Int) - s.2).toNat) (fun s hI => by
        obtain ⟨a, k⟩ := s
        obtain ⟨i0, i1, i2, i3⟩ := hI
        simp only at i0 i1 i2 i3 ⊢
        have hl := ho.1
        unfold f_billingref47_Balance_l2
        rw [ck_pos (by simp), show nth [e] (Int.toNat 0) = e from rfl]
        by_cases hk : k < (e.posts.length : Int)
        · have ha := ho.2 _ (nth_in (show k.toNat < e.posts.length by omega))
          rw [if_pos (by simpa using hk), ck_pos (by simp), ck_pos (by omega), drop_nth (show k.toNat < e.posts.length by omega), balP]
          by_cases hn : (nth e.posts k.toNat).account = name
          · rw [if_pos (by simpa using hn), if_pos hn, ck_pos (by simp), ck_pos (by omega), ck_pos (by omega), ck_pos (by omega)]
            refine .inr ⟨_, rfl, ⟨by simp only; omega, by simp only; omega, by simp only; omega, by simp only; omega⟩, by simp only; omega, ?_⟩
            simp only
            rw [show (k + 1).toNat = k.toNat + 1 by omega, Int.add_assoc]
          · rw [if_neg (by simpa using hn), if_neg hn, ck_pos (by omega)]
            refine .inr ⟨_, rfl, ⟨by simp only; omega, by simp only; omega, by simp only; omega, by simp only; omega⟩, by simp only; omega, ?_⟩
            simp only
            rw [show (k + 1).toNat = k.toNat + 1 by omega, Int.zero_add]
        · rw [if_neg (by simpa using hk), ck_pos (by omega), List.drop_of_length_le (by omega)]
          refine .inl ⟨_, rfl, ?_⟩
          simp [balP]) (s := (0, 0)) ⟨by simp, by simp, by simp, by simp⟩ (by have := ho.1; simp only; omega)
    rw [this]
    simp
  unfold f_billingref47_Balance
  have := loop_spec (step := fun s => f_billingref47_Balance_l1 [e] name s.1 s.2) (fun _ => some (balP name e.posts)) (fun s : Int × Int => s = (0, 0) ∨ s = (balP name e.posts, 1)) (fun s => (1 - s.2).toNat) (fun s hI => by
    rcases hI with rfl | rfl
    · unfold f_billingref47_Balance_l1
      rw [if_pos (by simp), inner]
      exact .inr ⟨_, rfl, .inr rfl, by simp, rfl⟩
    · unfold f_billingref47_Balance_l1
      rw [if_neg (by simp)]
      exact .inl ⟨_, rfl, rfl⟩) (s := (0, 0)) (.inl rfl) (by simp)
  exact this
def leakB (inv : List Invoice) (ents : List Entry) (k : Int) : List Leak := if billI k inv = bookE (acct k) ents then [] else [⟨6, k, billI k inv, bookE (acct k) ents⟩]
/-- per key -/
theorem p_perKey {inv : List Invoice} {ents : List Entry} (hi : OkI inv) (he : OkE ents) {ks : List Int} {out : List Leak} {i : Int} (hout : out.length ≤ 100000) (h0 : 0 ≤ i) (h1 : i < (ks.length : Int)) (hkl : ks.length ≤ 100000) (hk : 1 ≤ nth ks i.toNat ∧ nth ks i.toNat ≤ 9999) :
    f_billingref54_Books_l1 inv ents ks out i = some (.inl (out ++ leakB inv ents (nth ks i.toNat), i + 1)) := by
  have hb : ∀ a, loop (fun s => f_billingref54_Books_l2 ents ks out i a s.1 s.2) (0, 0) = some (.inl (out ++ (if a = bookE (acct (nth ks i.toNat)) ents then [] else [⟨6, nth ks i.toNat, a, bookE (acct (nth ks i.toNat)) ents⟩]), i + 1)) := by
    intro a
    have := loop_spec (step := fun s => f_billingref54_Books_l2 ents ks out i a s.1 s.2) (fun s : Int × Int => some (.inl (out ++ (if a = s.1 + bookE (acct (nth ks i.toNat)) (ents.drop s.2.toNat) then [] else [⟨6, nth ks i.toNat, a, s.1 + bookE (acct (nth ks i.toNat)) (ents.drop s.2.toNat)⟩]), i + 1)))
      (fun s => 0 ≤ s.2 ∧ s.2 ≤ (ents.length : Int) ∧ -1125899906842624 * (24 * s.2) ≤ s.1 ∧ s.1 ≤ 1125899906842624 * (24 * s.2)) (fun s => ((ents.length : Int) - s.2).toNat) (fun s hI => by
        obtain ⟨b, j⟩ := s
        obtain ⟨i0, i1, i2, i3⟩ := hI
        simp only at i0 i1 i2 i3 ⊢
        have hl := he.1
        unfold f_billingref54_Books_l2
        by_cases hj : j < (ents.length : Int)
        · have hp := he.2 _ (nth_in (show j.toNat < ents.length by omega))
          have hbal := balP_le (acct (nth ks i.toNat)) _ hp.2
          have hpl := hp.1
          rw [if_pos (by simpa using hj), ck_pos (by omega), drop_nth (show j.toNat < ents.length by omega), bookE]
          by_cases ht : (nth ents j.toNat).text = invT
          · have hone : (ents.take (Int.toNat (j + 1))).drop (Int.toNat j) = [nth ents j.toNat] := by
              rw [List.drop_take, show Int.toNat (j + 1) - Int.toNat j = 1 by omega, drop_nth (show j.toNat < ents.length by omega)]; rfl
            rw [if_pos (by simpa [invT] using ht), if_pos ht, ck_pos (by omega), ck_pos (by omega), ck_pos (by omega), p_Receivable (by omega) (by omega), Option.bind_some, hone, p_Balance hp, Option.bind_some, ck_pos (by omega), ck_pos (by omega)]
            refine .inr ⟨_, rfl, ⟨by simp only; omega, by simp only; omega, by simp only; omega, by simp only; omega⟩, by simp only; omega, ?_⟩
            simp only
            rw [show (j + 1).toNat = j.toNat + 1 by omega, Int.add_assoc]
          · rw [if_neg (by simpa [invT] using ht), if_neg ht, ck_pos (by omega)]
            refine .inr ⟨_, rfl, ⟨by simp only; omega, by simp only; omega, by simp only; omega, by simp only; omega⟩, by simp only; omega, ?_⟩
            simp only
            rw [show (j + 1).toNat = j.toNat + 1 by omega, Int.zero_add]
        · rw [if_neg (by simpa using hj), List.drop_of_length_le (by omega)]
          unfold f_billingref54_Books_j5
          rw [bookE, Int.add_zero]
          by_cases hab : a = b
          · rw [if_neg (by simp [hab]), if_pos hab, ck_pos (by omega)]
            exact .inl ⟨_, rfl, by simp⟩
          · rw [if_pos (by simpa using hab), if_neg hab, ck_pos (by omega), ck_pos (by simp; omega), ck_pos (by omega)]
            exact .inl ⟨_, rfl, rfl⟩) (s := (0, 0)) ⟨by simp, by simp, by simp, by simp⟩ (by have := he.1; simp only; omega)
    rw [this]
    simp
  unfold f_billingref54_Books_l1
  rw [if_pos (by simpa using h1)]
  have := loop_spec (step := fun s => f_billingref54_Books_l3 inv ents ks out i s.1 s.2) (fun s : Int × Int => some (.inl (out ++ (if s.1 + billI (nth ks i.toNat) (inv.drop s.2.toNat) = bookE (acct (nth ks i.toNat)) ents then [] else [⟨6, nth ks i.toNat, s.1 + billI (nth ks i.toNat) (inv.drop s.2.toNat), bookE (acct (nth ks i.toNat)) ents⟩]), i + 1)))
    (fun s => 0 ≤ s.2 ∧ s.2 ≤ (inv.length : Int) ∧ -1125899906842624 * s.2 ≤ s.1 ∧ s.1 ≤ 1125899906842624 * s.2) (fun s => ((inv.length : Int) - s.2).toNat) (fun s hI => by
      obtain ⟨a, j⟩ := s
      obtain ⟨i0, i1, i2, i3⟩ := hI
      simp only at i0 i1 i2 i3 ⊢
      have hl := hi.1
      unfold f_billingref54_Books_l3
      by_cases hj : j < (inv.length : Int)
      · have hp := hi.2 _ (nth_in (show j.toNat < inv.length by omega))
        rw [if_pos (by simpa using hj), ck_pos (by omega), ck_pos (by omega), drop_nth (show j.toNat < inv.length by omega), billI]
        by_cases ht : (nth inv j.toNat).account = nth ks i.toNat
        · rw [if_pos (by simpa using ht), if_pos ht, ck_pos (by omega), ck_pos (by omega), ck_pos (by omega)]
          refine .inr ⟨_, rfl, ⟨by simp only; omega, by simp only; omega, by simp only; omega, by simp only; omega⟩, by simp only; omega, ?_⟩
          simp only
          rw [show (j + 1).toNat = j.toNat + 1 by omega, Int.add_assoc]
        · rw [if_neg (by simpa using ht), if_neg ht, ck_pos (by omega)]
          refine .inr ⟨_, rfl, ⟨by simp only; omega, by simp only; omega, by simp only; omega, by simp only; omega⟩, by simp only; omega, ?_⟩
          simp only
          rw [show (j + 1).toNat = j.toNat + 1 by omega, Int.zero_add]
      · rw [if_neg (by simpa using hj), List.drop_of_length_le (by omega)]
        unfold f_billingref54_Books_j4
        rw [hb a, billI, Int.add_zero]
        exact .inl ⟨_, rfl, rfl⟩) (s := (0, 0)) ⟨by simp, by simp, by simp, by simp⟩ (by have := hi.1; simp only; omega)
  rw [this]
  simp [leakB]
end Go.Proofs.Ytpdanklncjopoaa
