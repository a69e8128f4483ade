import Derived.Test.YtpdanklncjopoabLF
set_option linter.unusedSimpArgs false
set_option linter.unusedVariables false
namespace Go.Proofs.Ytpdanklncjopoab
open Go.RowKit Go.Abs
theorem loop_count {R : Type} {step : Int → Option (Int ⊕ R)} (n : Nat) (hn : n < 18446744073709551616) (Q : R → Prop) (h : ∀ i, 0 ≤ i → i ≤ (n : Int) → (∃ r, step i = some (.inr r) ∧ Q r) ∨ (step i = some (.inl (i + 1)) ∧ i < (n : Int))) : ∃ r, loop step 0 = some r ∧ Q r := by
  refine loop_post Q (fun i : Int => 0 ≤ i ∧ i ≤ (n : Int)) (fun i => ((n : Int) - i).toNat) (fun i hI => ?_) ⟨by omega, by omega⟩ (by omega)
  rcases h i hI.1 hI.2 with h | ⟨h1, h2⟩
  · exact .inl h
  · exact .inr ⟨i + 1, h1, ⟨by omega, by omega⟩, by omega⟩
/-- A loop over a list with a state beside the place: it answers as a recursion on the list does. -/
theorem loop_list {α σ S R : Type} [Inhabited α] {step : S → Option (S ⊕ R)} (l : List α) (ga : S → σ) (gi : S → Int) (mk : σ → Int → S) (hmk : ∀ s, mk (ga s) (gi s) = s) (hga : ∀ a i, ga (mk a i) = a) (hgi : ∀ a i, gi (mk a i) = i)
    (G : σ → List α → Option R) (I : σ → Nat → Prop) (hl : l.length < 18446744073709551616)
    (hs : ∀ a (k : Nat), k < l.length → I a k → (∃ r, step (mk a k) = some (.inr r) ∧ G a (nth l k :: l.drop (k + 1)) = some r) ∨ ∃ a', step (mk a k) = some (.inl (mk a' ((k : Int) + 1))) ∧ I a' (k + 1) ∧ G a (nth l k :: l.drop (k + 1)) = G a' (l.drop (k + 1)))
    (he : ∀ a, I a l.length → ∃ r, step (mk a l.length) = some (.inr r) ∧ G a [] = some r) {a : σ} (h0 : I a 0) : loop step (mk a 0) = G a l := by
  have := loop_spec (step := step) (fun s => G (ga s) (l.drop (gi s).toNat)) (fun s => 0 ≤ gi s ∧ gi s ≤ (l.length : Int) ∧ I (ga s) (gi s).toNat) (fun s => ((l.length : Int) - gi s).toNat) (fun s hI => by
    obtain ⟨hI1, hI2, hI3⟩ := hI
    have e1 : s = mk (ga s) (((gi s).toNat : Nat) : Int) := by rw [show (((gi s).toNat : Nat) : Int) = gi s from by omega, hmk]
    by_cases hi : (gi s).toNat < l.length
    · rw [drop_nth hi]
      rcases hs (ga s) (gi s).toNat hi hI3 with ⟨r, h1, h2⟩ | ⟨a', h1, h2, h3⟩
      · exact .inl ⟨r, by rw [e1]; exact h1, h2⟩
      · refine .inr ⟨_, by rw [e1]; exact h1, ?_, ?_, ?_⟩
        · rw [hgi, hga, show ((((gi s).toNat : Nat) : Int) + 1).toNat = (gi s).toNat + 1 from by omega]
          exact ⟨by omega, by omega, h2⟩
        · rw [hgi]; omega
        · rw [hgi, hga, show ((((gi s).toNat : Nat) : Int) + 1).toNat = (gi s).toNat + 1 from by omega, h3]
    · have e : (gi s).toNat = l.length := by omega
      rw [e] at e1 hI3
      obtain ⟨r, h1, h2⟩ := he (ga s) hI3
      refine .inl ⟨r, by rw [e1]; exact h1, ?_⟩
      rw [List.drop_of_length_le (by omega)]
      exact h2) (s := mk a 0) ⟨by rw [hgi]; omega, by rw [hgi]; omega, by rw [hgi, hga]; exact h0⟩ (by rw [hgi]; omega)
  rw [this, hga, hgi]
  rfl
theorem amount_tot (n : Int) : ∃ b, f_billingref54_amount n = some b ∧ (b = true ↔ -1125899906842624 ≤ n ∧ n ≤ 1125899906842624) := by
  unfold f_billingref54_amount f_billingref01_Valid
  exact ⟨_, rfl, by simp⟩
theorem gcall_tot {b : Bool} {n : Int} : ∃ c, gcall b (f_billingref54_amount n) = some c ∧ (b = true → c = true → -1125899906842624 ≤ n ∧ n ≤ 1125899906842624) := by
  obtain ⟨c, hc, h2⟩ := amount_tot n
  unfold gcall
  split
  · exact ⟨c, hc, fun _ h => h2.1 h⟩
  · exact ⟨_, rfl, fun h => absurd h (by assumption)⟩
theorem Rated_l2_tot (v0 : List Rated) (i : Int) (h0 : 0 ≤ i) (h1 : i < 1000000000) (hl : ((nth v0 i.toNat).given.length : Int) ≤ 24) : 
    ∃ r, loop (fun s => f_billingref54_Rated_l2 v0 i s) 0 = some r ∧ (r = Sum.inr false ∨ r = Sum.inl (i + 1)) := by
  refine loop_count 24 (by omega) _ (fun k hk hk2 => ?_)
  unfold f_billingref54_Rated_l2
  by_cases h : k < ((nth v0 i.toNat).given.length : Int)
  · rw [if_pos (by simpa using h), ck_pos (by omega)]
    obtain ⟨b, hb, hb2⟩ := amount_tot (nth ((nth v0 i.toNat).given) k.toNat).amount
    rw [hb]
    simp only [Option.bind_some]
    split
    · exact .inl ⟨_, rfl, by simp⟩
    · rw [ck_pos (by omega)]
      exact .inr ⟨rfl, by omega⟩
  · rw [if_neg (by simpa using h), ck_pos (by omega)]
    exact .inl ⟨_, rfl, by simp⟩
theorem Rated_l3_tot (v0 : List Rated) (i : Int) (h0 : 0 ≤ i) (h1 : i < 1000000000) (hl : ((nth v0 i.toNat).given.length : Int) ≤ 24) (hs : ((nth v0 i.toNat).segments.length : Int) ≤ 24) : 
    ∃ r, loop (fun s => f_billingref54_Rated_l3 v0 i s) 0 = some r ∧ (r = Sum.inr false ∨ r = Sum.inl (i + 1)) := by
  refine loop_count 24 (by omega) _ (fun k hk hk2 => ?_)
  unfold f_billingref54_Rated_l3 f_billingref54_Rated_j2
  obtain ⟨r, hr, hr2⟩ := Rated_l2_tot v0 i h0 h1 hl
  by_cases h : k < ((nth v0 i.toNat).segments.length : Int)
  · rw [if_pos (by simpa using h), ck_pos (by omega), ck_pos (by omega), ck_pos (by omega)]
    obtain ⟨c, hc, _⟩ := gcall_tot (b := !(decide ((nth (nth v0 i.toNat).segments k.toNat).units < 0) || decide ((nth (nth v0 i.toNat).segments k.toNat).units > 1099511627776))) (n := (nth ((nth v0 i.toNat).segments) k.toNat).amount)
    rw [hc]
    simp only [Option.bind_some]
    split
    · exact .inl ⟨_, rfl, by simp⟩
    · rw [ck_pos (by omega)]
      exact .inr ⟨rfl, by omega⟩
  · rw [if_neg (by simpa using h), hr]
    exact .inl ⟨_, rfl, hr2⟩
theorem Rated_l4_tot (v0 : List Rated) (i : Int) (h0 : 0 ≤ i) (h1 : i < 1000000000) (hl : ((nth v0 i.toNat).given.length : Int) ≤ 24) (hs : ((nth v0 i.toNat).segments.length : Int) ≤ 24) (ht : ((nth v0 i.toNat).takes.length : Int) ≤ 24) : 
    ∃ r, loop (fun s => f_billingref54_Rated_l4 v0 i s) 0 = some r ∧ (r = Sum.inr false ∨ r = Sum.inl (i + 1)) := by
  refine loop_count 24 (by omega) _ (fun k hk hk2 => ?_)
  unfold f_billingref54_Rated_l4 f_billingref54_Rated_j1
  obtain ⟨r, hr, hr2⟩ := Rated_l3_tot v0 i h0 h1 hl hs
  by_cases h : k < ((nth v0 i.toNat).takes.length : Int)
  · rw [if_pos (by simpa using h), ck_pos (by omega), ck_pos (by omega)]
    split
    · exact .inl ⟨_, rfl, by simp⟩
    · rw [ck_pos (by omega)]
      exact .inr ⟨rfl, by omega⟩
  · rw [if_neg (by simpa using h), hr]
    exact .inl ⟨_, rfl, hr2⟩
def amt (n : Int) : Prop := -1125899906842624 ≤ n ∧ n ≤ 1125899906842624
def ROk (r : Rated) : Prop := amt r.net ∧ amt r.paid ∧ amt r.owed ∧ amt r.gross
theorem Rated_tot (v0 : List Rated) : ∃ b, f_billingref54_Rated v0 24 = some b ∧ (b = true → (v0.length : Int) ≤ 24 ∧ ∀ k, k < v0.length → ROk (nth v0 k)) := by
  unfold f_billingref54_Rated
  split
  · exact ⟨_, rfl, by simp⟩
  · rename_i hlen
    simp at hlen
    obtain ⟨b, hb⟩ : ∃ b, loop (fun s => f_billingref54_Rated_l1 v0 24 s) 0 = some b ∧ (b = true → ∀ k, k < v0.length → ROk (nth v0 k)) := by
      refine loop_post _ (fun i : Int => 0 ≤ i ∧ i ≤ (v0.length : Int) ∧ ∀ k : Nat, (k : Int) < i → ROk (nth v0 k)) (fun i => ((v0.length : Int) - i).toNat) (fun i hI => ?_) ⟨by omega, by omega, fun k hk => by omega⟩ (by omega)
      obtain ⟨h0, h1, hI⟩ := hI
      unfold f_billingref54_Rated_l1
      by_cases h : i < (v0.length : Int)
      · rw [if_pos (by simpa using h), ck_pos (by omega)]
        generalize hg : ((decide (((nth v0 (Int.toNat i)).takes.length : Int) > 24) || decide (((nth v0 (Int.toNat i)).segments.length : Int) > 24)) || decide (((nth v0 (Int.toNat i)).given.length : Int) > 24)) = g
        obtain ⟨y1, e1, f1⟩ := gcall_tot (b := !g) (n := (nth v0 i.toNat).net)
        rw [e1, Option.bind_some]
        obtain ⟨y2, e2, f2⟩ := gcall_tot (b := !(g || !y1)) (n := (nth v0 i.toNat).paid)
        rw [e2, Option.bind_some]
        obtain ⟨y3, e3, f3⟩ := gcall_tot (b := !((g || !y1) || !y2)) (n := (nth v0 i.toNat).owed)
        rw [e3, Option.bind_some]
        obtain ⟨y4, e4, f4⟩ := gcall_tot (b := !(((g || !y1) || !y2) || !y3)) (n := (nth v0 i.toNat).gross)
        rw [e4, Option.bind_some]
        obtain ⟨y5, e5, f5⟩ := gcall_tot (b := !((((g || !y1) || !y2) || !y3) || !y4)) (n := (nth v0 i.toNat).setup)
        rw [e5, Option.bind_some]
        split
        · exact .inl ⟨_, rfl, by simp⟩
        · rename_i h2
          have hb : ¬ ((nth v0 i.toNat).takes.length : Int) > 24 ∧ ¬ ((nth v0 i.toNat).segments.length : Int) > 24 ∧ ¬ ((nth v0 i.toNat).given.length : Int) > 24 := by
            cases g with
            | true => simp at h2
            | false =>
              simp at hg
              omega
          obtain ⟨r, hr, hr2⟩ := Rated_l4_tot v0 i h0 (by omega) (by omega) (by omega) (by omega)
          rw [hr]
          rcases hr2 with rfl | rfl
          · exact .inl ⟨_, rfl, by simp⟩
          · refine .inr ⟨_, rfl, ⟨by omega, by omega, fun k hk => ?_⟩, by omega⟩
            by_cases hki : (k : Int) < i
            · exact hI k hki
            · have hke : k = i.toNat := by omega
              subst hke
              cases g with
              | true => simp at h2
              | false =>
              cases y1 with
              | false => simp at h2
              | true =>
              cases y2 with
              | false => simp at h2
              | true =>
              cases y3 with
              | false => simp at h2
              | true =>
              cases y4 with
              | false => simp at h2
              | true => exact ⟨f1 rfl rfl, f2 rfl rfl, f3 rfl rfl, f4 rfl rfl⟩
      · rw [if_neg (by simpa using h)]
        exact .inl ⟨_, rfl, fun _ k hk => hI k (by omega)⟩
    exact ⟨b, hb.1, fun h => ⟨by omega, hb.2 h⟩⟩

/-! ### what 'Check' answers -/
def wi (n lo hi : Int) : Bool := decide (n ≥ lo) && decide (n ≤ hi)
def sT : List Take → Int
  | [] => 0
  | t :: r => t.units + sT r
def sS : List Segment → Int
  | [] => 0
  | t :: r => t.units + sS r
def sG : List Given → Int
  | [] => 0
  | t :: r => t.amount + sG r
def okT : List Take → Bool
  | [] => true
  | t :: r => wi t.units 1 1099511627776 && okT r
def okG : List Given → Bool
  | [] => true
  | t :: r => wi t.amount 1 1125899906842624 && okG r
def seg (G : Int) : Int → List Segment → Option Int
  | g, [] => some g
  | g, s :: r => if (wi s.units 1 1099511627776 && wi s.amount 0 1125899906842624 && !(decide (g > G) || decide (s.amount > G - g))) = true then seg G (g + s.amount) r else none
theorem wi_iff {n lo hi : Int} : wi n lo hi = true ↔ lo ≤ n ∧ n ≤ hi := by simp [wi]
theorem wi_not {n lo hi : Int} (h : ¬ wi n lo hi = true) : wi n lo hi = false := by simpa using h
theorem okT_nth {l : List Take} (h : okT l = true) {k : Nat} (hk : k < l.length) : 1 ≤ (nth l k).units ∧ (nth l k).units ≤ 1099511627776 := by
  induction l generalizing k with
  | nil => simp at hk
  | cons a t ih =>
    simp only [okT, Bool.and_eq_true] at h
    cases k with
    | zero => exact wi_iff.1 h.1
    | succ k => exact ih h.2 (by simpa using hk)
theorem seg_nth {G : Int} {l : List Segment} {g g' : Int} (h : seg G g l = some g') {k : Nat} (hk : k < l.length) : 1 ≤ (nth l k).units ∧ (nth l k).units ≤ 1099511627776 := by
  induction l generalizing k g with
  | nil => simp at hk
  | cons a t ih =>
    unfold seg at h
    split at h
    · rename_i hc
      simp only [Bool.and_eq_true] at hc
      cases k with
      | zero => exact wi_iff.1 hc.1.1
      | succ k => exact ih h (by simpa using hk)
    · cases h
theorem sT_bd {l : List Take} (h : okT l = true) : 0 ≤ sT l ∧ sT l ≤ l.length * 1099511627776 := by
  induction l with
  | nil => simp [sT]
  | cons a t ih =>
    simp only [okT, Bool.and_eq_true] at h
    have := ih h.2
    have := wi_iff.1 h.1
    simp only [sT, List.length_cons]
    omega
theorem sS_bd {G : Int} {l : List Segment} {g g' : Int} (h : seg G g l = some g') : 0 ≤ sS l ∧ sS l ≤ l.length * 1099511627776 := by
  induction l generalizing g with
  | nil => simp [sS]
  | cons a t ih =>
    unfold seg at h
    split at h
    · rename_i hc
      simp only [Bool.and_eq_true] at hc
      have := ih h
      have := wi_iff.1 hc.1.1
      simp only [sS, List.length_cons]
      omega
    · cases h
theorem sG_bd {l : List Given} (h : okG l = true) : 0 ≤ sG l ∧ sG l ≤ l.length * 1125899906842624 := by
  induction l with
  | nil => simp [sG]
  | cons a t ih =>
    simp only [okG, Bool.and_eq_true] at h
    have := ih h.2
    have := wi_iff.1 h.1
    simp only [sG, List.length_cons]
    omega
theorem seg_bd {G : Int} {l : List Segment} {g g' : Int} (h0 : 0 ≤ g) (h1 : g ≤ 1125899906842624) (hG : G ≤ 1125899906842624) (h : seg G g l = some g') : 0 ≤ g' ∧ g' ≤ 1125899906842624 := by
  induction l generalizing g with
  | nil => cases h; exact ⟨h0, h1⟩
  | cons a t ih =>
    unfold seg at h
    split at h
    · rename_i hc
      simp only [Bool.and_eq_true, Bool.not_eq_true', Bool.or_eq_false_iff, decide_eq_false_iff_not] at hc
      have := wi_iff.1 hc.1.2
      exact ih (by omega) (by omega) h
    · cases h
def ends (r : Rated) (g : Int) : Bool := (sT r.takes + sS r.segments == r.usage.units) && (g == r.gross) && (r.net == g - sG r.given) && decide (r.paid ≥ 0) && decide (r.paid ≤ r.net) && (r.owed == r.net - r.paid)
def bodyB (r : Rated) : Bool := okT r.takes && (match seg r.gross r.setup r.segments with
  | none => false
  | some g => okG r.given && ends r g)
def emptyB (r : Rated) : Bool := (((((((((((r.plan == ([] : List UInt8)) && (r.zone == ([] : List UInt8))) && (r.version == 0)) && (r.setup == 0)) && (r.gross == 0)) && (r.net == 0)) && (r.paid == 0)) && (r.owed == 0)) && ((r.takes.length : Int) == 0)) && ((r.segments.length : Int) == 0)) && ((r.given.length : Int) == 0))
def bigB (r : Rated) : Bool := ((decide ((r.takes.length : Int) > 262144)) || (decide ((r.segments.length : Int) > 12288))) || (decide ((r.given.length : Int) > 4096))
def checkB (r : Rated) : Bool := if ((r.usage.inbound || (r.usage.units == 0)) || (r.err != 0)) = true then emptyB r else if bigB r = true then false else if wi r.setup 0 1125899906842624 = true then bodyB r else false

theorem p_Units (r : Rated) {g g' : Int} (hb : r.takes.length ≤ 262144) (hb2 : r.segments.length ≤ 12288) (ht : okT r.takes = true) (hs : seg r.gross g r.segments = some g') : f_rate_Units r = some (sT r.takes, sS r.segments) := by
  unfold f_rate_Units
  refine loop_list (mk := fun (a : Int) i => (a, i)) (ga := Prod.fst) (gi := Prod.snd) (l := r.takes) (fun _ => rfl) (fun _ _ => rfl) (fun _ _ => rfl) (G := fun a l => some (a + sT l, sS r.segments)) (I := fun a k => 0 ≤ a ∧ a ≤ k * 1099511627776) (by omega) (fun a k hk hI => ?_) (fun a hI => ?_) (a := (0 : Int)) ⟨by omega, by omega⟩ |>.trans (by simp)
  · unfold f_rate_Units_l2
    have := okT_nth ht hk
    simp only [Int.toNat_natCast]
    rw [if_pos (by simpa using hk), ck_pos (by omega), ck_pos (by omega), ck_pos (by omega)]
    exact .inr ⟨_, rfl, by omega, by simp only [sT, Option.some.injEq, Prod.mk.injEq, and_true]; omega⟩
  · unfold f_rate_Units_l2 f_rate_Units_j1
    rw [if_neg (by simp)]
    refine ⟨_, ?_, rfl⟩
    have : loop (fun s => f_rate_Units_l1 r a s.1 s.2) (0, 0) = some (a, sS r.segments) := by
      refine loop_list (mk := fun (a : Int) i => (a, i)) (ga := Prod.fst) (gi := Prod.snd) (l := r.segments) (fun _ => rfl) (fun _ _ => rfl) (fun _ _ => rfl) (G := fun b l => some (a, b + sS l)) (I := fun a k => 0 ≤ a ∧ a ≤ k * 1099511627776) (by omega) (fun a k hk hI => ?_) (fun a hI => ?_) (a := (0 : Int)) ⟨by omega, by omega⟩ |>.trans (by simp)
      · unfold f_rate_Units_l1
        have := seg_nth hs hk
        simp only [Int.toNat_natCast]
        rw [if_pos (by simpa using hk), ck_pos (by omega), ck_pos (by omega), ck_pos (by omega)]
        exact .inr ⟨_, rfl, by omega, by simp only [sS, Option.some.injEq, Prod.mk.injEq, true_and]; omega⟩
      · unfold f_rate_Units_l1
        rw [if_neg (by simp)]
        exact ⟨_, rfl, by simp [sS]⟩
    simp only [sT, Int.add_zero]
    rw [this]
    rfl
theorem p_Check (r : Rated) (hr : ROk r) : f_rate_Check r = some (checkB r) := by
  unfold f_rate_Check checkB
  split
  · rfl
  · change ((gcall (!bigB r) (some (wi r.setup 0 1125899906842624))).bind _) = _
    cases hbig : bigB r with
    | true =>
      rw [show gcall (!true) (some (wi r.setup 0 1125899906842624)) = some false from rfl, Option.bind_some]
      simp only [bigB] at hbig
      rw [hbig]; rfl
    | false =>
      rw [show gcall (!false) (some (wi r.setup 0 1125899906842624)) = some (wi r.setup 0 1125899906842624) from rfl, Option.bind_some]
      simp only [bigB] at hbig
      rw [hbig]
      simp only [Bool.false_or, Bool.false_eq_true, if_false]
      cases hw : wi r.setup 0 1125899906842624 with
      | false => rfl
      | true =>
        simp only [Bool.not_true, Bool.false_eq_true, if_false, if_true]
        simp only [Bool.or_eq_false_iff, decide_eq_false_iff_not] at hbig
        have hset := wi_iff.1 hw
        obtain ⟨hn, hp, ho, hg⟩ := hr
        unfold amt at hn hp ho hg
        refine loop_list (mk := fun (_ : Unit) i => i) (ga := fun _ => ()) (gi := fun s => s) (l := r.takes) (fun _ => rfl) (fun _ _ => rfl) (fun _ _ => rfl) (G := fun _ l => some (okT l && (okT r.takes && (match seg r.gross r.setup r.segments with | none => false | some g => okG r.given && ends r g)))) (I := fun _ k => ∀ j, j < k → wi (nth r.takes j).units 1 1099511627776 = true) (by omega) (fun a k hk hI => ?_) (fun a hI => ?_) (a := ()) (fun j hj => by omega) |>.trans (by unfold bodyB; cases okT r.takes <;> rfl)
        · unfold f_rate_Check_l3
          simp only [Int.toNat_natCast]
          rw [if_pos (by simpa using hk), ck_pos (by omega)]
          change (∃ x, (Option.bind (some (wi (nth r.takes k).units 1 1099511627776)) _) = _ ∧ _) ∨ ∃ x, (Option.bind (some (wi (nth r.takes k).units 1 1099511627776)) _) = _ ∧ _
          rw [Option.bind_some]
          cases hw : wi (nth r.takes k).units 1 1099511627776 with
          | false => exact .inl ⟨false, rfl, by simp [okT, hw]⟩
          | true =>
            simp only [Bool.not_true, Bool.false_eq_true, if_false]
            rw [ck_pos (by omega)]
            refine .inr ⟨(), rfl, fun j hj => ?_, by simp [okT, hw]⟩
            by_cases hjk : j = k
            · subst hjk; exact hw
            · exact hI j (by omega)
        · have hT : okT r.takes = true := by
            have key : ∀ (l : List Take), (∀ j, j < l.length → wi (nth l j).units 1 1099511627776 = true) → okT l = true := by
              intro l
              induction l with
              | nil => intro _; rfl
              | cons a t ih =>
                intro h
                simp only [okT, Bool.and_eq_true]
                exact ⟨h 0 (by simp), ih (fun j hj => h (j + 1) (by simpa using hj))⟩
            exact key _ hI
          unfold f_rate_Check_l3 f_rate_Check_j1
          rw [if_neg (by simp)]
          refine ⟨_, ?_, rfl⟩
          rw [hT]
          simp only [okT, Bool.true_and]
          have hS : loop (fun s => f_rate_Check_l2 r s.1 s.2) (r.setup, 0) = some (match seg r.gross r.setup r.segments with | none => false | some g => okG r.given && ends r g) := by
            refine loop_list (mk := fun (a : Int) i => (a, i)) (ga := Prod.fst) (gi := Prod.snd) (l := r.segments) (fun _ => rfl) (fun _ _ => rfl) (fun _ _ => rfl) (G := fun a l => some (match seg r.gross a l with | none => false | some g => okG r.given && ends r g)) (I := fun a k => 0 ≤ a ∧ a ≤ 1125899906842624 ∧ seg r.gross r.setup r.segments = seg r.gross a (r.segments.drop k)) (by omega) (fun a k hk hI => ?_) (fun a hI => ?_) (a := r.setup) ⟨by omega, by omega, rfl⟩
            · unfold f_rate_Check_l2
              simp only [Int.toNat_natCast]
              obtain ⟨hI1, hI2, hI3⟩ := hI
              rw [drop_nth hk] at hI3
              rw [if_pos (by simpa using hk), ck_pos (by omega)]
              change (∃ x, (Option.bind (some (wi (nth r.segments k).units 1 1099511627776)) _) = _ ∧ _) ∨ ∃ x, (Option.bind (some (wi (nth r.segments k).units 1 1099511627776)) _) = _ ∧ _
              rw [Option.bind_some]
              cases hw : wi (nth r.segments k).units 1 1099511627776 with
              | false => exact .inl ⟨false, rfl, by simp [seg, hw]⟩
              | true =>
                change (∃ x, (Option.bind (some (wi (nth r.segments k).amount 0 1125899906842624)) _) = _ ∧ _) ∨ ∃ x, (Option.bind (some (wi (nth r.segments k).amount 0 1125899906842624)) _) = _ ∧ _
                rw [Option.bind_some]
                cases hw2 : wi (nth r.segments k).amount 0 1125899906842624 with
                | false => exact .inl ⟨false, rfl, by simp [seg, hw, hw2]⟩
                | true =>
                  have ha := wi_iff.1 hw2
                  simp only [Bool.not_true, Bool.or_self, Bool.false_eq_true, if_false]
                  rw [ck_pos (fun h => by simp at h; omega)]
                  cases hc : decide (a > r.gross) || decide ((nth r.segments k).amount > r.gross - a) with
                  | true => exact .inl ⟨false, rfl, by simp only [seg, hw, hw2, hc]; rfl⟩
                  | false =>
                    have hc' := hc
                    simp only [Bool.or_eq_false_iff, decide_eq_false_iff_not] at hc'
                    simp only [Bool.false_eq_true, if_false]
                    rw [ck_pos (by omega), ck_pos (by omega)]
                    have e : seg r.gross a (nth r.segments k :: r.segments.drop (k + 1)) = seg r.gross (a + (nth r.segments k).amount) (r.segments.drop (k + 1)) := by
                      rw [seg, if_pos (by rw [hw, hw2, hc]; rfl)]
                    exact .inr ⟨_, rfl, ⟨by omega, by omega, by rw [hI3, e]⟩, by rw [e]⟩
            · unfold f_rate_Check_l2 f_rate_Check_j2
              obtain ⟨hI1, hI2, hI3⟩ := hI
              rw [List.drop_of_length_le (by omega)] at hI3
              rw [if_neg (by simp)]
              refine ⟨_, ?_, rfl⟩
              simp only [seg]
              have hG : loop (fun s => f_rate_Check_l1 r a s.1 s.2) (0, 0) = some (okG r.given && ends r a) := by
                refine loop_list (mk := fun (a : Int) i => (a, i)) (ga := Prod.fst) (gi := Prod.snd) (l := r.given) (fun _ => rfl) (fun _ _ => rfl) (fun _ _ => rfl) (G := fun _ l => some (okG l && ends r a)) (I := fun d k => 0 ≤ d ∧ d ≤ k * 1125899906842624 ∧ sG r.given = d + sG (r.given.drop k)) (by omega) (fun d k hk hI => ?_) (fun d hI => ?_) (a := (0 : Int)) ⟨by omega, by omega, by simp⟩
                · unfold f_rate_Check_l1
                  simp only [Int.toNat_natCast]
                  obtain ⟨hJ1, hJ2, hJ3⟩ := hI
                  rw [drop_nth hk] at hJ3
                  rw [if_pos (by simpa using hk), ck_pos (by omega)]
                  change (∃ x, (Option.bind (some (wi (nth r.given k).amount 1 1125899906842624)) _) = _ ∧ _) ∨ ∃ x, (Option.bind (some (wi (nth r.given k).amount 1 1125899906842624)) _) = _ ∧ _
                  rw [Option.bind_some]
                  cases hw : wi (nth r.given k).amount 1 1125899906842624 with
                  | false => exact .inl ⟨false, rfl, by simp [okG, hw]⟩
                  | true =>
                    have ha := wi_iff.1 hw
                    simp only [Bool.not_true, Bool.false_eq_true, if_false]
                    rw [ck_pos (by omega), ck_pos (by omega)]
                    simp only [sG] at hJ3
                    exact .inr ⟨_, rfl, ⟨by omega, by omega, by omega⟩, by simp [okG, hw]⟩
                · unfold f_rate_Check_l1 f_rate_Check_j3
                  obtain ⟨hJ1, hJ2, hJ3⟩ := hI
                  rw [List.drop_of_length_le (by omega)] at hJ3
                  simp only [sG, Int.add_zero] at hJ3
                  rw [if_neg (by simp), p_Units r (by omega) (by omega) hT hI3, Option.bind_some]
                  have hb1 := sT_bd hT
                  have hb2 := sS_bd hI3
                  rw [ck_pos (by simp only; omega), ck_pos (fun _ => by omega)]
                  refine ⟨_, ?_, rfl⟩
                  simp only [okG, Bool.true_and, ends, hJ3]
                  cases hA : (sT r.takes + sS r.segments == r.usage.units) <;> simp only [bne, hA, Bool.not_true, Bool.not_false, Bool.false_and, Bool.true_and, Bool.true_or, Bool.false_or, if_true, Bool.false_eq_true, if_false] <;> try rfl
                  cases hB : (a == r.gross) <;> simp only [bne, hB, Bool.not_true, Bool.not_false, Bool.false_and, Bool.true_and, Bool.true_or, Bool.false_or, if_true, Bool.false_eq_true, if_false] <;> try rfl
                  cases hC : (r.net == a - d) <;> simp only [bne, hC, Bool.not_true, Bool.not_false, Bool.false_and, Bool.true_and, Bool.true_or, Bool.false_or, if_true, Bool.false_eq_true, if_false] <;> try rfl
                  rw [ck_pos (fun _ => by omega)]
                  rfl
              rw [hG]
              rfl
          rw [hS]
          rfl
theorem r_Check (r : Rated) (hr : ROk r) : f_billingref37_Check r = some (checkB r) := by
  unfold f_billingref37_Check checkB
  split
  · rfl
  · change ((gcall (!bigB r) (some (wi r.setup 0 1125899906842624))).bind _) = _
    cases hbig : bigB r with
    | true =>
      rw [show gcall (!true) (some (wi r.setup 0 1125899906842624)) = some false from rfl, Option.bind_some]
      simp only [bigB] at hbig
      rw [hbig]; rfl
    | false =>
      rw [show gcall (!false) (some (wi r.setup 0 1125899906842624)) = some (wi r.setup 0 1125899906842624) from rfl, Option.bind_some]
      simp only [bigB] at hbig
      rw [hbig]
      simp only [Bool.false_or, Bool.false_eq_true, if_false]
      cases hw : wi r.setup 0 1125899906842624 with
      | false => rfl
      | true =>
        simp only [Bool.not_true, Bool.false_eq_true, if_false, if_true]
        simp only [Bool.or_eq_false_iff, decide_eq_false_iff_not] at hbig
        have hset := wi_iff.1 hw
        obtain ⟨hn, hp, ho, hg⟩ := hr
        unfold amt at hn hp ho hg
        refine loop_list (mk := fun (a : Int) i => (a, i)) (ga := Prod.fst) (gi := Prod.snd) (l := r.takes) (fun _ => rfl) (fun _ _ => rfl) (fun _ _ => rfl) (G := fun _ l => some (okT l && (match seg r.gross r.setup r.segments with | none => false | some g => okG r.given && ends r g))) (I := fun u k => 0 ≤ u ∧ u ≤ k * 1099511627776 ∧ sT r.takes = u + sT (r.takes.drop k)) (by omega) (fun u k hk hI => ?_) (fun u hI => ?_) (a := (0 : Int)) ⟨by omega, by omega, by simp⟩ |>.trans rfl
        · unfold f_billingref37_Check_l3
          simp only [Int.toNat_natCast]
          obtain ⟨hJ1, hJ2, hJ3⟩ := hI
          rw [drop_nth hk] at hJ3
          simp only [sT] at hJ3
          rw [if_pos (by simpa using hk), ck_pos (by omega)]
          change (∃ x, (Option.bind (some (wi (nth r.takes k).units 1 1099511627776)) _) = _ ∧ _) ∨ ∃ x, (Option.bind (some (wi (nth r.takes k).units 1 1099511627776)) _) = _ ∧ _
          rw [Option.bind_some]
          cases hw : wi (nth r.takes k).units 1 1099511627776 with
          | false => exact .inl ⟨false, rfl, by simp [okT, hw]⟩
          | true =>
            have ha := wi_iff.1 hw
            simp only [Bool.not_true, Bool.false_eq_true, if_false]
            rw [ck_pos (by omega), ck_pos (by omega), ck_pos (by omega)]
            exact .inr ⟨_, rfl, ⟨by omega, by omega, by omega⟩, by simp [okT, hw]⟩
        · unfold f_billingref37_Check_l3 f_billingref37_Check_j1
          obtain ⟨hJ1, hJ2, hJ3⟩ := hI
          rw [List.drop_of_length_le (by omega)] at hJ3
          simp only [sT, Int.add_zero] at hJ3
          rw [if_neg (by simp)]
          refine ⟨_, ?_, rfl⟩
          simp only [okT, Bool.true_and]
          have hS : loop (fun s => f_billingref37_Check_l2 r s.1 s.2.1 s.2.2) (u, r.setup, 0) = some (match seg r.gross r.setup r.segments with | none => false | some g => okG r.given && ends r g) := by
            refine loop_list (mk := fun (a : Int × Int) i => (a.1, a.2, i)) (ga := fun s => (s.1, s.2.1)) (gi := fun s => s.2.2) (l := r.segments) (fun _ => rfl) (fun _ _ => rfl) (fun _ _ => rfl) (G := fun a l => some (match seg r.gross a.2 l with | none => false | some g => okG r.given && ends r g)) (I := fun a k => 0 ≤ a.2 ∧ a.2 ≤ 1125899906842624 ∧ u ≤ a.1 ∧ a.1 ≤ u + k * 1099511627776 ∧ sT r.takes + sS r.segments = a.1 + sS (r.segments.drop k)) (by omega) (fun a k hk hI => ?_) (fun a hI => ?_) (a := (u, r.setup)) ⟨by simp only; omega, by simp only; omega, by simp, by simp, by simp [hJ3]⟩
            · unfold f_billingref37_Check_l2
              simp only [Int.toNat_natCast]
              obtain ⟨au, ag⟩ := a
              obtain ⟨hI1, hI2, hI3, hI4, hI5⟩ := hI
              simp only at hI1 hI2 hI3 hI4 hI5
              rw [drop_nth hk] at hI5
              simp only [sS] at hI5
              rw [if_pos (by simpa using hk), ck_pos (by omega)]
              change (∃ x, (Option.bind (some (wi (nth r.segments k).units 1 1099511627776)) _) = _ ∧ _) ∨ ∃ x, (Option.bind (some (wi (nth r.segments k).units 1 1099511627776)) _) = _ ∧ _
              rw [Option.bind_some]
              cases hw : wi (nth r.segments k).units 1 1099511627776 with
              | false =>
                rw [ck_pos (by intro h; simp at h)]
                exact .inl ⟨false, rfl, by simp [seg, hw]⟩
              | true =>
                have hu := wi_iff.1 hw
                rw [ck_pos (by omega)]
                change (∃ x, (Option.bind (some (wi (nth r.segments k).amount 0 1125899906842624)) _) = _ ∧ _) ∨ ∃ x, (Option.bind (some (wi (nth r.segments k).amount 0 1125899906842624)) _) = _ ∧ _
                rw [Option.bind_some]
                cases hw2 : wi (nth r.segments k).amount 0 1125899906842624 with
                | false => exact .inl ⟨false, rfl, by simp [seg, hw, hw2]⟩
                | true =>
                  have ha := wi_iff.1 hw2
                  simp only [Bool.not_true, Bool.or_self, Bool.false_eq_true, if_false]
                  rw [ck_pos (by omega), ck_pos (fun h => by simp at h; omega)]
                  cases hc : decide (ag > r.gross) || decide ((nth r.segments k).amount > r.gross - ag) with
                  | true => exact .inl ⟨false, rfl, by simp only [seg, hw, hw2, hc]; rfl⟩
                  | false =>
                    have hc' := hc
                    simp only [Bool.or_eq_false_iff, decide_eq_false_iff_not] at hc'
                    simp only [Bool.false_eq_true, if_false]
                    rw [ck_pos (by omega), ck_pos (by omega), ck_pos (by omega), ck_pos (by omega), ck_pos (by omega)]
                    have e : seg r.gross ag (nth r.segments k :: r.segments.drop (k + 1)) = seg r.gross (ag + (nth r.segments k).amount) (r.segments.drop (k + 1)) := by
                      rw [seg, if_pos (by rw [hw, hw2, hc]; rfl)]
                    exact .inr ⟨(au + (nth r.segments k).units, ag + (nth r.segments k).amount), rfl, ⟨by simp only; omega, by simp only; omega, by simp only; omega, by simp only; omega, by simp only; omega⟩, by simp only [e]⟩
            · unfold f_billingref37_Check_l2 f_billingref37_Check_j2
              obtain ⟨au, ag⟩ := a
              obtain ⟨hI1, hI2, hI3, hI4, hI5⟩ := hI
              simp only at hI1 hI2 hI3 hI4 hI5
              rw [List.drop_of_length_le (by omega)] at hI5
              simp only [sS, Int.add_zero] at hI5
              rw [if_neg (by simp)]
              refine ⟨_, ?_, rfl⟩
              simp only [seg]
              simp only [← hI5]
              have hG : (if (sT r.takes + sS r.segments != r.usage.units || ag != r.gross) = true then some false else loop (fun s => f_billingref37_Check_l1 r s.1 s.2) (r.gross, 0)) = some (okG r.given && ends r ag) := by
                cases hA : (sT r.takes + sS r.segments == r.usage.units) with
                | false => simp [bne, hA, ends]
                | true =>
                cases hB : (ag == r.gross) with
                | false => simp [bne, hB, ends]
                | true =>
                simp only [bne, hA, hB, Bool.not_true, Bool.or_self, Bool.false_eq_true, if_false]
                have hB' : ag = r.gross := by simpa using hB
                refine loop_list (mk := fun (a : Int) i => (a, i)) (ga := Prod.fst) (gi := Prod.snd) (l := r.given) (fun _ => rfl) (fun _ _ => rfl) (fun _ _ => rfl) (G := fun _ l => some (okG l && ends r ag)) (I := fun n k => n ≤ r.gross ∧ r.gross - k * 1125899906842624 ≤ n ∧ r.gross - sG r.given = n - sG (r.given.drop k)) (by omega) (fun n k hk hI => ?_) (fun n hI => ?_) (a := r.gross) ⟨by omega, by omega, by simp⟩
                · unfold f_billingref37_Check_l1
                  simp only [Int.toNat_natCast]
                  obtain ⟨hJ1, hJ2, hJ3⟩ := hI
                  rw [drop_nth hk] at hJ3
                  simp only [sG] at hJ3
                  rw [if_pos (by simpa using hk), ck_pos (by omega)]
                  change (∃ x, (Option.bind (some (wi (nth r.given k).amount 1 1125899906842624)) _) = _ ∧ _) ∨ ∃ x, (Option.bind (some (wi (nth r.given k).amount 1 1125899906842624)) _) = _ ∧ _
                  rw [Option.bind_some]
                  cases hw : wi (nth r.given k).amount 1 1125899906842624 with
                  | false => exact .inl ⟨false, rfl, by simp [okG, hw]⟩
                  | true =>
                    have ha := wi_iff.1 hw
                    simp only [Bool.not_true, Bool.false_eq_true, if_false]
                    rw [ck_pos (by omega), ck_pos (by omega), ck_pos (by omega)]
                    exact .inr ⟨_, rfl, ⟨by omega, by omega, by omega⟩, by simp [okG, hw]⟩
                · unfold f_billingref37_Check_l1 f_billingref37_Check_j3
                  obtain ⟨hJ1, hJ2, hJ3⟩ := hI
                  rw [List.drop_of_length_le (by omega)] at hJ3
                  simp only [sG, Int.sub_zero] at hJ3
                  rw [if_neg (by simp), ck_pos (fun _ => by omega)]
                  refine ⟨_, rfl, ?_⟩
                  simp only [okG, Bool.true_and, ends, hA, hB, Option.some.injEq]
                  rw [Bool.eq_iff_iff]
                  simp only [Bool.and_eq_true, decide_eq_true_eq, beq_iff_eq]
                  omega
              rw [hG]
              rfl
          rw [hS]
          rfl

/-! ### the leaks -/
def lk (r : Rated) : Leak := ⟨4, r.usage.id, r.net, r.paid + r.owed⟩
def moneyF (l : List Rated) : List Leak := (l.filter (fun r => !checkB r)).map lk
theorem moneyF_len (l : List Rated) : (moneyF l).length ≤ l.length := by
  unfold moneyF; rw [List.length_map]; exact List.length_filter_le _ _
theorem p_Money (l : List Rated) (hl : (l.length : Int) ≤ 24) (hr : ∀ k, k < l.length → ROk (nth l k)) : f_assure_Money l = some (moneyF l) := by
  unfold f_assure_Money
  refine loop_list (mk := fun a i => (a, i)) (ga := Prod.fst) (gi := Prod.snd) (l := l) (fun _ => rfl) (fun _ _ => rfl) (fun _ _ => rfl) (G := fun a l => some (a ++ moneyF l)) (I := fun a k => a.length ≤ k) (by omega) (fun a k hk hI => ?_) (fun a hI => ?_) (a := []) (by simp)
  · unfold f_assure_Money_l1
    simp only [Int.toNat_natCast]
    rw [if_pos (by simpa using hk), ck_pos (by omega), p_Check _ (hr k hk), Option.bind_some]
    obtain ⟨hn, hp, ho, hg⟩ := hr k hk
    unfold amt at hn hp ho hg
    cases hc : checkB (nth l k) with
    | true =>
      simp only [Bool.not_true, Bool.false_eq_true, if_false]
      rw [ck_pos (by omega)]
      exact .inr ⟨a, rfl, by omega, by simp [moneyF, hc]⟩
    | false =>
      simp only [Bool.not_false, if_true]
      rw [ck_pos (by omega), ck_pos (by simp; omega), ck_pos (by omega)]
      exact .inr ⟨_, rfl, by simp; omega, by simp [moneyF, hc, lk]⟩
  · unfold f_assure_Money_l1
    rw [if_neg (by simp)]
    exact ⟨_, rfl, by simp [moneyF]⟩
theorem r_Money (l : List Rated) (hl : (l.length : Int) ≤ 24) (hr : ∀ k, k < l.length → ROk (nth l k)) : f_billingref54_Money l = some (moneyF l) := by
  unfold f_billingref54_Money
  refine loop_list (mk := fun a i => (a, i)) (ga := Prod.fst) (gi := Prod.snd) (l := l) (fun _ => rfl) (fun _ _ => rfl) (fun _ _ => rfl) (G := fun a l => some (a ++ moneyF l)) (I := fun a k => a.length ≤ k) (by omega) (fun a k hk hI => ?_) (fun a hI => ?_) (a := []) (by simp)
  · unfold f_billingref54_Money_l1
    simp only [Int.toNat_natCast]
    rw [if_pos (by simpa using hk), ck_pos (by omega), r_Check _ (hr k hk), Option.bind_some]
    obtain ⟨hn, hp, ho, hg⟩ := hr k hk
    unfold amt at hn hp ho hg
    cases hc : checkB (nth l k) with
    | true =>
      simp only [Bool.not_true, Bool.false_eq_true, if_false]
      rw [ck_pos (by omega)]
      exact .inr ⟨a, rfl, by omega, by simp [moneyF, hc]⟩
    | false =>
      simp only [Bool.not_false, if_true]
      rw [ck_pos (by omega), ck_pos (by omega), ck_pos (by omega), ck_pos (by omega), ck_pos (by omega), ck_pos (by simp; omega), ck_pos (by omega)]
      exact .inr ⟨_, rfl, by simp; omega, by simp [moneyF, hc, lk]⟩
  · unfold f_billingref54_Money_l1
    rw [if_neg (by simp)]
    exact ⟨_, rfl, by simp [moneyF]⟩
theorem money_true (rs : List Rated) : f_billinglaw54_AssureMoney rs = some true := by
  unfold f_billinglaw54_AssureMoney
  obtain ⟨b, hb, hb2⟩ := Rated_tot rs
  rw [hb, Option.bind_some]
  cases b with
  | false => simp [x_awake]
  | true =>
    obtain ⟨h1, h2⟩ := hb2 rfl
    simp only [Bool.not_true, Bool.false_eq_true, if_false]
    rw [ck_pos (by omega), p_Money rs h1 h2, r_Money rs h1 h2, Option.bind_some, Option.bind_some]
    have := moneyF_len rs
    unfold x_Same
    rw [ck_pos (by omega)]
    simp [sameL_refl, x_awake, gcall]
end Go.Proofs.Ytpdanklncjopoab
