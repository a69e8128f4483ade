/- Our own texts F8 F9 C1 C2 C3 of this seat in one. -/
import Derived.Test.YtpdanklncjopoaaZ4
import Derived.Deep.Slices
import Derived.ChangeArms
import Derived.ProofKit
import Derived.Below
import Derived.ChangeSame
set_option linter.unusedSimpArgs false
set_option linter.unusedVariables false
namespace Go.Proofs.Ytpdanklncjopoaa
open Go.RowKit Go.Abs
theorem filter_take_succ {α : Type} [Inhabited α] {p : α → Bool} {l : List α} {k : Nat} (h : k < l.length) : (l.take (k + 1)).filter p = (l.take k).filter p ++ (if p (nth l k) then [nth l k] else []) := by
  rw [take_nth h, List.filter_append]
  simp only [List.filter_cons, List.filter_nil]
theorem filter_yes {α : Type} [Inhabited α] {p : α → Bool} {l : List α} {k : Nat} (h : k < l.length) (hp : p (nth l k) = true) : (l.take (k + 1)).filter p = (l.take k).filter p ++ [nth l k] := by rw [filter_take_succ h, hp]; rfl
theorem filter_no {α : Type} [Inhabited α] {p : α → Bool} {l : List α} {k : Nat} (h : k < l.length) (hp : p (nth l k) = false) : (l.take (k + 1)).filter p = (l.take k).filter p := by rw [filter_take_succ h, hp]; simp
theorem nth_map {α β : Type} [Inhabited α] [Inhabited β] {f : α → β} {l : List α} {k : Nat} (h : k < l.length) : nth (l.map f) k = f (nth l k) := by
  rw [nth_eq (by simpa using h), nth_eq h]; simp
theorem find_nth {α : Type} [Inhabited α] {p : α → Bool} {l : List α} : (l.find? p).getD default = nth (l.filter p) 0 := by
  induction l with
  | nil => rfl
  | cons a t ih =>
    rw [List.find?_cons, List.filter_cons]
    cases p a with
    | true => simp [nth]
    | false => simpa using ih
theorem find_take_succ {α : Type} [Inhabited α] {p : α → Bool} {l : List α} {k : Nat} (h : k < l.length) : (l.take (k + 1)).find? p = ((l.take k).find? p).or (if p (nth l k) then some (nth l k) else none) := by
  rw [take_nth h, List.find?_append, List.find?_singleton]
theorem nth_mem {α : Type} [Inhabited α] {l : List α} {k : Nat} (h : k < l.length) : nth l k ∈ l := by rw [nth_eq h]; exact List.getElem_mem h

/-! ### usages -/
def idP (x : Int) (u : Usage) : Bool := u.id == x
def leakU (us ru : List Usage) (x : Int) : List Leak :=
  let a := us.filter (idP x)
  let b := ru.filter (idP x)
  if a.length = b.length then (if eqVs (nth a 0).vals (nth b 0).vals = true then [] else [⟨3, x, (nth a 0).units, (nth b 0).units⟩]) else [⟨2, x, a.length, b.length⟩]
def keysU (us ru : List Usage) : List Int := keysOn (ru.map (·.id)) (keysOn (us.map (·.id)) [])
def usagesF (us ru : List Usage) : List Leak := ((keysU us ru).map (leakU us ru)).flatten
theorem keysU_len (us ru : List Usage) : (keysU us ru).length ≤ us.length + ru.length := by
  have h1 := keysOn_len (ru.map (·.id)) (keysOn (us.map (·.id)) [])
  have h2 := keysOn_len (us.map (·.id)) []
  simp at h1 h2
  unfold keysU; omega
/-- What the maps of one list hold after its first elements. -/
def CountU (us : List Usage) (k : Nat) (e : List (Int × Int)) (e8 : List (Int × Usage)) : Prop :=
  ∀ x, (alook e x).getD 0 = ((us.take k).filter (idP x)).length ∧ alook e8 x = (us.take k).find? (idP x)
theorem CountU.zero (us : List Usage) : CountU us 0 [] [] := fun x => ⟨by simp [alook_nil], by simp [alook_nil]⟩
theorem idP_self (u : Usage) : idP u.id u = true := by simp [idP]
theorem CountU.first {us : List Usage} {k : Nat} {e : List (Int × Int)} {e8 : List (Int × Usage)} (h : CountU us k e e8) (hk : k < us.length) (h0 : (alook e (nth us k).id).getD 0 = 0) :
    CountU us (k + 1) (aset e (nth us k).id ((alook e (nth us k).id).getD 0 + 1)) (aset e8 (nth us k).id (nth us k)) := by
  intro x
  rw [alook_aset, alook_aset, filter_take_succ hk, find_take_succ hk]
  obtain ⟨h1, h2⟩ := h x
  by_cases hx : x = (nth us k).id
  · subst hx
    simp only [beq_self_eq_true, if_true, idP_self]
    have hn : (us.take k).filter (idP (nth us k).id) = [] := List.eq_nil_of_length_eq_zero (by omega)
    have hf : (us.take k).find? (idP (nth us k).id) = none := by
      rw [List.find?_eq_none]
      intro u hu hp
      have : u ∈ (us.take k).filter (idP (nth us k).id) := List.mem_filter.2 ⟨hu, hp⟩
      rw [hn] at this; cases this
    rw [hn, hf]
    simp [h0]
  · have : idP x (nth us k) = false := by simpa [idP] using fun h => hx (Eq.symm h)
    have hb : (x == (nth us k).id) = false := by simpa using hx
    simp only [hb, this, Bool.false_eq_true, if_false]
    simp [h1, h2]
theorem CountU.again {us : List Usage} {k : Nat} {e : List (Int × Int)} {e8 : List (Int × Usage)} (h : CountU us k e e8) (hk : k < us.length) (h0 : (alook e (nth us k).id).getD 0 ≠ 0) :
    CountU us (k + 1) (aset e (nth us k).id ((alook e (nth us k).id).getD 0 + 1)) e8 := by
  intro x
  rw [alook_aset, filter_take_succ hk, find_take_succ hk]
  obtain ⟨h1, h2⟩ := h x
  by_cases hx : x = (nth us k).id
  · subst hx
    simp only [beq_self_eq_true, if_true, idP_self]
    refine ⟨by simp [h1], ?_⟩
    rw [h2]
    cases hf : (us.take k).find? (idP (nth us k).id) with
    | some u => rfl
    | none =>
      rw [List.find?_eq_none] at hf
      have : (us.take k).filter (idP (nth us k).id) = [] := List.filter_eq_nil_iff.2 hf
      rw [this] at h1
      exact absurd h1 h0
  · have : idP x (nth us k) = false := by simpa [idP] using fun h => hx (Eq.symm h)
    have hb : (x == (nth us k).id) = false := by simpa using hx
    simp only [hb, this, Bool.false_eq_true, if_false]
    simp [h1, h2]
theorem CountU.len {us : List Usage} {k : Nat} {e : List (Int × Int)} {e8 : List (Int × Usage)} (h : CountU us k e e8) (x : Int) : 0 ≤ (alook e x).getD 0 ∧ (alook e x).getD 0 ≤ us.length := by
  rw [(h x).1]
  have h1 := List.length_filter_le (idP x) (us.take k)
  have h2 : (us.take k).length ≤ us.length := by simp; omega
  omega
theorem CountU.all {us : List Usage} {e : List (Int × Int)} {e8 : List (Int × Usage)} (h : CountU us us.length e e8) (x : Int) : (alook e x).getD 0 = (us.filter (idP x)).length ∧ (alook e8 x).getD default = nth (us.filter (idP x)) 0 := by
  obtain ⟨h1, h2⟩ := h x
  rw [List.take_length] at h1 h2
  exact ⟨h1, by rw [h2]; exact find_nth⟩
theorem leakU_len (us ru : List Usage) (x : Int) : (leakU us ru x).length ≤ 1 := by
  unfold leakU
  simp only
  split
  · split <;> simp
  · simp
theorem flat_len1 {α : Type} {f : α → List Leak} (h : ∀ x, (f x).length ≤ 1) : ∀ l : List α, ((l.map f).flatten).length ≤ l.length
  | [] => by simp
  | a :: t => by
    have h1 := flat_len1 h t
    have h2 := h a
    simp at *; omega
theorem flat_take {α : Type} [Inhabited α] {f : α → List Leak} {l : List α} {k : Nat} (h : k < l.length) : ((l.take (k + 1)).map f).flatten = ((l.take k).map f).flatten ++ f (nth l k) := by
  rw [take_nth h]; simp
theorem flat_take_len {α : Type} {f : α → List Leak} (h : ∀ x, (f x).length ≤ 1) (l : List α) (k : Nat) : (((l.take k).map f).flatten).length ≤ l.length := by
  have h1 := flat_len1 h (l.take k)
  have h2 : (l.take k).length ≤ l.length := by simp; omega
  omega
theorem filter_pos {us : List Usage} {u : Usage} {x : Int} (h : u ∈ us) (hx : u.id = x) : 0 < (us.filter (idP x)).length :=
  List.length_pos_iff.2 (List.ne_nil_of_mem (List.mem_filter.2 ⟨h, by simp [idP, hx]⟩))
theorem keysU_pos {us ru : List Usage} {k : Nat} (h : k < (keysU us ru).length) : 0 < (us.filter (idP (nth (keysU us ru) k))).length ∨ 0 < (ru.filter (idP (nth (keysU us ru) k))).length := by
  have hm := nth_mem h
  rcases keysOn_has hm with h1 | h1
  · rcases keysOn_has h1 with h2 | h2
    · cases h2
    · obtain ⟨u, hu, he⟩ := List.mem_map.1 h2
      exact .inl (filter_pos hu he)
  · obtain ⟨u, hu, he⟩ := List.mem_map.1 h1
    exact .inr (filter_pos hu he)

/-! the lifted Usages -/
def ruOf (r : List Rated) : List Usage := r.map (·.usage)
theorem ruOf_nth {r : List Rated} {k : Nat} (h : k < r.length) : nth (ruOf r) k = (nth r k).usage := nth_map h
def SmallK (us : List Usage) (r : List Rated) : Prop := us.length ≤ 1000 ∧ r.length ≤ 1000
theorem p_U1 {us : List Usage} {r : List Rated} (hs : SmallK us r) {c f : List (Int × Int)} {a b : List (Int × Usage)} (h1 : CountU us us.length c a) (h2 : CountU (ruOf r) (ruOf r).length f b) :
    f_assure_Usages_j2 c a (keysU us (ruOf r)) f b = some (usagesF us (ruOf r)) := by
  unfold f_assure_Usages_j2
  have hkl := keysU_len us (ruOf r)
  have hrl : (ruOf r).length = r.length := by simp [ruOf]
  have hs1 := hs.1
  have hs2 := hs.2
  have := loop_spec (step := fun s => f_assure_Usages_l1 c a (keysU us (ruOf r)) f b s.1 s.2) (fun s : List Leak × Int => some (s.1 ++ (((keysU us (ruOf r)).drop s.2.toNat).map (leakU us (ruOf r))).flatten))
    (fun s => 0 ≤ s.2 ∧ s.2 ≤ ((keysU us (ruOf r)).length : Int) ∧ (s.1.length : Int) ≤ s.2) (fun s => (((keysU us (ruOf r)).length : Int) - s.2).toNat) (fun s hI => by
      obtain ⟨o, i⟩ := s
      obtain ⟨i0, i1, i2⟩ := hI
      simp only at i0 i1 i2 ⊢
      unfold f_assure_Usages_l1
      by_cases hi : i < ((keysU us (ruOf r)).length : Int)
      · rw [if_pos (by simpa using hi), ck_pos (by omega), drop_nth (show i.toNat < (keysU us (ruOf r)).length by omega)]
        generalize nth (keysU us (ruOf r)) i.toNat = x
        obtain ⟨q1, q2⟩ := h1.all x
        obtain ⟨q3, q4⟩ := h2.all x
        have q2' : (alook a x).getD (⟨0, 0, 0, 0, ([] : List UInt8), ([] : List UInt8), 0, 0, 0, false, 0, 0⟩ : Usage) = nth (us.filter (idP x)) 0 := q2
        have q4' : (alook b x).getD (⟨0, 0, 0, 0, ([] : List UInt8), ([] : List UInt8), 0, 0, 0, false, 0, 0⟩ : Usage) = nth ((ruOf r).filter (idP x)) 0 := q4
        rw [q1, q3, q2', q4', List.map_cons, List.flatten_cons]
        unfold leakU
        simp only
        by_cases hl : (us.filter (idP x)).length = ((ruOf r).filter (idP x)).length
        · rw [if_neg (by simp; omega), if_pos hl]
          by_cases hv : eqVs (nth (us.filter (idP x)) 0).vals (nth ((ruOf r).filter (idP x)) 0).vals = true
          · rw [if_neg (by simp [hv]), if_pos hv, ck_pos (by omega)]
            refine .inr ⟨_, rfl, ⟨by simp only; omega, by simp only; omega, by simp only; omega⟩, by simp only; omega, ?_⟩
            simp only
            rw [show (i + 1).toNat = i.toNat + 1 by omega]; simp [leakU]
          · rw [if_pos (by simp [hv]), if_neg hv, ck_pos (by simp; omega), ck_pos (by omega)]
            refine .inr ⟨_, rfl, ⟨by simp only; omega, by simp only; omega, by simp; omega⟩, by simp only; omega, ?_⟩
            simp only
            rw [show (i + 1).toNat = i.toNat + 1 by omega]; simp [leakU]
        · rw [if_pos (by simp; omega), if_neg hl, ck_pos (by simp; omega), ck_pos (by omega)]
          refine .inr ⟨_, rfl, ⟨by simp only; omega, by simp only; omega, by simp; omega⟩, by simp only; omega, ?_⟩
          simp only
          rw [show (i + 1).toNat = i.toNat + 1 by omega]; simp [leakU]
      · rw [if_neg (by simpa using hi), List.drop_of_length_le (by omega)]
        exact .inl ⟨_, rfl, by simp⟩) (s := ([], 0)) ⟨by simp, by simp, by simp⟩ (by simp only; omega)
  rw [this]; simp [usagesF]
theorem p_U2 {us : List Usage} {r : List Rated} (hs : SmallK us r) {c : List (Int × Int)} {a : List (Int × Usage)} (h1 : CountU us us.length c a) :
    f_assure_Usages_j1 r (keysOn (us.map (·.id)) []) c a = some (usagesF us (ruOf r)) := by
  unfold f_assure_Usages_j1
  have hrl : (ruOf r).length = r.length := by simp [ruOf]
  have hs1 := hs.1
  have hs2 := hs.2
  have hk0 := keysOn_len (us.map (·.id)) []
  simp at hk0
  have step : ∀ s : List Int × Int × List (Int × Int) × List (Int × Usage), ((0 ≤ s.2.1 ∧ s.2.1 ≤ (r.length : Int)) ∧ s.1 = keysOn (((ruOf r).map (·.id)).take s.2.1.toNat) (keysOn (us.map (·.id)) []) ∧ CountU (ruOf r) s.2.1.toNat s.2.2.1 s.2.2.2) →
      (∃ q, f_assure_Usages_l2 r c a s.1 s.2.1 s.2.2.1 s.2.2.2 = some (.inr q) ∧ some (usagesF us (ruOf r)) = some q) ∨
      ∃ s', f_assure_Usages_l2 r c a s.1 s.2.1 s.2.2.1 s.2.2.2 = some (.inl s') ∧ ((0 ≤ s'.2.1 ∧ s'.2.1 ≤ (r.length : Int)) ∧ s'.1 = keysOn (((ruOf r).map (·.id)).take s'.2.1.toNat) (keysOn (us.map (·.id)) []) ∧ CountU (ruOf r) s'.2.1.toNat s'.2.2.1 s'.2.2.2) ∧
        ((r.length : Int) - s'.2.1).toNat < ((r.length : Int) - s.2.1).toNat ∧ some (usagesF us (ruOf r)) = some (usagesF us (ruOf r)) := by
      intro s hI
      obtain ⟨ks, i, f, b⟩ := s
      obtain ⟨⟨i0, i1⟩, e1, h2⟩ := hI
      simp only at i0 i1 e1 h2 ⊢
      unfold f_assure_Usages_l2
      by_cases hi : i < (r.length : Int)
      · have hi' : i.toNat < (ruOf r).length := by omega
        have hasc : Asc ks := by rw [e1]; exact keysOn_asc (keysOn_asc asc_nil)
        have hkl : ks.length ≤ 2000 := by
          have := @keysOn_take_len ((ruOf r).map (·.id)) (keysOn (us.map (·.id)) []) i.toNat
          rw [← e1] at this
          simp at this
          omega
        have hb := h2.len (nth (ruOf r) i.toNat).id
        rw [ruOf_nth (by omega)] at hb
        rw [if_pos (by simpa using hi), ck_pos (by omega), p_keys (by omega) hasc, Option.bind_some]
        have hks : insK ks (nth r i.toNat).usage.id = keysOn (((ruOf r).map (·.id)).take (i.toNat + 1)) (keysOn (us.map (·.id)) []) := by
          rw [keysOn_take (by simpa using hi'), ← e1, nth_map hi', ruOf_nth (by omega)]
        by_cases h0 : (alook f (nth r i.toNat).usage.id).getD 0 = 0
        · rw [if_pos (by simpa using h0)]
          unfold f_assure_Usages_j3
          rw [ck_pos (by omega), ck_pos (by omega)]
          have := h2.first hi' (by rw [ruOf_nth (by omega)]; exact h0)
          rw [ruOf_nth (by omega)] at this
          refine .inr ⟨_, rfl, ⟨⟨by simp only; omega, by simp only; omega⟩, ?_, ?_⟩, by simp only; omega, trivial⟩
          · simp only; rw [show (i + 1).toNat = i.toNat + 1 by omega]; exact hks
          · simp only; rw [show (i + 1).toNat = i.toNat + 1 by omega]; exact this
        · rw [if_neg (by simpa using h0)]
          unfold f_assure_Usages_j3
          rw [ck_pos (by omega), ck_pos (by omega)]
          have := h2.again hi' (by rw [ruOf_nth (by omega)]; exact h0)
          rw [ruOf_nth (by omega)] at this
          refine .inr ⟨_, rfl, ⟨⟨by simp only; omega, by simp only; omega⟩, ?_, ?_⟩, by simp only; omega, trivial⟩
          · simp only; rw [show (i + 1).toNat = i.toNat + 1 by omega]; exact hks
          · simp only; rw [show (i + 1).toNat = i.toNat + 1 by omega]; exact this
      · have hir : i.toNat = (ruOf r).length := by omega
        rw [hir] at h2 e1
        have e2 : ks = keysU us (ruOf r) := by
          rw [e1, List.take_of_length_le (by simp)]; rfl
        rw [if_neg (by simpa using hi), e2, p_U1 hs h1 h2]
        exact .inl ⟨_, rfl, rfl⟩
  have h0 : ((0 : Int) ≤ 0 ∧ (0 : Int) ≤ (r.length : Int)) ∧ keysOn (us.map (·.id)) [] = keysOn (((ruOf r).map (·.id)).take (Int.toNat 0)) (keysOn (us.map (·.id)) []) ∧ CountU (ruOf r) (Int.toNat 0) [] [] := ⟨⟨by omega, by omega⟩, rfl, CountU.zero _⟩
  exact loop_spec (F := fun _ => some (usagesF us (ruOf r))) (I := fun s : List Int × Int × List (Int × Int) × List (Int × Usage) => (0 ≤ s.2.1 ∧ s.2.1 ≤ (r.length : Int)) ∧ s.1 = keysOn (((ruOf r).map (·.id)).take s.2.1.toNat) (keysOn (us.map (·.id)) []) ∧ CountU (ruOf r) s.2.1.toNat s.2.2.1 s.2.2.2) (μ := fun s => ((r.length : Int) - s.2.1).toNat) step h0 (by simp only; omega)
theorem p_Usages {us : List Usage} {r : List Rated} (hs : SmallK us r) : f_assure_Usages us r = some (usagesF us (ruOf r)) := by
  unfold f_assure_Usages
  have hs1 := hs.1
  have hs2 := hs.2
  exact loop_spec (step := fun s => f_assure_Usages_l3 us r s.1 s.2.1 s.2.2.1 s.2.2.2) (fun s : List Int × Int × List (Int × Int) × List (Int × Usage) => some (usagesF us (ruOf r)))
    (fun s => (0 ≤ s.2.1 ∧ s.2.1 ≤ (us.length : Int)) ∧ s.1 = keysOn ((us.map (·.id)).take s.2.1.toNat) [] ∧ CountU us s.2.1.toNat s.2.2.1 s.2.2.2) (fun s => ((us.length : Int) - s.2.1).toNat) (fun s hI => by
      obtain ⟨ks, i, f, b⟩ := s
      obtain ⟨⟨i0, i1⟩, e1, h2⟩ := hI
      simp only at i0 i1 e1 h2 ⊢
      unfold f_assure_Usages_l3
      by_cases hi : i < (us.length : Int)
      · have hi' : i.toNat < us.length := by omega
        have hasc : Asc ks := by rw [e1]; exact keysOn_asc asc_nil
        have hkl : ks.length ≤ 2000 := by
          have := @keysOn_take_len (us.map (·.id)) [] i.toNat
          rw [← e1] at this
          simp at this
          omega
        have hb := h2.len (nth us i.toNat).id
        rw [if_pos (by simpa using hi), ck_pos (by omega), p_keys (by omega) hasc, Option.bind_some]
        have hks : insK ks (nth us i.toNat).id = keysOn ((us.map (·.id)).take (i.toNat + 1)) [] := by
          rw [keysOn_take (by simpa using hi'), ← e1, nth_map hi']
        by_cases h0 : (alook f (nth us i.toNat).id).getD 0 = 0
        · rw [if_pos (by simpa using h0)]
          unfold f_assure_Usages_j4
          rw [ck_pos (by omega), ck_pos (by omega)]
          refine .inr ⟨_, rfl, ⟨⟨by simp only; omega, by simp only; omega⟩, ?_, ?_⟩, by simp only; omega, trivial⟩
          · simp only; rw [show (i + 1).toNat = i.toNat + 1 by omega]; exact hks
          · simp only; rw [show (i + 1).toNat = i.toNat + 1 by omega]; exact h2.first hi' h0
        · rw [if_neg (by simpa using h0)]
          unfold f_assure_Usages_j4
          rw [ck_pos (by omega), ck_pos (by omega)]
          refine .inr ⟨_, rfl, ⟨⟨by simp only; omega, by simp only; omega⟩, ?_, ?_⟩, by simp only; omega, trivial⟩
          · simp only; rw [show (i + 1).toNat = i.toNat + 1 by omega]; exact hks
          · simp only; rw [show (i + 1).toNat = i.toNat + 1 by omega]; exact h2.again hi' h0
      · have hir : i.toNat = us.length := by omega
        rw [hir] at h2 e1
        have e2 : ks = keysOn (us.map (·.id)) [] := by
          rw [e1, List.take_of_length_le (by simp)]
        rw [if_neg (by simpa using hi), e2, p_U2 hs h2]
        exact .inl ⟨_, rfl, rfl⟩) (s := ([], 0, [], [])) ⟨⟨by simp, by simp⟩, by simp [keysOn], CountU.zero _⟩ (by simp only; omega)
end Go.Proofs.Ytpdanklncjopoaa

set_option linter.unusedSimpArgs false
set_option linter.unusedVariables false
namespace Go.Proofs.Ytpdanklncjopoaa
open Go.RowKit Go.Abs
/-! a rated usage that is missing or changed is found -/
theorem Usage.eq_refl (r : Usage) : eqVs r.vals r.vals = true := by simp [Usage.vals, eqVs, eqV]
theorem asc_nodup : ∀ {l : List Int}, Asc l → l.Nodup
  | [], _ => List.nodup_nil
  | a :: t, h => by
    rw [List.nodup_cons]
    refine ⟨fun hm => ?_, asc_nodup h.tail⟩
    obtain ⟨j, hj, e⟩ := List.mem_iff_getElem.1 hm
    have := h 0 (j + 1) (by omega) (by simp; omega)
    rw [nth_cons_zero, nth_cons_succ, nth_eq hj, e] at this
    omega
theorem insK_self (l : List Int) (n : Int) : n ∈ insK l n := by
  induction l with
  | nil => simp [insK]
  | cons a t ih =>
    unfold insK
    split
    · exact List.mem_cons_of_mem _ ih
    · split
      · rename_i h; rw [h]; exact List.mem_cons_self
      · exact List.mem_cons_self
theorem insK_keep {l : List Int} {n x : Int} (h : x ∈ l) : x ∈ insK l n := by
  induction l with
  | nil => cases h
  | cons a t ih =>
    unfold insK
    split
    · rcases List.mem_cons.1 h with h | h
      · rw [h]; exact List.mem_cons_self
      · exact List.mem_cons_of_mem _ (ih h)
    · split
      · exact h
      · exact List.mem_cons_of_mem _ h
theorem keysOn_keep : ∀ {l s : List Int} {x : Int}, x ∈ s → x ∈ keysOn l s
  | [], s, x, h => h
  | a :: t, s, x, h => keysOn_keep (l := t) (insK_keep h)
theorem keysOn_in : ∀ {l s : List Int} {x : Int}, x ∈ l → x ∈ keysOn l s
  | a :: t, s, x, h => by
    rcases List.mem_cons.1 h with h | h
    · subst h; exact keysOn_keep (l := t) (insK_self s x)
    · exact keysOn_in (l := t) h
theorem keysU_nodup (us ru : List Usage) : (keysU us ru).Nodup := asc_nodup (keysOn_asc (keysOn_asc asc_nil))
theorem keysU_in {us ru : List Usage} {u : Usage} (h : u ∈ us) : u.id ∈ keysU us ru := keysOn_keep (keysOn_in (List.mem_map_of_mem h))
theorem flat_none {α : Type} {f : α → List Leak} : ∀ {l : List α}, (∀ x, x ∈ l → f x = []) → (l.map f).flatten = []
  | [], _ => rfl
  | a :: t, h => by rw [List.map_cons, List.flatten_cons, h a List.mem_cons_self, flat_none fun x hx => h x (List.mem_cons_of_mem _ hx)]; rfl
theorem flat_one {f : Int → List Leak} {a : Int} {v : List Leak} : ∀ {l : List Int}, l.Nodup → a ∈ l → (∀ x, x ∈ l → x ≠ a → f x = []) → f a = v → (l.map f).flatten = v
  | [], _, h, _, _ => by cases h
  | b :: t, hn, h, h1, h2 => by
    rw [List.nodup_cons] at hn
    rw [List.map_cons, List.flatten_cons]
    by_cases hb : b = a
    · subst hb
      rw [flat_none fun x hx => h1 x (List.mem_cons_of_mem _ hx) fun e => hn.1 (e ▸ hx), h2, List.append_nil]
    · rw [h1 b List.mem_cons_self hb, List.nil_append]
      exact flat_one hn.2 ((List.mem_cons.1 h).resolve_left (Ne.symm hb)) (fun x hx => h1 x (List.mem_cons_of_mem _ hx)) h2
theorem usages_same (us : List Usage) : usagesF us us = [] := by
  unfold usagesF
  refine flat_none fun x _ => ?_
  unfold leakU
  simp [Usage.eq_refl]
/-- No two usages have the same number. -/
def Dist (us : List Usage) : Prop := ∀ i j, i < j → j < us.length → (nth us i).id ≠ (nth us j).id
theorem nth_take' {α : Type} [Inhabited α] (l : List α) (n i : Nat) (h : i < n) : nth (l.take n) i = nth l i := by
  unfold nth; rw [List.getD_eq_getElem?_getD, List.getD_eq_getElem?_getD, List.getElem?_take, if_pos h]
theorem split_at {us : List Usage} {k : Nat} (hk : k < us.length) : us = us.take k ++ nth us k :: us.drop (k + 1) := by
  rw [← drop_nth hk, List.take_append_drop]
theorem dist_out {us : List Usage} {k : Nat} (hd : Dist us) (hk : k < us.length) : (∀ u, u ∈ us.take k → u.id ≠ (nth us k).id) ∧ ∀ u, u ∈ us.drop (k + 1) → u.id ≠ (nth us k).id := by
  constructor
  · intro u hu
    obtain ⟨j, hj, e⟩ := List.mem_iff_getElem.1 hu
    have hj' : j < k := by simp at hj; omega
    have := hd j k hj' hk
    rw [← e, ← nth_eq hj, nth_take' _ _ _ hj']
    exact this
  · intro u hu
    obtain ⟨j, hj, e⟩ := List.mem_iff_getElem.1 hu
    have hj' : k + 1 + j < us.length := by simp at hj; omega
    have := hd k (k + 1 + j) (by omega) hj'
    rw [← e, List.getElem_drop, ← nth_eq hj']
    exact Ne.symm this
theorem filter_out {l : List Usage} {x : Int} (h : ∀ u, u ∈ l → u.id ≠ x) : l.filter (idP x) = [] :=
  List.filter_eq_nil_iff.2 fun u hu => by simpa [idP] using h u hu
theorem filter_at {us : List Usage} {k : Nat} (hd : Dist us) (hk : k < us.length) : us.filter (idP (nth us k).id) = [nth us k] := by
  obtain ⟨h1, h2⟩ := dist_out hd hk
  rw [split_at hk, List.filter_append, filter_out (by rw [← split_at hk]; exact h1), List.nil_append, List.filter_cons]
  rw [← split_at hk]
  simp [idP_self, filter_out h2]
theorem usages_fewer {us : List Usage} {k : Nat} (hd : Dist us) (hk : k < us.length) : usagesF us (us.take k ++ us.drop (k + 1)) = [⟨2, (nth us k).id, 1, 0⟩] := by
  obtain ⟨h1, h2⟩ := dist_out hd hk
  have hin : nth us k ∈ us := by rw [nth_eq hk]; exact List.getElem_mem _
  unfold usagesF
  refine flat_one (keysU_nodup _ _) (keysU_in hin) (fun x _ hx => ?_) ?_
  · have e : us.filter (idP x) = (us.take k ++ us.drop (k + 1)).filter (idP x) := by
      conv => lhs; rw [split_at hk]
      rw [List.filter_append, List.filter_append, List.filter_cons]
      have : idP x (nth us k) = false := by simpa [idP] using fun e => hx (Eq.symm e)
      simp [this]
    unfold leakU
    simp only
    rw [← e]
    simp [Usage.eq_refl]
  · unfold leakU
    simp only
    rw [filter_at hd hk, List.filter_append, filter_out h1, filter_out h2]
    simp
theorem usages_set {us : List Usage} {k : Nat} {v : Usage} (hd : Dist us) (hk : k < us.length) (hv : v.id = (nth us k).id) :
    usagesF us (us.set k v) = if eqVs (nth us k).vals v.vals = true then [] else [⟨3, (nth us k).id, (nth us k).units, v.units⟩] := by
  obtain ⟨h1, h2⟩ := dist_out hd hk
  have hin : nth us k ∈ us := by rw [nth_eq hk]; exact List.getElem_mem _
  have hset : us.set k v = us.take k ++ v :: us.drop (k + 1) := by rw [List.set_eq_take_append_cons_drop, if_pos hk]
  unfold usagesF
  refine flat_one (keysU_nodup _ _) (keysU_in hin) (fun x _ hx => ?_) ?_
  · have e : us.filter (idP x) = (us.set k v).filter (idP x) := by
      conv => lhs; rw [split_at hk]
      rw [hset, List.filter_append, List.filter_append, List.filter_cons, List.filter_cons]
      have a1 : idP x (nth us k) = false := by simpa [idP] using fun e => hx (Eq.symm e)
      have a2 : idP x v = false := by simpa [idP, hv] using fun e => hx (Eq.symm e)
      simp [a1, a2]
    unfold leakU
    simp only
    rw [← e]
    simp [Usage.eq_refl]
  · have e2 : (us.set k v).filter (idP (nth us k).id) = [v] := by
      rw [hset, List.filter_append, filter_out h1, List.filter_cons]
      have : idP (nth us k).id v = true := by simp [idP, hv]
      simp [this, filter_out h2]
    unfold leakU
    simp only
    rw [filter_at hd hk, e2]
    simp [nth]
/-- A usage as the law rates it. -/
def mkR (u : Usage) : Rated := ⟨u, 0, [], 0, [], [], [], 0, 0, 0, [], 0, 0⟩
theorem ruOf_mk (us : List Usage) : ruOf (us.map mkR) = us := by simp [ruOf, mkR, Function.comp_def]
theorem nth_mk {us : List Usage} {k : Nat} (h : k < us.length) : nth (us.map mkR) k = mkR (nth us k) := nth_map h
def setU (u : Usage) (n : Int) : Usage := { u with units := n }
theorem eq_units (u : Usage) (n : Int) : eqVs u.vals (setU u n).vals = (u.units == n) := by
  simp [Usage.vals, setU, eqVs, eqV]
theorem found_j1 {us : List Usage} {k n : Int} (hl : us.length ≤ 100) (hk : 0 ≤ k ∧ k < (us.length : Int)) (hd : Dist us) :
    f_billinglaw54_AssureFound_j1 us k n (us.map mkR) ((us.take k.toNat ++ us.drop (k.toNat + 1)).map mkR) = some true := by
  have hkn : k.toNat < us.length := by omega
  have hrl : (us.map mkR).length = us.length := by simp
  have hfl : ((us.take k.toNat ++ us.drop (k.toNat + 1)).map mkR).length ≤ us.length := by simp; omega
  unfold f_billinglaw54_AssureFound_j1
  rw [ck_pos (by omega), ck_pos (by omega), p_Usages ⟨by omega, by omega⟩, ruOf_mk, usages_same, Option.bind_some, if_neg (by simp), ck_pos (by omega), p_Usages ⟨by omega, by omega⟩, ruOf_mk, usages_fewer hd hkn, Option.bind_some, ck_pos hk,
    p_Same _ (by simp), Option.bind_some, if_neg (by simp), ck_pos (by omega), ck_pos (by omega), ck_pos (by omega), nth_mk hkn]
  have hset : (us.map mkR).set k.toNat (⟨⟨(mkR (nth us k.toNat)).usage.id, (mkR (nth us k.toNat)).usage.kind, (mkR (nth us k.toNat)).usage.account, (mkR (nth us k.toNat)).usage.sub, (mkR (nth us k.toNat)).usage.a, (mkR (nth us k.toNat)).usage.b, (mkR (nth us k.toNat)).usage.start, n, (mkR (nth us k.toNat)).usage.trunk, (mkR (nth us k.toNat)).usage.inbound, (mkR (nth us k.toNat)).usage.source, (mkR (nth us k.toNat)).usage.serial⟩, (mkR (nth us k.toNat)).err, (mkR (nth us k.toNat)).plan, (mkR (nth us k.toNat)).version, (mkR (nth us k.toNat)).zone, (mkR (nth us k.toNat)).takes, (mkR (nth us k.toNat)).segments, (mkR (nth us k.toNat)).setup, (mkR (nth us k.toNat)).gross, (mkR (nth us k.toNat)).net, (mkR (nth us k.toNat)).given, (mkR (nth us k.toNat)).paid, (mkR (nth us k.toNat)).owed⟩ : Rated) = (us.set k.toNat (setU (nth us k.toNat) n)).map mkR := by
    rw [List.map_set]; rfl
  rw [hset, p_Usages ⟨by omega, by simp; omega⟩, ruOf_mk, usages_set (v := setU (nth us k.toNat) n) hd hkn rfl, eq_units, Option.bind_some, ck_pos hk, awake_true]
  by_cases hn : n = (nth us k.toNat).units
  · rw [if_pos (by simpa using hn), if_pos (by simp [hn])]; rfl
  · rw [if_neg (by simpa using hn), ck_pos hk, ck_pos hk, if_neg (by simpa using fun e => hn (Eq.symm e))]
    rw [show (setU (nth us k.toNat) n).units = n from rfl, p_Same _ (by simp), Option.bind_some]; rfl
theorem found_l2 {us : List Usage} {k i : Int} {ra fe : List Rated} (hl : us.length ≤ 100) (h0 : 0 ≤ i) (h1 : i < (us.length : Int)) (hra : ra.length ≤ 100) (hfe : fe.length ≤ 100) :
    ∃ r, loop (fun s => f_billinglaw54_AssureFound_l2 us k ra fe i s) 0 = some r ∧ (r = .inr true ∨ (r = .inl (ra ++ [mkR (nth us i.toNat)], fe ++ (if i = k then [] else [mkR (nth us i.toNat)]), i + 1) ∧ ∀ j, j < i.toNat → (nth us j).id ≠ (nth us i.toNat).id)) := by
  refine loop_post (step := fun s => f_billinglaw54_AssureFound_l2 us k ra fe i s) _ (fun j : Int => (0 ≤ j ∧ j ≤ i) ∧ ∀ m, m < j.toNat → (nth us m).id ≠ (nth us i.toNat).id) (fun j => (i - j).toNat) (fun j hI => ?_) ⟨⟨by omega, by omega⟩, by simp⟩ (by omega)
  obtain ⟨⟨j0, j1⟩, j2⟩ := hI
  unfold f_billinglaw54_AssureFound_l2
  by_cases hj : j < i
  · rw [if_pos (by simpa using hj), ck_pos (by omega), ck_pos (by omega)]
    by_cases he : (nth us j.toNat).id = (nth us i.toNat).id
    · rw [if_pos (by simpa using he), awake_true]
      exact .inl ⟨_, rfl, .inl rfl⟩
    · rw [if_neg (by simpa using he), ck_pos (by omega)]
      refine .inr ⟨_, rfl, ⟨⟨by omega, by omega⟩, fun m hm => ?_⟩, by omega⟩
      by_cases hmj : m = j.toNat
      · rw [hmj]; exact he
      · exact j2 m (by omega)
  · have e : j = i := by omega
    subst e
    rw [if_neg (by simp)]
    unfold f_billinglaw54_AssureFound_j2
    have hm : (⟨nth us j.toNat, 0, ([] : List UInt8), 0, ([] : List UInt8), ([] : List Take), ([] : List Segment), 0, 0, 0, ([] : List Given), 0, 0⟩ : Rated) = mkR (nth us j.toNat) := rfl
    rw [hm, ck_pos (by omega), ck_pos (by simp; omega)]
    by_cases hk : j = k
    · rw [if_neg (by simpa using hk), ck_pos (by omega)]
      exact .inl ⟨_, rfl, .inr ⟨by simp [hk], j2⟩⟩
    · rw [if_pos (by simpa using hk), ck_pos (by omega), ck_pos (by simp; omega), ck_pos (by omega)]
      exact .inl ⟨_, rfl, .inr ⟨by simp [hk], j2⟩⟩
theorem fewer_step {us : List Usage} {k i : Nat} (hi : i < us.length) : ((us.take (i + 1)).eraseIdx k).map mkR = ((us.take i).eraseIdx k).map mkR ++ (if i = k then [] else [mkR (nth us i)]) := by
  rw [take_nth hi]
  have hlen : (us.take i).length = i := by simp; omega
  by_cases h : i = k
  · subst h
    rw [if_pos rfl, List.append_nil, List.eraseIdx_append_of_length_le (by omega), hlen, Nat.sub_self]
    rw [show (us.take i).eraseIdx i = us.take i from List.eraseIdx_of_length_le (by omega)]
    simp
  · rw [if_neg h]
    by_cases h2 : k < i
    · rw [List.eraseIdx_append_of_lt_length (by omega)]
      simp
    · rw [List.eraseIdx_append_of_length_le (by omega), show (us.take i).eraseIdx k = us.take i from List.eraseIdx_of_length_le (by omega), show ([nth us i] : List Usage).eraseIdx (k - (us.take i).length) = [nth us i] from List.eraseIdx_of_length_le (by simp only [List.length_cons, List.length_nil]; omega)]
      simp
theorem p_usages (us : List Usage) (hl : us.length < 9223372036854775808) : ∃ r, f_billinglaw54_usages us = some r ∧ (r = true → us.length ≤ 24) := by
  unfold f_billinglaw54_usages
  refine loop_post (step := fun s => f_billinglaw54_usages_l1 us s) (fun r => r = true → us.length ≤ 24) (fun i : Int => 0 ≤ i ∧ i ≤ (us.length : Int)) (fun i => ((us.length : Int) - i).toNat) (fun i hI => ?_) ⟨by omega, by omega⟩ (by omega)
  obtain ⟨i0, i1⟩ := hI
  unfold f_billinglaw54_usages_l1
  by_cases h : i < (us.length : Int) ∧ i ≤ 24
  · rw [if_pos (by simpa using h), ck_pos (by omega), ck_pos (by intro _; omega)]
    split
    · exact .inl ⟨_, rfl, fun h => by cases h⟩
    · rw [ck_pos (by omega)]
      exact .inr ⟨_, rfl, ⟨by omega, by omega⟩, by omega⟩
  · rw [if_neg (by simpa using h)]
    exact .inl ⟨_, rfl, fun hd => by have := of_decide_eq_true hd; omega⟩
theorem found_true (us : List Usage) (k n : Int) (hl : us.length < 9223372036854775808) : f_billinglaw54_AssureFound us k n = some true := by
  unfold f_billinglaw54_AssureFound
  obtain ⟨r, e, hr⟩ := p_usages us hl
  rw [e, Option.bind_some]
  split
  · rw [awake_true]; rfl
  · rename_i hc
    simp only [Bool.or_eq_true, Bool.not_eq_true', decide_eq_true_eq, not_or, Bool.not_eq_false] at hc
    obtain ⟨⟨⟨⟨c1, c2⟩, c3⟩, c4⟩, c5⟩ := hc
    have hlen := hr c1
    have hk : 0 ≤ k ∧ k < (us.length : Int) := ⟨by omega, by omega⟩
    obtain ⟨q, h1, h2⟩ := loop_post (step := fun s => f_billinglaw54_AssureFound_l1 us k n s.1 s.2.1 s.2.2) (fun r => r = true)
      (fun s : List Rated × List Rated × Int => (0 ≤ s.2.2 ∧ s.2.2 ≤ (us.length : Int)) ∧ s.1 = (us.take s.2.2.toNat).map mkR ∧ s.2.1 = ((us.take s.2.2.toNat).eraseIdx k.toNat).map mkR ∧ ∀ a b, a < b → b < s.2.2.toNat → (nth us a).id ≠ (nth us b).id)
      (fun s => ((us.length : Int) - s.2.2).toNat) (fun s hI => by
        obtain ⟨ra, fe, i⟩ := s
        obtain ⟨⟨i0, i1⟩, e1, e2, hd⟩ := hI
        simp only at i0 i1 e1 e2 hd ⊢
        have hra : ra.length ≤ 24 := by rw [e1]; simp; omega
        have hfe : fe.length ≤ 24 := by
          rw [e2, List.length_map]
          have := List.length_eraseIdx_le (us.take i.toNat) k.toNat
          simp at this
          omega
        unfold f_billinglaw54_AssureFound_l1
        by_cases hi : i < (us.length : Int)
        · rw [if_pos (by simpa using hi)]
          obtain ⟨q, q1, q2⟩ := found_l2 (k := k) (ra := ra) (fe := fe) (show us.length ≤ 100 by omega) i0 hi (by omega) (by omega)
          rw [q1]
          rcases q2 with q2 | ⟨q2, q3⟩
          · rw [q2]; exact .inl ⟨_, rfl, rfl⟩
          · rw [q2]
            refine .inr ⟨_, rfl, ⟨⟨by simp only; omega, by simp only; omega⟩, ?_, ?_, fun a b hab hb => ?_⟩, by simp only; omega⟩
            · simp only
              rw [show (i + 1).toNat = i.toNat + 1 by omega, take_nth (show i.toNat < us.length by omega), List.map_append, e1]; rfl
            · simp only
              rw [show (i + 1).toNat = i.toNat + 1 by omega, fewer_step (by omega), e2]
              congr 1
              by_cases hik : i = k
              · rw [if_pos hik, if_pos (by omega)]
              · rw [if_neg hik, if_neg (by omega)]
            · simp only at hb
              by_cases hbi : b = i.toNat
              · subst hbi; exact q3 a hab
              · exact hd a b hab (by omega)
        · rw [if_neg (by simpa using hi)]
          have hin : i.toNat = us.length := by omega
          rw [hin, List.take_length] at e1 e2
          have hd' : Dist us := fun a b hab hb => hd a b hab (by omega)
          have ee : us.eraseIdx k.toNat = us.take k.toNat ++ us.drop (k.toNat + 1) := List.eraseIdx_eq_take_drop_succ _ _
          rw [ee] at e2
          rw [e1, e2, found_j1 (by omega) hk hd']
          exact .inl ⟨_, rfl, rfl⟩) (s := ([], [], 0)) ⟨⟨by simp, by simp⟩, by simp, by simp, by simp⟩ (by simp only; omega)
    rw [h1, h2]
end Go.Proofs.Ytpdanklncjopoaa

/- A row's arguments opened: what the given reading says of a typed argument, as data of this layer. -/
set_option linter.unusedSimpArgs false
set_option linter.unusedVariables false
set_option linter.unusedSectionVars false
namespace Go.Abs
open Go.RowKit Go.ChangeShapes Go.WideShapes Go.Deep

inductive Sh where
  | i (k : IntKind)
  | b
  | s
  | sl (row : List Sh)
inductive DFits : Sh → D → Prop where
  | i (k : IntKind) (n : Int) (h : (Lit.int k n).wf = true) : DFits (.i k) (.ex (.int k n))
  | b (x : Bool) : DFits .b (.ex (.bool x))
  | s (l : List UInt8) (h : l.length ≤ maxLen) : DFits .s (.ex (.string ⟨l.toArray⟩))
  | sl (row : List Sh) (rows : List (List D)) (hn : rows.length ≤ maxLen) (h1 : ∀ r, r ∈ rows → r.length = row.length)
      (h : ∀ r, r ∈ rows → ∀ (i : Nat) sh d, row[i]? = some sh → r[i]? = some d → DFits sh d) : DFits (.sl row) (.sl row.length rows)
def shapeFs (P : Program) (rec : TypeId → Option (List Sh)) : List Field → Nat → Option (List Sh)
  | [], _ => some []
  | f :: fs, off => match rec f.type with
    | some r => if Nat.beq f.offset off && Nat.beq r.length (P.cellsOf f.type) then (shapeFs P rec fs (off + r.length)).map (r ++ ·) else none
    | none => none
def shape (P : Program) : Nat → TypeId → Option (List Sh)
  | 0, _ => none
  | n + 1, t => match P.underlying t with
    | some (.int k) => some [.i k]
    | some .bool => some [.b]
    | some .string => some [.s]
    | some (.slice e) => match shape P n e with
      | some r => if Nat.beq r.length (P.cellsOf e) && Nat.blt 0 r.length then some [.sl r] else none
      | none => none
    | some (.struct fs) => match shapeFs P (shape P n) fs.toList 0 with
      | some r => if Nat.beq r.length (P.cellsOf t) then some r else none
      | none => none
    | _ => none
/-- What is read is data of the shape. -/
def Opens (lim : Nat → Nat) (w : World) (shs : List Sh) (cs : List Value) : Prop :=
  ∃ ds : List D, ds.length = shs.length ∧ cs.length = shs.length ∧ ∀ (i : Nat) sh d c, shs[i]? = some sh → ds[i]? = some d → cs[i]? = some c → DFits sh d ∧ DRep lim w d c ∧ c.oneCell' = true
theorem Opens.one {lim : Nat → Nat} {w : World} {sh : Sh} {d : D} {c : Value} (h1 : DFits sh d) (h2 : DRep lim w d c) (h3 : c.oneCell' = true) : Opens lim w [sh] [c] := by
  refine ⟨[d], rfl, rfl, fun i sh' d' c' ha hb hc => ?_⟩
  cases i with
  | zero => simp at ha hb hc; subst ha; subst hb; subst hc; exact ⟨h1, h2, h3⟩
  | succ i => simp at ha
theorem Opens.nil {lim : Nat → Nat} {w : World} : Opens lim w [] [] := ⟨[], rfl, rfl, fun i _ _ _ h => by simp at h⟩
theorem Opens.append {lim : Nat → Nat} {w : World} {s1 s2 : List Sh} {c1 c2 : List Value} (h : Opens lim w s1 c1) (k : Opens lim w s2 c2) : Opens lim w (s1 ++ s2) (c1 ++ c2) := by
  obtain ⟨d1, a1, b1, e1⟩ := h
  obtain ⟨d2, a2, b2, e2⟩ := k
  refine ⟨d1 ++ d2, by simp [a1, a2], by simp [b1, b2], fun i sh d c ha hb hc => ?_⟩
  by_cases hi : i < s1.length
  · rw [List.getElem?_append_left hi] at ha
    rw [List.getElem?_append_left (by omega)] at hb hc
    exact e1 i sh d c ha hb hc
  · rw [List.getElem?_append_right (by omega)] at ha hb hc
    rw [a1] at hb
    rw [b1] at hc
    exact e2 _ sh d c ha hb hc
section opening
variable {H : Type} {enc : TypeId × Value → H} {P : Program} {w : World} {held : Bool} {lim : Nat → Nat}
theorem opens_fields {rec : TypeId → Option (List Sh)} (cs : List Value) : ∀ (fs : List Field) (off : Nat) (shs : List Sh), shapeFs P rec fs off = some shs → cs.length = off + shs.length →
    (∀ (i : Nat) f, fs[i]? = some f → ∀ r, rec f.type = some r → r.length = P.cellsOf f.type → Opens lim w r ((cs.drop f.offset).take (P.cellsOf f.type))) → Opens lim w shs (cs.drop off)
  | [], off, shs, h, hl, _ => by
    simp [shapeFs] at h; subst h
    rw [List.drop_of_length_le (by simp at hl; omega)]
    exact .nil
  | f :: fs, off, shs, h, hl, hf => by
    unfold shapeFs at h
    split at h
    · rename_i r hr
      split at h
      · rename_i hc
        rw [Bool.and_eq_true] at hc
        replace hc := And.intro (Nat.eq_of_beq_eq_true hc.1) (Nat.eq_of_beq_eq_true hc.2)
        obtain ⟨rest, hrest, rfl⟩ := Option.map_eq_some_iff.1 h
        simp only [List.length_append] at hl
        have h1 := hf 0 f rfl r hr hc.2
        have h2 := opens_fields cs fs (off + r.length) rest hrest (by omega) fun i g hg => hf (i + 1) g (by simpa using hg)
        have e : cs.drop off = (cs.drop f.offset).take (P.cellsOf f.type) ++ cs.drop (off + r.length) := by
          rw [hc.1, ← hc.2, ← List.drop_drop, List.take_append_drop]
        rw [e]
        exact h1.append h2
      · cases h
    · cases h
theorem opens_shape (hlim : ∀ b off u, w.cell? ⟨b, off, none⟩ = some u → off < lim b) : ∀ (n : Nat) (t : TypeId) (shs : List Sh), shape P n t = some shs → ∀ fuel cs x, DataW.trod enc P w 0 (fun _ => true) held fuel t cs = some x → Opens lim w shs cs
  | 0, _, _, h => by simp [shape] at h
  | n + 1, t, shs, h => by
    intro fuel cs x ht
    unfold shape at h
    split at h
    · rename_i k hu
      cases h
      obtain ⟨m, rfl, _, hw⟩ := DataW.trod_int hu ht
      exact .one (.i k m hw) (.ex _) rfl
    · rename_i hu
      cases h
      obtain ⟨b, rfl, _⟩ := DataW.trod_bool hu ht
      exact .one (.b b) (.ex _) rfl
    · rename_i hu
      cases h
      obtain ⟨⟨a⟩, rfl, _, hs⟩ := DataW.trod_string hu ht
      exact .one (.s a.toList (by simpa [ByteArray.size] using hs)) (.ex _) rfl
    · rename_i e hu
      split at h
      · rename_i r hr
        split at h
        · rename_i hc
          cases h
          rw [Bool.and_eq_true] at hc
          obtain ⟨hc1, hc2⟩ := And.intro (Nat.eq_of_beq_eq_true hc.1) (blt_lt hc.2)
          rcases open_slice hu ht with ⟨rfl, _⟩ | ⟨a, len, cap, m, n', D0, Pl, rfl, hb, hl, hm, hmm, hx, hi⟩
          · exact .one (.sl r [] (Nat.zero_le _) (fun _ h => by cases h) (fun _ h => by cases h)) (.nil _ _) rfl
          · simp only [if_true] at hmm
            subst hmm
            obtain ⟨F, hF⟩ := choose_lt (n := m) (p := fun i (ds : List D) => ds.length = r.length ∧ ∀ (j : Nat) sh d, r[j]? = some sh → ds[j]? = some d → ∃ c, w.cell? (a.add (i * r.length + j)) = some c ∧ DFits sh d ∧ DRep lim w d c ∧ c.oneCell' = true) (fun i hi' => by
              obtain ⟨cs', h1, h2⟩ := hi i hi'
              obtain ⟨ds, k1, k2, k3⟩ := opens_shape hlim n e r hr n' cs' _ h2
              obtain ⟨_, h3, h4⟩ := World.cells?_some h1
              refine ⟨ds, k1, fun j sh d hj hd => ?_⟩
              have hjl : j < r.length := (List.getElem?_eq_some_iff.1 hj).1
              have hc' : cs'[j]? = some (cs'[j]'(by omega)) := List.getElem?_eq_getElem (by omega)
              refine ⟨cs'[j]'(by omega), ?_, k3 j sh d _ hj hd hc'⟩
              rw [← hc', ← h4 j (by omega), ← hc1, Go.Deep.add_add])
            have hfit : DFits (.sl r) (.sl r.length ((List.range len).map F)) := by
              refine .sl r _ (by simp; omega) (fun row hrow => ?_) fun row hrow i sh d hs hd => ?_
              · obtain ⟨i, hi2, rfl⟩ := List.mem_map.1 hrow
                exact (hF i (by have := List.mem_range.1 hi2; omega)).1
              · obtain ⟨i', hi2, rfl⟩ := List.mem_map.1 hrow
                obtain ⟨c, _, hh, _⟩ := (hF i' (by have := List.mem_range.1 hi2; omega)).2 i sh d hs hd
                exact hh
            refine .one hfit ?_ rfl
            rcases Nat.eq_zero_or_pos m with h0 | h0
            · subst h0
              have : len = 0 := by omega
              subst this
              exact .nil _ _
            · have hspot : a.spot = none := by
                obtain ⟨cs', h1, h2⟩ := hi 0 h0
                obtain ⟨_, h3, h4⟩ := World.cells?_some h1
                have h5 := h4 0 (by omega)
                have h6 : cs'[0]? = some (cs'[0]'(by omega)) := List.getElem?_eq_getElem (by omega)
                rw [h6] at h5
                unfold World.cell? at h5
                split at h5
                · split at h5
                  · cases h5
                  · rename_i hsp
                    simpa [Addr.add] using hsp
                · cases h5
              obtain ⟨b, off, sp⟩ := a
              simp only at hspot
              subst hspot
              have hcell : ∀ i j, i < m → j < r.length → ∀ sh d, r[j]? = some sh → (F i)[j]? = some d → ∃ c, w.cell? ⟨b, off + (i * r.length + j), none⟩ = some c ∧ DFits sh d ∧ DRep lim w d c ∧ c.oneCell' = true := fun i j hi' hj sh d hs hd => by
                obtain ⟨c, h1, h2⟩ := (hF i hi').2 j sh d hs hd
                rw [Addr.add_lit] at h1
                exact ⟨c, h1, h2⟩
              have hlen : ((List.range len).map F).length = len := by simp
              have key := DRep.sl (lim := lim) (w := w) r.length ((List.range len).map F) b off m (by rw [hlen]; exact hl) (fun row hrow => by
                obtain ⟨i, hi2, rfl⟩ := List.mem_map.1 hrow
                exact (hF i (by have := List.mem_range.1 hi2; omega)).1) (fun k hk => by
                rw [hlen] at hk
                have hdiv : k / r.length < len := Nat.div_lt_of_lt_mul (by rw [Nat.mul_comm]; exact hk)
                have hmod : k % r.length < r.length := Nat.mod_lt _ hc2
                obtain ⟨c, h1, h2, h3, h4⟩ := hcell (k / r.length) (k % r.length) (by omega) hmod _ _ (List.getElem?_eq_getElem hmod) (List.getElem?_eq_getElem (by rw [(hF _ (by omega)).1]; exact hmod))
                have e : k / r.length * r.length + k % r.length = k := by rw [Nat.mul_comm]; exact Nat.div_add_mod k r.length
                rw [e] at h1
                exact ⟨hlim _ _ _ h1, c, h1, h4⟩) (fun i j row c u h1 h2 h3 => by
                rw [List.getElem?_map] at h1
                obtain ⟨i', hi2, rfl⟩ := Option.map_eq_some_iff.1 h1
                have hil : i < len := by have := (List.getElem?_eq_some_iff.1 hi2).1; simpa using this
                have : i' = i := by rw [List.getElem?_range hil] at hi2; cases hi2; rfl
                subst this
                have hjl : j < r.length := by have := (List.getElem?_eq_some_iff.1 h2).1; rw [(hF _ (by omega)).1] at this; exact this
                obtain ⟨c', k1, k2, k3, k4⟩ := hcell i' j (by omega) hjl _ _ (List.getElem?_eq_getElem hjl) h2
                rw [h3] at k1
                cases k1
                exact k3)
              rw [hlen] at key
              exact key
        · cases h
      · cases h
    · rename_i fs hu
      split at h
      · rename_i r hr
        split at h
        · rename_i hc
          cases h
          have hc' := Nat.eq_of_beq_eq_true hc
          obtain ⟨ys, n', _, hy, hlen, hyl, hf⟩ := DataW.trod_struct hu ht
          have := opens_fields (lim := lim) (w := w) (P := P) cs fs.toList 0 _ hr (by omega) fun i f hi r' hr' hl' => by
            have h1 := hf i f (by simpa using hi)
            have hys : ys[i]? = some (ys[i]'(by have := (List.getElem?_eq_some_iff.1 hi).1; simp at this; omega)) := List.getElem?_eq_getElem _
            exact opens_shape hlim n f.type r' hr' n' _ _ (h1.trans hys)
          simpa using this
        · cases h
      · cases h
    · cases h
end opening
end Go.Abs

/- A law of data, true at all arguments of its shapes, as the row asks it. -/
set_option linter.unusedSimpArgs false
set_option linter.unusedVariables false
set_option linter.unusedSectionVars false
namespace Go.Abs
open Go.RowKit Go.ChangeShapes Go.WideShapes Go.Deep Go.ChangeAt

def limW (w : World) (b : Nat) : Nat := match w.heap[b]? with
  | some (.cells c _ _) => c.size
  | _ => 0
theorem limW_lt (w : World) (b off : Nat) (u : Value) (h : w.cell? ⟨b, off, none⟩ = some u) : off < limW w b := by
  unfold World.cell? at h
  unfold limW
  split at h
  · rename_i c e k hb
    simp only at hb
    rw [hb]
    simp only [Option.isSome_none, Bool.false_eq_true, if_false] at h
    exact (Array.getElem?_eq_some_iff.1 h).1
  · cases h
theorem Opens.top {lim : Nat → Nat} {w : World} {sh : Sh} {c : Value} (h : Opens lim w [sh] [c]) : ∃ d, DFits sh d ∧ DRep lim w d c := by
  obtain ⟨ds, h1, _, h3⟩ := h
  match ds, h1 with
  | [d], _ => exact ⟨d, (h3 0 sh d c rfl rfl rfl).1, (h3 0 sh d c rfl rfl rfl).2.1⟩
section top
variable {H : Type} {enc : TypeId × Value → H} {P : Program} {w : World} {held : Bool} {r : Reach} {b0 : Nat} {t : TypeId} {v : Value} {d : DataW H} {ps : List MemPlace}
theorem top_slice {n : Nat} {e : TypeId} {row : List Sh} (hs : shape P n t = some [.sl row]) (ht : P.underlying t = some (.slice e)) (hv : Value.okWide P w r b0 t v) (h : DataW.Trod enc P w 0 (fun _ => true) held t v d ps) : ∃ x, DFits (.sl row) x ∧ DRep (limW w) w x v := by
  obtain ⟨a, l, c, rfl⟩ := okWide_slice ht hv
  obtain ⟨fuel, hf⟩ := h
  exact (opens_shape (limW_lt w) n t _ hs fuel _ _ hf).top
theorem top_int (ht : P.underlying t = some (.int .i64)) (hv : Value.okWide P w r b0 t v) (h : DataW.Trod enc P w 0 (fun _ => true) held t v d ps) : ∃ m : Int, DRep (limW w) w (.ex (.int .i64 m)) v ∧ -9223372036854775808 ≤ m ∧ m ≤ 9223372036854775807 := by
  obtain ⟨m, rfl⟩ := okWide_int ht hv
  obtain ⟨fuel, hf⟩ := h
  obtain ⟨m', h1, _, hw⟩ := DataW.trod_int ht hf
  have : m' = m := by simpa [Value.cells] using h1.symm
  subst this
  refine ⟨m', .ex _, ?_⟩
  simp only [Lit.wf, Bool.and_eq_true, decide_eq_true_eq] at hw
  exact hw
end top
/-- A list of rows, each one a thing's. -/
theorem rows_of {α : Type} {row : α → List D} {p : α → Prop} : ∀ {rows : List (List D)}, (∀ r, r ∈ rows → ∃ x, p x ∧ r = row x) → ∃ l : List α, rows = l.map row ∧ ∀ x, x ∈ l → p x
  | [], _ => ⟨[], rfl, fun x h => by cases h⟩
  | r :: rows, h => by
    obtain ⟨x, hx, rfl⟩ := h r List.mem_cons_self
    obtain ⟨l, rfl, hl⟩ := rows_of (rows := rows) (row := row) (p := p) fun r' hr => h r' (List.mem_cons_of_mem _ hr)
    exact ⟨x :: l, rfl, fun y hy => by rcases List.mem_cons.1 hy with rfl | hy; exact hx; exact hl y hy⟩
theorem DFits.sl_inv {row : List Sh} {d : D} (h : DFits (.sl row) d) : ∃ rows, d = .sl row.length rows ∧ rows.length ≤ maxLen ∧ ∀ r, r ∈ rows → r.length = row.length ∧ ∀ (i : Nat) sh d, row[i]? = some sh → r[i]? = some d → DFits sh d := by
  cases h with
  | sl _ rows hn h1 h => exact ⟨rows, rfl, hn, fun r hr => ⟨h1 r hr, h r hr⟩⟩
theorem DFits.i_inv {d : D} (h : DFits (.i .i64) d) : ∃ n : Int, d = .ex (.int .i64 n) ∧ -9223372036854775808 ≤ n ∧ n ≤ 9223372036854775807 := by
  cases h with
  | i _ n hw => simp only [Lit.wf, Bool.and_eq_true, decide_eq_true_eq] at hw; exact ⟨n, rfl, hw⟩
theorem DFits.b_inv {d : D} (h : DFits .b d) : ∃ x : Bool, d = .ex (.bool x) := by cases h with | b x => exact ⟨x, rfl⟩
theorem DFits.s_inv {d : D} (h : DFits .s d) : ∃ l : List UInt8, d = .ex (.string ⟨l.toArray⟩) := by cases h with | s l _ => exact ⟨l, rfl⟩

section
variable {H : Type} {enc : TypeId × Value → H} {P : Program}
theorem post_of_below {f : Func} {s : ChangeSpec} {apart fresh handsOn again : Bool} {W W' : World} {args : Array Value} {v : Value} {ds gs : List (DataW H)} {before pa pv : List MemPlace}
    (hW : DataW.Whole enc P f.params.toList s.vars apart W args.toList ds gs before)
    (hres : ∀ (b : Nat) (sp : Nat → Bool) (hd : Bool), DataW.TrodAll enc P W' b sp hd f.resultTypes.toList (v.resultList f.resultTypes.size) (s.fn H (ds ++ gs)).results [])
    (hargs : ∀ sp : Nat → Bool, (∀ p ∈ before, sp p.block = true) → DataW.TrodAll enc P W' 0 sp true f.params.toList args.toList (s.fn H (ds ++ gs)).args pa)
    (hvars : ∀ sp : Nat → Bool, (∀ p ∈ before, sp p.block = true) → DataW.TrodVars enc P W' sp s.vars (s.fn H (ds ++ gs)).vars pv)
    (hps : before = pa ++ pv) (hb : Below W.heap.size W W')
    (hok : ∀ (j : Nat) (t : TypeId) (r : Value), f.resultTypes[j]? = some t → (v.resultList f.resultTypes.size)[j]? = some r → Value.okWide P W' .any 0 t r) :
    s.post enc P f apart fresh handsOn again W args v W' := by
  have hlt : ∀ p ∈ before, p.block < W.heap.size := fun p hp => hW.lt p hp
  have hold : ∀ p ∈ before, (fun b => decide (b < W.heap.size)) p.block = true := fun p hp => by simpa using hlt p hp
  refine ⟨ds, gs, before, [], pa, pv, hW, hres _ _ _, hargs _ hold, hvars _ hold, World.keptBut_mono (fun p hp => ⟨hp, ?_⟩) (hb.frame (· ∈ before)), fun _ => ?_⟩
  · rw [hps, List.mem_append] at hp
    exact Or.inr hp
  · obtain ⟨_, _, _, _, _, hz, hn⟩ := hW
    refine ⟨hok, _, _, ([] ++ pa) ++ pv, ⟨[] ++ pa, pv, trodAll_append (hargs _ (fun _ _ => rfl)) (hres _ _ _), hvars _ (fun _ _ => rfl), rfl, ?_, ?_⟩, ?_⟩
    · intro b off hp
      have hin : MemPlace.cell b off ∈ before := by rw [hps]; simpa using hp
      rw [hb.frozen (hlt _ hin)]
      exact hz b off hin
    · intro ha
      have := hn ha
      rw [hps] at this
      simpa using this
    · intro p hp _
      rw [hps]
      simpa using hp
end
/-- The arguments stand as they stood. -/
theorem trodAll_stays {H : Type} {enc : TypeId × Value → H} {P : Program} (hl : laidOutB P = true) {W W' : World} (hb : Below W.heap.size W W') (sp : Nat → Bool) : ∀ {ts : List TypeId} {vs : List Value} {ds : List (DataW H)} {ps : List MemPlace},
    (ts.all fun t => P.readableRec t && decide (t < P.types.size)) = true → DataW.TrodAll enc P W 0 (fun _ => true) true ts vs ds ps → (∀ x ∈ ps, x.block < W.heap.size) → (∀ x ∈ ps, sp x.block = true) → DataW.TrodAll enc P W' 0 sp true ts vs ds ps
  | [], [], [], _, _, h, _, _ => h
  | t :: ts, v :: vs, d :: ds, ps, hr, h, hlt, hsp => by
    obtain ⟨p, q, h1, h2, rfl⟩ := h
    simp only [List.all_cons, Bool.and_eq_true, decide_eq_true_eq] at hr
    refine ⟨p, q, ?_, ?_, rfl⟩
    · exact WideElems.Trod_stays hl hr.1.1 hr.1.2 h1 (fun x hx => hb.same (hlt x (List.mem_append_left _ hx))) (fun x hx => hsp x (List.mem_append_left _ hx))
    · exact trodAll_stays hl hb sp (by simpa using hr.2) h2 (fun x hx => hlt x (List.mem_append_right _ hx)) (fun x hx => hsp x (List.mem_append_right _ hx))
end Go.Abs

/- Typed arguments: the readings of structs, strings and slices of them. -/
set_option linter.unusedSimpArgs false
set_option linter.unusedVariables false
set_option linter.unusedSectionVars false
namespace Go.Abs
open Go.RowKit Go.ChangeShapes Go.WideShapes Go.Deep Go.ChangeAt
theorem DFits.s_inv' {d : D} (h : DFits .s d) : ∃ l : List UInt8, d = .ex (.string ⟨l.toArray⟩) ∧ l.length ≤ maxLen := by cases h with | s l h => exact ⟨l, rfl, h⟩
theorem rows_of' {α : Type} {row : α → List D} {p : α → Prop} {rows : List (List D)} (h : ∀ r, r ∈ rows → ∃ x, r = row x ∧ p x) : ∃ l : List α, rows = l.map row ∧ ∀ x, x ∈ l → p x :=
  rows_of fun r hr => let ⟨x, h1, h2⟩ := h r hr; ⟨x, h2, h1⟩
theorem DFits.sl_of {sh : List Sh} {d : D} {α : Type} {row : α → List D} {p : α → Prop} (h : DFits (.sl sh) d)
    (hr : ∀ r : List D, r.length = sh.length → (∀ (i : Nat) h d, sh[i]? = some h → r[i]? = some d → DFits h d) → ∃ x, r = row x ∧ p x) :
    ∃ l : List α, d = .sl sh.length (l.map row) ∧ l.length ≤ maxLen ∧ ∀ z, z ∈ l → p z := by
  obtain ⟨rows, rfl, hn, h2⟩ := h.sl_inv
  obtain ⟨l, rfl, hl⟩ := rows_of' (row := row) (p := p) fun r hrm => hr r (h2 r hrm).1 (h2 r hrm).2
  exact ⟨l, rfl, by simpa using hn, hl⟩
theorem ofI (r : List D) (h1 : r.length = 1) (h2 : ∀ (i : Nat) sh d, ([.i .i64] : List Sh)[i]? = some sh → r[i]? = some d → DFits sh d) : ∃ x : Int, r = rI x ∧ (-9223372036854775808 ≤ x ∧ x ≤ 9223372036854775807) := by
  match r, h1 with
  | [d], _ => obtain ⟨a, rfl, k⟩ := (h2 0 _ d rfl rfl).i_inv; exact ⟨a, rfl, k⟩
theorem ofS (r : List D) (h1 : r.length = 1) (h2 : ∀ (i : Nat) sh d, ([.s] : List Sh)[i]? = some sh → r[i]? = some d → DFits sh d) : ∃ x : List UInt8, r = rS x ∧ x.length ≤ maxLen := by
  match r, h1 with
  | [d], _ => obtain ⟨a, rfl, k⟩ := (h2 0 _ d rfl rfl).s_inv'; exact ⟨a, rfl, k⟩
theorem ofB8 (r : List D) (h1 : r.length = 1) (h2 : ∀ (i : Nat) sh d, ([.i .u8] : List Sh)[i]? = some sh → r[i]? = some d → DFits sh d) : ∃ x : UInt8, r = rB8 x ∧ True := by
  match r, h1 with
  | [d], _ =>
    have h := h2 0 _ d rfl rfl
    cases h with
    | i _ n hw =>
      simp [Lit.wf, IntKind.min, IntKind.max, IntKind.signed, IntKind.bits] at hw
      refine ⟨UInt8.ofNat n.toNat, ?_, trivial⟩
      have : ((UInt8.ofNat n.toNat).toNat : Int) = n := by simp [UInt8.toNat_ofNat']; omega
      unfold rB8
      rw [this]
section top
variable {H : Type} {enc : TypeId × Value → H} {P : Program} {w : World} {held : Bool} {r : Reach} {b0 : Nat} {t : TypeId} {v : Value} {d : DataW H} {ps : List MemPlace}
theorem top_agg {n : Nat} {shs : List Sh} {fs : Array Field} (hs : shape P n t = some shs) (ht : P.underlying t = some (.struct fs)) (hv : Value.okWide P w r b0 t v) (h : DataW.Trod enc P w 0 (fun _ => true) held t v d ps) :
    ∃ x : List D, x.length = shs.length ∧ (∀ (i : Nat) sh d, shs[i]? = some sh → x[i]? = some d → DFits sh d) ∧ DRep (limW w) w (.agg x) v := by
  obtain ⟨cs, rfl, _⟩ := okWide_struct ht hv
  obtain ⟨fuel, hf⟩ := h
  obtain ⟨ds, h1, h2, h3⟩ := opens_shape (limW_lt w) n t _ hs fuel _ _ hf
  have h2' : cs.size = shs.length := by simpa [Value.cells] using h2
  refine ⟨ds, h1, fun i sh d hi hd => ?_, .agg ds cs (by omega) (fun i u hu => ?_) fun i c u hc hu => ?_⟩
  · have hil : i < cs.size := by have := (List.getElem?_eq_some_iff.1 hi).1; omega
    exact (h3 i sh d cs[i] hi hd (by simp [Value.cells, hil])).1
  · have hil : i < shs.length := by have := (Array.getElem?_eq_some_iff.1 hu).1; omega
    exact (h3 i shs[i] (ds[i]'(by omega)) u (List.getElem?_eq_getElem hil) (List.getElem?_eq_getElem (by omega)) (by simpa [Value.cells] using hu)).2.2
  · have hil : i < shs.length := by have := (Array.getElem?_eq_some_iff.1 hu).1; omega
    exact (h3 i shs[i] c u (List.getElem?_eq_getElem hil) hc (by simpa [Value.cells] using hu)).2.1
theorem top_str (ht : P.underlying t = some .string) (hv : Value.okWide P w r b0 t v) (h : DataW.Trod enc P w 0 (fun _ => true) held t v d ps) : ∃ l : List UInt8, DRep (limW w) w (.ex (.string ⟨l.toArray⟩)) v ∧ l.length ≤ maxLen := by
  obtain ⟨a, rfl⟩ := okWide_string ht hv
  obtain ⟨fuel, hf⟩ := h
  obtain ⟨a', h1, _, hs⟩ := DataW.trod_string ht hf
  have h2 : [Value.string a] = [Value.string a'] := h1
  simp only [List.cons.injEq, Value.string.injEq, and_true] at h2
  subst h2
  exact ⟨a.data.toList, .ex _, by rw [Array.length_toList]; exact hs⟩
end top
end Go.Abs
