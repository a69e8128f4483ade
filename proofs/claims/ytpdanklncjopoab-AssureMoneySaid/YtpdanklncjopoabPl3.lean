import Derived.Test.YtpdanklncjopoabPl2
set_option linter.unusedSimpArgs false
set_option linter.unusedVariables false
namespace Go.Proofs.Ytpdanklncjopoab
open Go.RowKit Go.Abs

theorem filter_take_succ {α : Type} [Inhabited α] {p : α → Bool} {l : List α} {k : Nat} (h : k < l.length) : (l.take (k + 1)).filter p = (l.take k).filter p ++ (if p (nth l k) then [nth l k] else []) := by
  rw [take_nth h, List.filter_append]
  simp only [List.filter_cons, List.filter_nil]
theorem filter_yes {α : Type} [Inhabited α] {p : α → Bool} {l : List α} {k : Nat} (h : k < l.length) (hp : p (nth l k) = true) : (l.take (k + 1)).filter p = (l.take k).filter p ++ [nth l k] := by rw [filter_take_succ h, hp]; rfl
theorem filter_no {α : Type} [Inhabited α] {p : α → Bool} {l : List α} {k : Nat} (h : k < l.length) (hp : p (nth l k) = false) : (l.take (k + 1)).filter p = (l.take k).filter p := by rw [filter_take_succ h, hp]; simp
theorem nth_map {α β : Type} [Inhabited α] [Inhabited β] {f : α → β} {l : List α} {k : Nat} (h : k < l.length) : nth (l.map f) k = f (nth l k) := by
  rw [nth_eq (by simpa using h), nth_eq h]; simp
theorem find_nth {α : Type} [Inhabited α] {p : α → Bool} {l : List α} : (l.find? p).getD default = nth (l.filter p) 0 := by
  induction l with
  | nil => rfl
  | cons a t ih =>
    rw [List.find?_cons, List.filter_cons]
    cases p a with
    | true => simp [nth]
    | false => simpa using ih
theorem find_take_succ {α : Type} [Inhabited α] {p : α → Bool} {l : List α} {k : Nat} (h : k < l.length) : (l.take (k + 1)).find? p = ((l.take k).find? p).or (if p (nth l k) then some (nth l k) else none) := by
  rw [take_nth h, List.find?_append, List.find?_singleton]
/-- The keys of a list, ascending. -/
def keysOn (l : List Int) (s : List Int) : List Int := l.foldl insK s
theorem keysOn_take {l s : List Int} {k : Nat} (h : k < l.length) : keysOn (l.take (k + 1)) s = insK (keysOn (l.take k) s) (nth l k) := by
  unfold keysOn; rw [take_nth h, List.foldl_append]; rfl
theorem keysOn_len (l s : List Int) : (keysOn l s).length ≤ l.length + s.length := by
  induction l generalizing s with
  | nil => simp [keysOn]
  | cons a t ih =>
    have h1 := ih (insK s a)
    have h2 := insK_len s a
    have e : keysOn (a :: t) s = keysOn t (insK s a) := rfl
    rw [e]; simp; omega
theorem keysOn_take_len {l s : List Int} {k : Nat} : (keysOn (l.take k) s).length ≤ l.length + s.length := by
  have h1 := keysOn_len (l.take k) s
  have h2 : (l.take k).length ≤ l.length := by simp; omega
  omega
theorem keysOn_asc {l s : List Int} (h : Asc s) : Asc (keysOn l s) := by
  induction l generalizing s with
  | nil => exact h
  | cons a t ih => exact ih (insK_asc h)
theorem asc_nil : Asc [] := fun i j _ h => by simp at h
theorem insK_has {l : List Int} {n x : Int} : x ∈ insK l n → x = n ∨ x ∈ l := by
  induction l with
  | nil => intro h; simp [insK] at h; exact .inl h
  | cons a t ih =>
    intro h
    unfold insK at h
    split at h
    · rcases List.mem_cons.1 h with h | h
      · exact .inr (by rw [h]; exact List.mem_cons_self)
      · rcases ih h with h | h
        · exact .inl h
        · exact .inr (List.mem_cons_of_mem _ h)
    · split at h
      · exact .inr h
      · rcases List.mem_cons.1 h with h | h
        · exact .inl h
        · exact .inr h
theorem keysOn_has {l : List Int} : ∀ {s : List Int} {x : Int}, x ∈ keysOn l s → x ∈ s ∨ x ∈ l := by
  induction l with
  | nil => intro s x h; exact .inl h
  | cons a t ih =>
    intro s x h
    rcases ih (s := insK s a) h with h | h
    · rcases insK_has h with h | h
      · exact .inr (by rw [h]; exact List.mem_cons_self)
      · exact .inl h
    · exact .inr (List.mem_cons_of_mem _ h)
theorem nth_mem {α : Type} [Inhabited α] {l : List α} {k : Nat} (h : k < l.length) : nth l k ∈ l := by rw [nth_eq h]; exact List.getElem_mem h

/-! ### usages -/
def idP (x : Int) (u : Usage) : Bool := u.id == x
def leakU (us ru : List Usage) (x : Int) : List Leak :=
  let a := us.filter (idP x)
  let b := ru.filter (idP x)
  if a.length = b.length then (if eqVs (nth a 0).vals (nth b 0).vals = true then [] else [⟨3, x, (nth a 0).units, (nth b 0).units⟩]) else [⟨2, x, a.length, b.length⟩]
def keysU (us ru : List Usage) : List Int := keysOn (ru.map (·.id)) (keysOn (us.map (·.id)) [])
def usagesF (us ru : List Usage) : List Leak := ((keysU us ru).map (leakU us ru)).flatten
theorem keysU_len (us ru : List Usage) : (keysU us ru).length ≤ us.length + ru.length := by
  have h1 := keysOn_len (ru.map (·.id)) (keysOn (us.map (·.id)) [])
  have h2 := keysOn_len (us.map (·.id)) []
  simp at h1 h2
  unfold keysU; omega
/-- What the maps of one list hold after its first elements. -/
def CountU (us : List Usage) (k : Nat) (e : List (Int × Int)) (e8 : List (Int × Usage)) : Prop :=
  ∀ x, (alook e x).getD 0 = ((us.take k).filter (idP x)).length ∧ alook e8 x = (us.take k).find? (idP x)
theorem CountU.zero (us : List Usage) : CountU us 0 [] [] := fun x => ⟨by simp [alook_nil], by simp [alook_nil]⟩
theorem idP_self (u : Usage) : idP u.id u = true := by simp [idP]
theorem CountU.first {us : List Usage} {k : Nat} {e : List (Int × Int)} {e8 : List (Int × Usage)} (h : CountU us k e e8) (hk : k < us.length) (h0 : (alook e (nth us k).id).getD 0 = 0) :
    CountU us (k + 1) (aset e (nth us k).id ((alook e (nth us k).id).getD 0 + 1)) (aset e8 (nth us k).id (nth us k)) := by
  intro x
  rw [alook_aset, alook_aset, filter_take_succ hk, find_take_succ hk]
  obtain ⟨h1, h2⟩ := h x
  by_cases hx : x = (nth us k).id
  · subst hx
    simp only [beq_self_eq_true, if_true, idP_self]
    have hn : (us.take k).filter (idP (nth us k).id) = [] := List.eq_nil_of_length_eq_zero (by omega)
    have hf : (us.take k).find? (idP (nth us k).id) = none := by
      rw [List.find?_eq_none]
      intro u hu hp
      have : u ∈ (us.take k).filter (idP (nth us k).id) := List.mem_filter.2 ⟨hu, hp⟩
      rw [hn] at this; cases this
    rw [hn, hf]
    simp [h0]
  · have : idP x (nth us k) = false := by simpa [idP] using fun h => hx (Eq.symm h)
    have hb : (x == (nth us k).id) = false := by simpa using hx
    simp only [hb, this, Bool.false_eq_true, if_false]
    simp [h1, h2]
theorem CountU.again {us : List Usage} {k : Nat} {e : List (Int × Int)} {e8 : List (Int × Usage)} (h : CountU us k e e8) (hk : k < us.length) (h0 : (alook e (nth us k).id).getD 0 ≠ 0) :
    CountU us (k + 1) (aset e (nth us k).id ((alook e (nth us k).id).getD 0 + 1)) e8 := by
  intro x
  rw [alook_aset, filter_take_succ hk, find_take_succ hk]
  obtain ⟨h1, h2⟩ := h x
  by_cases hx : x = (nth us k).id
  · subst hx
    simp only [beq_self_eq_true, if_true, idP_self]
    refine ⟨by simp [h1], ?_⟩
    rw [h2]
    cases hf : (us.take k).find? (idP (nth us k).id) with
    | some u => rfl
    | none =>
      rw [List.find?_eq_none] at hf
      have : (us.take k).filter (idP (nth us k).id) = [] := List.filter_eq_nil_iff.2 hf
      rw [this] at h1
      exact absurd h1 h0
  · have : idP x (nth us k) = false := by simpa [idP] using fun h => hx (Eq.symm h)
    have hb : (x == (nth us k).id) = false := by simpa using hx
    simp only [hb, this, Bool.false_eq_true, if_false]
    simp [h1, h2]
theorem CountU.len {us : List Usage} {k : Nat} {e : List (Int × Int)} {e8 : List (Int × Usage)} (h : CountU us k e e8) (x : Int) : 0 ≤ (alook e x).getD 0 ∧ (alook e x).getD 0 ≤ us.length := by
  rw [(h x).1]
  have h1 := List.length_filter_le (idP x) (us.take k)
  have h2 : (us.take k).length ≤ us.length := by simp; omega
  omega
theorem CountU.all {us : List Usage} {e : List (Int × Int)} {e8 : List (Int × Usage)} (h : CountU us us.length e e8) (x : Int) : (alook e x).getD 0 = (us.filter (idP x)).length ∧ (alook e8 x).getD default = nth (us.filter (idP x)) 0 := by
  obtain ⟨h1, h2⟩ := h x
  rw [List.take_length] at h1 h2
  exact ⟨h1, by rw [h2]; exact find_nth⟩
theorem leakU_len (us ru : List Usage) (x : Int) : (leakU us ru x).length ≤ 1 := by
  unfold leakU
  simp only
  split
  · split <;> simp
  · simp
theorem flat_len1 {α : Type} {f : α → List Leak} (h : ∀ x, (f x).length ≤ 1) : ∀ l : List α, ((l.map f).flatten).length ≤ l.length
  | [] => by simp
  | a :: t => by
    have h1 := flat_len1 h t
    have h2 := h a
    simp at *; omega
theorem flat_take {α : Type} [Inhabited α] {f : α → List Leak} {l : List α} {k : Nat} (h : k < l.length) : ((l.take (k + 1)).map f).flatten = ((l.take k).map f).flatten ++ f (nth l k) := by
  rw [take_nth h]; simp
theorem flat_take_len {α : Type} {f : α → List Leak} (h : ∀ x, (f x).length ≤ 1) (l : List α) (k : Nat) : (((l.take k).map f).flatten).length ≤ l.length := by
  have h1 := flat_len1 h (l.take k)
  have h2 : (l.take k).length ≤ l.length := by simp; omega
  omega
theorem take_le {α : Type} {l : List α} {k : Nat} : (l.take k).length ≤ l.length := by rw [List.length_take]; omega
theorem filter_take_le {α : Type} {p : α → Bool} {l : List α} {k : Nat} : ((l.take k).filter p).length ≤ l.length := Nat.le_trans (List.length_filter_le _ _) take_le
/-! ### maps -/
def iK (n : Int) : Value := .int .i64 n
def uD (u : Usage) : D := .agg u.row
def diffOf (c : Int) (a b : List (Int × Int)) (x : Int) : List Leak := if (alook a x).getD 0 = (alook b x).getD 0 then [] else [⟨c, x, (alook a x).getD 0, (alook b x).getD 0⟩]
def diffF (c : Int) (a b : List (Int × Int)) (ids : List Int) : List Leak := (ids.map (diffOf c a b)).flatten
theorem diffOf_len (c : Int) (a b : List (Int × Int)) (x : Int) : (diffOf c a b x).length ≤ 1 := by
  unfold diffOf; split <;> simp
section leak
variable {us ru : List Usage} {x : Int} {a b : Int} {u v : Usage}
theorem leakU_ne (hA : a = ((us.filter (idP x)).length : Int)) (hB : b = ((ru.filter (idP x)).length : Int)) (h : ¬ a = b) : (leakU us ru x).map Leak.row = [Leak.row ⟨2, x, a, b⟩] := by
  unfold leakU
  simp only
  rw [if_neg (by omega), hA, hB]; rfl
theorem leakU_ch (hA : a = ((us.filter (idP x)).length : Int) ∧ u = nth (us.filter (idP x)) 0) (hB : b = ((ru.filter (idP x)).length : Int) ∧ v = nth (ru.filter (idP x)) 0) (h : a = b) (hv : eqVs u.vals v.vals = false) : (leakU us ru x).map Leak.row = [Leak.row ⟨3, x, u.units, v.units⟩] := by
  unfold leakU
  simp only
  rw [if_pos (by omega), ← hA.2, ← hB.2, if_neg (by simp [hv])]; rfl
theorem leakU_eq (hA : a = ((us.filter (idP x)).length : Int) ∧ u = nth (us.filter (idP x)) 0) (hB : b = ((ru.filter (idP x)).length : Int) ∧ v = nth (ru.filter (idP x)) 0) (h : a = b) (hv : eqVs u.vals v.vals = true) : (leakU us ru x).map Leak.row = [] := by
  unfold leakU
  simp only
  rw [if_pos (by omega), ← hA.2, ← hB.2, if_pos hv]; rfl
end leak
theorem filter_pos {us : List Usage} {u : Usage} {x : Int} (h : u ∈ us) (hx : u.id = x) : 0 < (us.filter (idP x)).length :=
  List.length_pos_iff.2 (List.ne_nil_of_mem (List.mem_filter.2 ⟨h, by simp [idP, hx]⟩))
theorem keysU_pos {us ru : List Usage} {k : Nat} (h : k < (keysU us ru).length) : 0 < (us.filter (idP (nth (keysU us ru) k))).length ∨ 0 < (ru.filter (idP (nth (keysU us ru) k))).length := by
  have hm := nth_mem h
  rcases keysOn_has hm with h1 | h1
  · rcases keysOn_has h1 with h2 | h2
    · cases h2
    · obtain ⟨u, hu, he⟩ := List.mem_map.1 h2
      exact .inl (filter_pos hu he)
  · obtain ⟨u, hu, he⟩ := List.mem_map.1 h1
    exact .inr (filter_pos hu he)
end Go.Proofs.Ytpdanklncjopoab
