import Derived.Test.YtalecnjpdjdlgaaDoorLF
import Derived.Lib.ItoaLen
set_option linter.unusedSimpArgs false
set_option linter.unusedVariables false
namespace Go.Proofs.YtalecnjpdjdlgaaDoor
open Go.RowKit Go.Abs
theorem gcall_mk {α : Type} [Inhabited α] {b : Bool} {x : α} : gcall b (some x) = some (if b = true then x else default) := by
  unfold gcall; split <;> rfl
theorem loop_count {R : Type} {step : Int → Option (Int ⊕ R)} (n : Nat) (hn : n < 18446744073709551616) (Q : R → Prop) (h : ∀ i, 0 ≤ i → i ≤ (n : Int) → (∃ r, step i = some (.inr r) ∧ Q r) ∨ (step i = some (.inl (i + 1)) ∧ i < (n : Int))) : ∃ r, loop step 0 = some r ∧ Q r := by
  refine loop_post Q (fun i : Int => 0 ≤ i ∧ i ≤ (n : Int)) (fun i => ((n : Int) - i).toNat) (fun i hI => ?_) ⟨by omega, by omega⟩ (by omega)
  rcases h i hI.1 hI.2 with h | ⟨h1, h2⟩
  · exact .inl h
  · exact .inr ⟨i + 1, h1, ⟨by omega, by omega⟩, by omega⟩
/-- A loop over a list that stops at the first element that is not as wanted. -/
theorem loop_all {α R : Type} [Inhabited α] {step : Int → Option (Int ⊕ R)} (l : List α) (p : α → Bool) (fin bad : R) (hl : l.length < 18446744073709551616)
    (h1 : ∀ i : Int, 0 ≤ i → i < (l.length : Int) → step i = some (if p (nth l i.toNat) = true then .inl (i + 1) else .inr bad)) (h2 : ∀ i : Int, i = (l.length : Int) → step i = some (.inr fin)) : loop step 0 = some (if l.all p = true then fin else bad) := by
  have := loop_spec (step := step) (fun i : Int => some (if (l.drop i.toNat).all p = true then fin else bad)) (fun i => 0 ≤ i ∧ i ≤ (l.length : Int)) (fun i => ((l.length : Int) - i).toNat) (fun i hI => by
    by_cases hi : i < (l.length : Int)
    · have hd := drop_nth (l := l) (k := i.toNat) (by omega)
      rw [h1 i hI.1 hi]
      by_cases hp : p (nth l i.toNat) = true
      · rw [if_pos hp]
        refine .inr ⟨i + 1, rfl, ⟨by omega, by omega⟩, by omega, ?_⟩
        rw [show (i + 1).toNat = i.toNat + 1 from by omega, hd]
        simp [hp]
      · rw [if_neg hp]
        refine .inl ⟨bad, rfl, ?_⟩
        rw [hd]
        simp [hp]
    · have : i = (l.length : Int) := by omega
      refine .inl ⟨fin, h2 i this, ?_⟩
      rw [List.drop_of_length_le (by omega)]
      simp) (s := 0) ⟨by omega, by omega⟩ (by omega)
  simpa using this

/-! ### numbers -/
def isDig (c : UInt8) : Bool := decide (48 ≤ c) && decide (c ≤ 57)
def validB (s : List UInt8) : Bool := s.all isDig && decide (1 ≤ s.length) && decide (s.length ≤ 15)
theorem p_Valid (s : List UInt8) (hl : s.length < 1000000000) : f_digits_Valid s = some (validB s) := by
  unfold f_digits_Valid
  rw [loop_all s isDig (decide ((s.length : Int) ≥ 1) && decide ((s.length : Int) ≤ 15)) false (by omega) (fun i h0 h1 => ?_) (fun i hi => ?_)]
  · unfold validB
    cases s.all isDig <;> simp
    rw [Bool.eq_iff_iff]; simp; omega
  · unfold f_digits_Valid_l1 f_digits_digit
    rw [if_pos (by simpa using h1), ck_pos (by omega)]
    simp only [Option.bind_some]
    rw [ck_pos (by omega)]
    unfold isDig
    simp only [ge_iff_le]
    cases decide (48 ≤ nth s i.toNat) <;> cases decide (nth s i.toNat ≤ 57) <;> rfl
  · unfold f_digits_Valid_l1 f_digits_Valid_j1
    rw [if_neg (by simp; omega)]
    rfl
theorem p_rValid (s : List UInt8) (hl : s.length < 1000000000) : f_billingref02_Valid s = some (validB s) := by
  unfold f_billingref02_Valid
  rw [loop_all s isDig (decide ((s.length : Int) ≥ 1) && decide ((s.length : Int) ≤ 15)) false (by omega) (fun i h0 h1 => ?_) (fun i hi => ?_)]
  · unfold validB
    cases s.all isDig <;> simp
    rw [Bool.eq_iff_iff]; simp; omega
  · unfold f_billingref02_Valid_l1
    rw [if_pos (by simpa using h1), ck_pos (by omega), ck_pos (by omega), ck_pos (by omega)]
    unfold isDig
    have e1 : decide (nth s i.toNat < 48) = !decide (48 ≤ nth s i.toNat) := by rw [← decide_not]; simp
    have e2 : decide (nth s i.toNat > 57) = !decide (nth s i.toNat ≤ 57) := by rw [← decide_not]; simp
    rw [e1, e2]
    cases decide (48 ≤ nth s i.toNat) <;> cases decide (nth s i.toNat ≤ 57) <;> rfl
  · unfold f_billingref02_Valid_l1 f_billingref02_Valid_j1
    rw [if_neg (by simp; omega)]
    rfl

/-! ### the error of a record -/
def errF (r : Record) : Int :=
  if ¬(1 ≤ r.source ∧ r.source ≤ 99 ∧ 1 ≤ r.serial ∧ r.serial ≤ 999999999) then 6
  else if ¬(1 ≤ r.kind ∧ r.kind ≤ 4) then 7
  else if validB r.a = false ∨ (validB r.b = false ∧ ¬((r.kind = 3 ∨ r.kind = 4) ∧ r.b = [])) then 12
  else if ¬(0 ≤ r.start ∧ r.start ≤ 12622780799) then 15
  else if ¬(0 ≤ r.units ∧ r.units ≤ 1099511627776) ∨ (r.kind = 1 ∧ r.units > 604800) then 6
  else if r.kind = 1 ∧ r.start + r.units > 12622780800 then 15
  else if ¬(0 ≤ r.call ∧ r.call ≤ 999999999 ∧ 0 ≤ r.part ∧ r.part ≤ 99) then 6
  else if ¬(r.part = 0 ↔ r.call = 0) ∨ (r.last = true ∧ r.part = 0) then 8
  else if ¬(0 ≤ r.trunk ∧ r.trunk ≤ 999) then 6
  else if r.inbound = true ∧ r.trunk = 0 then 8
  else 0
theorem ite_same {α : Type} {b : Bool} {p : Prop} [Decidable p] {x y x' y' : α} (h : b = true ↔ p) (hx : p → x = x') (hy : ¬p → y = y') : (if b = true then x else y) = if p then x' else y' := by
  by_cases hp : p
  · rw [if_pos hp, if_pos (h.2 hp), hx hp]
  · rw [if_neg hp, if_neg (fun hb => hp (h.1 hb)), hy hp]
theorem ite_some {α : Type} {p : Prop} [Decidable p] {x y : α} : (if p then some x else some y) = some (if p then x else y) := by split <;> rfl
theorem p_check (r : Record) (ha : r.a.length < 1000000000) (hb : r.b.length < 1000000000) : f_textual_check r = some (errF r) := by
  have key : ∀ m, (m = 1099511627776 ∧ r.kind ≠ 1) ∨ (m = 604800 ∧ r.kind = 1) → f_textual_check_j1 r m = some (errF r) := by
    intro m hm
    unfold f_textual_check_j1 errF
    simp only [f_textual_within, p_Valid _ ha, p_Valid _ hb, Option.bind_some, gcall_mk]
    simp only [← ite_some]
    refine ite_same (by simp; grind) (fun _ => rfl) (fun h1 => ?_)
    refine ite_same (by simp; grind) (fun _ => rfl) (fun h2 => ?_)
    refine ite_same (by simp; grind) (fun _ => rfl) (fun h3 => ?_)
    refine ite_same (by simp; grind) (fun _ => rfl) (fun h4 => ?_)
    refine ite_same (by simp; grind) (fun _ => rfl) (fun h5 => ?_)
    rw [ck_pos (by omega)]
    refine ite_same (by simp) (fun _ => rfl) (fun h6 => ?_)
    refine ite_same (by simp; grind) (fun _ => rfl) (fun h7 => ?_)
    refine ite_same (by simp; grind) (fun _ => rfl) (fun h8 => ?_)
    refine ite_same (by simp; grind) (fun _ => rfl) (fun h9 => ?_)
    refine ite_same (by simp) (fun _ => rfl) (fun h10 => rfl)
  unfold f_textual_check
  split
  · rename_i h
    exact key _ (.inr ⟨rfl, by simpa using h⟩)
  · rename_i h
    exact key _ (.inl ⟨rfl, by simpa using h⟩)
theorem p_rError (r : Record) (ha : r.a.length < 1000000000) (hb : r.b.length < 1000000000) : f_billingref09_Error r = some (errF r) := by
  unfold f_billingref09_Error errF
  simp only [f_billingref09_in, p_rValid _ ha, p_rValid _ hb, Option.bind_some, gcall_mk]
  simp only [← ite_some]
  refine ite_same (by simp; grind) (fun _ => rfl) (fun h1 => ?_)
  refine ite_same (by simp; grind) (fun _ => rfl) (fun h2 => ?_)
  by_cases hva : validB r.a = true
  · rw [if_neg (by simp [hva])]
    refine ite_same (by simp [hva]; grind) (fun _ => rfl) (fun h3 => ?_)
    refine ite_same (by simp; grind) (fun _ => rfl) (fun h4 => ?_)
    refine ite_same (by simp; grind) (fun _ => rfl) (fun h5 => ?_)
    rw [ck_pos (by omega)]
    refine ite_same (by simp) (fun _ => rfl) (fun h6 => ?_)
    refine ite_same (by simp; grind) (fun _ => rfl) (fun h7 => ?_)
    refine ite_same (by simp; grind) (fun _ => rfl) (fun h8 => ?_)
    refine ite_same (by simp; grind) (fun _ => rfl) (fun h9 => ?_)
    refine ite_same (by simp) (fun _ => rfl) (fun h10 => rfl)
  · rw [if_pos (by simp [hva]), if_pos (by simp [hva])]
structure Good (r : Record) : Prop where
  source : 1 ≤ r.source ∧ r.source ≤ 99
  serial : 1 ≤ r.serial ∧ r.serial ≤ 999999999
  kind : 1 ≤ r.kind ∧ r.kind ≤ 4
  a : validB r.a = true
  b : validB r.b = true ∨ (r.kind = 3 ∨ r.kind = 4) ∧ r.b = []
  start : 0 ≤ r.start ∧ r.start ≤ 12622780799
  units : 0 ≤ r.units ∧ r.units ≤ 1099511627776
  call : 0 ≤ r.call ∧ r.call ≤ 999999999
  part : 0 ≤ r.part ∧ r.part ≤ 99
  trunk : 0 ≤ r.trunk ∧ r.trunk ≤ 999
theorem errF_good {r : Record} (h : errF r = 0) : Good r := by
  unfold errF at h
  split at h; · cases h
  split at h; · cases h
  split at h; · cases h
  split at h; · cases h
  split at h; · cases h
  split at h; · cases h
  split at h; · cases h
  split at h; · cases h
  split at h; · cases h
  split at h; · cases h
  rename_i h1 h2 h3 h4 h5 h6 h7 h8 h9 h10
  refine ⟨by omega, by omega, by omega, ?_, ?_, by omega, by omega, by omega, by omega, by omega⟩
  · cases hv : validB r.a with
    | true => rfl
    | false => exact absurd (.inl hv) h3
  · cases hv : validB r.b with
    | true => exact .inl rfl
    | false =>
      right
      by_cases hh : (r.kind = 3 ∨ r.kind = 4) ∧ r.b = []
      · exact hh
      · exact absurd (.inr ⟨hv, hh⟩) h3
theorem validB_len {s : List UInt8} (h : validB s = true) : s.length ≤ 15 := by
  unfold validB at h
  simp at h
  exact h.2
/-- The words of a line. -/
def headF (r : Record) : List (List UInt8) := [(([118, 116, 100, 99] : List UInt8).take r.kind.toNat).drop (r.kind - 1).toNat, Go.Lib.itoa r.source, Go.Lib.itoa r.serial, r.a, if r.b = [] then [45] else r.b, Go.Lib.itoa r.start, Go.Lib.itoa r.units]
def partF (r : Record) : List (List UInt8) := if r.part = 0 then [] else [[112, 97, 114, 116], Go.Lib.itoa r.call, Go.Lib.itoa r.part] ++ if r.last = true then [[108, 97, 115, 116]] else []
def trunkF (r : Record) : List (List UInt8) := if r.trunk = 0 then [] else [if r.inbound = true then [105, 110] else [111, 117, 116], Go.Lib.itoa r.trunk]
def wordsF (r : Record) : List (List UInt8) := headF r ++ partF r ++ trunkF r
def lineF (r : Record) : List UInt8 := Go.Lib.join (wordsF r) [32]
theorem join_len (sep : List UInt8) (xs : List (List UInt8)) (m : Nat) (h : ∀ x, x ∈ xs → x.length ≤ m) : (Go.Lib.join xs sep).length ≤ xs.length * (m + sep.length) := by
  cases xs with
  | nil => simp [Go.Lib.join]
  | cons x r =>
    rw [Go.Lib.join_cons]
    have h1 : ∀ (r : List (List UInt8)), (∀ x, x ∈ r → x.length ≤ m) → (Go.Lib.joinTail sep r).length ≤ r.length * (m + sep.length) := by
      intro r
      induction r with
      | nil => simp [Go.Lib.joinTail]
      | cons y r ih =>
        intro hr
        have := ih fun z hz => hr z (List.mem_cons_of_mem _ hz)
        have h2 := hr y List.mem_cons_self
        simp only [Go.Lib.joinTail, List.map_cons, List.flatten_cons, List.length_append, List.length_cons, Nat.add_mul] at *
        omega
    have h3 := h1 r fun z hz => h z (List.mem_cons_of_mem _ hz)
    have h4 := h x List.mem_cons_self
    simp only [List.length_append, List.length_cons, Nat.add_mul] at *
    omega
theorem itoa_le {n : Int} (h0 : 0 ≤ n) (h1 : n ≤ 9223372036854775807) : (Go.Lib.itoa n).length ≤ 21 := Go.Lib.itoa_length_le n (by omega) h1
theorem words_le {r : Record} (g : Good r) : (wordsF r).length ≤ 13 ∧ ∀ x, x ∈ wordsF r → x.length ≤ 21 := by
  have ha := validB_len g.a
  have hb : r.b.length ≤ 15 := by
    rcases g.b with h | h
    · exact validB_len h
    · rw [h.2]; simp
  obtain ⟨gs, ge, gk, _, _, gst, gu, gc, gp, gt⟩ := g
  refine ⟨?_, fun x hx => ?_⟩
  · have h1 : (partF r).length ≤ 4 := by unfold partF; split; simp; split <;> simp
    have h2 : (trunkF r).length ≤ 2 := by unfold trunkF; split <;> simp
    have h3 : (headF r).length = 7 := rfl
    simp only [wordsF, List.length_append]; omega
  · unfold wordsF at hx
    rcases List.mem_append.1 hx with hx | hx
    · rcases List.mem_append.1 hx with hx | hx
      · unfold headF at hx
        simp only [List.mem_cons, List.not_mem_nil, or_false] at hx
        rcases hx with rfl | rfl | rfl | rfl | rfl | rfl | rfl
        · simp; omega
        · exact itoa_le (by omega) (by omega)
        · exact itoa_le (by omega) (by omega)
        · omega
        · split
          · simp
          · omega
        · exact itoa_le (by omega) (by omega)
        · exact itoa_le (by omega) (by omega)
      · unfold partF at hx
        split at hx
        · cases hx
        · rcases List.mem_append.1 hx with hx | hx
          · simp only [List.mem_cons, List.not_mem_nil, or_false] at hx
            rcases hx with rfl | rfl | rfl
            · simp
            · exact itoa_le (by omega) (by omega)
            · exact itoa_le (by omega) (by omega)
          · split at hx
            · simp only [List.mem_cons, List.not_mem_nil, or_false] at hx
              subst hx; simp
            · cases hx
    · unfold trunkF at hx
      split at hx
      · cases hx
      · simp only [List.mem_cons, List.not_mem_nil, or_false] at hx
        rcases hx with rfl | rfl
        · split <;> simp
        · exact itoa_le (by omega) (by omega)
theorem p_Itoa {n : Int} (h0 : 0 ≤ n) (h1 : n ≤ 9223372036854775807) : x_Itoa n = some (Go.Lib.itoa n) := by
  unfold x_Itoa; rw [ck_pos (by omega)]
theorem p_Encode_ok (r : Record) (h : errF r = 0) : f_textual_Encode r = some (lineF r, 0) := by
  have g := errF_good h
  have ha := validB_len g.a
  have hb : r.b.length ≤ 15 := by
    rcases g.b with h | h
    · exact validB_len h
    · rw [h.2]; simp
  have hj3 : ∀ ws, ws = wordsF r → f_textual_Encode_j3 ws = some (lineF r, 0) := by
    rintro ws rfl
    unfold f_textual_Encode_j3 x_Join
    obtain ⟨w1, w2⟩ := words_le g
    have := join_len [32] (wordsF r) 21 w2
    simp only [List.length_cons, List.length_nil] at this
    have h3 : (wordsF r).length * 22 ≤ 13 * 22 := Nat.mul_le_mul_right _ w1
    rw [ck_pos ⟨by omega, by omega⟩]
    rfl
  have hj2 : ∀ ws, ws = headF r ++ partF r → ws.length ≤ 11 → f_textual_Encode_j2 r ws = some (lineF r, 0) := by
    intro ws hw hl
    unfold f_textual_Encode_j2
    by_cases ht : r.trunk = 0
    · rw [if_neg (by simp [ht])]
      exact hj3 _ (by rw [hw, wordsF, trunkF, if_pos ht]; simp)
    · rw [if_pos (by simp [ht])]
      unfold f_textual_Encode_j4
      rw [p_Itoa g.trunk.1 (by have := g.trunk.2; omega)]
      simp only [Option.bind_some]
      split
      · rename_i hi
        rw [ck_pos (by simp; omega)]
        exact hj3 _ (by rw [hw, wordsF, trunkF, if_neg ht, if_pos hi])
      · rename_i hi
        rw [ck_pos (by simp; omega)]
        exact hj3 _ (by rw [hw, wordsF, trunkF, if_neg ht, if_neg hi])
  have hj1 : ∀ b, b = (if r.b = [] then [45] else r.b) → f_textual_Encode_j1 r b = some (lineF r, 0) := by
    rintro b rfl
    unfold f_textual_Encode_j1
    have gk := g.kind
    rw [ck_pos (by omega), ck_pos (by simp; omega), p_Itoa (by have := g.source; omega) (by have := g.source; omega), p_Itoa (by have := g.serial; omega) (by have := g.serial; omega), p_Itoa g.start.1 (by have := g.start; omega), p_Itoa g.units.1 (by have := g.units; omega)]
    simp only [Option.bind_some]
    by_cases hp : r.part = 0
    · rw [if_neg (by simp [hp])]
      exact hj2 _ (by rw [partF, if_pos hp]; simp [headF]) (by simp)
    · rw [if_pos (by simp [hp]), p_Itoa g.call.1 (by have := g.call; omega), p_Itoa g.part.1 (by have := g.part; omega)]
      simp only [Option.bind_some]
      rw [ck_pos (by simp)]
      split
      · rename_i hl
        rw [ck_pos (by simp)]
        exact hj2 _ (by rw [partF, if_neg hp, if_pos hl]; simp [headF]) (by simp)
      · rename_i hl
        exact hj2 _ (by rw [partF, if_neg hp, if_neg hl]; simp [headF]) (by simp)
  unfold f_textual_Encode
  rw [p_check r (by omega) (by omega), h]
  simp only [Option.bind_some]
  rw [if_neg (by simp)]
  split
  · rename_i hb0
    exact hj1 _ (by rw [if_pos (by simpa using hb0)])
  · rename_i hb0
    exact hj1 _ (by rw [if_neg (by simpa using hb0)])
theorem p_Encode (r : Record) (ha : r.a.length < 1000000000) (hb : r.b.length < 1000000000) : f_textual_Encode r = some (if errF r = 0 then lineF r else [], errF r) := by
  by_cases h : errF r = 0
  · rw [p_Encode_ok r h, if_pos h, h]
  · unfold f_textual_Encode
    rw [p_check r ha hb, if_neg h]
    simp only [Option.bind_some]
    rw [if_pos (by simpa using h)]
/-! ### validate -/
def Short (r : Record) : Prop := (r.a.length : Int) ≤ 200 ∧ (r.b.length : Int) ≤ 200
instance (r : Record) : Decidable (Short r) := inferInstanceAs (Decidable (_ ∧ _))
theorem p_short (r : Record) : f_billinglaw13_short r = some (decide (Short r)) := by
  unfold f_billinglaw13_short
  congr 1
  rw [Bool.eq_iff_iff, decide_eq_true_iff]
  simp [Short]
theorem p_Check (r : Record) (h : Short r) : f_validate_Check r = some (errF r) := by
  unfold f_validate_Check
  unfold Short at h
  rw [p_Encode r (by omega) (by omega)]; rfl
theorem p_rCheck (r : Record) (h : Short r) : f_billingref13_Check r = some (errF r) := by
  unfold f_billingref13_Check
  unfold Short at h
  rw [p_rError r (by omega) (by omega)]; rfl
def winF (r : Record) (w : Window) : Int := if r.start < w.earliest ∨ r.start > w.latest then 15 else 0
theorem p_Window (r : Record) (w : Window) : f_validate_Window r w = some (winF r w) := by
  unfold f_validate_Window winF
  rw [← ite_some]
  exact ite_same (by simp) (fun _ => rfl) (fun _ => rfl)
theorem p_rWindow (r : Record) (w : Window) : f_billingref13_Window r w = some (winF r w) := p_Window r w
def eF (w : Window) (r : Record) : Int := if errF r = 0 then winF r w else errF r
def okF (w : Window) (l : List Record) : List Record := l.filter fun r => eF w r == 0
def noF (w : Window) : Int → List Record → List Reject
  | _, [] => []
  | i, r :: l => if eF w r = 0 then noF w (i + 1) l else ⟨r.source, r.serial, i, eF w r⟩ :: noF w (i + 1) l
theorem p_All (l : List Record) (w : Window) (hs : ∀ r, r ∈ l → Short r) (hl : l.length ≤ 1000) : f_validate_All l w = some (okF w l, noF w 0 l) := by
  unfold f_validate_All
  have := loop_spec (step := fun s : List Record × List Reject × Int => f_validate_All_l1 l w s.1 s.2.1 s.2.2) (fun s => some (s.1 ++ okF w (l.drop s.2.2.toNat), s.2.1 ++ noF w s.2.2 (l.drop s.2.2.toNat)))
    (fun s => 0 ≤ s.2.2 ∧ s.2.2 ≤ (l.length : Int) ∧ (s.1.length : Int) + s.2.1.length = s.2.2) (fun s => ((l.length : Int) - s.2.2).toNat) (fun s hI => by
      obtain ⟨out, no, i⟩ := s
      obtain ⟨h0, h1, h2⟩ := hI
      simp only at h0 h1 h2
      show (∃ r, f_validate_All_l1 l w out no i = _ ∧ _) ∨ ∃ s', f_validate_All_l1 l w out no i = _ ∧ _
      unfold f_validate_All_l1
      by_cases h : i < (l.length : Int)
      · have hd := drop_nth (l := l) (k := i.toNat) (by omega)
        have hm : nth l i.toNat ∈ l := by rw [nth_eq (by omega)]; exact List.getElem_mem _
        rw [if_pos (by simpa using h), ck_pos (by omega), p_Check _ (hs _ hm), p_Window]
        simp only [Option.bind_some]
        have hj : (if (errF (nth l i.toNat) == 0) = true then f_validate_All_j1 l out no i (winF (nth l i.toNat) w) else f_validate_All_j1 l out no i (errF (nth l i.toNat))) = f_validate_All_j1 l out no i (eF w (nth l i.toNat)) := by
          unfold eF; by_cases he : errF (nth l i.toNat) = 0
          · rw [if_pos (by simpa using he), if_pos he]
          · rw [if_neg (by simpa using he), if_neg he]
        rw [hj]
        unfold f_validate_All_j1
        right
        by_cases he : eF w (nth l i.toNat) = 0
        · rw [if_neg (by simpa using he), ck_pos (by simp; omega), ck_pos (by omega)]
          refine ⟨_, rfl, ⟨by simp; omega, by simp; omega, by simp; omega⟩, by simp; omega, ?_⟩
          simp only
          rw [show (i + 1).toNat = i.toNat + 1 from by omega, hd]
          simp [okF, noF, he]
        · rw [if_pos (by simpa using he), ck_pos (by simp; omega), ck_pos (by omega)]
          refine ⟨_, rfl, ⟨by simp; omega, by simp; omega, by simp; omega⟩, by simp; omega, ?_⟩
          simp only
          rw [show (i + 1).toNat = i.toNat + 1 from by omega, hd]
          simp [okF, noF, he]
      · rw [if_neg (by simpa using h)]
        refine .inl ⟨_, rfl, ?_⟩
        simp only
        rw [List.drop_of_length_le (by omega)]
        simp [okF, noF]) (s := ([], [], 0)) ⟨by simp, by simp, by simp⟩ (by simp; omega)
  simpa using this
theorem p_rAll (l : List Record) (w : Window) (hs : ∀ r, r ∈ l → Short r) (hl : l.length ≤ 1000) : f_billingref13_All l w = some (okF w l, noF w 0 l) := by
  unfold f_billingref13_All
  have := loop_spec (step := fun s : List Record × List Reject × Int => f_billingref13_All_l1 l w s.1 s.2.1 s.2.2) (fun s => some (s.1 ++ okF w (l.drop s.2.2.toNat), s.2.1 ++ noF w s.2.2 (l.drop s.2.2.toNat)))
    (fun s => 0 ≤ s.2.2 ∧ s.2.2 ≤ (l.length : Int) ∧ (s.1.length : Int) + s.2.1.length = s.2.2) (fun s => ((l.length : Int) - s.2.2).toNat) (fun s hI => by
      obtain ⟨out, no, i⟩ := s
      obtain ⟨h0, h1, h2⟩ := hI
      simp only at h0 h1 h2
      show (∃ r, f_billingref13_All_l1 l w out no i = _ ∧ _) ∨ ∃ s', f_billingref13_All_l1 l w out no i = _ ∧ _
      unfold f_billingref13_All_l1
      by_cases h : i < (l.length : Int)
      · have hd := drop_nth (l := l) (k := i.toNat) (by omega)
        have hm : nth l i.toNat ∈ l := by rw [nth_eq (by omega)]; exact List.getElem_mem _
        rw [if_pos (by simpa using h), ck_pos (by omega), p_rCheck _ (hs _ hm), p_rWindow]
        simp only [Option.bind_some]
        have hj : (if (errF (nth l i.toNat) == 0) = true then f_billingref13_All_j1 l out no i (winF (nth l i.toNat) w) else f_billingref13_All_j1 l out no i (errF (nth l i.toNat))) = f_billingref13_All_j1 l out no i (eF w (nth l i.toNat)) := by
          unfold eF; by_cases he : errF (nth l i.toNat) = 0
          · rw [if_pos (by simpa using he), if_pos he]
          · rw [if_neg (by simpa using he), if_neg he]
        rw [hj]
        unfold f_billingref13_All_j1
        right
        by_cases he : eF w (nth l i.toNat) = 0
        · rw [if_pos (by simpa using he), ck_pos (by simp; omega), ck_pos (by omega)]
          refine ⟨_, rfl, ⟨by simp; omega, by simp; omega, by simp; omega⟩, by simp; omega, ?_⟩
          simp only
          rw [show (i + 1).toNat = i.toNat + 1 from by omega, hd]
          simp [okF, noF, he]
        · rw [if_neg (by simpa using he), ck_pos (by simp; omega), ck_pos (by omega)]
          refine ⟨_, rfl, ⟨by simp; omega, by simp; omega, by simp; omega⟩, by simp; omega, ?_⟩
          simp only
          rw [show (i + 1).toNat = i.toNat + 1 from by omega, hd]
          simp [okF, noF, he]
      · rw [if_neg (by simpa using h)]
        refine .inl ⟨_, rfl, ?_⟩
        simp only
        rw [List.drop_of_length_le (by omega)]
        simp [okF, noF]) (s := ([], [], 0)) ⟨by simp, by simp, by simp⟩ (by simp; omega)
  simpa using this
theorem Record.eq_refl (r : Record) : eqVs r.vals r.vals = true := by simp [Record.vals, eqVs, eqV]
theorem Reject.eq_refl (r : Reject) : eqVs r.vals r.vals = true := by simp [Reject.vals, eqVs, eqV]
theorem p_Same (a : List Record) (hl : a.length ≤ 1000) : f_billingref13_Same a a = some true := by
  unfold f_billingref13_Same f_billingref09_Same
  rw [if_neg (by simp), loop_all a (fun _ => true) true true (by omega) (fun i h0 h1 => ?_) (fun i hi => ?_)]
  · simp
  · unfold f_billingref09_Same_l1
    rw [if_pos (by simpa using h1), ck_pos (by omega), ck_pos (by omega), if_neg (by rw [Record.eq_refl]; simp), ck_pos (by omega)]
    rfl
  · unfold f_billingref09_Same_l1
    rw [if_neg (by simp; omega)]
theorem p_SameRejects (a : List Reject) (hl : a.length ≤ 1000) : f_billingref13_SameRejects a a = some true := by
  unfold f_billingref13_SameRejects f_billingref09_SameRejects
  rw [if_neg (by simp), loop_all a (fun _ => true) true true (by omega) (fun i h0 h1 => ?_) (fun i hi => ?_)]
  · simp
  · unfold f_billingref09_SameRejects_l1
    rw [if_pos (by simpa using h1), ck_pos (by omega), ck_pos (by omega), if_neg (by rw [Reject.eq_refl]; simp), ck_pos (by omega)]
    rfl
  · unfold f_billingref09_SameRejects_l1
    rw [if_neg (by simp; omega)]
def nameF (k : Int) : List UInt8 := if k = 1 then [118, 111, 105, 99, 101] else if k = 2 then [116, 101, 120, 116] else if k = 3 then [100, 97, 116, 97] else if k = 4 then [99, 111, 110, 116, 101, 110, 116] else []
theorem p_Name (k : Int) : f_validate_Name k = some (nameF k) := by
  unfold f_validate_Name nameF
  simp only [← ite_some]
  refine ite_same (by simp) (fun _ => rfl) (fun _ => ?_)
  refine ite_same (by simp) (fun _ => rfl) (fun _ => ?_)
  refine ite_same (by simp) (fun _ => rfl) (fun _ => ?_)
  exact ite_same (by simp) (fun _ => rfl) (fun _ => rfl)
theorem p_rName (k : Int) : f_billingref13_Name k = some (nameF k) := p_Name k
def kindF (s : List UInt8) : Int := if nameF 1 = s then 1 else if nameF 2 = s then 2 else if nameF 3 = s then 3 else if nameF 4 = s then 4 else 0
def kindFrom (i : Int) (s : List UInt8) : Int := if i ≤ 1 ∧ nameF 1 = s then 1 else if i ≤ 2 ∧ nameF 2 = s then 2 else if i ≤ 3 ∧ nameF 3 = s then 3 else if i ≤ 4 ∧ nameF 4 = s then 4 else 0
theorem kindFrom_step {i : Int} {s : List UInt8} (h0 : 0 ≤ i) (h : nameF i ≠ s ∨ i = 0) : kindFrom (i + 1) s = kindFrom i s := by
  unfold kindFrom
  have c1 : (i + 1 ≤ 1 ∧ nameF 1 = s) ↔ (i ≤ 1 ∧ nameF 1 = s) := by
    constructor
    · intro hh; exact ⟨by omega, hh.2⟩
    · intro hh; refine ⟨?_, hh.2⟩; by_cases e : i = 1; subst e; simp_all; omega
  have c2 : (i + 1 ≤ 2 ∧ nameF 2 = s) ↔ (i ≤ 2 ∧ nameF 2 = s) := by
    constructor
    · intro hh; exact ⟨by omega, hh.2⟩
    · intro hh; refine ⟨?_, hh.2⟩; by_cases e : i = 2; subst e; simp_all; omega
  have c3 : (i + 1 ≤ 3 ∧ nameF 3 = s) ↔ (i ≤ 3 ∧ nameF 3 = s) := by
    constructor
    · intro hh; exact ⟨by omega, hh.2⟩
    · intro hh; refine ⟨?_, hh.2⟩; by_cases e : i = 3; subst e; simp_all; omega
  have c4 : (i + 1 ≤ 4 ∧ nameF 4 = s) ↔ (i ≤ 4 ∧ nameF 4 = s) := by
    constructor
    · intro hh; exact ⟨by omega, hh.2⟩
    · intro hh; refine ⟨?_, hh.2⟩; by_cases e : i = 4; subst e; simp_all; omega
  simp only [c1, c2, c3, c4]
theorem kindFrom_hit {i : Int} {s : List UInt8} (h0 : 1 ≤ i) (h1 : i ≤ 4) (h : nameF i = s) : kindFrom i s = i := by
  subst h
  have : i = 1 ∨ i = 2 ∨ i = 3 ∨ i = 4 := by omega
  rcases this with rfl | rfl | rfl | rfl <;> decide
theorem p_Kind (s : List UInt8) : f_validate_Kind s = some (kindF s) := by
  unfold f_validate_Kind
  have := loop_spec (step := fun i : Int => f_validate_Kind_l1 s i) (fun i => some (kindFrom i s)) (fun i => 0 ≤ i ∧ i ≤ 5) (fun i => (5 - i).toNat) (fun i hI => by
    obtain ⟨h0, h1⟩ := hI
    show (∃ r, f_validate_Kind_l1 s i = _ ∧ _) ∨ ∃ s', f_validate_Kind_l1 s i = _ ∧ _
    unfold f_validate_Kind_l1
    by_cases h : i < 5
    · rw [if_pos (by simpa using h), p_Name, gcall_mk]
      simp only [Option.bind_some]
      by_cases hc : 0 < i ∧ nameF i = s
      · rw [if_pos (by simp [hc])]
        exact .inl ⟨_, rfl, by rw [kindFrom_hit (by omega) (by omega) hc.2]⟩
      · rw [if_neg (by simp; intro hp; simp [hp]; exact fun e => hc ⟨hp, e⟩), ck_pos (by omega)]
        refine .inr ⟨i + 1, rfl, ⟨by omega, by omega⟩, by omega, ?_⟩
        rw [kindFrom_step h0]
        by_cases e : i = 0
        · exact .inr e
        · exact .inl fun hh => hc ⟨by omega, hh⟩
    · have : i = 5 := by omega
      subst this
      exact .inl ⟨_, rfl, by simp [kindFrom]⟩) (s := 0) ⟨by omega, by omega⟩ (by simp)
  rw [this]
  simp [kindFrom, kindF]
theorem p_rKind (s : List UInt8) : f_billingref13_Kind s = some (kindF s) := by
  unfold f_billingref13_Kind
  have := loop_spec (step := fun i : Int => f_billingref13_Kind_l1 s i) (fun i => some (kindFrom i s)) (fun i => 1 ≤ i ∧ i ≤ 5) (fun i => (5 - i).toNat) (fun i hI => by
    obtain ⟨h0, h1⟩ := hI
    show (∃ r, f_billingref13_Kind_l1 s i = _ ∧ _) ∨ ∃ s', f_billingref13_Kind_l1 s i = _ ∧ _
    unfold f_billingref13_Kind_l1
    by_cases h : i < 5
    · rw [if_pos (by simpa using h), p_rName]
      simp only [Option.bind_some]
      by_cases hc : nameF i = s
      · rw [if_pos (by simp [hc])]
        exact .inl ⟨_, rfl, by rw [kindFrom_hit (by omega) (by omega) hc]⟩
      · rw [if_neg (by simpa using hc), ck_pos (by omega)]
        refine .inr ⟨i + 1, rfl, ⟨by omega, by omega⟩, by omega, ?_⟩
        rw [kindFrom_step (by omega) (.inl hc)]
    · have : i = 5 := by omega
      subst this
      exact .inl ⟨_, rfl, by simp [kindFrom]⟩) (s := 1) ⟨by omega, by omega⟩ (by simp)
  rw [this]
  simp [kindFrom, kindF]
theorem awake_true : f_billinglaw13_awake = some true := by
  have hsh : ∀ (u st c : Int), Short ⟨1, 1, 1, [49], [50], st, u, c, 0, false, 0, false⟩ := fun u st c => ⟨by simp, by simp⟩
  unfold f_billinglaw13_awake
  rw [p_All _ _ (fun r hr => by simp at hr; subst hr; exact hsh _ _ _) (by simp)]
  simp only [Option.bind_some]
  have e1 : okF ⟨10, 20⟩ [⟨1, 1, 1, [49], [50], 0, 604800, 0, 0, false, 0, false⟩] = [] := by kernel_rfl
  have e2 : noF ⟨10, 20⟩ 0 [⟨1, 1, 1, [49], [50], 0, 604800, 0, 0, false, 0, false⟩] = [⟨1, 1, 0, 15⟩] := by kernel_rfl
  rw [e1, e2, p_Check _ (hsh _ _ _), p_Check _ (hsh _ _ _), p_Check _ (hsh _ _ _), p_Check _ (hsh _ _ _)]
  have c1 : errF ⟨1, 1, 1, [49], [50], 0, 604800, 0, 0, false, 0, false⟩ = 0 := by kernel_rfl
  have c2 : errF ⟨1, 1, 1, [49], [50], 0, 604801, 0, 0, false, 0, false⟩ = 6 := by kernel_rfl
  have c3 : errF ⟨1, 1, 1, [49], [50], 12622780790, 11, 0, 0, false, 0, false⟩ = 15 := by kernel_rfl
  have c4 : errF ⟨1, 1, 1, [49], [50], 0, 604800, 5, 0, false, 0, false⟩ = 8 := by kernel_rfl
  rw [c1, c2, c3, c4]
  simp only [p_Name, p_Kind, gcall_mk, Option.bind_some]
  rfl
/-! ### the laws -/
theorem checks_true (r : Record) (w : Window) : f_billinglaw13_ValidateChecks r w = some true := by
  unfold f_billinglaw13_ValidateChecks
  rw [p_short]
  simp only [Option.bind_some]
  by_cases h : Short r
  · rw [if_neg (by simp [h]), p_Check r h, p_rCheck r h]
    simp only [Option.bind_some, p_Window, p_rWindow, gcall_mk, beq_self_eq_true, if_true, awake_true, Bool.and_self]
  · rw [if_pos (by simp [h]), awake_true]; rfl
theorem few_tot (l : List Record) : ∃ b, f_billinglaw13_few l = some b ∧ (b = true → l.length ≤ 60 ∧ ∀ r, r ∈ l → Short r) := by
  unfold f_billinglaw13_few
  obtain ⟨b, h1, h2⟩ := loop_post (step := fun i : Int => f_billinglaw13_few_l1 l i) (fun b => b = true → l.length ≤ 60 ∧ ∀ r, r ∈ l → Short r) (fun i : Int => 0 ≤ i ∧ i ≤ 61 ∧ i ≤ (l.length : Int) ∧ ∀ r, r ∈ l.take i.toNat → Short r) (fun i => (61 - i).toNat) (fun i hI => by
    obtain ⟨h0, h1, h2, h3⟩ := hI
    show (∃ r, f_billinglaw13_few_l1 l i = _ ∧ _) ∨ ∃ s', f_billinglaw13_few_l1 l i = _ ∧ _
    unfold f_billinglaw13_few_l1
    by_cases h : i < (l.length : Int) ∧ i < 61
    · rw [if_pos (by simp [h]), ck_pos (by omega), p_short]
      simp only [Option.bind_some]
      by_cases hs : Short (nth l i.toNat)
      · rw [if_neg (by simp [hs]), ck_pos (by omega)]
        refine .inr ⟨i + 1, rfl, ⟨by omega, by omega, by omega, ?_⟩, by omega⟩
        rw [show (i + 1).toNat = i.toNat + 1 from by omega, take_nth (by omega)]
        intro r hr
        rcases List.mem_append.1 hr with hr | hr
        · exact h3 r hr
        · simp at hr; subst hr; exact hs
      · rw [if_pos (by simp [hs])]
        exact .inl ⟨_, rfl, by simp⟩
    · rw [if_neg (by simp; omega)]
      unfold f_billinglaw13_few_j1
      refine .inl ⟨_, rfl, fun hb => ?_⟩
      simp at hb
      have : i = l.length := by omega
      refine ⟨by omega, fun r hr => h3 r ?_⟩
      rw [List.take_of_length_le (by omega)]
      exact hr) (s := 0) ⟨by omega, by omega, by omega, by simp⟩ (by simp)
  exact ⟨b, h1, h2⟩
theorem okF_len (w : Window) (l : List Record) : (okF w l).length ≤ l.length := List.length_filter_le _ _
theorem noF_len (w : Window) : ∀ (i : Int) (l : List Record), (okF w l).length + (noF w i l).length = l.length
  | _, [] => rfl
  | i, r :: l => by
    have := noF_len w (i + 1) l
    unfold okF at this
    unfold noF okF
    by_cases h : eF w r = 0
    · simp [h]; omega
    · simp [h]; omega
theorem okF_okF (w : Window) (l : List Record) : okF w (okF w l) = okF w l := by
  unfold okF; rw [List.filter_filter]; simp
theorem noF_okF (w : Window) : ∀ (l : List Record) (i : Int), noF w i (okF w l) = []
  | [], i => rfl
  | r :: l, i => by
    have h1 := noF_okF w l
    unfold okF at *
    by_cases h : eF w r = 0
    · simp [h, noF, h1]
    · simp [h, h1]
theorem all_true (l : List Record) (w : Window) : f_billinglaw13_ValidateAll l w = some true := by
  unfold f_billinglaw13_ValidateAll
  obtain ⟨b, hb, hb2⟩ := few_tot l
  rw [hb]
  simp only [Option.bind_some]
  cases b with
  | false => rw [if_pos (by simp), awake_true]; rfl
  | true =>
    obtain ⟨hl, hs⟩ := hb2 rfl
    have h1 := okF_len w l
    have h2 := noF_len w 0 l
    rw [if_neg (by simp), p_All l w hs (by omega), p_rAll l w hs (by omega)]
    simp only [Option.bind_some]
    rw [p_Same _ (by omega), p_SameRejects _ (by omega)]
    simp [gcall, awake_true]
theorem names_true (k : Int) (s : List UInt8) : f_billinglaw13_ValidateNames k s = some true := by
  unfold f_billinglaw13_ValidateNames
  simp only [p_Name, p_rName, p_Kind, p_rKind, Option.bind_some, gcall_mk, bne_self_eq_false, Bool.not_false, if_true, Bool.or_self, Bool.false_eq_true, if_false, awake_true]
  have h1 : nameF k = [] ∨ kindF (nameF k) = k := by
    by_cases h : k = 1 ∨ k = 2 ∨ k = 3 ∨ k = 4
    · right; rcases h with rfl | rfl | rfl | rfl <;> decide
    · left; unfold nameF; rw [if_neg (by omega), if_neg (by omega), if_neg (by omega), if_neg (by omega)]
  have h2 : kindF s = 0 ∨ nameF (kindF s) = s := by
    unfold kindF
    split
    · right; assumption
    split
    · right; assumption
    split
    · right; assumption
    split
    · right; assumption
    · exact .inl rfl
  by_cases ha : nameF k = []
  · by_cases hb : kindF s = 0
    · simp [ha, hb]
    · have hc : nameF (kindF s) = s := by rcases h2 with h2 | h2; exact absurd h2 hb; exact h2
      simp [ha, hb, hc]
  · have hd : kindF (nameF k) = k := by rcases h1 with h1 | h1; exact absurd h1 ha; exact h1
    by_cases hb : kindF s = 0
    · simp [ha, hb, hd]
    · have hc : nameF (kindF s) = s := by rcases h2 with h2 | h2; exact absurd h2 hb; exact h2
      simp [ha, hb, hc, hd]
theorem places_true (l : List Record) (w : Window) : f_billinglaw13_ValidatePlaces l w = some true := by
  unfold f_billinglaw13_ValidatePlaces
  obtain ⟨b, hb, hb2⟩ := few_tot l
  rw [hb]
  simp only [Option.bind_some]
  cases b with
  | false => rw [if_pos (by simp), awake_true]; rfl
  | true =>
    obtain ⟨hl, hs⟩ := hb2 rfl
    have h1 := okF_len w l
    have h2 := noF_len w 0 l
    have hs2 : ∀ r, r ∈ okF w l → Short r := fun r hr => hs r (List.mem_filter.1 hr).1
    rw [if_neg (by simp), p_All l w hs (by omega)]
    simp only [Option.bind_some]
    rw [p_All _ w hs2 (by omega), okF_okF, noF_okF]
    simp only [Option.bind_some]
    rw [ck_pos (by omega), p_Same _ (by omega)]
    have hc : (((((okF w l).length : Int) + ((noF w 0 l).length : Int)) != (l.length : Int)) || (((([] : List Reject).length : Int)) != 0)) = false := by simp; omega
    rw [hc]
    simp only [gcall_mk, Bool.not_false, if_true, Option.bind_some, Bool.not_true, Bool.or_self, Bool.false_eq_true, if_false]
    obtain ⟨r, k1, k2⟩ := loop_post (step := fun s : Int × Int => f_billinglaw13_ValidatePlaces_l1 l w (okF w l, noF w 0 l) s.1 s.2) (fun b => b = true)
      (fun s => 0 ≤ s.1 ∧ s.1 ≤ s.2 ∧ s.2 ≤ (l.length : Int) ∧ s.1 ≤ ((noF w 0 l).length : Int) ∧ (noF w 0 l).drop s.1.toNat = noF w s.2 (l.drop s.2.toNat)) (fun s => ((l.length : Int) - s.2).toNat) (fun s hI => by
        obtain ⟨k, i⟩ := s
        obtain ⟨i0, i1, i2, i3, i4⟩ := hI
        simp only at i0 i1 i2 i3 i4
        show (∃ r, f_billinglaw13_ValidatePlaces_l1 l w (okF w l, noF w 0 l) k i = _ ∧ _) ∨ ∃ s', f_billinglaw13_ValidatePlaces_l1 l w (okF w l, noF w 0 l) k i = _ ∧ _
        unfold f_billinglaw13_ValidatePlaces_l1
        by_cases h : i < (l.length : Int)
        · have hd := drop_nth (l := l) (k := i.toNat) (by omega)
          have hm : nth l i.toNat ∈ l := by rw [nth_eq (by omega)]; exact List.getElem_mem _
          rw [if_pos (by simpa using h), ck_pos (by omega), p_Check _ (hs _ hm), p_Window]
          simp only [Option.bind_some]
          rw [ck_pos (by omega)]
          have hj : (if (errF (nth l i.toNat) == 0) = true then f_billinglaw13_ValidatePlaces_j2 l (okF w l, noF w 0 l) k i (winF (nth l i.toNat) w) else f_billinglaw13_ValidatePlaces_j2 l (okF w l, noF w 0 l) k i (errF (nth l i.toNat))) = f_billinglaw13_ValidatePlaces_j2 l (okF w l, noF w 0 l) k i (eF w (nth l i.toNat)) := by
            unfold eF; by_cases he : errF (nth l i.toNat) = 0
            · rw [if_pos (by simpa using he), if_pos he]
            · rw [if_neg (by simpa using he), if_neg he]
          rw [hj]
          unfold f_billinglaw13_ValidatePlaces_j2
          right
          by_cases he : eF w (nth l i.toNat) = 0
          · rw [if_pos (by simpa using he), ck_pos (by omega)]
            refine ⟨(k, i + 1), rfl, ⟨i0, by simp; omega, by simp; omega, i3, ?_⟩, by simp; omega⟩
            simp only
            rw [i4, show (i + 1).toNat = i.toNat + 1 from by omega, hd]
            simp [noF, he]
          · have h5 : noF w i (l.drop i.toNat) = ⟨(nth l i.toNat).source, (nth l i.toNat).serial, i, eF w (nth l i.toNat)⟩ :: noF w (i + 1) (l.drop (i.toNat + 1)) := by rw [hd]; simp [noF, he]
            have h6 : k.toNat < (noF w 0 l).length := by
              rcases Nat.lt_or_ge k.toNat (noF w 0 l).length with h | h
              · exact h
              · rw [List.drop_of_length_le h, h5] at i4; cases i4
            have h7 := drop_nth h6
            rw [i4, h5] at h7
            simp only [List.cons.injEq] at h7
            rw [if_neg (by simpa using he), ck_pos (fun _ => ⟨i0, by show k < ((noF w 0 l).length : Int); omega⟩), ck_pos (fun _ => by omega), ck_pos (fun _ => by omega), if_neg, ck_pos (by omega), ck_pos (by omega)]
            · refine ⟨(k + 1, i + 1), rfl, ⟨by simp; omega, by simp; omega, by simp; omega, by simp; omega, ?_⟩, by simp; omega⟩
              simp only
              rw [show (k + 1).toNat = k.toNat + 1 from by omega, show (i + 1).toNat = i.toNat + 1 from by omega]
              exact h7.2.symm
            · simp only [← h7.1, Reject.eq_refl]
              simp; omega
        · rw [if_neg (by simpa using h)]
          unfold f_billinglaw13_ValidatePlaces_j1
          rw [List.drop_of_length_le (l := l) (by omega)] at i4
          have h8 : k = ((noF w 0 l).length : Int) := by
            have := congrArg List.length i4
            simp [noF] at this
            omega
          refine .inl ⟨true, ?_, rfl⟩
          simp [h8, gcall, awake_true]) (s := (0, 0)) ⟨by simp, by simp, by simp, by simp, by simp⟩ (by simp; omega)
    rw [k1, k2]
theorem fewer_true (r : Record) (u n : Int) : f_billinglaw13_ValidateFewer r u n = some true := by
  unfold f_billinglaw13_ValidateFewer
  rw [p_short]
  simp only [Option.bind_some]
  by_cases h : Short r
  · rw [p_Check r h]
    simp only [h, decide_true, Bool.not_true, Bool.not_false, gcall_mk, if_true, Option.bind_some, Bool.false_or]
    by_cases he : errF r = 0
    · rw [if_neg (by simpa using he), p_Check _ (show Short ⟨r.source, r.serial, r.kind, r.a, r.b, r.start, u, r.call, r.part, r.last, r.trunk, r.inbound⟩ from h), p_Check _ (show Short ⟨r.source, n, r.kind, r.a, r.b, r.start, r.units, r.call, r.part, r.last, r.trunk, r.inbound⟩ from h)]
      simp only [gcall_mk, Option.bind_some, awake_true]
      have g := errF_good he
      have e1 : 0 ≤ u → u ≤ r.units → errF ⟨r.source, r.serial, r.kind, r.a, r.b, r.start, u, r.call, r.part, r.last, r.trunk, r.inbound⟩ = 0 := by
        intro h0 h1
        unfold errF at he ⊢
        simp only
        split at he; · cases he
        split at he; · cases he
        split at he; · cases he
        split at he; · cases he
        split at he; · cases he
        split at he; · cases he
        rename_i q1 q2 q3 q4 q5 q6
        rw [if_neg q1, if_neg q2, if_neg q3, if_neg q4, if_neg (by omega), if_neg (by omega)]
        exact he
      have e2 : errF ⟨r.source, n, r.kind, r.a, r.b, r.start, r.units, r.call, r.part, r.last, r.trunk, r.inbound⟩ = if n < 1 ∨ n > 999999999 then 6 else 0 := by
        have gs := g.source
        unfold errF at he ⊢
        simp only
        split at he
        · cases he
        · by_cases hn : n < 1 ∨ n > 999999999
          · rw [if_pos (by omega), if_pos hn]
          · rw [if_neg (by omega), if_neg hn]; exact he
      rw [e2]
      by_cases hu : 0 ≤ u ∧ u ≤ r.units
      · rw [e1 hu.1 hu.2]
        by_cases hn : n < 1 ∨ n > 999999999
        · rcases hn with hn | hn <;> simp [hn, hu]
        · have n1 : ¬ n < 1 := by omega
          have n2 : ¬ n > 999999999 := by omega
          simp [hu, n1, n2]
      · by_cases hn : n < 1 ∨ n > 999999999
        · rw [if_neg (by simp; intro a b; exact absurd ⟨a, b⟩ hu)]
          rcases hn with hn | hn <;> simp [hn]
        · have n1 : ¬ n < 1 := by omega
          have n2 : ¬ n > 999999999 := by omega
          rw [if_neg (by simp; intro a b; exact absurd ⟨a, b⟩ hu)]
          simp [n1, n2]
    · rw [if_pos (by simpa using he), awake_true]; rfl
  · simp [h, gcall, awake_true]
end Go.Proofs.YtalecnjpdjdlgaaDoor
