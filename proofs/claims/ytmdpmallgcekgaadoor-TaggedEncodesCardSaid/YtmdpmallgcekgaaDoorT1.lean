import Derived.Test.YtmdpmallgcekgaaDoorLF
import Derived.Lib.ItoaLen
set_option linter.unusedSimpArgs false
set_option linter.unusedVariables false
namespace Go.Proofs.YtmdpmallgcekgaaDoor
open Go.RowKit Go.Abs
theorem gcall_mk {α : Type} [Inhabited α] {b : Bool} {x : α} : gcall b (some x) = some (if b = true then x else default) := by
  unfold gcall; split <;> rfl
theorem loop_count {R : Type} {step : Int → Option (Int ⊕ R)} (n : Nat) (hn : n < 18446744073709551616) (Q : R → Prop) (h : ∀ i, 0 ≤ i → i ≤ (n : Int) → (∃ r, step i = some (.inr r) ∧ Q r) ∨ (step i = some (.inl (i + 1)) ∧ i < (n : Int))) : ∃ r, loop step 0 = some r ∧ Q r := by
  refine loop_post Q (fun i : Int => 0 ≤ i ∧ i ≤ (n : Int)) (fun i => ((n : Int) - i).toNat) (fun i hI => ?_) ⟨by omega, by omega⟩ (by omega)
  rcases h i hI.1 hI.2 with h | ⟨h1, h2⟩
  · exact .inl h
  · exact .inr ⟨i + 1, h1, ⟨by omega, by omega⟩, by omega⟩
/-- A loop over a list that stops at the first element that is not as wanted. -/
theorem loop_all {α R : Type} [Inhabited α] {step : Int → Option (Int ⊕ R)} (l : List α) (p : α → Bool) (fin bad : R) (hl : l.length < 18446744073709551616)
    (h1 : ∀ i : Int, 0 ≤ i → i < (l.length : Int) → step i = some (if p (nth l i.toNat) = true then .inl (i + 1) else .inr bad)) (h2 : ∀ i : Int, i = (l.length : Int) → step i = some (.inr fin)) : loop step 0 = some (if l.all p = true then fin else bad) := by
  have := loop_spec (step := step) (fun i : Int => some (if (l.drop i.toNat).all p = true then fin else bad)) (fun i => 0 ≤ i ∧ i ≤ (l.length : Int)) (fun i => ((l.length : Int) - i).toNat) (fun i hI => by
    by_cases hi : i < (l.length : Int)
    · have hd := drop_nth (l := l) (k := i.toNat) (by omega)
      rw [h1 i hI.1 hi]
      by_cases hp : p (nth l i.toNat) = true
      · rw [if_pos hp]
        refine .inr ⟨i + 1, rfl, ⟨by omega, by omega⟩, by omega, ?_⟩
        rw [show (i + 1).toNat = i.toNat + 1 from by omega, hd]
        simp [hp]
      · rw [if_neg hp]
        refine .inl ⟨bad, rfl, ?_⟩
        rw [hd]
        simp [hp]
    · have : i = (l.length : Int) := by omega
      refine .inl ⟨fin, h2 i this, ?_⟩
      rw [List.drop_of_length_le (by omega)]
      simp) (s := 0) ⟨by omega, by omega⟩ (by omega)
  simpa using this

/-! ### numbers -/
def isDig (c : UInt8) : Bool := decide (48 ≤ c) && decide (c ≤ 57)
def validB (s : List UInt8) : Bool := s.all isDig && decide (1 ≤ s.length) && decide (s.length ≤ 15)
theorem p_Valid (s : List UInt8) (hl : s.length < 1000000000) : f_digits_Valid s = some (validB s) := by
  unfold f_digits_Valid
  rw [loop_all s isDig (decide ((s.length : Int) ≥ 1) && decide ((s.length : Int) ≤ 15)) false (by omega) (fun i h0 h1 => ?_) (fun i hi => ?_)]
  · unfold validB
    cases s.all isDig <;> simp
    rw [Bool.eq_iff_iff]; simp; omega
  · unfold f_digits_Valid_l1 f_digits_digit
    rw [if_pos (by simpa using h1), ck_pos (by omega)]
    simp only [Option.bind_some]
    rw [ck_pos (by omega)]
    unfold isDig
    simp only [ge_iff_le]
    cases decide (48 ≤ nth s i.toNat) <;> cases decide (nth s i.toNat ≤ 57) <;> rfl
  · unfold f_digits_Valid_l1 f_digits_Valid_j1
    rw [if_neg (by simp; omega)]
    rfl
theorem p_rValid (s : List UInt8) (hl : s.length < 1000000000) : f_billingref02_Valid s = some (validB s) := by
  unfold f_billingref02_Valid
  rw [loop_all s isDig (decide ((s.length : Int) ≥ 1) && decide ((s.length : Int) ≤ 15)) false (by omega) (fun i h0 h1 => ?_) (fun i hi => ?_)]
  · unfold validB
    cases s.all isDig <;> simp
    rw [Bool.eq_iff_iff]; simp; omega
  · unfold f_billingref02_Valid_l1
    rw [if_pos (by simpa using h1), ck_pos (by omega), ck_pos (by omega), ck_pos (by omega)]
    unfold isDig
    have e1 : decide (nth s i.toNat < 48) = !decide (48 ≤ nth s i.toNat) := by rw [← decide_not]; simp
    have e2 : decide (nth s i.toNat > 57) = !decide (nth s i.toNat ≤ 57) := by rw [← decide_not]; simp
    rw [e1, e2]
    cases decide (48 ≤ nth s i.toNat) <;> cases decide (nth s i.toNat ≤ 57) <;> rfl
  · unfold f_billingref02_Valid_l1 f_billingref02_Valid_j1
    rw [if_neg (by simp; omega)]
    rfl

/-! ### the error of a record -/
def errF (r : Record) : Int :=
  if ¬(1 ≤ r.source ∧ r.source ≤ 99 ∧ 1 ≤ r.serial ∧ r.serial ≤ 999999999) then 6
  else if ¬(1 ≤ r.kind ∧ r.kind ≤ 4) then 7
  else if validB r.a = false ∨ (validB r.b = false ∧ ¬((r.kind = 3 ∨ r.kind = 4) ∧ r.b = [])) then 12
  else if ¬(0 ≤ r.start ∧ r.start ≤ 12622780799) then 15
  else if ¬(0 ≤ r.units ∧ r.units ≤ 1099511627776) ∨ (r.kind = 1 ∧ r.units > 604800) then 6
  else if r.kind = 1 ∧ r.start + r.units > 12622780800 then 15
  else if ¬(0 ≤ r.call ∧ r.call ≤ 999999999 ∧ 0 ≤ r.part ∧ r.part ≤ 99) then 6
  else if ¬(r.part = 0 ↔ r.call = 0) ∨ (r.last = true ∧ r.part = 0) then 8
  else if ¬(0 ≤ r.trunk ∧ r.trunk ≤ 999) then 6
  else if r.inbound = true ∧ r.trunk = 0 then 8
  else 0
theorem ite_same {α : Type} {b : Bool} {p : Prop} [Decidable p] {x y x' y' : α} (h : b = true ↔ p) (hx : p → x = x') (hy : ¬p → y = y') : (if b = true then x else y) = if p then x' else y' := by
  by_cases hp : p
  · rw [if_pos hp, if_pos (h.2 hp), hx hp]
  · rw [if_neg hp, if_neg (fun hb => hp (h.1 hb)), hy hp]
theorem ite_some {α : Type} {p : Prop} [Decidable p] {x y : α} : (if p then some x else some y) = some (if p then x else y) := by split <;> rfl
theorem p_check (r : Record) (ha : r.a.length < 1000000000) (hb : r.b.length < 1000000000) : f_textual_check r = some (errF r) := by
  have key : ∀ m, (m = 1099511627776 ∧ r.kind ≠ 1) ∨ (m = 604800 ∧ r.kind = 1) → f_textual_check_j1 r m = some (errF r) := by
    intro m hm
    unfold f_textual_check_j1 errF
    simp only [f_textual_within, p_Valid _ ha, p_Valid _ hb, Option.bind_some, gcall_mk]
    simp only [← ite_some]
    refine ite_same (by simp; grind) (fun _ => rfl) (fun h1 => ?_)
    refine ite_same (by simp; grind) (fun _ => rfl) (fun h2 => ?_)
    refine ite_same (by simp; grind) (fun _ => rfl) (fun h3 => ?_)
    refine ite_same (by simp; grind) (fun _ => rfl) (fun h4 => ?_)
    refine ite_same (by simp; grind) (fun _ => rfl) (fun h5 => ?_)
    rw [ck_pos (by omega)]
    refine ite_same (by simp) (fun _ => rfl) (fun h6 => ?_)
    refine ite_same (by simp; grind) (fun _ => rfl) (fun h7 => ?_)
    refine ite_same (by simp; grind) (fun _ => rfl) (fun h8 => ?_)
    refine ite_same (by simp; grind) (fun _ => rfl) (fun h9 => ?_)
    refine ite_same (by simp) (fun _ => rfl) (fun h10 => rfl)
  unfold f_textual_check
  split
  · rename_i h
    exact key _ (.inr ⟨rfl, by simpa using h⟩)
  · rename_i h
    exact key _ (.inl ⟨rfl, by simpa using h⟩)
theorem p_rError (r : Record) (ha : r.a.length < 1000000000) (hb : r.b.length < 1000000000) : f_billingref09_Error r = some (errF r) := by
  unfold f_billingref09_Error errF
  simp only [f_billingref09_in, p_rValid _ ha, p_rValid _ hb, Option.bind_some, gcall_mk]
  simp only [← ite_some]
  refine ite_same (by simp; grind) (fun _ => rfl) (fun h1 => ?_)
  refine ite_same (by simp; grind) (fun _ => rfl) (fun h2 => ?_)
  by_cases hva : validB r.a = true
  · rw [if_neg (by simp [hva])]
    refine ite_same (by simp [hva]; grind) (fun _ => rfl) (fun h3 => ?_)
    refine ite_same (by simp; grind) (fun _ => rfl) (fun h4 => ?_)
    refine ite_same (by simp; grind) (fun _ => rfl) (fun h5 => ?_)
    rw [ck_pos (by omega)]
    refine ite_same (by simp) (fun _ => rfl) (fun h6 => ?_)
    refine ite_same (by simp; grind) (fun _ => rfl) (fun h7 => ?_)
    refine ite_same (by simp; grind) (fun _ => rfl) (fun h8 => ?_)
    refine ite_same (by simp; grind) (fun _ => rfl) (fun h9 => ?_)
    refine ite_same (by simp) (fun _ => rfl) (fun h10 => rfl)
  · rw [if_pos (by simp [hva]), if_pos (by simp [hva])]
structure Good (r : Record) : Prop where
  source : 1 ≤ r.source ∧ r.source ≤ 99
  serial : 1 ≤ r.serial ∧ r.serial ≤ 999999999
  kind : 1 ≤ r.kind ∧ r.kind ≤ 4
  a : validB r.a = true
  b : validB r.b = true ∨ (r.kind = 3 ∨ r.kind = 4) ∧ r.b = []
  start : 0 ≤ r.start ∧ r.start ≤ 12622780799
  units : 0 ≤ r.units ∧ r.units ≤ 1099511627776
  call : 0 ≤ r.call ∧ r.call ≤ 999999999
  part : 0 ≤ r.part ∧ r.part ≤ 99
  trunk : 0 ≤ r.trunk ∧ r.trunk ≤ 999
theorem errF_good {r : Record} (h : errF r = 0) : Good r := by
  unfold errF at h
  split at h; · cases h
  split at h; · cases h
  split at h; · cases h
  split at h; · cases h
  split at h; · cases h
  split at h; · cases h
  split at h; · cases h
  split at h; · cases h
  split at h; · cases h
  split at h; · cases h
  rename_i h1 h2 h3 h4 h5 h6 h7 h8 h9 h10
  refine ⟨by omega, by omega, by omega, ?_, ?_, by omega, by omega, by omega, by omega, by omega⟩
  · cases hv : validB r.a with
    | true => rfl
    | false => exact absurd (.inl hv) h3
  · cases hv : validB r.b with
    | true => exact .inl rfl
    | false =>
      right
      by_cases hh : (r.kind = 3 ∨ r.kind = 4) ∧ r.b = []
      · exact hh
      · exact absurd (.inr ⟨hv, hh⟩) h3
theorem validB_len {s : List UInt8} (h : validB s = true) : s.length ≤ 15 := by
  unfold validB at h
  simp at h
  exact h.2
/-- The words of a line. -/
def headF (r : Record) : List (List UInt8) := [(([118, 116, 100, 99] : List UInt8).take r.kind.toNat).drop (r.kind - 1).toNat, Go.Lib.itoa r.source, Go.Lib.itoa r.serial, r.a, if r.b = [] then [45] else r.b, Go.Lib.itoa r.start, Go.Lib.itoa r.units]
def partF (r : Record) : List (List UInt8) := if r.part = 0 then [] else [[112, 97, 114, 116], Go.Lib.itoa r.call, Go.Lib.itoa r.part] ++ if r.last = true then [[108, 97, 115, 116]] else []
def trunkF (r : Record) : List (List UInt8) := if r.trunk = 0 then [] else [if r.inbound = true then [105, 110] else [111, 117, 116], Go.Lib.itoa r.trunk]
def wordsF (r : Record) : List (List UInt8) := headF r ++ partF r ++ trunkF r
def lineF (r : Record) : List UInt8 := Go.Lib.join (wordsF r) [32]
theorem join_len (sep : List UInt8) (xs : List (List UInt8)) (m : Nat) (h : ∀ x, x ∈ xs → x.length ≤ m) : (Go.Lib.join xs sep).length ≤ xs.length * (m + sep.length) := by
  cases xs with
  | nil => simp [Go.Lib.join]
  | cons x r =>
    rw [Go.Lib.join_cons]
    have h1 : ∀ (r : List (List UInt8)), (∀ x, x ∈ r → x.length ≤ m) → (Go.Lib.joinTail sep r).length ≤ r.length * (m + sep.length) := by
      intro r
      induction r with
      | nil => simp [Go.Lib.joinTail]
      | cons y r ih =>
        intro hr
        have := ih fun z hz => hr z (List.mem_cons_of_mem _ hz)
        have h2 := hr y List.mem_cons_self
        simp only [Go.Lib.joinTail, List.map_cons, List.flatten_cons, List.length_append, List.length_cons, Nat.add_mul] at *
        omega
    have h3 := h1 r fun z hz => h z (List.mem_cons_of_mem _ hz)
    have h4 := h x List.mem_cons_self
    simp only [List.length_append, List.length_cons, Nat.add_mul] at *
    omega
theorem itoa_le {n : Int} (h0 : 0 ≤ n) (h1 : n ≤ 9223372036854775807) : (Go.Lib.itoa n).length ≤ 21 := Go.Lib.itoa_length_le n (by omega) h1
theorem words_le {r : Record} (g : Good r) : (wordsF r).length ≤ 13 ∧ ∀ x, x ∈ wordsF r → x.length ≤ 21 := by
  have ha := validB_len g.a
  have hb : r.b.length ≤ 15 := by
    rcases g.b with h | h
    · exact validB_len h
    · rw [h.2]; simp
  obtain ⟨gs, ge, gk, _, _, gst, gu, gc, gp, gt⟩ := g
  refine ⟨?_, fun x hx => ?_⟩
  · have h1 : (partF r).length ≤ 4 := by unfold partF; split; simp; split <;> simp
    have h2 : (trunkF r).length ≤ 2 := by unfold trunkF; split <;> simp
    have h3 : (headF r).length = 7 := rfl
    simp only [wordsF, List.length_append]; omega
  · unfold wordsF at hx
    rcases List.mem_append.1 hx with hx | hx
    · rcases List.mem_append.1 hx with hx | hx
      · unfold headF at hx
        simp only [List.mem_cons, List.not_mem_nil, or_false] at hx
        rcases hx with rfl | rfl | rfl | rfl | rfl | rfl | rfl
        · simp; omega
        · exact itoa_le (by omega) (by omega)
        · exact itoa_le (by omega) (by omega)
        · omega
        · split
          · simp
          · omega
        · exact itoa_le (by omega) (by omega)
        · exact itoa_le (by omega) (by omega)
      · unfold partF at hx
        split at hx
        · cases hx
        · rcases List.mem_append.1 hx with hx | hx
          · simp only [List.mem_cons, List.not_mem_nil, or_false] at hx
            rcases hx with rfl | rfl | rfl
            · simp
            · exact itoa_le (by omega) (by omega)
            · exact itoa_le (by omega) (by omega)
          · split at hx
            · simp only [List.mem_cons, List.not_mem_nil, or_false] at hx
              subst hx; simp
            · cases hx
    · unfold trunkF at hx
      split at hx
      · cases hx
      · simp only [List.mem_cons, List.not_mem_nil, or_false] at hx
        rcases hx with rfl | rfl
        · split <;> simp
        · exact itoa_le (by omega) (by omega)
theorem p_Itoa {n : Int} (h0 : 0 ≤ n) (h1 : n ≤ 9223372036854775807) : x_Itoa n = some (Go.Lib.itoa n) := by
  unfold x_Itoa; rw [ck_pos (by omega)]
theorem p_Encode_ok (r : Record) (h : errF r = 0) : f_textual_Encode r = some (lineF r, 0) := by
  have g := errF_good h
  have ha := validB_len g.a
  have hb : r.b.length ≤ 15 := by
    rcases g.b with h | h
    · exact validB_len h
    · rw [h.2]; simp
  have hj3 : ∀ ws, ws = wordsF r → f_textual_Encode_j3 ws = some (lineF r, 0) := by
    rintro ws rfl
    unfold f_textual_Encode_j3 x_Join
    obtain ⟨w1, w2⟩ := words_le g
    have := join_len [32] (wordsF r) 21 w2
    simp only [List.length_cons, List.length_nil] at this
    have h3 : (wordsF r).length * 22 ≤ 13 * 22 := Nat.mul_le_mul_right _ w1
    rw [ck_pos ⟨by omega, by omega⟩]
    rfl
  have hj2 : ∀ ws, ws = headF r ++ partF r → ws.length ≤ 11 → f_textual_Encode_j2 r ws = some (lineF r, 0) := by
    intro ws hw hl
    unfold f_textual_Encode_j2
    by_cases ht : r.trunk = 0
    · rw [if_neg (by simp [ht])]
      exact hj3 _ (by rw [hw, wordsF, trunkF, if_pos ht]; simp)
    · rw [if_pos (by simp [ht])]
      unfold f_textual_Encode_j4
      rw [p_Itoa g.trunk.1 (by have := g.trunk.2; omega)]
      simp only [Option.bind_some]
      split
      · rename_i hi
        rw [ck_pos (by simp; omega)]
        exact hj3 _ (by rw [hw, wordsF, trunkF, if_neg ht, if_pos hi])
      · rename_i hi
        rw [ck_pos (by simp; omega)]
        exact hj3 _ (by rw [hw, wordsF, trunkF, if_neg ht, if_neg hi])
  have hj1 : ∀ b, b = (if r.b = [] then [45] else r.b) → f_textual_Encode_j1 r b = some (lineF r, 0) := by
    rintro b rfl
    unfold f_textual_Encode_j1
    have gk := g.kind
    rw [ck_pos (by omega), ck_pos (by simp; omega), p_Itoa (by have := g.source; omega) (by have := g.source; omega), p_Itoa (by have := g.serial; omega) (by have := g.serial; omega), p_Itoa g.start.1 (by have := g.start; omega), p_Itoa g.units.1 (by have := g.units; omega)]
    simp only [Option.bind_some]
    by_cases hp : r.part = 0
    · rw [if_neg (by simp [hp])]
      exact hj2 _ (by rw [partF, if_pos hp]; simp [headF]) (by simp)
    · rw [if_pos (by simp [hp]), p_Itoa g.call.1 (by have := g.call; omega), p_Itoa g.part.1 (by have := g.part; omega)]
      simp only [Option.bind_some]
      rw [ck_pos (by simp)]
      split
      · rename_i hl
        rw [ck_pos (by simp)]
        exact hj2 _ (by rw [partF, if_neg hp, if_pos hl]; simp [headF]) (by simp)
      · rename_i hl
        exact hj2 _ (by rw [partF, if_neg hp, if_neg hl]; simp [headF]) (by simp)
  unfold f_textual_Encode
  rw [p_check r (by omega) (by omega), h]
  simp only [Option.bind_some]
  rw [if_neg (by simp)]
  split
  · rename_i hb0
    exact hj1 _ (by rw [if_pos (by simpa using hb0)])
  · rename_i hb0
    exact hj1 _ (by rw [if_neg (by simpa using hb0)])
theorem p_Encode (r : Record) (ha : r.a.length < 1000000000) (hb : r.b.length < 1000000000) : f_textual_Encode r = some (if errF r = 0 then lineF r else [], errF r) := by
  by_cases h : errF r = 0
  · rw [p_Encode_ok r h, if_pos h, h]
  · unfold f_textual_Encode
    rw [p_check r ha hb, if_neg h]
    simp only [Option.bind_some]
    rw [if_pos (by simpa using h)]
end Go.Proofs.YtmdpmallgcekgaaDoor
