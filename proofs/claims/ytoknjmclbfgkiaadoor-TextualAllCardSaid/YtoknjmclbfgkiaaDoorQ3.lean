import Derived.Test.YtoknjmclbfgkiaaDoorQ2
set_option linter.unusedSimpArgs false
set_option linter.unusedVariables false
namespace Go.Proofs.YtoknjmclbfgkiaaDoor
open Go.RowKit Go.Abs
/-! ### what a line says -/
abbrev PART : List UInt8 := [112, 97, 114, 116]
abbrev LAST : List UInt8 := [108, 97, 115, 116]
abbrev INW : List UInt8 := [105, 110]
abbrev OUTW : List UInt8 := [111, 117, 116]
def kindL (s : List UInt8) : Int := if s = [118] then 1 else if s = [116] then 2 else if s = [100] then 3 else if s = [99] then 4 else 0
def trunkP : List (List UInt8) → Option (Int × Bool)
  | [] => some (0, false)
  | [d, t] => if (d = INW ∨ d = OUTW) ∧ vOK t = true then some (numF 0 t, decide (d = INW)) else none
  | _ => none
def lastP : List (List UInt8) → Option (Bool × Int × Bool)
  | [] => (trunkP []).map fun t => (false, t.1, t.2)
  | l :: r => if l = LAST then (trunkP r).map fun t => (true, t.1, t.2) else (trunkP (l :: r)).map fun t => (false, t.1, t.2)
def tailP : List (List UInt8) → Option (Int × Int × Bool × Int × Bool)
  | p :: c :: q :: r => if p = PART then (if vOK c = true ∧ vOK q = true then (lastP r).map fun t => (numF 0 c, numF 0 q, t.1, t.2.1, t.2.2) else none) else (trunkP (p :: c :: q :: r)).map fun t => (0, 0, false, t.1, t.2)
  | w => (trunkP w).map fun t => (0, 0, false, t.1, t.2)
def bF (b : List UInt8) : List UInt8 := if b = [45] then [] else b
def parseF : List (List UInt8) → Option Record
  | k :: s1 :: s2 :: a :: b :: t :: u :: rest =>
    if 0 < kindL k ∧ vOK s1 = true ∧ vOK s2 = true ∧ a ≠ [] ∧ b ≠ [] ∧ vOK t = true ∧ vOK u = true then
      (tailP rest).map fun x => ⟨numF 0 s1, numF 0 s2, kindL k, a, bF b, numF 0 t, numF 0 u, x.1, x.2.1, x.2.2.1, x.2.2.2.1, x.2.2.2.2⟩
    else none
  | _ => none
def Z : Record := ⟨0, 0, 0, [], [], 0, 0, 0, 0, false, 0, false⟩
def fin (line : List UInt8) (x : Record) : Record × Int := if errF x ≠ 0 then (Z, errF x) else if lineF x ≠ line then (Z, 1) else (x, 0)
def decF (line : List UInt8) : Record × Int := match parseF (cutL 32 line) with
  | none => (Z, 1)
  | some x => fin line x
/-! ### the reader -/
def wordF (r : TextualReader) : List UInt8 × TextualReader := match r.words with
  | [] => ([], ⟨[], true⟩)
  | x :: t => if x = [] then ([], ⟨x :: t, true⟩) else (x, ⟨t, r.bad⟩)
def numberR (r : TextualReader) : Int × TextualReader := ((numeralF (wordF r).1).1, ⟨(wordF r).2.words, (wordF r).2.bad || !(numeralF (wordF r).1).2⟩)
def nextR (s : List UInt8) (r : TextualReader) : Bool × TextualReader := match r.words with
  | [] => (false, r)
  | x :: t => if x = s then (true, ⟨t, r.bad⟩) else (false, r)
theorem p_word (r : TextualReader) : f_textual_reader_word r = some (wordF r) := by
  obtain ⟨ws, b⟩ := r
  unfold f_textual_reader_word wordF
  cases ws with
  | nil => rfl
  | cons x t =>
    simp only [show Int.toNat 0 = 0 from rfl, show Int.toNat 1 = 1 from rfl]
    rw [ck_pos (fun _ => by simp <;> omega)]
    have e : nth (x :: t) 0 = x := rfl
    rw [e]
    by_cases hx : x = []
    · rw [if_pos (by simp [hx]), if_pos hx]
    · rw [if_neg (by simp [hx] <;> omega), if_neg hx, ck_pos (by simp <;> omega), ck_pos (by simp <;> omega)]
      rfl
theorem p_number (r : TextualReader) : f_textual_reader_number r = some (numberR r) := by
  unfold f_textual_reader_number
  rw [p_word, Option.bind_some, p_numeral, Option.bind_some]
  rfl
theorem p_next (s : List UInt8) (r : TextualReader) : f_textual_reader_next s r = some (nextR s r) := by
  obtain ⟨ws, b⟩ := r
  unfold f_textual_reader_next nextR
  cases ws with
  | nil => rfl
  | cons x t =>
    simp only [show Int.toNat 0 = 0 from rfl, show Int.toNat 1 = 1 from rfl]
    rw [ck_pos (fun _ => by simp <;> omega)]
    have e : nth (x :: t) 0 = x := rfl
    rw [e]
    by_cases hx : x = s
    · rw [if_neg (by simp [hx] <;> omega), if_pos hx, ck_pos (by simp <;> omega)]
      rfl
    · rw [if_pos (by simp [hx]), if_neg hx]
theorem wordF_bad {r : TextualReader} (h : r.bad = true) : (wordF r).2.bad = true := by
  unfold wordF
  split
  · rfl
  · split
    · rfl
    · exact h
theorem numberR_bad {r : TextualReader} (h : r.bad = true) : (numberR r).2.bad = true := by
  unfold numberR
  simp [wordF_bad h]
theorem vOK_nil : vOK [] = false := rfl
theorem numeralF_nil : numeralF [] = (0, false) := rfl
theorem wordF_cons {x : List UInt8} {t : List (List UInt8)} {b : Bool} (hx : x ≠ []) : wordF ⟨x :: t, b⟩ = (x, ⟨t, b⟩) := by unfold wordF; simp [hx]
theorem numberR_cons {x : List UInt8} {t : List (List UInt8)} {b : Bool} (hx : x ≠ []) : numberR ⟨x :: t, b⟩ = ((numeralF x).1, ⟨t, b || !vOK x⟩) := by
  unfold numberR
  rw [wordF_cons hx]
  unfold numeralF
  cases vOK x <;> rfl
theorem wordF_none {b : Bool} : (wordF ⟨[], b⟩).2.bad = true := rfl
theorem wordF_empty {t : List (List UInt8)} {b : Bool} : (wordF ⟨[] :: t, b⟩).2.bad = true := rfl
theorem numberR_none {b : Bool} : (numberR ⟨[], b⟩).2.bad = true := rfl
theorem numberR_empty {t : List (List UInt8)} {b : Bool} : (numberR ⟨[] :: t, b⟩).2.bad = true := rfl
theorem vOK_ne {x : List UInt8} (h : vOK x = true) : x ≠ [] := by rintro rfl; cases h
theorem numeralF_ok {x : List UInt8} (h : vOK x = true) : (numeralF x).1 = numF 0 x := by unfold numeralF; rw [if_pos h]
section decode
variable {v0 : List UInt8} {y2 : List UInt8 × TextualReader} {y3 : Int} {y4 y5 : Int × TextualReader} {y6 : List UInt8 × TextualReader} {y8 y9 : Int × TextualReader} {b : List UInt8}
def KB (y2 : List UInt8 × TextualReader) (y3 : Int) : Bool := ((y2.1.length : Int) != 1) || ((1 + y3) == 0)
theorem p_j3 (ha : y6.1.length < 1000000000) (hb : b.length < 1000000000) {c p : Int} {l : Bool} {ws : List (List UInt8)} {bad : Bool} {tr : Int} {inb : Bool} :
    f_textual_Decode_j3 v0 y2 y3 y4 y5 y6 y8 y9 b c p l ws bad tr inb = some (if bad = true ∨ KB y2 y3 = true ∨ ws ≠ [] then (Z, 1) else fin v0 ⟨y4.1, y5.1, 1 + y3, y6.1, b, y8.1, y9.1, c, p, l, tr, inb⟩) := by
  unfold f_textual_Decode_j3
  have hw : (decide ((ws.length : Int) > 0)) = true ↔ ws ≠ [] := by
    cases ws with
    | nil => simp
    | cons a t => simp <;> omega
  by_cases h : bad = true ∨ KB y2 y3 = true ∨ ws ≠ []
  · rw [if_pos h, if_pos]
    · rfl
    · simp only [KB, Bool.or_eq_true] at h ⊢
      rw [hw]
      rcases h with h | (h | h) | h <;> simp [h]
  · rw [if_neg h, if_neg]
    · rw [p_Encode _ ha hb]
      simp only [Option.bind_some]
      generalize hx : (⟨y4.1, y5.1, 1 + y3, y6.1, b, y8.1, y9.1, c, p, l, tr, inb⟩ : Record) = x
      unfold f_textual_Decode_j4 fin
      by_cases he : errF x = 0
      · rw [if_pos he, he]
        by_cases hl : lineF x = v0
        · rw [if_neg (by simp [hl]), if_neg (by simp), if_neg (by simp), if_neg (by simp [hl])]
          subst hx
          rfl
        · rw [if_pos (by simp [hl]), if_pos (by simp), if_neg (by simp), if_pos hl]
          rfl
      · rw [if_neg he, if_neg (by simp [he]), if_pos (by simpa using he), if_pos he]
        rfl
    · simp only [not_or] at h
      obtain ⟨h1, h2, h3⟩ := h
      simp only [KB, Bool.or_eq_true, not_or] at h2 ⊢
      rw [hw]
      exact ⟨⟨⟨h1, h2.1⟩, h2.2⟩, h3⟩
def outT (bad : Bool) (k : Bool) (o : Option (Record)) (line : List UInt8) : Record × Int := if bad = true ∨ k = true then (Z, 1) else match o with
  | none => (Z, 1)
  | some x => fin line x
theorem p_j2 (ha : y6.1.length < 1000000000) (hb : b.length < 1000000000) {c p : Int} {l : Bool} {ws : List (List UInt8)} {bad : Bool} :
    f_textual_Decode_j2 v0 y2 y3 y4 y5 y6 y8 y9 b ws bad c p l = some (outT bad (KB y2 y3) ((trunkP ws).map fun t => ⟨y4.1, y5.1, 1 + y3, y6.1, b, y8.1, y9.1, c, p, l, t.1, t.2⟩) v0) := by
  unfold f_textual_Decode_j2
  simp only [p_next, p_number, Option.bind_some]
  have key : ∀ (d : List UInt8) (t : List (List UInt8)) (inb : Bool), (d = INW ∨ d = OUTW) → inb = decide (d = INW) →
      f_textual_Decode_j3 v0 y2 y3 y4 y5 y6 y8 y9 b c p l (numberR ⟨t, bad⟩).2.words (numberR ⟨t, bad⟩).2.bad (numberR ⟨t, bad⟩).1 inb = some (outT bad (KB y2 y3) ((trunkP (d :: t)).map fun t => ⟨y4.1, y5.1, 1 + y3, y6.1, b, y8.1, y9.1, c, p, l, t.1, t.2⟩) v0) := by
    intro d t inb hd hinb
    rw [p_j3 ha hb]
    unfold outT
    cases t with
    | nil =>
      rw [if_pos (.inl numberR_none)]
      simp [trunkP]
    | cons n t2 =>
      by_cases hn : n = []
      · subst hn
        rw [if_pos (.inl numberR_empty)]
        cases t2 with
        | nil => simp [trunkP, vOK_nil]
        | cons e t3 => simp [trunkP]
      · rw [numberR_cons hn]
        simp only
        cases t2 with
        | cons e t3 =>
          rw [if_pos (.inr (.inr (by simp)))]
          simp [trunkP]
        | nil =>
          cases hv : vOK n with
          | false =>
            rw [if_pos (.inl (by simp))]
            simp [trunkP, hv]
          | true =>
            simp only [Bool.not_true, Bool.or_false, ne_eq, not_true_eq_false, or_false, trunkP, hd, hv, and_self, if_true, Option.map_some, numeralF_ok hv, hinb]
  cases ws with
  | nil =>
    simp only [nextR]
    simp only [Bool.false_eq_true, if_false]
    rw [p_j3 ha hb]
    simp [outT, trunkP]
  | cons x t =>
    by_cases h1 : x = INW
    · have e : nextR INW ⟨x :: t, bad⟩ = (true, ⟨t, bad⟩) := by simp [nextR, h1]
      rw [e]
      simp only [if_true]
      exact key x t true (.inl h1) (by simp [h1])
    · have e : nextR INW ⟨x :: t, bad⟩ = (false, ⟨x :: t, bad⟩) := by simp [nextR, h1]
      rw [e]
      simp only [Bool.false_eq_true, if_false]
      by_cases h2 : x = OUTW
      · have e : nextR OUTW ⟨x :: t, bad⟩ = (true, ⟨t, bad⟩) := by simp [nextR, h2]
        rw [e]
        simp only [if_true]
        exact key x t false (.inr h2) (by simp [h1])
      · have e : nextR OUTW ⟨x :: t, bad⟩ = (false, ⟨x :: t, bad⟩) := by simp [nextR, h2]
        rw [e]
        simp only [Bool.false_eq_true, if_false]
        rw [p_j3 ha hb, if_pos (.inr (.inr (by simp)))]
        have : trunkP (x :: t) = none := by
          unfold trunkP
          split
          · cases ‹_ = ([] : List (List UInt8))›
          · rename_i heq
            cases heq
            simp [h1, h2]
          · rfl
        rw [this]
        simp [outT]
end decode
end Go.Proofs.YtoknjmclbfgkiaaDoor
