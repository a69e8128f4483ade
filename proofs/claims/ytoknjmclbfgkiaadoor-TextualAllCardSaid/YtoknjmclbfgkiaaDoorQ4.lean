import Derived.Test.YtoknjmclbfgkiaaDoorQ3
set_option linter.unusedSimpArgs false
set_option linter.unusedVariables false
namespace Go.Proofs.YtoknjmclbfgkiaaDoor
open Go.RowKit Go.Abs
theorem trunkP_head {d : List UInt8} {t : List (List UInt8)} (h1 : d ≠ INW) (h2 : d ≠ OUTW) : trunkP (d :: t) = none := by
  cases t with
  | nil => rfl
  | cons a r =>
    cases r with
    | nil => simp [trunkP, h1, h2]
    | cons b s => rfl
theorem outT_bad {k : Bool} {o : Option Record} {line : List UInt8} : outT true k o line = (Z, 1) := by unfold outT; rw [if_pos (.inl rfl)]
theorem outT_none {bad k : Bool} {line : List UInt8} : outT bad k none line = (Z, 1) := by unfold outT; split <;> rfl
section decode
variable {v0 : List UInt8} {y2 : List UInt8 × TextualReader} {y3 : Int} {y4 y5 : Int × TextualReader} {y6 : List UInt8 × TextualReader} {y8 y9 : Int × TextualReader} {b : List UInt8}
theorem p_j1 (ha : y6.1.length < 1000000000) (hb : b.length < 1000000000) :
    f_textual_Decode_j1 v0 y2 y3 y4 y5 y6 y8 y9 b = some (outT y9.2.bad (KB y2 y3) ((tailP y9.2.words).map fun t => ⟨y4.1, y5.1, 1 + y3, y6.1, b, y8.1, y9.1, t.1, t.2.1, t.2.2.1, t.2.2.2.1, t.2.2.2.2⟩) v0) := by
  unfold f_textual_Decode_j1
  simp only [p_next, p_number, Option.bind_some]
  obtain ⟨u, ⟨ws, bad⟩⟩ := y9
  simp only
  cases ws with
  | nil =>
    simp only [nextR, Bool.false_eq_true, if_false]
    rw [p_j2 ha hb]
    rfl
  | cons x t =>
    by_cases h1 : x = PART
    · have e : nextR PART ⟨x :: t, bad⟩ = (true, ⟨t, bad⟩) := by simp [nextR, h1]
      rw [e]
      simp only [if_true]
      rw [p_j2 ha hb]
      have hbadN : ∀ (r : TextualReader), r.bad = true → (nextR LAST r).2.bad = true := by
        rintro ⟨w, bb⟩ hr
        cases w with
        | nil => exact hr
        | cons a w => by_cases hh : a = LAST <;> simpa [nextR, hh] using hr
      cases t with
      | nil =>
        rw [hbadN _ (numberR_bad numberR_none), outT_bad]
        rw [show tailP [x] = none from by rw [h1]; rfl, Option.map_none, outT_none]
      | cons c t2 =>
        cases t2 with
        | nil =>
          have : (numberR (numberR ⟨[c], bad⟩).2).2.bad = true := by
            by_cases hc : c = []
            · subst hc; exact numberR_bad numberR_empty
            · rw [numberR_cons hc]; exact numberR_none
          rw [hbadN _ this, outT_bad]
          rw [show tailP [x, c] = none from by rw [h1]; simp [tailP, trunkP], Option.map_none, outT_none]
        | cons q r =>
          have ht : tailP (x :: c :: q :: r) = if vOK c = true ∧ vOK q = true then (lastP r).map fun t => (numF 0 c, numF 0 q, t.1, t.2.1, t.2.2) else none := by rw [tailP, if_pos h1]
          rw [ht]
          by_cases hc : c = []
          · subst hc
            rw [hbadN _ (numberR_bad numberR_empty), outT_bad, if_neg (by simp [vOK_nil]), Option.map_none, outT_none]
          · rw [numberR_cons hc]
            by_cases hq : q = []
            · subst hq
              rw [hbadN _ numberR_empty, outT_bad, if_neg (by simp [vOK_nil]), Option.map_none, outT_none]
            · simp only
              rw [numberR_cons hq]
              simp only
              by_cases hv : vOK c = true ∧ vOK q = true
              · rw [if_pos hv, numeralF_ok hv.1, numeralF_ok hv.2]
                simp only [hv.1, hv.2, Bool.not_true, Bool.or_false]
                cases r with
                | nil =>
                  simp only [nextR, lastP]
                  cases trunkP [] <;> rfl
                | cons l r2 =>
                  by_cases hl : l = LAST
                  · simp only [nextR, lastP, hl, if_true]
                    cases trunkP r2 <;> rfl
                  · simp only [nextR, lastP, hl, if_false]
                    cases trunkP (l :: r2) <;> rfl
              · rw [if_neg hv, hbadN _ (by
                  simp only
                  cases h3 : vOK c with
                  | false => simp
                  | true =>
                    cases h4 : vOK q with
                    | false => simp
                    | true => exact absurd ⟨h3, h4⟩ hv), outT_bad, Option.map_none, outT_none]
    · have e : nextR PART ⟨x :: t, bad⟩ = (false, ⟨x :: t, bad⟩) := by simp [nextR, h1]
      rw [e]
      simp only [Bool.false_eq_true, if_false]
      rw [p_j2 ha hb]
      have ht : tailP (x :: t) = (trunkP (x :: t)).map fun t => (0, 0, false, t.1, t.2) := by
        cases t with
        | nil => rfl
        | cons c t2 =>
          cases t2 with
          | nil => rfl
          | cons q r => rw [tailP, if_neg h1]
      rw [ht, Option.map_map]
      rfl
end decode
theorem index_letter (c : UInt8) : 1 + Go.Lib.index [118, 116, 100, 99] [c] = kindL [c] := by
  unfold kindL
  by_cases h1 : c = 118
  · subst h1; rfl
  · by_cases h2 : c = 116
    · subst h2; rfl
    · by_cases h3 : c = 100
      · subst h3; rfl
      · by_cases h4 : c = 99
        · subst h4; rfl
        · have e1 : ((c == 118) = false) := by simpa using h1
          have e2 : ((c == 116) = false) := by simpa using h2
          have e3 : ((c == 100) = false) := by simpa using h3
          have e4 : ((c == 99) = false) := by simpa using h4
          simp [Go.Lib.index, List.isPrefixOf, e1, e2, e3, e4, h1, h2, h3, h4]
theorem kind_KB {k : List UInt8} {y : TextualReader} : KB (k, y) (Go.Lib.index [118, 116, 100, 99] k) = false ↔ 0 < kindL k := by
  unfold KB
  match k with
  | [] => simp [kindL]
  | [c] =>
    rw [index_letter]
    have : kindL [c] = 0 ∨ 0 < kindL [c] := by unfold kindL; split; simp; split; simp; split; simp; split <;> simp
    rcases this with h | h
    · simp [h]
    · have : (kindL [c] == 0) = false := by rw [beq_eq_false_iff_ne]; omega
      simp [this, h]
  | a :: b :: t =>
    simp [kindL]
    omega
theorem index_bd (k : List UInt8) : -1 ≤ Go.Lib.index [118, 116, 100, 99] k ∧ Go.Lib.index [118, 116, 100, 99] k ≤ 4 := by
  refine ⟨Go.Lib.index_ge _ _, ?_⟩
  rcases Go.Lib.index_spec [118, 116, 100, 99] k with ⟨h, _⟩ | ⟨i, h, h2, _⟩
  · omega
  · simp at h2; omega
theorem parse_bad {w : List (List UInt8)} {i : Nat} (hi : i < 7) (h : w[i]? = none ∨ w[i]? = some []) : parseF w = none := by
  unfold parseF
  split
  · rename_i k s1 s2 a b t u rest
    rw [if_neg]
    rintro ⟨c0, c1, c2, c3, c4, c5, c6⟩
    match i, hi with
    | 0, _ => simp at h; subst h; exact absurd c0 (by simp [kindL])
    | 1, _ => simp at h; exact vOK_ne c1 h
    | 2, _ => simp at h; exact vOK_ne c2 h
    | 3, _ => simp at h; exact c3 h
    | 4, _ => simp at h; exact c4 h
    | 5, _ => simp at h; exact vOK_ne c5 h
    | 6, _ => simp at h; exact vOK_ne c6 h
  · rfl
theorem p_Decode (line : List UInt8) (hl : line.length ≤ 100000) : f_textual_Decode line = some (decF line) := by
  unfold f_textual_Decode x_Split x_Index
  rw [ck_pos (by simp; omega), split_cut]
  simp only [Option.bind_some, p_word, p_number]
  rw [ck_pos (by simp)]
  simp only [Option.bind_some]
  have hbd := index_bd (wordF ⟨cutL 32 line, false⟩).1
  rw [ck_pos (by omega)]
  have hlen : ∀ w, w ∈ cutL 32 line → w.length < 1000000000 := fun w hw => by have := (cutL_mem 32 line w hw).2; omega
  unfold decF
  generalize cutL 32 line = ws at hlen hbd ⊢
  have hbad : ∀ (y2 : List UInt8 × TextualReader) (y3 : Int) (y4 y5 : Int × TextualReader) (y6 y7 : List UInt8 × TextualReader) (y8 y9 : Int × TextualReader), y6.1.length < 1000000000 → y7.1.length < 1000000000 →
      (if (y7.1 == ([45] : List UInt8)) = true then f_textual_Decode_j1 line y2 y3 y4 y5 y6 y8 y9 [] else f_textual_Decode_j1 line y2 y3 y4 y5 y6 y8 y9 y7.1) =
      some (outT y9.2.bad (KB y2 y3) ((tailP y9.2.words).map fun t => ⟨y4.1, y5.1, 1 + y3, y6.1, bF y7.1, y8.1, y9.1, t.1, t.2.1, t.2.2.1, t.2.2.2.1, t.2.2.2.2⟩) line) := by
    intro y2 y3 y4 y5 y6 y7 y8 y9 h6 h7
    unfold bF
    by_cases h : y7.1 = [45]
    · rw [if_pos (by simpa using h), if_pos h, p_j1 h6 (by simp)]
    · rw [if_neg (by simpa using h), if_neg h, p_j1 h6 h7]
  have hwl : ∀ r : TextualReader, (∀ w, w ∈ r.words → w.length < 1000000000) → (wordF r).1.length < 1000000000 ∧ ∀ w, w ∈ (wordF r).2.words → w.length < 1000000000 := by
    rintro ⟨w, bb⟩ hr
    unfold wordF
    cases w with
    | nil => exact ⟨by simp, hr⟩
    | cons x t =>
      simp only at hr ⊢
      split
      · exact ⟨by simp, hr⟩
      · exact ⟨hr x (by simp), fun w hw => hr w (by simp [hw])⟩
  have hnl : ∀ r : TextualReader, (∀ w, w ∈ r.words → w.length < 1000000000) → ∀ w, w ∈ (numberR r).2.words → w.length < 1000000000 := fun r hr => (hwl r hr).2
  have h2 := hwl ⟨ws, false⟩ hlen
  have h4 := hnl _ h2.2
  have h5 := hnl _ h4
  have h6 := hwl _ h5
  have h7 := hwl _ h6.2
  rw [hbad _ _ _ _ _ _ _ _ h6.1 h7.1]
  congr 1
  have bad1 : ∀ {r : TextualReader}, r.bad = true → outT (numberR (numberR (wordF (wordF r).2).2).2).2.bad = outT true := fun h => by rw [numberR_bad (numberR_bad (wordF_bad (wordF_bad h)))]
  have fail : ∀ (o : Option Record) (k : Bool) (w : List (List UInt8)) (i : Nat), i < 7 → (w[i]? = none ∨ w[i]? = some []) → outT true k o line = (match parseF w with | none => (Z, 1) | some x => fin line x) := by
    intro o k w i hi h
    rw [outT_bad, parse_bad hi h]
  cases ws with
  | nil => rfl
  | cons k w1 =>
  by_cases hk : k = []
  · subst hk
    rw [bad1 (numberR_bad (numberR_bad wordF_empty))]
    exact fail _ _ _ 0 (by omega) (.inr rfl)
  rw [wordF_cons hk]
  simp only
  cases w1 with
  | nil =>
    rw [bad1 (numberR_bad numberR_none)]
    exact fail _ _ [k] 1 (by omega) (.inl rfl)
  | cons s1 w2 =>
  by_cases hs1 : s1 = []
  · subst hs1
    rw [bad1 (numberR_bad numberR_empty)]
    exact fail _ _ _ 1 (by omega) (.inr rfl)
  rw [numberR_cons hs1]
  simp only
  cases w2 with
  | nil =>
    rw [bad1 numberR_none]
    exact fail _ _ [k, s1] 2 (by omega) (.inl rfl)
  | cons s2 w3 =>
  by_cases hs2 : s2 = []
  · subst hs2
    rw [bad1 numberR_empty]
    exact fail _ _ _ 2 (by omega) (.inr rfl)
  rw [numberR_cons hs2]
  simp only
  cases w3 with
  | nil =>
    rw [numberR_bad (numberR_bad (wordF_bad wordF_none))]
    exact fail _ _ [k, s1, s2] 3 (by omega) (.inl rfl)
  | cons a w4 =>
  by_cases ha : a = []
  · subst ha
    rw [numberR_bad (numberR_bad (wordF_bad wordF_empty))]
    exact fail _ _ _ 3 (by omega) (.inr rfl)
  rw [wordF_cons ha]
  simp only
  cases w4 with
  | nil =>
    rw [numberR_bad (numberR_bad wordF_none)]
    exact fail _ _ [k, s1, s2, a] 4 (by omega) (.inl rfl)
  | cons b w5 =>
  by_cases hb : b = []
  · subst hb
    rw [numberR_bad (numberR_bad wordF_empty)]
    exact fail _ _ _ 4 (by omega) (.inr rfl)
  rw [wordF_cons hb]
  simp only
  cases w5 with
  | nil =>
    rw [numberR_bad numberR_none]
    exact fail _ _ [k, s1, s2, a, b] 5 (by omega) (.inl rfl)
  | cons t w6 =>
  by_cases ht : t = []
  · subst ht
    rw [numberR_bad numberR_empty]
    exact fail _ _ _ 5 (by omega) (.inr rfl)
  rw [numberR_cons ht]
  simp only
  cases w6 with
  | nil =>
    rw [numberR_none]
    exact fail _ _ [k, s1, s2, a, b, t] 6 (by omega) (.inl rfl)
  | cons u rest =>
  by_cases hu : u = []
  · subst hu
    rw [numberR_empty]
    exact fail _ _ _ 6 (by omega) (.inr rfl)
  rw [numberR_cons hu]
  simp only
  unfold parseF
  simp only
  by_cases hc : 0 < kindL k ∧ vOK s1 = true ∧ vOK s2 = true ∧ a ≠ [] ∧ b ≠ [] ∧ vOK t = true ∧ vOK u = true
  · rw [if_pos hc]
    obtain ⟨c0, c1, c2, c3, c4, c5, c6⟩ := hc
    rw [kind_KB.2 c0, numeralF_ok c1, numeralF_ok c2, numeralF_ok c5, numeralF_ok c6]
    have hkk : 1 + Go.Lib.index [118, 116, 100, 99] k = kindL k := by
      match k with
      | [] => exact absurd rfl hk
      | [c] => exact index_letter c
      | x :: y :: z => exact absurd c0 (by simp [kindL])
    rw [hkk]
    simp only [c1, c2, c5, c6, Bool.not_true, Bool.or_false]
    unfold outT
    rw [if_neg (by simp)]
  · rw [if_neg hc]
    unfold outT
    rw [if_pos]
    by_cases c0 : 0 < kindL k
    · left
      cases c1 : vOK s1 with
      | false => simp
      | true =>
      cases c2 : vOK s2 with
      | false => simp
      | true =>
      cases c5 : vOK t with
      | false => simp
      | true =>
      cases c6 : vOK u with
      | false => simp
      | true => exact absurd ⟨c0, c1, c2, ha, hb, c5, c6⟩ hc
    · right
      cases hkb : KB (k, ⟨s1 :: s2 :: a :: b :: t :: u :: rest, false⟩) (Go.Lib.index [118, 116, 100, 99] k) with
      | true => rfl
      | false => exact absurd (kind_KB.1 hkb) c0
end Go.Proofs.YtoknjmclbfgkiaaDoor
