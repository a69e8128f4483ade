import Derived.Test.YtoknjmclbfgkiaaDoorQ6
set_option linter.unusedSimpArgs false
set_option linter.unusedVariables false
namespace Go.Proofs.YtoknjmclbfgkiaaDoor
open Go.RowKit Go.Abs
theorem trunk_parse {r : Record} (g : Good r) (hin : r.inbound = true → r.trunk ≠ 0) : trunkP (trunkF r) = some (r.trunk, r.inbound) := by
  unfold trunkF
  by_cases h : r.trunk = 0
  · rw [if_pos h]
    cases hi : r.inbound with
    | true => exact absurd h (hin hi)
    | false => simp [trunkP, h]
  · rw [if_neg h]
    have hv : vOK (Go.Lib.itoa r.trunk) = true := itoa_vOK g.trunk.1 (by have := g.trunk; omega)
    cases hi : r.inbound with
    | true => simp [trunkP, hv, itoa_val g.trunk.1]
    | false => simp [trunkP, hv, itoa_val g.trunk.1]
theorem trunkF_cases (r : Record) : trunkF r = [] ∨ ∃ d t, trunkF r = [d, t] ∧ d ≠ PART ∧ d ≠ LAST := by
  unfold trunkF
  by_cases h : r.trunk = 0
  · rw [if_pos h]; exact .inl rfl
  · rw [if_neg h]
    right
    cases hi : r.inbound with
    | true => exact ⟨_, _, rfl, by simp, by simp⟩
    | false => exact ⟨_, _, rfl, by simp, by simp⟩
theorem tail_parse {r : Record} (h : errF r = 0) : tailP (partF r ++ trunkF r) = some (r.call, r.part, r.last, r.trunk, r.inbound) := by
  have g := errF_good h
  obtain ⟨hlast, hpc, hin⟩ := errF_last h
  have ht := trunk_parse g hin
  unfold partF
  by_cases hp : r.part = 0
  · rw [if_pos hp, List.nil_append]
    have hl : r.last = false := by
      cases hl : r.last with
      | true => exact absurd hp (hlast hl)
      | false => rfl
    have hw : tailP (trunkF r) = (trunkP (trunkF r)).map fun t => (0, 0, false, t.1, t.2) := by
      rcases trunkF_cases r with e | ⟨d, t, e, _, _⟩ <;> rw [e] <;> rfl
    rw [hw, ht, hp, hpc.1 hp, hl]
    rfl
  · rw [if_neg hp]
    have v1 : vOK (Go.Lib.itoa r.call) = true := itoa_vOK g.call.1 (by have := g.call; omega)
    have v2 : vOK (Go.Lib.itoa r.part) = true := itoa_vOK g.part.1 (by have := g.part; omega)
    have n1 := itoa_val g.call.1
    have n2 := itoa_val g.part.1
    have hl : lastP ((if r.last = true then [LAST] else []) ++ trunkF r) = some (r.last, r.trunk, r.inbound) := by
      cases hl : r.last with
      | true =>
        simp only [if_true, List.cons_append, List.nil_append, lastP, ht, Option.map_some]
      | false =>
        simp only [Bool.false_eq_true, if_false, List.nil_append]
        rcases trunkF_cases r with e | ⟨d, t, e, h1, h2⟩
        · rw [e] at ht ⊢
          rw [lastP, ht]
          rfl
        · rw [e] at ht ⊢
          rw [lastP, if_neg h2, ht]
          rfl
    rw [List.append_assoc]
    show tailP (PART :: Go.Lib.itoa r.call :: Go.Lib.itoa r.part :: ((if r.last = true then [LAST] else []) ++ trunkF r)) = _
    rw [tailP, if_pos rfl, if_pos ⟨v1, v2⟩, hl, n1, n2]
    rfl
theorem letter_kind {k : Int} (h1 : 1 ≤ k) (h2 : k ≤ 4) : kindL ((([118, 116, 100, 99] : List UInt8).take k.toNat).drop (k - 1).toNat) = k ∧ free 32 ((([118, 116, 100, 99] : List UInt8).take k.toNat).drop (k - 1).toNat) := by
  have : k = 1 ∨ k = 2 ∨ k = 3 ∨ k = 4 := by omega
  rcases this with rfl | rfl | rfl | rfl
  · exact ⟨rfl, fun x hx => by simp at hx; subst hx; decide⟩
  · exact ⟨rfl, fun x hx => by simp at hx; subst hx; decide⟩
  · exact ⟨rfl, fun x hx => by simp at hx; subst hx; decide⟩
  · exact ⟨rfl, fun x hx => by simp at hx; subst hx; decide⟩
theorem validB_digs {s : List UInt8} (h : validB s = true) : s.all isDg = true ∧ s ≠ [] := by
  unfold validB at h
  simp only [Bool.and_eq_true, decide_eq_true_eq] at h
  refine ⟨h.1.1, ?_⟩
  rintro rfl
  simp at h
theorem parse_words {r : Record} (h : errF r = 0) : parseF (wordsF r) = some r := by
  have g := errF_good h
  have ha := validB_digs g.a
  have hk := letter_kind g.kind.1 g.kind.2
  have hb : (if r.b = [] then [45] else r.b) ≠ [] ∧ bF (if r.b = [] then [45] else r.b) = r.b := by
    by_cases hb : r.b = []
    · rw [if_pos hb, hb]; exact ⟨by simp, rfl⟩
    · rw [if_neg hb]
      refine ⟨hb, ?_⟩
      unfold bF
      rw [if_neg]
      intro he
      rcases g.b with hv | hv
      · have := (validB_digs hv).1
        rw [he] at this
        revert this
        decide
      · exact hb hv.2
  unfold wordsF headF
  rw [List.append_assoc]
  simp only [List.cons_append, List.nil_append, parseF]
  rw [if_pos ⟨by rw [hk.1]; have := g.kind; omega, itoa_vOK (by have := g.source; omega) (by have := g.source; omega), itoa_vOK (by have := g.serial; omega) (by have := g.serial; omega), ha.2, hb.1, itoa_vOK g.start.1 (by have := g.start; omega), itoa_vOK g.units.1 (by have := g.units; omega)⟩]
  rw [tail_parse h, hk.1, hb.2, itoa_val (by have := g.source; omega), itoa_val (by have := g.serial; omega), itoa_val g.start.1, itoa_val g.units.1]
  rfl
theorem words_free {r : Record} (h : errF r = 0) {c : UInt8} (hc : c = 32 ∨ c = 10) : ∀ w, w ∈ wordsF r → free c w := by
  have g := errF_good h
  have hd : isDg c = false := by rcases hc with rfl | rfl <;> decide
  have ni : ∀ {n : Int}, 0 ≤ n → free c (Go.Lib.itoa n) := fun h0 => itoa_free h0 hd
  have lit : ∀ (l : List UInt8), l.all (fun x => x != 32 && x != 10) = true → free c l := by
    intro l hl x hx he
    have := List.all_eq_true.1 hl x hx
    subst he
    rcases hc with rfl | rfl <;> simp at this
  intro w hw
  unfold wordsF at hw
  rcases List.mem_append.1 hw with hw | hw
  · rcases List.mem_append.1 hw with hw | hw
    · unfold headF at hw
      simp only [List.mem_cons, List.not_mem_nil, or_false] at hw
      rcases hw with rfl | rfl | rfl | rfl | rfl | rfl | rfl
      · have : r.kind = 1 ∨ r.kind = 2 ∨ r.kind = 3 ∨ r.kind = 4 := by have := g.kind; omega
        rcases this with e | e | e | e <;> rw [e] <;> exact lit _ (by decide)
      · exact ni (by have := g.source; omega)
      · exact ni (by have := g.serial; omega)
      · exact digs_free (validB_digs g.a).1 hd
      · split
        · exact lit _ (by decide)
        · rcases g.b with hv | hv
          · exact digs_free (validB_digs hv).1 hd
          · rename_i hb; exact absurd hv.2 hb
      · exact ni g.start.1
      · exact ni g.units.1
    · unfold partF at hw
      split at hw
      · cases hw
      · rcases List.mem_append.1 hw with hw | hw
        · simp only [List.mem_cons, List.not_mem_nil, or_false] at hw
          rcases hw with rfl | rfl | rfl
          · exact lit _ (by decide)
          · exact ni g.call.1
          · exact ni g.part.1
        · split at hw
          · simp only [List.mem_cons, List.not_mem_nil, or_false] at hw
            subst hw
            exact lit _ (by decide)
          · cases hw
  · unfold trunkF at hw
    split at hw
    · cases hw
    · simp only [List.mem_cons, List.not_mem_nil, or_false] at hw
      rcases hw with rfl | rfl
      · split
        · exact lit _ (by decide)
        · exact lit _ (by decide)
      · exact ni g.trunk.1
theorem cut_line {r : Record} (h : errF r = 0) : cutL 32 (lineF r) = wordsF r := cut_join _ (by simp [wordsF, headF]) (words_free h (.inl rfl))
theorem dec_line {r : Record} (h : errF r = 0) : decF (lineF r) = (r, 0) := by
  unfold decF
  rw [cut_line h, parse_words h]
  show fin (lineF r) r = _
  unfold fin
  rw [if_neg (by simp [h]), if_neg (by simp)]
theorem dec_ok {line : List UInt8} (h : (decF line).2 = 0) : errF (decF line).1 = 0 ∧ lineF (decF line).1 = line := by
  unfold decF at h ⊢
  cases hp : parseF (cutL 32 line) with
  | none => rw [hp] at h; simp at h
  | some x =>
    rw [hp] at h
    simp only at h ⊢
    unfold fin at h ⊢
    by_cases he : errF x = 0
    · rw [if_neg (by simp [he])] at h ⊢
      by_cases hl : lineF x = line
      · rw [if_neg (by simp [hl])]; exact ⟨he, hl⟩
      · rw [if_pos hl] at h; simp at h
    · rw [if_pos he] at h; exact absurd h he
theorem line_len {r : Record} (h : errF r = 0) : (lineF r).length ≤ 400 := by
  obtain ⟨w1, w2⟩ := words_le (errF_good h)
  have := join_len [32] (wordsF r) 21 w2
  simp only [List.length_cons, List.length_nil] at this
  have h3 : (wordsF r).length * 22 ≤ 13 * 22 := Nat.mul_le_mul_right _ w1
  unfold lineF
  omega
theorem vals_iff (r q : Record) : eqVs r.vals q.vals = true ↔ r = q := by
  constructor
  · intro h
    obtain ⟨a1, a2, a3, a4, a5, a6, a7, a8, a9, a10, a11, a12⟩ := r
    obtain ⟨b1, b2, b3, b4, b5, b6, b7, b8, b9, b10, b11, b12⟩ := q
    simp [Record.vals, eqVs, eqV] at h
    simp [h]
  · rintro rfl; exact Record.eq_refl r
theorem back_true (r q : Record) (line : List UInt8) : f_billinglaw09_TextualBack r q line = some true := by
  unfold f_billinglaw09_TextualBack
  simp only [p_short, Option.bind_some, gcall_mk]
  by_cases hc : Short r ∧ Short q ∧ ¬ (line.length : Int) > 500
  · obtain ⟨h1, h2, h3⟩ := hc
    rw [if_neg (by simp [h1, h2]; omega)]
    have s1 := h1
    have s2 := h2
    unfold Short at s1 s2
    rw [p_Encode r (by omega) (by omega), p_Encode q (by omega) (by omega)]
    simp only [Option.bind_some]
    have hj : f_billinglaw09_TextualBack_j1 line = some true := by
      unfold f_billinglaw09_TextualBack_j1
      rw [p_Decode line (by omega), Option.bind_some]
      by_cases he : (decF line).2 = 0
      · rw [if_neg (by simp [he])]
        obtain ⟨e1, e2⟩ := dec_ok he
        rw [p_Encode_ok _ e1]
        simp only [Option.bind_some, e2, beq_self_eq_true, Bool.and_self, gcall_mk, if_true, awake_true]
      · rw [if_pos (by simpa using he), awake_true]; rfl
    by_cases he : errF r = 0
    · rw [if_pos (by simp [he]), if_pos he]
      have hl := line_len he
      rw [p_Decode _ (by omega), Option.bind_some, dec_line he]
      rw [if_neg]
      · exact hj
      · have e0 := Record.eq_refl r
        by_cases hq : errF q = 0
        · rw [if_pos hq]
          have : (lineF r == lineF q) = eqVs r.vals q.vals := by
            rw [Bool.eq_iff_iff, beq_iff_eq, vals_iff]
            constructor
            · intro hh
              have e1 := dec_line he
              have e2 := dec_line hq
              rw [hh, e2] at e1
              exact (congrArg Prod.fst e1).symm
            · rintro rfl; rfl
          rw [this]
          simp [e0]
        · simp [hq, e0]
    · rw [if_neg (by simpa using he)]
      exact hj
  · rw [if_pos, awake_true]
    · rfl
    · by_cases h1 : Short r
      · by_cases h2 : Short q
        · have h3 : (line.length : Int) > 500 := by
            by_cases h3 : (line.length : Int) > 500
            · exact h3
            · exact absurd ⟨h1, h2, h3⟩ hc
          simp [h1, h2, h3]
        · simp [h1, h2]
      · simp [h1]
end Go.Proofs.YtoknjmclbfgkiaaDoor
