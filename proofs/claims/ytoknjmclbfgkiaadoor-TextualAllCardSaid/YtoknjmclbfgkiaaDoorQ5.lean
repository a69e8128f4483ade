import Derived.Test.YtoknjmclbfgkiaaDoorQ4
set_option linter.unusedSimpArgs false
set_option linter.unusedVariables false
namespace Go.Proofs.YtoknjmclbfgkiaaDoor
open Go.RowKit Go.Abs
theorem p_kind (s : List UInt8) : f_billingref09_kind s = some (kindL s) := by
  unfold f_billingref09_kind kindL
  by_cases h1 : s = [118]
  · rw [if_pos (by simp [h1]), if_pos h1]
  · rw [if_neg (by simpa using h1), if_neg h1]
    by_cases h2 : s = [116]
    · rw [if_pos (by simp [h2]), if_pos h2]
    · rw [if_neg (by simpa using h2), if_neg h2]
      by_cases h3 : s = [100]
      · rw [if_pos (by simp [h3]), if_pos h3]
      · rw [if_neg (by simpa using h3), if_neg h3]
        by_cases h4 : s = [99]
        · rw [if_pos (by simp [h4]), if_pos h4]
        · rw [if_neg (by simpa using h4), if_neg h4]
/-- What a beginning of a list of words leaves open: the answer is as it should be. -/
def okB (y1 y2 y3 y4 y5 c p : Int) : Bool := decide (y1 > 0) && !((((((decide (y2 < 0)) || (decide (y3 < 0))) || (decide (y4 < 0))) || (decide (y5 < 0))) || (decide (c < 0))) || (decide (p < 0)))
def Ans (o : Option (Record × Bool)) (g : Bool) (e : Option Record) : Prop := ∃ x b, o = some (x, b) ∧ (match e with
  | some r => b = g ∧ x = r
  | none => b = false)
theorem nth_drop {α : Type} [Inhabited α] {l : List α} {i j : Nat} : nth (l.drop i) j = nth l (i + j) := by simp [nth]
theorem pr_j3 {w : List (List UInt8)} {y1 y2 y3 y4 y5 : Int} {b : List UInt8} {c p : Int} {l : Bool} {i : Int} {tr : Int} {inb : Bool} :
    f_billingref09_parse_j3 w y1 y2 y3 y4 y5 b c p l i tr inb = some ((⟨y2, y3, y1, nth w 3, b, y4, y5, c, p, l, tr, inb⟩ : Record), ((i == (w.length : Int)) && okB y1 y2 y3 y4 y5 c p && !(decide (tr < 0)))) := by
  unfold f_billingref09_parse_j3 okB
  congr 2
  rw [Bool.eq_iff_iff]
  simp only [Bool.and_eq_true, Bool.not_eq_true', Bool.or_eq_false_iff, beq_iff_eq, decide_eq_true_eq, decide_eq_false_iff_not]
  constructor
  · rintro ⟨⟨a1, a2⟩, a3⟩; exact ⟨⟨a1, a2, a3.1⟩, a3.2⟩
  · rintro ⟨⟨a1, a2, a3⟩, a4⟩; exact ⟨⟨a1, a2⟩, a3, a4⟩
theorem pr_j2 {w : List (List UInt8)} {y1 y2 y3 y4 y5 : Int} {b : List UInt8} {c p : Int} {l : Bool} (i : Nat) (hi : i ≤ w.length) (hl : w.length ≤ 1000000) :
    Ans (f_billingref09_parse_j2 w y1 y2 y3 y4 y5 b i c p l) (okB y1 y2 y3 y4 y5 c p) ((trunkP (w.drop i)).map fun t => ⟨y2, y3, y1, nth w 3, b, y4, y5, c, p, l, t.1, t.2⟩) := by
  unfold f_billingref09_parse_j2
  rw [ck_pos (by omega), ck_pos (fun h => by first | omega | (simp at h; done) | (simp at h; omega)), ck_pos (fun h => by first | omega | (simp at h; done) | (simp at h; omega))]
  simp only [Int.toNat_natCast]
  by_cases h1 : i + 1 < w.length
  · -- two words at least
    have hd := drop_nth (l := w) (k := i) (by omega)
    have hd2 := drop_nth (l := w) (k := i + 1) h1
    by_cases h2 : nth w i = INW ∨ nth w i = OUTW
    · rw [if_pos (by simp only [Bool.and_eq_true, decide_eq_true_eq, Bool.or_eq_true, beq_iff_eq]; exact ⟨by omega, h2⟩), ck_pos (by omega), ck_pos (by omega), ck_pos (by omega)]
      rw [show ((i : Int) + 1).toNat = i + 1 from by omega, p_Value, Option.bind_some, ck_pos (by omega), pr_j3]
      refine ⟨_, _, rfl, ?_⟩
      rw [hd, hd2]
      by_cases h3 : i + 2 = w.length
      · rw [List.drop_of_length_le (by omega : w.length ≤ i + 1 + 1)]
        have hb : (((i : Int) + 2) == (w.length : Int)) = true := by rw [beq_iff_eq]; omega
        rw [hb]
        cases hv : vOK (nth w (i + 1)) with
        | true =>
          have hval : valF (nth w (i + 1)) = numF 0 (nth w (i + 1)) := by unfold valF; rw [if_pos hv]
          have hnn := vOK_nn hv
          rw [show trunkP [nth w i, nth w (i + 1)] = some (numF 0 (nth w (i + 1)), decide (nth w i = INW)) from by simp only [trunkP, hv, h2, and_self, if_true]]
          simp only [Option.map_some]
          refine ⟨?_, ?_⟩
          · rw [hval]; simp; omega
          · rw [hval]
            congr 1
            by_cases hh : nth w i = INW <;> simp [hh]
        | false =>
          rw [show trunkP [nth w i, nth w (i + 1)] = none from by simp [trunkP, hv]]
          simp only [Option.map_none]
          have := valF_neg.2 hv
          simp [this]
      · rw [drop_nth (l := w) (k := i + 1 + 1) (by omega)]
        rw [show trunkP (nth w i :: nth w (i + 1) :: nth w (i + 1 + 1) :: w.drop (i + 1 + 1 + 1)) = none from rfl]
        simp only [Option.map_none]
        have hb : (((i : Int) + 2) == (w.length : Int)) = false := by rw [beq_eq_false_iff_ne]; omega
        rw [hb]
        rfl
    · rw [if_neg (by simp only [Bool.and_eq_true, decide_eq_true_eq, Bool.or_eq_true, beq_iff_eq]; exact fun hh => h2 hh.2), pr_j3]
      refine ⟨_, _, rfl, ?_⟩
      rw [hd, trunkP_head (fun h => h2 (.inl h)) (fun h => h2 (.inr h))]
      have hb : ((i : Int) == (w.length : Int)) = false := by rw [beq_eq_false_iff_ne]; omega
      simp [hb]
  · rw [if_neg (by simp; omega), pr_j3]
    refine ⟨_, _, rfl, ?_⟩
    by_cases h3 : i = w.length
    · rw [List.drop_of_length_le (by omega)]
      have hb : ((i : Int) == (w.length : Int)) = true := by rw [beq_iff_eq]; omega
      simp [trunkP, hb]
    · have hd := drop_nth (l := w) (k := i) (by omega)
      rw [hd, List.drop_of_length_le (by omega : w.length ≤ i + 1)]
      have hb : ((i : Int) == (w.length : Int)) = false := by rw [beq_eq_false_iff_ne]; omega
      simp [trunkP, hb]
theorem okB_neg {y1 y2 y3 y4 y5 c p : Int} (h : c < 0 ∨ p < 0) : okB y1 y2 y3 y4 y5 c p = false := by
  unfold okB
  rcases h with h | h <;> simp [h]
theorem Ans_false {o : Option (Record × Bool)} {e : Option Record} {g' : Bool} (h : Ans o false e) : Ans o g' none := by
  obtain ⟨x, b, h1, h2⟩ := h
  refine ⟨x, b, h1, ?_⟩
  cases e with
  | none => exact h2
  | some r => exact h2.1
theorem okB_nn {y1 y2 y3 y4 y5 c p : Int} (h : 0 ≤ c ∧ 0 ≤ p) : okB y1 y2 y3 y4 y5 c p = okB y1 y2 y3 y4 y5 0 0 := by
  unfold okB
  rw [decide_eq_false (show ¬ c < 0 by omega), decide_eq_false (show ¬ p < 0 by omega)]
  simp
theorem pr_j1 {w : List (List UInt8)} {y1 y2 y3 y4 y5 : Int} {b : List UInt8} (hi : 7 ≤ w.length) (hl : w.length ≤ 1000000) :
    Ans (f_billingref09_parse_j1 w y1 y2 y3 y4 y5 b) (okB y1 y2 y3 y4 y5 0 0) ((tailP (w.drop 7)).map fun t => ⟨y2, y3, y1, nth w 3, b, y4, y5, t.1, t.2.1, t.2.2.1, t.2.2.2.1, t.2.2.2.2⟩) := by
  unfold f_billingref09_parse_j1
  rw [ck_pos (by omega), ck_pos (fun h => by first | omega | (simp at h; done) | (simp at h; omega))]
  simp only [show Int.toNat 7 = 7 from rfl, show Int.toNat (7 + 1) = 8 from rfl, show Int.toNat (7 + 2) = 9 from rfl, show Int.toNat (7 + 3) = 10 from rfl]
  by_cases h9 : 9 < w.length
  · have hd7 := drop_nth (l := w) (k := 7) (by omega)
    have hd8 := drop_nth (l := w) (k := 8) (by omega)
    have hd9 := drop_nth (l := w) (k := 9) (by omega)
    have hd : w.drop 7 = nth w 7 :: nth w 8 :: nth w 9 :: w.drop 10 := by rw [hd7, hd8, hd9]
    rw [hd]
    by_cases hp : nth w 7 = PART
    · rw [if_pos (by simp only [Bool.and_eq_true, decide_eq_true_eq, beq_iff_eq]; exact ⟨by omega, hp⟩), ck_pos (by omega), ck_pos (by omega), p_Value, Option.bind_some, ck_pos (by omega), ck_pos (by omega), p_Value, Option.bind_some, ck_pos (by omega), ck_pos (fun h => by first | omega | (simp at h; done) | (simp at h; omega))]
      rw [tailP, if_pos hp]
      have main : ∀ (c p : Int), Ans (if (decide ((7 : Int) + 3 < (w.length : Int)) && (nth w 10 == LAST)) = true then ck ((-9223372036854775808 : Int) ≤ 7 + 3 + 1 ∧ 7 + 3 + 1 ≤ (9223372036854775807 : Int)) (f_billingref09_parse_j2 w y1 y2 y3 y4 y5 b (7 + 3 + 1) c p true) else f_billingref09_parse_j2 w y1 y2 y3 y4 y5 b (7 + 3) c p false)
          (okB y1 y2 y3 y4 y5 c p) ((lastP (w.drop 10)).map fun t => ⟨y2, y3, y1, nth w 3, b, y4, y5, c, p, t.1, t.2.1, t.2.2⟩) := by
        intro c p
        by_cases h10 : 10 < w.length
        · have hd10 := drop_nth (l := w) (k := 10) h10
          rw [hd10]
          by_cases hll : nth w 10 = LAST
          · rw [if_pos (by simp only [Bool.and_eq_true, decide_eq_true_eq, beq_iff_eq]; exact ⟨by omega, hll⟩), ck_pos (by omega)]
            have := pr_j2 (w := w) (y1 := y1) (y2 := y2) (y3 := y3) (y4 := y4) (y5 := y5) (b := b) (c := c) (p := p) (l := true) 11 (by omega) hl
            rw [lastP, if_pos hll, Option.map_map]
            exact this
          · rw [if_neg (by simp only [Bool.and_eq_true, decide_eq_true_eq, beq_iff_eq]; exact fun hh => hll hh.2)]
            have := pr_j2 (w := w) (y1 := y1) (y2 := y2) (y3 := y3) (y4 := y4) (y5 := y5) (b := b) (c := c) (p := p) (l := false) 10 (by omega) hl
            rw [lastP, if_neg hll, Option.map_map, ← hd10]
            exact this
        · rw [if_neg (by simp only [Bool.and_eq_true, decide_eq_true_eq]; omega)]
          have := pr_j2 (w := w) (y1 := y1) (y2 := y2) (y3 := y3) (y4 := y4) (y5 := y5) (b := b) (c := c) (p := p) (l := false) 10 (by omega) hl
          rw [List.drop_of_length_le (by omega : w.length ≤ 10)] at this ⊢
          rw [lastP, Option.map_map]
          exact this
      have m := main (valF (nth w 8)) (valF (nth w 9))
      by_cases hv : vOK (nth w 8) = true ∧ vOK (nth w 9) = true
      · rw [if_pos hv]
        have e8 : valF (nth w 8) = numF 0 (nth w 8) := by unfold valF; rw [if_pos hv.1]
        have e9 : valF (nth w 9) = numF 0 (nth w 9) := by unfold valF; rw [if_pos hv.2]
        have n8 := vOK_nn hv.1
        have n9 := vOK_nn hv.2
        rw [e8, e9] at m ⊢
        rw [okB_nn ⟨n8.1, n9.1⟩] at m
        rw [Option.map_map]
        exact m
      · rw [if_neg hv]
        have : okB y1 y2 y3 y4 y5 (valF (nth w 8)) (valF (nth w 9)) = false := okB_neg (by
          cases h8 : vOK (nth w 8) with
          | false => exact .inl (valF_neg.2 h8)
          | true =>
            cases h9 : vOK (nth w 9) with
            | false => exact .inr (valF_neg.2 h9)
            | true => exact absurd ⟨h8, h9⟩ hv)
        rw [this] at m
        exact Ans_false m
    · rw [if_neg (by simp only [Bool.and_eq_true, decide_eq_true_eq, beq_iff_eq]; exact fun hh => hp hh.2)]
      have := pr_j2 (w := w) (y1 := y1) (y2 := y2) (y3 := y3) (y4 := y4) (y5 := y5) (b := b) (c := 0) (p := 0) (l := false) 7 (by omega) hl
      rw [tailP, if_neg hp, Option.map_map, ← hd]
      exact this
  · rw [if_neg (by simp only [Bool.and_eq_true, decide_eq_true_eq]; omega)]
    have := pr_j2 (w := w) (y1 := y1) (y2 := y2) (y3 := y3) (y4 := y4) (y5 := y5) (b := b) (c := 0) (p := 0) (l := false) 7 (by omega) hl
    have ht : tailP (w.drop 7) = (trunkP (w.drop 7)).map fun t => (0, 0, false, t.1, t.2) := by
      have hlen : (w.drop 7).length ≤ 2 := by simp; omega
      match hw : w.drop 7 with
      | [] => rfl
      | [_] => rfl
      | [_, _] => rfl
      | _ :: _ :: _ :: r => rw [hw] at hlen; simp at hlen <;> omega
    rw [ht, Option.map_map]
    exact this
theorem p_parse (w : List (List UInt8)) (hl : w.length ≤ 1000000) : ∃ x b, f_billingref09_parse w = some (x, b) ∧ (match parseF w with | some r => b = true ∧ x = r | none => b = false) := by
  unfold f_billingref09_parse
  by_cases h7 : w.length < 7
  · rw [ck_pos (fun h => by first | omega | (simp at h; done) | (simp at h; omega)), ck_pos (fun h => by first | omega | (simp at h; done) | (simp at h; omega)), if_pos (by simp <;> omega)]
    refine ⟨_, _, rfl, ?_⟩
    rw [parse_bad (i := 6) (by omega) (.inl (by rw [List.getElem?_eq_none (by omega)]))]
  · match w, h7 with
    | [], h => exact absurd (by simp) h
    | [_], h => exact absurd (by simp) h
    | [_, _], h => exact absurd (by simp) h
    | [_, _, _], h => exact absurd (by simp) h
    | [_, _, _, _], h => exact absurd (by simp) h
    | [_, _, _, _, _], h => exact absurd (by simp) h
    | [_, _, _, _, _, _], h => exact absurd (by simp) h
    | k :: s1 :: s2 :: a :: b :: t :: u :: rest, _ =>
      simp only [show Int.toNat 0 = 0 from rfl, show Int.toNat 1 = 1 from rfl, show Int.toNat 2 = 2 from rfl, show Int.toNat 3 = 3 from rfl, show Int.toNat 4 = 4 from rfl, show Int.toNat 5 = 5 from rfl, show Int.toNat 6 = 6 from rfl]
      have e0 : nth (k :: s1 :: s2 :: a :: b :: t :: u :: rest) 0 = k := rfl
      have e1 : nth (k :: s1 :: s2 :: a :: b :: t :: u :: rest) 1 = s1 := rfl
      have e2 : nth (k :: s1 :: s2 :: a :: b :: t :: u :: rest) 2 = s2 := rfl
      have e3 : nth (k :: s1 :: s2 :: a :: b :: t :: u :: rest) 3 = a := rfl
      have e4 : nth (k :: s1 :: s2 :: a :: b :: t :: u :: rest) 4 = b := rfl
      have e5 : nth (k :: s1 :: s2 :: a :: b :: t :: u :: rest) 5 = t := rfl
      have e6 : nth (k :: s1 :: s2 :: a :: b :: t :: u :: rest) 6 = u := rfl
      have hd : (k :: s1 :: s2 :: a :: b :: t :: u :: rest).drop 7 = rest := rfl
      have hlen : ((k :: s1 :: s2 :: a :: b :: t :: u :: rest).length : Int) = (rest.length : Int) + 7 := by simp only [List.length_cons]; omega
      have hj := fun bb => pr_j1 (b := bb) (w := k :: s1 :: s2 :: a :: b :: t :: u :: rest) (y1 := kindL k) (y2 := valF s1) (y3 := valF s2) (y4 := valF t) (y5 := valF u) (by simp) hl
      rw [e0, e1, e2, e3, e4, e5, e6]
      simp only [e3, hd] at hj
      generalize hW : k :: s1 :: s2 :: a :: b :: t :: u :: rest = W at hlen hj ⊢
      rw [hlen, ck_pos (fun _ => by omega), ck_pos (fun _ => by omega)]
      by_cases hab : a = [] ∨ b = []
      · rw [if_pos (by
          simp only [Bool.or_eq_true, decide_eq_true_eq, beq_iff_eq]
          rcases hab with h | h
          · exact .inl (.inr (by rw [h]; rfl))
          · exact .inr (by rw [h]; rfl))]
        refine ⟨_, _, rfl, ?_⟩
        rw [← hW]
        unfold parseF
        simp only
        rw [if_neg (fun hh => by rcases hab with h | h; exact hh.2.2.2.1 h; exact hh.2.2.2.2.1 h)]
        trivial
      · have ha : a ≠ [] := fun h => hab (.inl h)
        have hb : b ≠ [] := fun h => hab (.inr h)
        rw [if_neg (by
          simp only [Bool.or_eq_true, decide_eq_true_eq, beq_iff_eq, not_or]
          refine ⟨⟨by omega, ?_⟩, ?_⟩
          · intro h; exact ha (by simpa using h)
          · intro h; exact hb (by simpa using h))]
        rw [ck_pos (by omega), p_kind, Option.bind_some, ck_pos (by omega), p_Value, Option.bind_some, ck_pos (by omega), p_Value, Option.bind_some, ck_pos (by omega), ck_pos (by omega), ck_pos (by omega), p_Value, Option.bind_some, ck_pos (by omega), p_Value, Option.bind_some]
        have hjb : Ans (if (b == ([45] : List UInt8)) = true then f_billingref09_parse_j1 W (kindL k) (valF s1) (valF s2) (valF t) (valF u) [] else f_billingref09_parse_j1 W (kindL k) (valF s1) (valF s2) (valF t) (valF u) b) (okB (kindL k) (valF s1) (valF s2) (valF t) (valF u) 0 0) ((tailP rest).map fun x => ⟨valF s1, valF s2, kindL k, a, bF b, valF t, valF u, x.1, x.2.1, x.2.2.1, x.2.2.2.1, x.2.2.2.2⟩) := by
          unfold bF
          by_cases h45 : b = [45]
          · rw [if_pos (by simpa using h45), if_pos h45]; exact hj _
          · rw [if_neg (by simpa using h45), if_neg h45]; exact hj _
        obtain ⟨x, bb, h1, h2⟩ := hjb
        refine ⟨x, bb, h1, ?_⟩
        rw [← hW]
        unfold parseF
        simp only
        by_cases hc : 0 < kindL k ∧ vOK s1 = true ∧ vOK s2 = true ∧ a ≠ [] ∧ b ≠ [] ∧ vOK t = true ∧ vOK u = true
        · rw [if_pos hc]
          obtain ⟨c0, c1, c2, c3, c4, c5, c6⟩ := hc
          have v1 : valF s1 = numF 0 s1 := by unfold valF; rw [if_pos c1]
          have v2 : valF s2 = numF 0 s2 := by unfold valF; rw [if_pos c2]
          have v5 : valF t = numF 0 t := by unfold valF; rw [if_pos c5]
          have v6 : valF u = numF 0 u := by unfold valF; rw [if_pos c6]
          have n1 := vOK_nn c1
          have n2 := vOK_nn c2
          have n5 := vOK_nn c5
          have n6 := vOK_nn c6
          rw [v1, v2, v5, v6] at h2
          have hok : okB (kindL k) (numF 0 s1) (numF 0 s2) (numF 0 t) (numF 0 u) 0 0 = true := by unfold okB; simp; omega
          rw [hok] at h2
          exact h2
        · rw [if_neg hc]
          have hok : okB (kindL k) (valF s1) (valF s2) (valF t) (valF u) 0 0 = false := by
            unfold okB
            by_cases c0 : 0 < kindL k
            · cases c1 : vOK s1 with
              | false => simp [valF_neg.2 c1]
              | true =>
              cases c2 : vOK s2 with
              | false => simp [valF_neg.2 c2]
              | true =>
              cases c5 : vOK t with
              | false => simp [valF_neg.2 c5]
              | true =>
              cases c6 : vOK u with
              | false => simp [valF_neg.2 c6]
              | true => exact absurd ⟨c0, c1, c2, ha, hb, c5, c6⟩ hc
            · simp [c0]
          rw [hok] at h2
          cases htl : tailP rest with
          | none => rw [htl] at h2; exact h2
          | some y => rw [htl] at h2; exact h2.1
theorem parse_short {w : List (List UInt8)} {x : Record} {m : Nat} (h : parseF w = some x) (hw : ∀ s, s ∈ w → s.length ≤ m) : x.a.length ≤ m ∧ x.b.length ≤ m := by
  unfold parseF at h
  split at h
  · rename_i k s1 s2 a b t u rest
    split at h
    · obtain ⟨y, hy, rfl⟩ := Option.map_eq_some_iff.1 h
      refine ⟨hw a (by simp), ?_⟩
      show (bF b).length ≤ m
      unfold bF
      split
      · simp
      · exact hw b (by simp)
    · cases h
  · cases h
theorem p_rDecode (line : List UInt8) (hl : line.length ≤ 100000) : f_billingref09_Decode line = some (decF line) := by
  unfold f_billingref09_Decode decF
  rw [p_Words line hl, Option.bind_some]
  have hlen := cutL_len 32 line
  obtain ⟨x, b, h1, h2⟩ := p_parse (cutL 32 line) (by omega)
  rw [h1, Option.bind_some]
  cases hp : parseF (cutL 32 line) with
  | none =>
    rw [hp] at h2
    rw [if_pos (by simp [h2])]
    rfl
  | some r =>
    rw [hp] at h2
    obtain ⟨rfl, rfl⟩ := h2
    rw [if_neg (by simp)]
    have hs := parse_short hp (m := line.length) (fun s hs => (cutL_mem 32 line s hs).2)
    rw [p_rEncode x (by omega) (by omega), Option.bind_some]
    show _ = some (fin line x)
    unfold fin
    by_cases he : errF x = 0
    · rw [if_neg (by simp [he]), if_pos he]
      by_cases hll : lineF x = line
      · rw [if_neg (by simp [hll]), if_neg (by simp [he]), if_neg (by simp [hll])]
      · rw [if_pos (by simp [hll]), if_neg (by simp [he]), if_pos hll]
        rfl
    · rw [if_pos (by simpa using he), if_pos he]
      rfl
end Go.Proofs.YtoknjmclbfgkiaaDoor
