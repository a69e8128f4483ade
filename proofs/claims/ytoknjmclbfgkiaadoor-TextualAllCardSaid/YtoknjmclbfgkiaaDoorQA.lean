import Derived.Test.YtoknjmclbfgkiaaDoorQ9
set_option linter.unusedSimpArgs false
set_option linter.unusedVariables false
namespace Go.Proofs.YtoknjmclbfgkiaaDoor
open Go.RowKit Go.Abs
/-! ### texts put together out of lines -/
def catL (xs : List (List UInt8)) : List UInt8 := (xs.map (· ++ [10])).flatten
theorem catL_snoc (xs : List (List UInt8)) (x : List UInt8) : catL (xs ++ [x]) = catL xs ++ x ++ [10] := by simp [catL]
theorem cut_cat : ∀ xs : List (List UInt8), (∀ x, x ∈ xs → free 10 x) → cutL 10 (catL xs) = xs ++ [[]]
  | [], _ => rfl
  | x :: r, h => by
    have e : catL (x :: r) = x ++ 10 :: catL r := by simp [catL]
    rw [e, cutL_more (h x (by simp)), cut_cat r (fun y hy => h y (by simp [hy]))]
    rfl
theorem catL_last (xs : List (List UInt8)) : catL xs = [] ∨ ∃ t, catL xs = t ++ [10] := by
  rcases List.eq_nil_or_concat xs with rfl | ⟨ys, y, rfl⟩
  · exact .inl rfl
  · right
    rw [List.concat_eq_append, catL_snoc]
    exact ⟨_, rfl⟩
theorem lines_cat {xs : List (List UInt8)} (h : ∀ x, x ∈ xs → free 10 x) (hl : xs.length ≤ 4096) : linesF (catL xs) = (xs, 0) := by
  unfold linesF
  rw [if_neg]
  · rw [cut_cat xs h, if_neg (by simp; omega)]
    simp
  · rintro ⟨h1, h2⟩
    rcases catL_last xs with e | ⟨t, e⟩
    · exact h1 e
    · apply h2
      rw [e]
      simp [nth]
theorem okLs_app : ∀ a b : List (List UInt8), okLs (a ++ b) = okLs a ++ okLs b
  | [], _ => rfl
  | x :: a, b => by
    rw [List.cons_append, okLs, okLs, okLs_app a b]
    split <;> rfl
theorem noLs_app : ∀ (a b : List (List UInt8)) (i : Int), noLs i (a ++ b) = noLs i a ++ noLs (i + a.length) b
  | [], b, i => by simp [noLs]
  | x :: a, b, i => by
    rw [List.cons_append, noLs, noLs, noLs_app a b (i + 1)]
    have e : i + 1 + (a.length : Int) = i + ((x :: a).length : Int) := by simp only [List.length_cons]; omega
    rw [e]
    split <;> rfl
theorem good_lines : ∀ (w : List Record) (i : Int), (∀ r, r ∈ w → errF r = 0) → okLs (w.map lineF) = w ∧ noLs i (w.map lineF) = []
  | [], _, _ => ⟨rfl, rfl⟩
  | r :: w, i, h => by
    have hr := dec_line (h r (by simp))
    have ih := good_lines w (i + 1) (fun q hq => h q (by simp [hq]))
    rw [List.map_cons, okLs, noLs, hr]
    simp [ih.1, ih.2]
theorem bad_lines : ∀ (ws : List (List UInt8)) (i : Int), (∀ w, w ∈ ws → (decF w).2 ≠ 0) → okLs ws = [] ∧ (noLs i ws).length = ws.length ∧ ∀ k : Nat, k < ws.length → (nth (noLs i ws) k).index = i + k ∧ (nth (noLs i ws) k).err ≠ 0 ∧ (nth (noLs i ws) k).source = 0 ∧ (nth (noLs i ws) k).serial = 0
  | [], _, _ => ⟨rfl, rfl, fun k hk => by simp at hk⟩
  | w :: ws, i, h => by
    have hw := h w (by simp)
    obtain ⟨i1, i2, i3⟩ := bad_lines ws (i + 1) (fun q hq => h q (by simp [hq]))
    rw [okLs, noLs, if_neg hw, if_neg hw]
    refine ⟨i1, by simp [i2], fun k hk => ?_⟩
    cases k with
    | zero => exact ⟨by simp [nth], hw, rfl, rfl⟩
    | succ k =>
      obtain ⟨a1, a2, a3, a4⟩ := i3 k (by simpa using hk)
      have e : nth ((⟨0, 0, i, (decF w).2⟩ : Reject) :: noLs (i + 1) ws) (k + 1) = nth (noLs (i + 1) ws) k := by simp [nth]
      rw [e]
      exact ⟨by rw [a1]; omega, a2, a3, a4⟩
theorem cut_one {c : UInt8} : ∀ {w : List UInt8}, (cutL c w).length = 1 → free c w
  | [], _ => fun x hx => by simp at hx
  | x :: r, h => by
    by_cases hx : x = c
    · subst hx
      rw [cutL_hit] at h
      have := cutL_ne x r
      simp at h
      exact absurd h this
    · rw [cutL_step hx] at h
      have ht : (cutL c r).length = 1 := by rw [cutL_eta c r]; simpa using h
      intro y hy
      rcases List.mem_cons.1 hy with rfl | hy
      · exact hx
      · exact cut_one ht y hy
theorem all_end {want : List Record} {ws : List (List UInt8)} (h1 : ∀ r, r ∈ want → errF r = 0) (h2 : ∀ w, w ∈ ws → free 10 w ∧ (decF w).2 ≠ 0) (hl1 : want.length ≤ 30) (hl2 : ws.length ≤ 30) {s : List UInt8} (hs : s = catL (want.map lineF ++ ws)) (hsl : s.length ≤ 100000) {n : Int} (hn : n = ws.length) :
    f_billinglaw09_TextualAll_j2 want s n = some true := by
  subst hn
  unfold f_billinglaw09_TextualAll_j2
  have hlines : linesF s = (want.map lineF ++ ws, 0) := by
    rw [hs]
    refine lines_cat (fun x hx => ?_) (by simp; omega)
    rcases List.mem_append.1 hx with hx | hx
    · obtain ⟨r, hr, rfl⟩ := List.mem_map.1 hx
      have := words_free (h1 r hr) (c := 10) (.inr rfl)
      intro y hy he
      subst he
      -- a line's letters are those of its words, and spaces
      have key : ∀ (l : List (List UInt8)), (∀ w, w ∈ l → free 10 w) → free 10 (Go.Lib.join l [32]) := by
        intro l hl
        cases l with
        | nil => intro z hz; simp [Go.Lib.join] at hz
        | cons a t =>
          rw [Go.Lib.join_cons]
          intro z hz
          rcases List.mem_append.1 hz with hz | hz
          · exact hl a (by simp) z hz
          · unfold Go.Lib.joinTail at hz
            obtain ⟨q, hq, hzq⟩ := List.mem_flatten.1 hz
            obtain ⟨p, hp, rfl⟩ := List.mem_map.1 hq
            rcases List.mem_append.1 hzq with hz | hz
            · simp at hz; subst hz; decide
            · exact hl p (by simp [hp]) z hz
      exact key _ this 10 hy rfl
    · exact (h2 x hx).1
  have hall : allF s = (want, noLs want.length ws, 0) := by
    unfold allF
    rw [hlines]
    simp only [ne_eq, not_true_eq_false, if_false]
    have g := good_lines want 0 h1
    have b := bad_lines ws want.length (fun w hw => (h2 w hw).2)
    rw [okLs_app, noLs_app, g.1, g.2, b.1]
    simp
  have b := bad_lines ws want.length (fun w hw => (h2 w hw).2)
  rw [p_All s hsl, Option.bind_some, hall]
  simp only
  rw [p_Same want (by omega), gcall_mk]
  simp only [bne_self_eq_false, Bool.not_false, if_true, Option.bind_some]
  rw [if_neg (by simp [b.2.1])]
  obtain ⟨r, hr, hr2⟩ : ∃ r, loop (fun st => f_billinglaw09_TextualAll_l1 want (ws.length : Int) (want, noLs want.length ws, 0) st) 0 = some r ∧ r = true := by
    refine loop_count ws.length (by omega) _ (fun i h0 hi => ?_)
    unfold f_billinglaw09_TextualAll_l1
    by_cases h : i < (ws.length : Int)
    · obtain ⟨a1, a2, a3, a4⟩ := b.2.2 i.toNat (by omega)
      rw [if_pos (by simpa using h)]
      simp only [b.2.1]
      rw [ck_pos (by omega), ck_pos (by omega), ck_pos (fun _ => by omega), ck_pos (fun _ => by omega), ck_pos (fun _ => by omega)]
      rw [if_neg (by simp [a1, a2, a3, a4]; omega), ck_pos (by omega)]
      exact .inr ⟨rfl, h⟩
    · rw [if_neg (by simpa using h), awake_true]
      exact .inl ⟨true, rfl, rfl⟩
  rw [hr, hr2]
end Go.Proofs.YtoknjmclbfgkiaaDoor
