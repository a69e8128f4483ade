/- '[]T{}' as a slice that grows. -/
import Derived.Test.YtoknjmclbfgkiaaDoorB4
set_option linter.unusedSimpArgs false
set_option linter.unusedVariables false
set_option linter.unusedSectionVars false
namespace Go.Abs
open Go.RowKit

theorem Inv.newTokRow {g : Ghost} {base : Nat} {w : World} {st : St} (h : Inv g base w st) (e sz : Nat) :
    ∃ g', g'.tk st.tails.length = .slice (some ⟨w.heap.size, 0, none⟩) 0 0 ∧ Inv g' base (w.alloc (.cells #[] e)) (st.tok ⟨e, sz, 0⟩) ∧ Step base g w st g' (w.alloc (.cells #[] e)) (st.tok ⟨e, sz, 0⟩) := by
  let g0 : Ghost := ⟨fun k => if k = w.heap.size then 0 else g.lim k, g.ob, g.tk⟩
  have hbel : Below w.heap.size w (w.alloc (.cells #[] e)) := (Below.refl _ w).alloc (Nat.le_refl _) _
  obtain ⟨hinv0, hst0⟩ := h.grow (g' := g0) hbel (fun k hk => by show (if _ then _ else _) = _; rw [if_neg (by omega)]) rfl rfl
  have hnewb : (w.alloc (.cells #[] e)).heap[w.heap.size]? = some (.cells #[] e) := heap_alloc_new w _
  have hlim0 : g0.lim w.heap.size = 0 := by show (if _ then _ else _) = _; rw [if_pos rfl]
  generalize hw : w.alloc (.cells #[] e) = w1 at *
  -- as for a nil one, but for the slice itself
  let v : Value := .slice (some ⟨w.heap.size, 0, none⟩) 0 0
  let g' : Ghost := ⟨g0.lim, g.ob, fun t => if t = st.tails.length then v else g.tk t⟩
  have h1 : g'.tk st.tails.length = v := by show (if _ then _ else _) = _; rw [if_pos rfl]
  have h2 : ∀ t, t ≠ st.tails.length → g'.tk t = g.tk t := fun t ht => by show (if _ then _ else _) = _; rw [if_neg ht]
  have hold : ∀ t x, (st.tok ⟨e, sz, 0⟩).tails[t]? = some x → (t < st.tails.length ∧ st.tails[t]? = some x) ∨ (t = st.tails.length ∧ x = ⟨e, sz, 0⟩) := by
    intro t x hx
    have hlt := (List.getElem?_eq_some_iff.1 hx).1
    simp [St.tok] at hlt
    by_cases ht : t < st.tails.length
    · exact .inl ⟨ht, by simpa [St.tok, List.getElem?_append_left ht] using hx⟩
    · have : t = st.tails.length := by omega
      subst this
      exact .inr ⟨rfl, by simpa [St.tok, eq_comm] using hx⟩
  have hs : SEvo g0 w1 st g' w1 (st.tok ⟨e, sz, 0⟩) := ⟨.refl _ _, fun _ _ => rfl, Nat.le_refl _, fun t e' sz' n ht => by
    have hlt := (List.getElem?_eq_some_iff.1 ht).1
    exact ⟨n, by simp [St.tok, List.getElem?_append_left hlt, ht], Nat.le_refl _, fun _ => h2 t (by omega)⟩⟩
  have holdlt : ∀ t x b, st.tails[t]? = some x → (g.tk t).ownBlock = some b → b < w.heap.size := by
    rintro t ⟨e', sz', n⟩ b hx hb
    obtain ⟨xs, k1, _⟩ := h.tail t e' sz' n hx
    exact (k1.lt b hb).2
  have hvb : v.ownBlock = some w.heap.size := rfl
  refine ⟨g', h1, ⟨hinv0.base, fun o ty cs hx => ?_, fun o es hx => ?_, fun o x hx => hinv0.raw o x hx, hinv0.ne, ?_, ?_, ?_, hinv0.glob⟩, hst0.trans ⟨hs, .refl _ _, fun _ _ => rfl⟩⟩
  · obtain ⟨k1, k2, vs, k3, k4, k5⟩ := hinv0.row o ty cs hx
    exact ⟨k1, k2, vs, k3, k4, fun i c u hc hu => ⟨(k5 i c u hc hu).1.mono hs, (k5 i c u hc hu).2⟩⟩
  · obtain ⟨k1, ms, c, k3, k4, k5, k6⟩ := hinv0.map o es hx
    exact ⟨k1, ms, c, k3, k4, fun i k y m a b => ⟨(k5 i k y m a b).1, (k5 i k y m a b).2.mono hs⟩, k6⟩
  · intro t e' sz' n ht
    rcases hold t _ ht with ⟨hlt, ht'⟩ | ⟨rfl, he⟩
    · rw [h2 t (by omega)]; exact hinv0.tail t e' sz' n ht'
    · cases he
      rw [h1]
      refine ⟨[], ⟨by simp, .inr ⟨w.heap.size, 0, #[], rfl, h.base, hnewb, Nat.le_refl _, by simp [maxLen], by simp, by simp⟩⟩, fun b hb => ?_⟩
      rw [hvb] at hb
      cases hb
      rw [Nat.zero_mul]; exact hlim0
  · intro t t' x x' b hne ht ht' hb
    rcases hold t _ ht with ⟨hlt, k⟩ | ⟨rfl, he⟩
    · rw [h2 t (by omega)] at hb
      rcases hold t' _ ht' with ⟨hlt', k'⟩ | ⟨rfl, he'⟩
      · rw [h2 t' (by omega)]; exact h.tailNe t t' x x' b hne k k' hb
      · rw [h1, hvb]
        intro he; cases he
        have := holdlt t x _ k hb
        omega
    · rw [h1, hvb] at hb
      cases hb
      rcases hold t' _ ht' with ⟨hlt', k'⟩ | ⟨rfl, he'⟩
      · rw [h2 t' (by omega)]
        intro hb'
        have := holdlt t' x' _ k' hb'
        omega
      · exact absurd rfl hne
  · intro t x o ht ho
    rcases hold t _ ht with ⟨hlt, k⟩ | ⟨rfl, he⟩
    · rw [h2 t (by omega)]; exact h.tailObj t x o k ho
    · rw [h1, hvb]
      intro he
      have hlt := (h.live_lt ho).1
      have he' : w.heap.size = g.ob o := by injection he
      omega

section rules
variable {P : Program} {base : Nat} {env : Env} {st : St} {d : Option Tmp} {ty : TypeId} {pos : String} {after : Array Edge} {gd : Option (Nat × Bool)} {t t2 e : TypeId} {x y z : Operand}
theorem v_build0T {inf : TypeInfo} {sz : Nat} (ht : P.underlying t = some (.slice e)) (hi : P.info? e = some inf) (hsz : inf.size = sz) :
    OpV P base env st ⟨d, .buildSlice t 0 #[], ty, pos, after, gd⟩ (.tsl sz [] st.tails.length) (st.tok ⟨e, sz, 0⟩) := by
  intro g w tmps hinv he
  obtain ⟨g', h1, h2, h3⟩ := hinv.newTokRow e sz
  refine ⟨_, g', _, ?_, .tsl sz [] _ (.slice (some ⟨w.heap.size, 0, none⟩) 0 0) e 0 (.sl sz [] _ 0 0 (Nat.le_refl _) (by simp) (by simp) (by simp)) (by simp [St.tok]) (Nat.le_refl _) (fun _ => h1.symm), h2, h3⟩
  simp [execOp, Instr.buildSlice, run_underlying ht, size_of hi, newRow, Instr.fill]
  rw [show Array.map (fun _ => (default : Value)) (Array.range 0) = #[] from by simp [Array.range_zero']]
end rules
end Go.Abs
