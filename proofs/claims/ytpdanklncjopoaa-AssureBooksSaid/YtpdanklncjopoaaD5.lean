/- Ranges over strings. -/
import Derived.Test.YtpdanklncjopoaaD4
import Derived.Laws.RangeString
import Derived.Laws.RangeAny
set_option linter.unusedSimpArgs false
set_option linter.unusedVariables false
set_option linter.unusedSectionVars false
namespace Go.Abs
open Go.RowKit
def runeAt (l : List UInt8) (p : Nat) : Nat × Nat := Utf8.decode ⟨l.toArray⟩ p
def nextD (l : List UInt8) (p : Nat) : D := if p < l.length then .tup [cB true, cI p, .ex (.int .i32 ((runeAt l p).1 : Int))] else .tup [cB false]
def nextP (l : List UInt8) (p : Nat) : Nat := if p < l.length then p + (runeAt l p).2 else p
theorem runeAt_ascii {l : List UInt8} {p : Nat} (h : p < l.length) (ha : (nth l p).toNat < 128) : runeAt l p = ((nth l p).toNat, 1) := by
  have hs : p < (⟨l.toArray⟩ : ByteArray).size := h
  have e : ((⟨l.toArray⟩ : ByteArray)[p]'hs) = nth l p := by rw [nth_eq h]; rfl
  unfold runeAt
  rw [decode_ascii _ p hs (by rw [e]; exact ha), e]
theorem runeAt_high {l : List UInt8} {p : Nat} (h : p < l.length) (ha : 128 ≤ (nth l p).toNat) : 128 ≤ (runeAt l p).1 := by
  have hs : p < (⟨l.toArray⟩ : ByteArray).size := h
  have e : ((⟨l.toArray⟩ : ByteArray)[p]'hs) = nth l p := by rw [nth_eq h]; rfl
  exact (decode_high _ p hs (by rw [e]; exact ha)).1
section rules
variable {P : Program} {base : Nat} {env : Env} {st : St} {d : Option Tmp} {ty : TypeId} {pos : String} {after : Array Edge} {gd : Option (Nat × Bool)} {t : TypeId} {x : Operand}
theorem v_range {l : List UInt8} (ht : P.underlying t = some .string) (hx : evo env x = some (.d (cS l))) : OpV P base env st ⟨d, .range t x, ty, pos, after, gd⟩ (.ref st.objs.length 0) (st.add (.raw (.stringIter ⟨l.toArray⟩ 0))) := by
  intro g w tmps hinv he
  have hv := drep_ex (by cases evo_rep he hx with | d _ _ h => exact h)
  obtain ⟨g', hi, hs, hob⟩ := hinv.newObj (.raw (.stringIter ⟨l.toArray⟩ 0)) (.stringIter ⟨l.toArray⟩ 0) (fun ty' cs' e => by cases e) (fun es e => by cases e) (fun y e => by cases e; rfl)
  refine ⟨.pointer (some ⟨w.heap.size, 0, none⟩), g', _, ?_, ?_, hi, hs⟩
  · simp only [execOp]
    rw [hv]
    simp [run_range_string w t _ ht, World.iter]
  · rw [← hob]; exact .ref _ _ (by simp [St.add])
theorem v_next {o p : Nat} {l : List UInt8} (hx : evo env x = some (.ref o 0)) (ho : st.objs[o]? = some (.raw (.stringIter ⟨l.toArray⟩ p))) : OpV P base env st ⟨d, .next x true, ty, pos, after, gd⟩ (.d (nextD l p)) (st.set o (.raw (.stringIter ⟨l.toArray⟩ (nextP l p)))) := by
  intro g w tmps hinv he
  have h := evo_rep he hx
  generalize hv : Act.eval ⟨tmps, []⟩ x = v at h
  cases h with
  | ref _ _ hlt =>
    obtain ⟨hb, hl, hbk⟩ := hinv.raw o _ ho
    obtain ⟨hinv', hstep⟩ := hinv.setBlock (o := o) (x := .raw (.stringIter ⟨l.toArray⟩ (nextP l p))) (w' := { w with heap := w.heap.setIfInBounds (g.ob o) (.stringIter ⟨l.toArray⟩ (nextP l p)) })
      ⟨_, ho, by simp⟩ hl (by simp) (fun b hb' => by simp [Array.getElem?_setIfInBounds, Ne.symm hb']) rfl rfl rfl (fun _ ty' cs' e => by cases e) (fun _ es e => by cases e)
      (fun y e => by
        cases e
        have := (Array.getElem?_eq_some_iff.1 hbk).1
        simp [Array.getElem?_setIfInBounds, this])
    by_cases hp : p < l.length
    · refine ⟨.tuple #[.bool true, .int .i64 p, .int .i32 ((runeAt l p).1 : Int)], g, _, ?_, ?_, hinv', hstep⟩
      · have hp' : p < (⟨l.toArray⟩ : ByteArray).size := hp
        simp only [execOp, hv]
        simp [Instr.next, getObj, setObj, Sem.run, hbk, hp', goInt, nextP, hp, runeAt]
      · unfold nextD
        rw [if_pos hp]
        refine .d _ _ (.tup _ _ rfl fun i c u hc hu => ?_)
        match i with
        | 0 => simp at hc hu; subst hc hu; exact .ex _
        | 1 => simp at hc hu; subst hc hu; exact .ex _
        | 2 => simp at hc hu; subst hc hu; exact .ex _
        | i + 3 => simp at hc
    · have e : nextP l p = p := by unfold nextP; rw [if_neg hp]
      rw [e] at hinv' hstep ⊢
      have hw : ({ w with heap := w.heap.setIfInBounds (g.ob o) (.stringIter ⟨l.toArray⟩ p) } : World) = w := by
        have : w.heap.setIfInBounds (g.ob o) (.stringIter ⟨l.toArray⟩ p) = w.heap := by
          apply Array.ext_getElem?
          intro j
          rw [Array.getElem?_setIfInBounds]
          split
          · rename_i hj
            subst hj
            rw [hbk]
            have := (Array.getElem?_eq_some_iff.1 hbk).1
            simp [this]
          · rfl
        rw [this]
      rw [hw] at hinv' hstep
      refine ⟨.tuple #[.bool false], g, w, ?_, ?_, hinv', hstep⟩
      · have hp' : ¬ p < (⟨l.toArray⟩ : ByteArray).size := hp
        simp only [execOp, hv]
        simp [Instr.next, getObj, Sem.run, hbk, hp']
      · unfold nextD
        rw [if_neg hp]
        refine .d _ _ (.tup _ _ rfl fun i c u hc hu => ?_)
        match i with
        | 0 => simp at hc hu; subst hc hu; exact .ex _
        | i + 1 => simp at hc
theorem q_nilRef {o off : Nat} (hx : evo env x = some (.ref o off)) : OpQ P env st ⟨d, .nilCheck x, ty, pos, after, gd⟩ (.ref o off) := fun g base w tmps hi he => by
  have h := evo_rep he hx
  generalize hv : Act.eval ⟨tmps, []⟩ x = v at h
  cases h with
  | ref _ _ hlt => exact ⟨_, .ref _ _ hlt, fun w' _ => by simp [execOp, hv]⟩
theorem nextD_0 {l : List UInt8} {p : Nat} : ∃ cs, nextD l p = .tup cs ∧ cs[0]? = some (cB (decide (p < l.length))) := by
  unfold nextD
  split
  · exact ⟨_, rfl, by simp [*]⟩
  · exact ⟨_, rfl, by simp [*]⟩
theorem q_nextOk {l : List UInt8} {p : Nat} (hx : evo env x = some (.d (nextD l p))) : OpQ P env st ⟨d, .extract x 0, ty, pos, after, gd⟩ (.d (cB (decide (p < l.length)))) := by
  obtain ⟨cs, h1, h2⟩ := nextD_0 (l := l) (p := p)
  rw [h1] at hx
  exact q_extract hx h2
theorem q_nextAt {l : List UInt8} {p : Nat} (hp : p < l.length) (hx : evo env x = some (.d (nextD l p))) : OpQ P env st ⟨d, .extract x 1, ty, pos, after, gd⟩ (.d (cI p)) := by
  unfold nextD at hx
  rw [if_pos hp] at hx
  exact q_extract hx rfl
theorem q_nextRune {l : List UInt8} {p : Nat} (hp : p < l.length) (hx : evo env x = some (.d (nextD l p))) : OpQ P env st ⟨d, .extract x 2, ty, pos, after, gd⟩ (.d (.ex (.int .i32 ((runeAt l p).1 : Int)))) := by
  unfold nextD at hx
  rw [if_pos hp] at hx
  exact q_extract hx rfl
end rules
end Go.Abs
