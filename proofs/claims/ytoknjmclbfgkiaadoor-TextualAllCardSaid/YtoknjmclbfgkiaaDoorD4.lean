/- Calls that turn what the caller owns; variables in memory that hold a slice that grows. -/
import Derived.Test.YtoknjmclbfgkiaaDoorD3
set_option linter.unusedSimpArgs false
set_option linter.unusedVariables false
set_option linter.unusedSectionVars false
namespace Go.Abs
open Go.RowKit
section call
variable {P : Program} {f : FuncId} {N : Nat} {S : Start} {Q : EV → St → Prop} {k : List Item} {env : Env} {st : St} {ops rest : List Oper}
  {d : Option Tmp} {ty : TypeId} {pos : String} {after : Array Edge}
/-- What a call leaves: data for a result, and a state. -/
def QS (r : D) (st' : St) (e : EV) (s : St) : Prop := EVle e (.d r) ∧ s = st'
/-- The same, with what the call has made beyond. -/
def QSd (r : D) (st' : St) (n m : Nat) (e : EV) (s : St) : Prop := EVle e (.d r) ∧ s.objs.take n = st'.objs ∧ s.tails.take m = st'.tails ∧ n ≤ s.objs.length ∧ m ≤ s.tails.length ∧ st'.objs.all (okObj n m) = true
theorem ACallS.dropped {args : List EV} {r : D} {st' : St} (n m : Nat) (h : ACallS P f args st (QSd r st' n m)) (hn : st.objs.length ≤ n := by exact Nat.le_of_ble_eq_true rfl) (hm : st.tails.length ≤ m := by exact Nat.le_of_ble_eq_true rfl) : ACallS P f args st (QS r st') := by
  intro g w base vs hi ha
  refine (h g w base vs hi ha).mono ?_
  rintro e w' ⟨v, ev, s, g', rfl, ⟨hle, h1, h2, h3, h4, h5⟩, hr, hinv, hh⟩
  have hst : st' = ⟨s.objs.take n, s.tails.take m⟩ := by cases st'; simp at h1 h2; rw [h1, h2]
  subst hst
  refine ⟨v, .d r, _, g', rfl, ⟨.rfl' _, rfl⟩, ?_, hinv.drop h3 h4 h5, ⟨⟨hh.sevo.evo, hh.sevo.ob, by simp; omega, fun t e sz k hk => ?_⟩, hh.below, hh.lim⟩⟩
  · cases hle _ _ _ _ hr with | d _ _ h => exact .d _ _ h
  · obtain ⟨k', q1, q2⟩ := hh.sevo.tails t e sz k hk
    have hlt := (List.getElem?_eq_some_iff.1 hk).1
    exact ⟨k', by simp [List.getElem?_take, show t < m by simp at *; omega, q1], q2⟩
theorem put_weak {d : Option Tmp} {x : EV} {r : D} (hle : EVle x (.d r)) (h : AOps P f N S Q ops rest k (env.put d (.d r)) st) : AOps P f N S Q ops rest k (env.put d x) st := by
  cases d with
  | none => exact h
  | some t =>
    intro i hi g w tmps hinv hh he hn
    refine h i hi g w tmps hinv hh (fun j y hy => ?_) hn
    unfold Env.put lookup at hy
    cases hb : Nat.beq j t with
    | true =>
      rw [hb] at hy
      simp only [Option.some.injEq] at hy
      subst hy
      have := Nat.eq_of_beq_eq_true hb
      subst this
      obtain ⟨v, h1, h2⟩ := he j x (by unfold Env.put lookup; rw [Nat.beq_refl])
      exact ⟨v, h1, hle _ _ _ _ h2⟩
    | false =>
      rw [hb] at hy
      exact he j y (by unfold Env.put lookup; rw [hb]; exact hy)
theorem AOps.callSD {f' : FuncId} {l : List Operand} {ts : Array TypeId} {es : List EV} {r : D} {st' : St} (hen : Enters P f') (hd : dstOk N d = true) (h1 : evos env l = some es)
    (hc : ACallS P f' es st (QS r st')) (hk : AOps P f N S Q ops rest k (env.put d (.d r)) st') :
    AOps P f N S Q ops (⟨d, .call ⟨.value (.func f'), l.toArray, ts⟩, ty, pos, after, none⟩ :: rest) k env st :=
  .callS hen hd h1 hc fun x s hq => by rw [hq.2]; exact put_weak hq.1 hk
theorem AOps.callCD {f' : FuncId} {l : List Operand} {ts : Array TypeId} {es cs : List EV} {x : Operand} {r : D} {st' : St} (hen : Enters P f') (hd : dstOk N d = true) (hx : evo env x = some (.clo f' cs)) (h1 : evos env l = some es)
    (hc : ACallS P f' (es ++ cs) st (QS r st')) (hk : AOps P f N S Q ops rest k (env.put d (.d r)) st') :
    AOps P f N S Q ops (⟨d, .call ⟨.value x, l.toArray, ts⟩, ty, pos, after, none⟩ :: rest) k env st :=
  .callC hen hd hx h1 hc fun x s hq => by rw [hq.2]; exact put_weak hq.1 hk
end call

/-! ### what a list of objects keeps to -/
theorem okEV_mono {n m n' m' : Nat} (hn : Nat.ble n n' = true) (hm : Nat.ble m m' = true) {x : EV} (h : okEV n m x = true) : okEV n' m' x = true := by
  have h1 := Nat.le_of_ble_eq_true hn
  have h2 := Nat.le_of_ble_eq_true hm
  have lt : ∀ {a b c : Nat}, b ≤ c → Nat.blt a b = true → Nat.blt a c = true := fun hbc hab => by
    have := blt_lt hab
    exact Nat.ble_eq_true_of_le (by omega)
  cases x <;> first | exact h | exact lt h1 h | exact lt h2 h
theorem okMono {n m n' m' : Nat} {x : AObj} (h : okObj n m x = true) (hn : Nat.ble n n' = true) (hm : Nat.ble m m' = true) : okObj n' m' x = true := by
  cases x with
  | row T cs =>
    simp only [okObj, List.all_eq_true] at h ⊢
    exact fun c hc => okEV_mono hn hm (h c hc)
  | map es =>
    simp only [okObj, List.all_eq_true] at h ⊢
    exact fun c hc => okEV_mono hn hm (h c hc)
  | raw x => rfl
  | gone => rfl
theorem okCons {n m : Nat} {x : AObj} {l : List AObj} (h1 : okObj n m x = true) (h2 : l.all (okObj n m) = true) : (x :: l).all (okObj n m) = true := by
  simp [h1]; simpa using h2
theorem okBoth {a b : Bool} (h1 : a = true) (h2 : b = true) : (a && b) = true := by rw [h1, h2]; rfl

section tok
variable {P : Program} {f : FuncId} {N : Nat} {S : Start} {Q : EV → St → Prop} {k : List Item} {todo : List Item} {env : Env} {st : St} {ops rest : List Oper}
/-- A nil slice in a variable in memory becomes one that grows. -/
theorem Inv.tokCell {g : Ghost} {base : Nat} {w : World} {o ci : Nat} {T : TypeId} {cs : List EV} (h : Inv g base w st) (ho : st.objs[o]? = some (.row T cs)) (hc : cs[ci]? = some (.d (.ex (.slice none 0 0)))) (e sz : Nat) :
    ∃ g', Inv g' base w ((st.tok ⟨e, sz, 0⟩).set o (.row T (cs.set ci (.tsl sz [] st.tails.length)))) ∧ Step base g w st g' w ((st.tok ⟨e, sz, 0⟩).set o (.row T (cs.set ci (.tsl sz [] st.tails.length)))) := by
  obtain ⟨g1, h1, h2, h3⟩ := h.newTok e sz
  have ho1 : (st.tok ⟨e, sz, 0⟩).objs[o]? = some (.row T cs) := ho
  obtain ⟨b1, b2, vs, b3, b4, b5⟩ := h2.row o T cs ho1
  obtain ⟨hi, hs⟩ := h2.setBlock (o := o) (x := .row T (cs.set ci (.tsl sz [] st.tails.length))) (w' := w) ⟨_, ho1, by simp⟩ b2 rfl (fun _ _ => rfl) rfl rfl rfl
    (fun hsv ty' cs' hx' => by
      cases hx'
      refine ⟨vs, b3, by simpa using b4, fun i c u hci hu => ?_⟩
      rw [List.getElem?_set] at hci
      split at hci
      · rename_i hic
        subst hic
        split at hci
        · cases hci
          have h0 := b5 ci _ u hc hu
          refine ⟨?_, h0.2⟩
          have hu0 : u = .slice none 0 0 := h0.1.ex_inv
          subst hu0
          exact .tsl sz [] _ _ e 0 (.nil sz _) (by simp [St.tok, St.set]) (Nat.le_refl _) (fun _ => h1.symm)
        · cases hci
      · have h0 := b5 i c u hci hu
        exact ⟨h0.1.mono hsv, h0.2⟩) (fun _ es hx' => by cases hx')
  exact ⟨g1, hi, h3.trans hs⟩
theorem ARun.tokCell {o ci : Nat} {T : TypeId} {cs : List EV} {e sz : Nat} (ho : st.objs[o]? = some (.row T cs)) (hc : cs[ci]? = some (.d (.ex (.slice none 0 0))))
    (h : ARun P f N S Q todo env ((st.tok ⟨e, sz, 0⟩).set o (.row T (cs.set ci (.tsl sz [] st.tails.length))))) : ARun P f N S Q todo env st := by
  intro g w tmps hinv hh he hn
  obtain ⟨g', h1, h2⟩ := hinv.tokCell ho hc e sz
  exact h g' w tmps h1 (hh.step h2) (he.mono h2.sevo) hn
theorem AOps.tokCell {o ci : Nat} {T : TypeId} {cs : List EV} {e sz : Nat} (ho : st.objs[o]? = some (.row T cs)) (hc : cs[ci]? = some (.d (.ex (.slice none 0 0))))
    (h : AOps P f N S Q ops rest k env ((st.tok ⟨e, sz, 0⟩).set o (.row T (cs.set ci (.tsl sz [] st.tails.length))))) : AOps P f N S Q ops rest k env st :=
  fun j hj => .tokCell ho hc (h j hj)
end tok
end Go.Abs
