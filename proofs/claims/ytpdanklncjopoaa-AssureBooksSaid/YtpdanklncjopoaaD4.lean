/- Calls that turn what the caller owns; variables in memory that hold a slice that grows. -/
import Derived.Test.YtpdanklncjopoaaG2
set_option linter.unusedSimpArgs false
set_option linter.unusedVariables false
set_option linter.unusedSectionVars false
namespace Go.Abs
open Go.RowKit
section call
variable {P : Program} {f : FuncId} {N : Nat} {S : Start} {Q : EV → St → Prop} {k : List Item} {env : Env} {st : St} {ops rest : List Oper}
  {d : Option Tmp} {ty : TypeId} {pos : String} {after : Array Edge}
theorem put_weak {d : Option Tmp} {x r : EV} (hle : EVle x r) (h : AOps P f N S Q ops rest k (env.put d r) st) : AOps P f N S Q ops rest k (env.put d x) st := by
  cases d with
  | none => exact h
  | some t =>
    intro i hi g w tmps hinv hh he hn
    refine h i hi g w tmps hinv hh (fun j y hy => ?_) hn
    unfold Env.put lookup at hy
    cases hb : Nat.beq j t with
    | true =>
      rw [hb] at hy
      simp only [Option.some.injEq] at hy
      subst hy
      have := Nat.eq_of_beq_eq_true hb
      subst this
      obtain ⟨v, h1, h2⟩ := he j x (by unfold Env.put lookup; rw [Nat.beq_refl])
      exact ⟨v, h1, hle _ _ _ _ h2⟩
    | false =>
      rw [hb] at hy
      exact he j y (by unfold Env.put lookup; rw [hb]; exact hy)
/-- A call by a contract on a part of the state. -/
theorem AOps.callF {f' : FuncId} {l : List Operand} {ts : Array TypeId} {es0 es : List EV} {x r : EV} {s0 s1 st' : St} (hen : Enters P f') (hd : dstOk N d = true) (rs tk : List Nat)
    (h1 : evos env l = some es) (hc : ACallS P f' es0 s0 (QE r s1)) (hle : EVlesE es (es0.map (EV.ren (renF rs st.objs.length) (renF tk st.tails.length))))
    (hp : (partB rs tk s0 st && es0.all (okEV s0.objs.length s0.tails.length)) = true) (h5 : s0.objs.all (okObj s0.objs.length s0.tails.length) = true)
    (ho : rs.map (fun r => st.objs[r]?) = s0.objs.map (fun x => some (x.ren (renF rs st.objs.length) (renF tk st.tails.length)))) (ht : tk.map (fun r => st.tails[r]?) = s0.tails.map some)
    (hx : r.ren (renF rs st.objs.length) (renF tk st.tails.length) = x) (hs : mergeSt st s1 rs tk = st')
    (hk : AOps P f N S Q ops rest k (env.put d x) st') :
    AOps P f N S Q ops (⟨d, .call ⟨.value (.func f'), l.toArray, ts⟩, ty, pos, after, none⟩ :: rest) k env st := by
  simp only [Bool.and_eq_true] at hp
  refine .callS hen hd h1 ((hc.frame rs tk hp.1 h5 hp.2 ho ht).le hle) fun y s hq => ?_
  obtain ⟨hle, rfl⟩ := hq
  rw [hx] at hle
  rw [hs]
  exact put_weak hle hk
/-- The same through a closure. -/
theorem AOps.callFC {f' : FuncId} {l : List Operand} {ts : Array TypeId} {es0 es cs : List EV} {x r : EV} {y : Operand} {s0 s1 st' : St} (hen : Enters P f') (hd : dstOk N d = true) (hy : evo env y = some (.clo f' cs)) (rs tk : List Nat)
    (h1 : evos env l = some es) (hc : ACallS P f' es0 s0 (QE r s1)) (hle : EVlesE (es ++ cs) (es0.map (EV.ren (renF rs st.objs.length) (renF tk st.tails.length))))
    (hp : (partB rs tk s0 st && es0.all (okEV s0.objs.length s0.tails.length)) = true) (h5 : s0.objs.all (okObj s0.objs.length s0.tails.length) = true)
    (ho : rs.map (fun r => st.objs[r]?) = s0.objs.map (fun x => some (x.ren (renF rs st.objs.length) (renF tk st.tails.length)))) (ht : tk.map (fun r => st.tails[r]?) = s0.tails.map some)
    (hx : r.ren (renF rs st.objs.length) (renF tk st.tails.length) = x) (hs : mergeSt st s1 rs tk = st')
    (hk : AOps P f N S Q ops rest k (env.put d x) st') :
    AOps P f N S Q ops (⟨d, .call ⟨.value y, l.toArray, ts⟩, ty, pos, after, none⟩ :: rest) k env st := by
  simp only [Bool.and_eq_true] at hp
  have hc' := (hc.frame rs tk hp.1 h5 hp.2 ho ht).le hle
  refine .callC hen hd hy h1 hc' fun y s hq => ?_
  obtain ⟨hle, rfl⟩ := hq
  rw [hx] at hle
  rw [hs]
  exact put_weak hle hk
end call

theorem okArr {n m : Nat} {T : TypeId} {α : Type} {l : List α} {c1 : α → D} : okObj n m (.row T (l.map fun b => EV.d (c1 b))) = true := by simp [okObj, okEV]
theorem okCons {n m : Nat} {x : AObj} {l : List AObj} (h1 : okObj n m x = true) (h2 : l.all (okObj n m) = true) : (x :: l).all (okObj n m) = true := by
  simp [h1]; simpa using h2
theorem okBoth {a b : Bool} (h1 : a = true) (h2 : b = true) : (a && b) = true := by rw [h1, h2]; rfl
section tok
variable {P : Program} {f : FuncId} {N : Nat} {S : Start} {Q : EV → St → Prop} {k : List Item} {todo : List Item} {env : Env} {st : St} {ops rest : List Oper}
/-- A nil slice in a variable in memory becomes one that grows. -/
theorem Inv.tokCell {g : Ghost} {base : Nat} {w : World} {o ci : Nat} {T : TypeId} {cs : List EV} (h : Inv g base w st) (ho : st.objs[o]? = some (.row T cs)) (hc : cs[ci]? = some (.d (.ex (.slice none 0 0)))) (e sz : Nat) :
    ∃ g', Inv g' base w ((st.tok ⟨e, sz, 0, none⟩).set o (.row T (cs.set ci (.tsl sz [] st.tails.length)))) ∧ Step base g w st g' w ((st.tok ⟨e, sz, 0, none⟩).set o (.row T (cs.set ci (.tsl sz [] st.tails.length)))) := by
  obtain ⟨g1, h1, h2, h3⟩ := h.newTok e sz
  have ho1 : (st.tok ⟨e, sz, 0, none⟩).objs[o]? = some (.row T cs) := ho
  obtain ⟨b1, b2, vs, b3, b4, b5⟩ := h2.row o T cs ho1
  obtain ⟨hi, hs⟩ := h2.setBlock (o := o) (x := .row T (cs.set ci (.tsl sz [] st.tails.length))) (w' := w) ⟨_, ho1, by simp⟩ b2 rfl (fun _ _ => rfl) rfl rfl rfl
    (fun hsv ty' cs' hx' => by
      cases hx'
      refine ⟨vs, b3, by simpa using b4, fun i c u hci hu => ?_⟩
      rw [List.getElem?_set] at hci
      split at hci
      · rename_i hic
        subst hic
        split at hci
        · cases hci
          have h0 := b5 ci _ u hc hu
          refine ⟨?_, h0.2⟩
          have hu0 : u = .slice none 0 0 := h0.1.ex_inv
          subst hu0
          exact .tsl sz [] _ _ e 0 (.nil sz _) (by simp [St.tok, St.set]) (Nat.le_refl _) (fun _ => h1.symm)
        · cases hci
      · have h0 := b5 i c u hci hu
        exact ⟨h0.1.mono hsv, h0.2⟩) (fun _ es hx' => by cases hx')
  exact ⟨g1, hi, h3.trans hs⟩
theorem ARun.tokCell {o ci : Nat} {T : TypeId} {cs : List EV} {e sz : Nat} (ho : st.objs[o]? = some (.row T cs)) (hc : cs[ci]? = some (.d (.ex (.slice none 0 0))))
    (h : ARun P f N S Q todo env ((st.tok ⟨e, sz, 0, none⟩).set o (.row T (cs.set ci (.tsl sz [] st.tails.length))))) : ARun P f N S Q todo env st := by
  intro g w tmps hinv hh he hn
  obtain ⟨g', h1, h2⟩ := hinv.tokCell ho hc e sz
  exact h g' w tmps h1 (hh.step h2) (he.mono h2.sevo) hn
theorem AOps.tokCell {o ci : Nat} {T : TypeId} {cs : List EV} {e sz : Nat} (ho : st.objs[o]? = some (.row T cs)) (hc : cs[ci]? = some (.d (.ex (.slice none 0 0))))
    (h : AOps P f N S Q ops rest k env ((st.tok ⟨e, sz, 0, none⟩).set o (.row T (cs.set ci (.tsl sz [] st.tails.length))))) : AOps P f N S Q ops rest k env st :=
  fun j hj => .tokCell ho hc (h j hj)
end tok
end Go.Abs
