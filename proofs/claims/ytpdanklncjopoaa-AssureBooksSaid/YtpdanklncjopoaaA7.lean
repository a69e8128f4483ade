/- Rules that make and turn memory: boxes, stores, slices that grow. -/
import Derived.Test.YtpdanklncjopoaaA6
set_option linter.unusedSimpArgs false
set_option linter.unusedVariables false
namespace Go.Abs
open Go.RowKit

/-- The cells of a value, each described. -/
def cellsE : EV → Option (List EV)
  | .d (.ex v) => if v.oneCell' then some [.d (.ex v)] else none
  | .d (.agg cs) => some (cs.map EV.d)
  | .d (.sl sz rows) => some [.d (.sl sz rows)]
  | .d (.ro cs) => some [.d (.ro cs)]
  | .d (.e0 sz) => some [.d (.e0 sz)]
  | .ref o off => some [.ref o off]
  | .osl o off n c => some [.osl o off n c]
  | .tsl sz rows t => some [.tsl sz rows t]
  | .mp o => some [.mp o]
  | .clo f cs => some [.clo f cs]
  | .vc t k => some [.vc t k]
  | .vp t k i off => some [.vp t k i off]
  | .vw t k lo n => some [.vw t k lo n]
  | .agg cs => some cs
  | _ => none
theorem cells_one {v : Value} (h : v.oneCell' = true) : v.cells = #[v] := by cases v <;> first | rfl | cases h
theorem cellsE_rep {g : Ghost} {w : World} {st : St} {e : EV} {cs : List EV} {v : Value} (h : cellsE e = some cs) (hv : EVRep g w st e v) :
    v.cells.size = cs.length ∧ ∀ (i : Nat) c u, cs[i]? = some c → v.cells[i]? = some u → EVRep g w st c u ∧ u.oneCell' = true := by
  have one : ∀ (hv1 : v.oneCell' = true) (hcs : cs = [e]), v.cells.size = cs.length ∧ ∀ (i : Nat) c u, cs[i]? = some c → v.cells[i]? = some u → EVRep g w st c u ∧ u.oneCell' = true := by
    intro hv1 hcs
    subst hcs
    rw [cells_one hv1]
    refine ⟨rfl, fun i c u hc hu => ?_⟩
    match i with
    | 0 => simp at hc hu; subst hc; subst hu; exact ⟨hv, hv1⟩
    | n + 1 => simp at hc
  cases hv with
  | d x _ hd =>
    cases hd with
    | ex =>
      simp only [cellsE] at h
      split at h
      · rename_i h1
        simp only [Option.some.injEq] at h
        exact one h1 h.symm
      · cases h
    | agg ds vs hs h1 hr =>
      simp only [cellsE, Option.some.injEq] at h
      subst h
      refine ⟨by simpa [Value.cells] using hs, fun i c u hc hu => ?_⟩
      rw [List.getElem?_map] at hc
      cases hx : ds[i]? with
      | none => rw [hx] at hc; cases hc
      | some y =>
        rw [hx] at hc
        simp only [Option.map_some, Option.some.injEq] at hc
        subst hc
        exact ⟨.d _ _ (hr i y u hx (by simpa [Value.cells] using hu)), h1 i u (by simpa [Value.cells] using hu)⟩
    | tup => cases h
    | nil => simp only [cellsE, Option.some.injEq] at h; exact one rfl h.symm
    | sl => simp only [cellsE, Option.some.injEq] at h; exact one rfl h.symm
    | ro => simp only [cellsE, Option.some.injEq] at h; exact one rfl h.symm
    | e0 => simp only [cellsE, Option.some.injEq] at h; exact one rfl h.symm
    | any => cases h
  | ref => simp only [cellsE, Option.some.injEq] at h; exact one rfl h.symm
  | osl => simp only [cellsE, Option.some.injEq] at h; exact one rfl h.symm
  | tsl _ _ _ _ _ _ hd =>
    simp only [cellsE, Option.some.injEq] at h
    obtain ⟨A, c, hv⟩ := sl_form hd
    exact one (by rw [hv]; rfl) h.symm
  | mp => simp only [cellsE, Option.some.injEq] at h; exact one rfl h.symm
  | clo => simp only [cellsE, Option.some.injEq] at h; exact one rfl h.symm
  | agg ds vs hs h1 hr =>
    simp only [cellsE, Option.some.injEq] at h
    subst h
    exact ⟨by simpa [Value.cells] using hs, fun i c u hc hu => ⟨hr i c u hc (by simpa [Value.cells] using hu), h1 i u (by simpa [Value.cells] using hu)⟩⟩
  | tup => cases h
  | gd => cases h
  | vc _ _ _ _ hf => simp only [cellsE, Option.some.injEq] at h; obtain ⟨A, n, c, rfl⟩ := hf; exact one rfl h.symm
  | vp _ _ _ _ _ _ hf => simp only [cellsE, Option.some.injEq] at h; obtain ⟨b, o, rfl⟩ := hf; exact one rfl h.symm
  | vw _ _ _ _ _ _ hf => simp only [cellsE, Option.some.injEq] at h; obtain ⟨A, c, rfl⟩ := hf; exact one rfl h.symm

section v
variable {P : Program} {base : Nat} {env : Env} {st : St} {d : Option Tmp} {ty : TypeId} {pos : String} {after : Array Edge} {gd : Option (Nat × Bool)} {t t2 : TypeId} {x y : Operand}

/-- A variable that lives in memory is made: 'box'. -/
theorem v_box {e : EV} {cs : List EV} (hx : evo env x = some e) (hc : cellsE e = some cs) : OpV P base env st ⟨d, .box t x, ty, pos, after, gd⟩ (.ref st.objs.length 0) (st.add (.row t cs)) := by
  intro g w tmps hinv he
  obtain ⟨h1, h2⟩ := cellsE_rep hc (evo_rep he hx)
  obtain ⟨g', hi, hs, hob⟩ := hinv.newObj (.row t cs) (.cells (Act.eval ⟨tmps, []⟩ x).cells t) (fun ty' cs' e => by cases e; exact ⟨_, rfl, h1, h2⟩) (fun es e => by cases e)
  refine ⟨.pointer (some ⟨w.heap.size, 0, none⟩), g', _, ?_, ?_, hi, hs⟩
  · simp [execOp, Instr.box, newVar, newRow]
  · rw [← hob]; exact .ref _ _ (by simp [St.add])

/-- A zero variable. -/
theorem v_alloc {z : Value} {cs : List EV} (hz : (P.info? t).bind (·.zero) = some z) (hc : cellsE (.d (cv z)) = some cs) : OpV P base env st ⟨d, .alloc t, ty, pos, after, gd⟩ (.ref st.objs.length 0) (st.add (.row t cs)) := by
  intro g w tmps hinv he
  obtain ⟨h1, h2⟩ := cellsE_rep (g := g) (w := w) (st := st) hc (.d _ _ (cv_rep _ _ z))
  obtain ⟨g', hi, hs, hob⟩ := hinv.newObj (.row t cs) (.cells z.cells t) (fun ty' cs' e => by cases e; exact ⟨_, rfl, h1, h2⟩) (fun es e => by cases e)
  obtain ⟨inf, hinf, hz'⟩ : ∃ inf, P.info? t = some inf ∧ inf.zero = some z := by
    cases hh : P.info? t with
    | none => rw [hh] at hz; cases hz
    | some inf => rw [hh] at hz; exact ⟨inf, rfl, hz⟩
  refine ⟨.pointer (some ⟨w.heap.size, 0, none⟩), g', _, ?_, ?_, hi, hs⟩
  · simp [execOp, Instr.alloc, zeroValue, typeInfo, hinf, hz', newVar, newRow]
  · rw [← hob]; exact .ref _ _ (by simp [St.add])

def putCells (cs : List EV) (off : Nat) (new : List EV) : List EV := cs.take off ++ new ++ cs.drop (off + new.length)

/-- A store into an owned object. -/
theorem u_store {o off : Nat} {T : TypeId} {cs new : List EV} {e : EV} (hx : evo env x = some (.ref o off)) (hy : evo env y = some e) (ho : st.objs[o]? = some (.row T cs)) (hc : cellsE e = some new) (hn : off + new.length ≤ cs.length)
    (hs : (P.info? t).map (·.size) = some new.length) : OpU P base env st ⟨d, .store t x y, ty, pos, after, gd⟩ (st.set o (.row T (putCells cs off new))) := by
  intro g w tmps hinv he
  have h := evo_rep he hx
  generalize hv : Act.eval ⟨tmps, []⟩ x = v at h
  obtain ⟨k1, k2⟩ := cellsE_rep hc (evo_rep he hy)
  generalize hu : Act.eval ⟨tmps, []⟩ y = u at k1 k2
  cases h with
  | ref _ _ hlt =>
    obtain ⟨hb, hl, vs, hbk, hsz, hreps⟩ := hinv.row o T cs ho
    have hlen : u.cells.toList.length = new.length := by simpa using k1
    have hst := run_storeCells_at P (g.ob o) off T u.cells.toList 0 vs w hbk (by simp only [Nat.add_zero, hlen]; omega) (fun a ha => by
      obtain ⟨i, hi⟩ := List.mem_iff_getElem?.1 ha
      have hi' : u.cells[i]? = some a := by simpa using hi
      have hlt' : i < new.length := by rw [← k1]; exact (Array.getElem?_eq_some_iff.1 hi').1
      exact (k2 i new[i] a (List.getElem?_eq_getElem hlt') hi').2)
    simp only [Nat.add_zero] at hst
    obtain ⟨inf, hinf, hsz'⟩ : ∃ inf, P.info? t = some inf ∧ inf.size = new.length := by
      cases hh : P.info? t with
      | none => rw [hh] at hs; cases hs
      | some inf => rw [hh] at hs; exact ⟨inf, rfl, by simpa using hs⟩
    obtain ⟨hinv', hstep⟩ := hinv.setBlock (o := o) (x := .row T (putCells cs off new)) (w' := w.setRow (g.ob o) (vs.toList.take off ++ u.cells.toList ++ vs.toList.drop (off + u.cells.toList.length)).toArray)
      ⟨_, ho, by simp⟩ hl (by simp) (fun b hb' => setRow_other w _ b _ hb') rfl rfl rfl
      (fun hsv ty' cs' hx' => by
        cases hx'
        refine ⟨_, setRow_heap w _ vs _ T (0, 0) hbk, by simp [putCells, hsz, k1], fun i c a hc' ha => ?_⟩
        have hmain : EVRep g w st c a ∧ a.oneCell' = true := by
          simp only [putCells] at hc'
          have ha' : (vs.toList.take off ++ u.cells.toList ++ vs.toList.drop (off + u.cells.toList.length))[i]? = some a := by simpa using ha
          by_cases h1 : i < off
          · rw [List.append_assoc, List.getElem?_append_left (by simp; omega), List.getElem?_take, if_pos h1] at hc' ha'
            exact hreps i c a hc' (by simpa using ha')
          · by_cases h2 : i < off + new.length
            · rw [List.append_assoc, List.getElem?_append_right (by simp; omega), List.getElem?_append_left (by simp [hlen, hsz]; omega)] at hc' ha'
              have e1 : (cs.take off).length = off := by simp; omega
              have e2 : (vs.toList.take off).length = off := by simp; omega
              rw [e1] at hc'
              rw [e2] at ha'
              exact k2 (i - off) c a hc' (by simpa using ha')
            · rw [List.getElem?_append_right (by simp [hlen, hsz]; omega)] at hc' ha'
              have e1 : (cs.take off ++ new).length = off + new.length := by simp; omega
              have e2 : (vs.toList.take off ++ u.cells.toList).length = off + new.length := by simp [hlen]; omega
              rw [e1, List.getElem?_drop] at hc'
              rw [e2, List.getElem?_drop, hlen] at ha'
              exact hreps _ c a hc' (by simpa using ha')
        exact ⟨hmain.1.mono hsv, hmain.2⟩) (fun _ es hx' => by cases hx')
    refine ⟨g, _, ?_, hinv', hstep⟩
    simp [execOp, hv, hu, Instr.storeAt, Instr.sureAddr, storeVar, sizeOf, typeInfo, hinf, hsz', k1, hst]
end v
end Go.Abs
