/- Literals of structs, arrays and slices; closures. -/
import Derived.Test.YtpdanklncjopoaaB1
set_option linter.unusedSimpArgs false
set_option linter.unusedVariables false
set_option linter.unusedSectionVars false
namespace Go.Abs
open Go.RowKit

/-- One part laid into cells, as the model does it. -/
def lay (cells new : Array Value) (off : Nat) : Array Value := new.zipIdx.foldl (fun cs (c, j) => cs.setIfInBounds (off + j) c) cells
theorem lay_list (off : Nat) : ∀ (l : List Value) (k : Nat) (cells : Array Value), ((l.zipIdx k).foldl (fun (cs : Array Value) (p : Value × Nat) => cs.setIfInBounds (off + p.2) p.1) cells).size = cells.size ∧
    ∀ i, i < cells.size → ((l.zipIdx k).foldl (fun (cs : Array Value) (p : Value × Nat) => cs.setIfInBounds (off + p.2) p.1) cells)[i]? = if off + k ≤ i ∧ i < off + k + l.length then l[i - (off + k)]? else cells[i]?
  | [], k, cells => by simp; intro i hi h1 h2; omega
  | v :: l, k, cells => by
    obtain ⟨h1, h2⟩ := lay_list off l (k + 1) (cells.setIfInBounds (off + k) v)
    rw [List.zipIdx_cons, List.foldl_cons]
    refine ⟨by rw [h1]; simp, fun i hi => ?_⟩
    rw [h2 i (by simpa using hi)]
    by_cases hc : off + (k + 1) ≤ i ∧ i < off + (k + 1) + l.length
    · rw [if_pos hc, if_pos (by simp; omega)]
      have : i - (off + k) = (i - (off + (k + 1))) + 1 := by omega
      rw [this, List.getElem?_cons_succ]
    · rw [if_neg hc]
      by_cases he : i = off + k
      · subst he
        rw [if_pos (by simp)]
        simp [hi]
      · rw [if_neg (by simp; omega)]
        simp [Array.getElem?_setIfInBounds, Ne.symm he]
theorem lay_get (cells new : Array Value) (off : Nat) (h : off + new.size ≤ cells.size) :
    (lay cells new off).size = cells.size ∧ ∀ i, i < cells.size → (lay cells new off)[i]? = if off ≤ i ∧ i < off + new.size then new[i - off]? else cells[i]? := by
  have := lay_list off new.toList 0 cells
  unfold lay
  rw [← Array.foldl_toList, Array.toList_zipIdx]
  simpa using this

/-- Cells that are described one by one. -/
def CRep (lim : Nat → Nat) (w : World) (cs : List D) (vs : Array Value) : Prop :=
  vs.size = cs.length ∧ ∀ (i : Nat) c (u : Value), cs[i]? = some c → vs[i]? = some u → DRep lim w c u ∧ u.oneCell' = true
def putD (cs : List D) (off : Nat) (new : List D) : List D := cs.take off ++ new ++ cs.drop (off + new.length)
theorem CRep.lay {lim : Nat → Nat} {w : World} {cs new : List D} {vs us : Array Value} {off : Nat} (h : CRep lim w cs vs) (hn : CRep lim w new us) (hf : off + new.length ≤ cs.length) : CRep lim w (putD cs off new) (lay vs us off) := by
  obtain ⟨h1, h2⟩ := lay_get vs us off (by rw [h.1, hn.1]; exact hf)
  refine ⟨by rw [h1, h.1]; simp [putD]; omega, fun i c u hc hu => ?_⟩
  have hi : i < vs.size := by rw [← h1]; exact (Array.getElem?_eq_some_iff.1 hu).1
  rw [h2 i hi] at hu
  unfold putD at hc
  have hvs := h.1
  have hus := hn.1
  by_cases hA : i < off
  · rw [if_neg (by omega)] at hu
    rw [List.append_assoc, List.getElem?_append_left (by simp; omega), List.getElem?_take, if_pos hA] at hc
    exact h.2 i c u hc hu
  · by_cases hB : i < off + new.length
    · rw [if_pos (by omega)] at hu
      rw [List.append_assoc, List.getElem?_append_right (by simp; omega), List.getElem?_append_left (by simp; omega)] at hc
      have e1 : (cs.take off).length = off := by simp; omega
      rw [e1] at hc
      exact hn.2 _ c u hc hu
    · rw [if_neg (by omega)] at hu
      rw [List.getElem?_append_right (by simp; omega)] at hc
      have e1 : (cs.take off ++ new).length = off + new.length := by simp; omega
      rw [e1, List.getElem?_drop] at hc
      have e2 : off + new.length + (i - (off + new.length)) = i := by omega
      rw [e2] at hc
      exact h.2 i c u hc hu

/-- The cells of a value that is data. -/
def cellsD : EV → Option (List D)
  | .d (.ex v) => if v.oneCell' then some [.ex v] else none
  | .d (.agg cs) => some cs
  | .d (.sl sz rows) => some [.sl sz rows]
  | .d (.ro cs) => some [.ro cs]
  | .d (.e0 sz) => some [.e0 sz]
  | .tsl sz rows _ => some [.sl sz rows]
  | _ => none
theorem cellsD_rep {g : Ghost} {w : World} {st : St} {e : EV} {cs : List D} {v : Value} (h : cellsD e = some cs) (hv : EVRep g w st e v) : CRep g.lim w cs v.cells := by
  have key : ∀ {e' : EV} {cs' : List EV}, cellsE e' = some cs' → cs' = cs.map EV.d → EVRep g w st e' v → CRep g.lim w cs v.cells := by
    intro e' cs' hc hm hv'
    obtain ⟨k1, k2⟩ := cellsE_rep hc hv'
    refine ⟨by rw [k1, hm]; simp, fun i c u hc' hu => ?_⟩
    have := k2 i (.d c) u (by rw [hm, List.getElem?_map, hc']; rfl) hu
    exact ⟨by cases this.1 with | d _ _ h => exact h, this.2⟩
  cases e with
  | d x =>
    cases x with
    | ex u =>
      simp only [cellsD] at h
      split at h
      · rename_i h1
        cases h
        exact key (e' := .d (.ex u)) (by simp only [cellsE]; rw [if_pos h1]; rfl) rfl hv
      · cases h
    | agg cs' => cases h; exact key (e' := .d (.agg cs)) rfl rfl hv
    | tup => cases h
    | sl sz rows => cases h; exact key (e' := .d (.sl sz rows)) rfl rfl hv
    | ro cs' => cases h; exact key (e' := .d (.ro cs')) rfl rfl hv
    | e0 sz => cases h; exact key (e' := .d (.e0 sz)) rfl rfl hv
    | any => cases h
  | tsl sz rows t =>
    cases h
    cases hv with | tsl _ _ _ _ _ _ hd => exact key (e' := .d (.sl sz rows)) rfl rfl (.d _ _ hd)
  | ref => cases h
  | osl => cases h
  | mp => cases h
  | clo => cases h
  | agg => cases h
  | tup => cases h
  | gd => cases h
  | vc => cases h
  | vp => cases h
  | vw => cases h

/-- The parts, laid one by one; 'place' gives each part's offset and size. -/
def layD (place : Nat → Option (Nat × Nat)) (env : Env) : List D → List (Nat × Operand) → Option (List D)
  | cs, [] => some cs
  | cs, (i, x) :: l => match place i, evo env x with
    | some (off, size), some e => match cellsD e with
      | some new => match Nat.beq new.length size, Nat.ble (off + size) cs.length with
        | true, true => layD place env (putD cs off new) l
        | _, _ => none
      | none => none
    | _, _ => none
theorem layD_rep {g : Ghost} {w : World} {st : St} {env : Env} {tmps : Array Value} (he : EnvRep g w st env tmps) {place : Nat → Option (Nat × Nat)} : ∀ (l : List (Nat × Operand)) (cs : List D) (vs : Array Value) (r : List D), layD place env cs l = some r → CRep g.lim w cs vs →
    ∃ us, Instr.fill place vs (l.map fun p => (p.1, Act.eval ⟨tmps, []⟩ p.2)) = some us ∧ CRep g.lim w r us ∧ r.length = cs.length
  | [], cs, vs, r, h, hc => by simp [layD] at h; subst h; exact ⟨vs, rfl, hc, rfl⟩
  | (i, x) :: l, cs, vs, r, h, hc => by
    unfold layD at h
    split at h
    · rename_i off size e hp hx
      split at h
      · rename_i new hn
        split at h
        · rename_i hb1 hb2
          have h1 := Nat.eq_of_beq_eq_true hb1
          have h2 := Nat.le_of_ble_eq_true hb2
          have hcn := cellsD_rep hn (evo_rep he hx)
          have hlay := hc.lay hcn (off := off) (by omega)
          obtain ⟨us, k1, k2, k3⟩ := layD_rep he l _ _ r h hlay
          refine ⟨us, ?_, k2, by rw [k3]; simp [putD]; omega⟩
          have hs := hcn.1
          have hvs := hc.1
          simp only [List.map_cons, Instr.fill, hp]
          rw [if_neg (by simp; omega)]
          exact k1
        · cases h
      · cases h
    · cases h

def szOf (P : Program) (t : TypeId) : Nat := match P.info? t with
  | some i => i.size
  | none => 0
def placeOf (P : Program) (fs : Array Field) (i : Nat) : Option (Nat × Nat) := (fs[i]?).map fun f => (f.offset, szOf P f.type)

section rules
variable {P : Program} {f : FuncId} {N : Nat} {S : Start} {Q : EV → St → Prop} {k : List Item} {base : Nat} {env : Env} {st : St} {ops rest : List Oper}
  {d : Option Tmp} {ty : TypeId} {pos : String} {after : Array Edge} {gd : Option (Nat × Bool)} {t t2 e : TypeId} {x y : Operand}

theorem zero_run {inf : TypeInfo} {z : Value} (hi : P.info? t = some inf) (hz : inf.zero = some z) (w : World) : (zeroValue t).run P w = .ok z w := by simp [zeroValue, typeInfo, hi, hz]

theorem mapM_places (fs : List Field) (h : ∀ f ∈ fs, (P.info? f.type).isSome) (w : World) : (fs.mapM (fun f => do pure (f.offset, ← sizeOf f.type) : Field → Sem (Nat × Nat))).run P w = .ok (fs.map fun f => (f.offset, szOf P f.type)) w := by
  induction fs with
  | nil => rfl
  | cons f fs ih =>
    obtain ⟨i, hi⟩ := Option.isSome_iff_exists.1 (h f (by simp))
    have ih' := ih (fun g hg => h g (by simp [hg]))
    simp only [List.mapM_cons, Sem.run_bind, size_of hi, Result.andThen_ok, Sem.run_pure, ih', List.map_cons, szOf, hi]

/-- A struct literal. -/
theorem q_build {fs : Array Field} {inf : TypeInfo} {z : Value} {zs r : List D} {l : List (Nat × Operand)} (ht : P.underlying t = some (.struct fs)) (hi : P.info? t = some inf) (hz : inf.zero = some z) (hzs : cellsD (.d (cv z)) = some zs)
    (hfs : fs.toList.all (fun f => (P.info? f.type).isSome) = true) (hl : layD (placeOf P fs) env zs l = some r) : OpQ P env st ⟨d, .build t l.toArray, ty, pos, after, gd⟩ (.d (.agg r)) := by
  intro g base w tmps hinv he
  have hz' := cellsD_rep (g := g) (w := w) (st := st) hzs (.d _ _ (cv_rep _ _ z))
  obtain ⟨us, h1, h2, h3⟩ := layD_rep he l zs z.cells r hl hz'
  refine ⟨.agg us, .d _ _ (.agg r us h2.1 (fun i u hu => ?_) fun i c u hc hu => (h2.2 i c u hc hu).1), fun w' hb => ?_⟩
  · have hi' : i < r.length := by rw [← h2.1]; exact (Array.getElem?_eq_some_iff.1 hu).1
    exact (h2.2 i _ u (List.getElem?_eq_getElem hi') hu).2
  · have hpl : (fs.mapM (fun f => do pure (f.offset, ← sizeOf f.type) : Field → Sem (Nat × Nat))).run P w' = .ok (fs.toList.map fun f => (f.offset, szOf P f.type)).toArray w' := by
      rw [← Array.toArray_toList (xs := fs), List.mapM_toArray]
      simp only [Sem.run_map, mapM_places (P := P) fs.toList (fun f hf => List.all_eq_true.1 hfs f hf) w', Result.andThen_ok]
    have hplace : (fun i : Nat => ((fs.toList.map fun f => (f.offset, szOf P f.type)).toArray)[i]?) = placeOf P fs := by
      funext i
      simp [placeOf]
    simp only [execOp, Instr.build, Sem.run_bind, zero_run hi hz, Result.andThen_ok, run_underlying ht, hpl, List.map_toArray]
    rw [hplace]
    simp [h1]

/-- A slice literal that names each element: data. -/
theorem g_buildSlice {len sz : Nat} {inf : TypeInfo} {z : Value} {zs : List D} {rows : List (List D)} {l : List (Nat × Operand)} (ht : P.underlying t = some (.slice e)) (hi : P.info? e = some inf) (hsz : inf.size = sz) (hz : inf.zero = some z) (hzs : z.cells.size = sz)
    (hlen : 0 < len) (hbig : len * sz ≤ 16777216) (hzc : (List.replicate len zs).flatten.length = len * sz) (hzr : cellsD (.d (cv z)) = some zs)
    (hl : layD (fun i => some (i * sz, sz)) env (List.replicate len zs).flatten l = some rows.flatten) (hr : rows.all (fun r => Nat.beq r.length sz) = true) (hn : rows.length = len) (hs0 : 0 < sz) :
    OpG P env st ⟨d, .buildSlice t len l.toArray, ty, pos, after, gd⟩ (.d (.sl sz rows)) := by
  intro g base w tmps hinv he
  have hz' := cellsD_rep (g := g) (w := w) (st := st) hzr (.d _ _ (cv_rep _ _ z))
  have hzl : zs.length = sz := by rw [← hz'.1, hzs]
  have hrows : ∀ row ∈ rows, row.length = sz := by
    intro row hm
    rw [List.all_eq_true] at hr
    exact Nat.eq_of_beq_eq_true (hr row hm)
  have hcells : CRep g.lim w (List.replicate len zs).flatten ((Array.range (len * sz)).map (z.cells[· % z.cells.size]!)) := by
    refine ⟨by simp [hzc], fun i c u hc hu => ?_⟩
    have hil : i < len * sz := by rw [← hzc]; exact (List.getElem?_eq_some_iff.1 hc).1
    have hmod : i % sz < sz := Nat.mod_lt _ hs0
    have hdiv : i / sz < len := Nat.div_lt_of_lt_mul (by rw [Nat.mul_comm]; exact hil)
    have hdm : i = i / sz * sz + i % sz := by rw [Nat.mul_comm]; exact (Nat.div_add_mod i sz).symm
    have hf := flat_get (rows := List.replicate len zs) (sz := sz) (i := i / sz) (j := i % sz) (row := zs) (c := zs[i % sz]'(by omega)) (by intro row hm; rw [List.eq_of_mem_replicate hm]; exact hzl) (by simp [List.getElem?_replicate, hdiv]) (List.getElem?_eq_getElem (by omega))
    rw [← hdm, hc] at hf
    have hcz : zs[i % sz]? = some c := by cases hf; exact List.getElem?_eq_getElem (by omega)
    have huz : z.cells[i % sz]? = some u := by
      have hlt' : i % sz < z.cells.size := by omega
      have : ((Array.range (len * sz)).map (z.cells[· % z.cells.size]!))[i]? = some (z.cells[i % z.cells.size]!) := by simp [hil]
      rw [this] at hu
      cases hu
      rw [hzs, getElem!_pos z.cells (i % sz) hlt', Array.getElem?_eq_getElem hlt']
    exact hz'.2 _ c u hcz huz
  obtain ⟨us, h1, h2, h3⟩ := layD_rep he l _ _ _ hl hcells
  have hfl := flat_len hrows
  obtain ⟨lim', k1, k2, k3⟩ := new_row (g := g) (w := w) (w0 := w) (sz := sz) (cap := len) (rows := rows) (vs := us) (e := e) rfl rfl rfl rfl hrows (by omega) (by rw [h2.1, hfl]; exact Nat.le_refl _) h2.2
  refine .inl ⟨.slice (some ⟨w.heap.size, 0, none⟩) len len, lim', _, ?_, .d _ _ (by rw [hn] at k1; exact k1), k2, k3⟩
  subst hsz
  have hbig' : ¬ (16777216 < len * inf.size) := by omega
  have hne : ¬ (len = 0 ∨ inf.size = 0) := by omega
  have hne' : ¬ len * inf.size = 0 := by
    intro h0
    rcases Nat.mul_eq_zero.1 h0 with h | h <;> omega
  have h1' : Instr.fill (fun i => some (i * inf.size, inf.size)) (Array.map (fun x => z.cells[x % z.cells.size]!) (Array.range (len * inf.size))) (List.map (fun p => (p.1, Act.eval ⟨tmps, []⟩ p.2)) l) = some us := h1
  simp [execOp, Instr.buildSlice, run_underlying ht, size_of hi, hbig', hne', zero_run hi hz, h1', newRow]
theorem g_buildSlice0 {inf : TypeInfo} (ht : P.underlying t = some (.slice e)) (hi : P.info? e = some inf) :
    OpG P env st ⟨d, .buildSlice t 0 #[], ty, pos, after, gd⟩ (.d (.e0 inf.size)) := by
  intro g base w tmps hinv he
  refine .inl ⟨.slice (some ⟨w.heap.size, 0, none⟩) 0 0, fun b => g.lim b, w.alloc (.cells #[] e), ?_, .d _ _ (.e0 _ _ (.inr ⟨_, _, rfl⟩)), (Below.refl _ w).alloc (Nat.le_refl _) _, fun _ _ => rfl⟩
  simp [execOp, Instr.buildSlice, run_underlying ht, size_of hi, newRow, Instr.fill]
  rw [show Array.map (fun _ => (default : Value)) (Array.range 0) = #[] from by simp [Array.range_zero']]
end rules
end Go.Abs
