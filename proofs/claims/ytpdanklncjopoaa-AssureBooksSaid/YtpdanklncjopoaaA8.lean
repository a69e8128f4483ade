/- Growing operations, slice expressions, appends. -/
import Derived.Test.YtpdanklncjopoaaA7
set_option linter.unusedSimpArgs false
set_option linter.unusedVariables false
namespace Go.Abs
open Go.RowKit

def Good (g : Ghost) (w : World) (st : St) (x : EV) (lim' : Nat → Nat) (w' : World) (v : Value) : Prop :=
  EVRep { g with lim := lim' } w' st x v ∧ Below w.heap.size w w' ∧ ∀ b, b < w.heap.size → lim' b = g.lim b
/-- An operation that but grows the world, and yields data. -/
def OpG (P : Program) (env : Env) (st : St) (o : Oper) (x : EV) : Prop :=
  ∀ g base w tmps, Inv g base w st → EnvRep g w st env tmps →
    (∃ v lim' w', (execOp (Act.eval ⟨tmps, []⟩) o).run P w = .ok (.value v) w' ∧ Good g w st x lim' w' v) ∨
    (∃ f' args, (execOp (Act.eval ⟨tmps, []⟩) o).run P w = .ok (.enter f' args) w ∧ Calls P f' args w fun e w' => ∃ v lim', e = .returned v ∧ Good g w st x lim' w' v)

section g
variable {P : Program} {f : FuncId} {N : Nat} {S : Start} {Q : EV → St → Prop} {k : List Item} {env : Env} {st : St} {ops rest : List Oper}
  {d : Option Tmp} {op : Op} {ty : TypeId} {pos : String} {after : Array Edge} {gd : Option (Nat × Bool)} {t t2 e : TypeId} {x y : Operand}
theorem OpQ.g {o : Oper} {r : EV} (h : OpQ P env st o r) : OpG P env st o r := fun g base w tmps hi he =>
  let ⟨v, h1, h2⟩ := h g base w tmps hi he
  .inl ⟨v, g.lim, w, h2 w (.refl _ _), h1, .refl _ _, fun _ _ => rfl⟩
theorem g_call {f' : FuncId} {l : List Operand} {ts : Array TypeId} {es : List EV} {ds : List D} {r : D} (hen : Enters P f') (h1 : evos env l = some es) (h2 : toDs es = some ds) (hc : ACall P f' ds (· = r)) :
    OpG P env st ⟨d, .call ⟨.value (.func f'), l.toArray, ts⟩, ty, pos, after, gd⟩ (.d r) := fun g base w tmps hi he => by
  refine .inr ⟨f', _, callS_run hen w rfl, (hc g.lim w _ (hi.glob.mono hi.base) (.of he h1 h2)).mono ?_⟩
  rintro e w' ⟨v, r', lim', rfl, rfl, hr, hev, hb, hl⟩
  exact ⟨v, lim', rfl, .d _ _ hr, hb, hl⟩

/-- The judgement takes an operation that grows. -/
theorem AOps.g {x : EV} (h : OpG P env st ⟨d, op, ty, pos, after, none⟩ x) (hd : dstOk N d = true) (hk : AOps P f N S Q ops rest k (env.put d x) st) :
    AOps P f N S Q ops (⟨d, op, ty, pos, after, none⟩ :: rest) k env st := by
  intro i hi g w tmps hinv hh he hn
  have ho : ops.toArray[i]? = some ⟨d, op, ty, pos, after, none⟩ := by simpa using (hi 0).symm
  have hi' : ∀ j : Nat, rest[j]? = ops[i + 1 + j]? := fun j => by have := hi (j + 1); simpa [Nat.add_assoc, Nat.add_comm 1 j] using this
  rw [List.length_cons, range'_succ']
  subst hn
  rcases h g S.base w tmps hinv he with ⟨v, lim', w', hr, hx, hb, hl⟩ | ⟨f', args, hr, hc⟩
  · obtain ⟨hinv', hs⟩ := hinv.grow (g' := { g with lim := lim' }) hb hl rfl rfl
    exact FWP.value ho (by simp [Region.wanted]) hr (hk (i + 1) hi' _ w' _ hinv' (hh.step hs) (envPut (he.mono hs.sevo) hd hx) size_put)
  · refine FWP.call ho (by simp [Region.wanted]) hr (hc.mono ?_)
    rintro e w' ⟨v, lim', rfl, hx, hb, hl⟩
    obtain ⟨hinv', hs⟩ := hinv.grow (g' := { g with lim := lim' }) hb hl rfl rfl
    exact ⟨v, rfl, hk (i + 1) hi' _ w' _ hinv' (hh.step hs) (envPut (he.mono hs.sevo) hd hx) size_put⟩
/-- The same under a guard. -/
theorem AOps.guardG {d : Tmp} {j : Nat} {want b : Bool} {t : Tmp} {c x : EV} {env' : Env} (hj : (ops[j]?).bind (·.dst) = some t) (hl : lookup t env = some c) (hc : gcond c want = some b)
    (hE : GdEnv b env env') (hd : dstOk N (some d) = true) (h : b = true → OpG P env' st ⟨some d, op, ty, pos, after, some (j, want)⟩ x) (hk : AOps P f N S Q ops rest k ((d, .gd b x) :: env) st) :
    AOps P f N S Q ops (⟨some d, op, ty, pos, after, some (j, want)⟩ :: rest) k env st := by
  intro i hi g w tmps hinv hh he hn
  have ho : ops.toArray[i]? = some ⟨some d, op, ty, pos, after, some (j, want)⟩ := by simpa using (hi 0).symm
  obtain ⟨v, hv, hr⟩ := he t c hl
  have hw : Region.wanted ⟨some d, op, ty, pos, after, some (j, want)⟩ (yielded ops.toArray tmps) = b := by
    rw [← gcond_rep hc hr]
    have hj' : ((ops.toArray)[j]?).bind (·.dst) = some t := by simpa using hj
    simp only [Region.wanted, yielded, hj', Option.bind_some, hv]
    cases v <;> rfl
  rw [List.length_cons, range'_succ']
  subst hn
  have hi' : ∀ j : Nat, rest[j]? = ops[i + 1 + j]? := fun j => by have := hi (j + 1); simpa [Nat.add_assoc, Nat.add_comm 1 j] using this
  cases b with
  | false => exact FWP.unwanted ho hw (hk (i + 1) hi' g w _ hinv hh (envPut (d := some d) he hd (.gd _ _ _ (fun _ => rfl) (fun h => by cases h))) size_put)
  | true =>
    rcases h rfl g S.base w tmps hinv (he.gd hE rfl) with ⟨v, lim', w', hr, hx, hb, hl⟩ | ⟨f', args, hr, hc⟩
    · obtain ⟨hinv', hs⟩ := hinv.grow (g' := { g with lim := lim' }) hb hl rfl rfl
      exact FWP.value ho hw hr (hk (i + 1) hi' _ w' _ hinv' (hh.step hs) (envPut (d := some d) (he.mono hs.sevo) hd (.gd _ _ _ (fun h => by cases h) (fun _ => hx))) size_put)
    · refine FWP.call ho hw hr (hc.mono ?_)
      rintro e w' ⟨v, lim', rfl, hx, hb, hl⟩
      obtain ⟨hinv', hs⟩ := hinv.grow (g' := { g with lim := lim' }) hb hl rfl rfl
      exact ⟨v, rfl, hk (i + 1) hi' _ w' _ hinv' (hh.step hs) (envPut (d := some d) (he.mono hs.sevo) hd (.gd _ _ _ (fun h => by cases h) (fun _ => hx))) size_put⟩

/-! ### new published rows -/
theorem flat_get {sz : Nat} : ∀ {rows : List (List D)} (h : ∀ row ∈ rows, row.length = sz) {i j : Nat} {row : List D} {c : D}, rows[i]? = some row → row[j]? = some c → rows.flatten[i * sz + j]? = some c
  | [], _, i, j, row, c, hr, _ => by simp at hr
  | r :: rows, h, 0, j, row, c, hr, hc => by
    simp at hr
    subst hr
    rw [List.flatten_cons, Nat.zero_mul, Nat.zero_add, List.getElem?_append_left (List.getElem?_eq_some_iff.1 hc).1]
    exact hc
  | r :: rows, h, i + 1, j, row, c, hr, hc => by
    have hl := h r (by simp)
    rw [List.flatten_cons, Nat.add_mul, List.getElem?_append_right (by omega)]
    have := flat_get (rows := rows) (fun r hr => h r (by simp [hr])) (by simpa using hr) hc
    rw [← this]
    congr 1
    omega
theorem flat_len {sz : Nat} : ∀ {rows : List (List D)}, (∀ row ∈ rows, row.length = sz) → rows.flatten.length = rows.length * sz
  | [], _ => by simp
  | r :: rows, h => by
    have h1 := h r (by simp)
    have h2 := flat_len (rows := rows) (fun r hr => h r (by simp [hr]))
    rw [List.flatten_cons, List.length_append, h1, h2, List.length_cons, Nat.add_mul]; omega

/-- A row of new cells, published at once. -/
theorem new_row {g : Ghost} {w w0 : World} {sz cap : Nat} {rows : List (List D)} {vs : Array Value} {e : TypeId} (hw : w0.heap = w.heap) (hos : w0.os = w.os) (htp : w0.tape = w.tape) (hout : w0.output = w.output)
    (hr : ∀ row ∈ rows, row.length = sz) (hc : rows.length ≤ cap) (hn : rows.length * sz ≤ vs.size)
    (hcell : ∀ (i : Nat) c (u : Value), rows.flatten[i]? = some c → vs[i]? = some u → DRep g.lim w c u ∧ u.oneCell' = true) :
    ∃ lim', DRep lim' (w0.alloc (.cells vs e)) (.sl sz rows) (.slice (some ⟨w.heap.size, 0, none⟩) rows.length cap) ∧ Below w.heap.size w (w0.alloc (.cells vs e)) ∧ (∀ b, b < w.heap.size → lim' b = g.lim b) := by
  have hb : Below w.heap.size w (w0.alloc (.cells vs e)) := by
    refine ⟨hos, htp, hout, by simp [hw], fun k hk => ?_⟩
    rw [Below.heap_alloc _ _ _ (by rw [hw]; exact hk), hw]
  let lim' : Nat → Nat := fun b => if b = w.heap.size then rows.length * sz else g.lim b
  have hlim : ∀ b, b < w.heap.size → lim' b = g.lim b := fun b hb => by show (if _ then _ else _) = _; rw [if_neg (by omega)]
  have hnewb : (w0.alloc (.cells vs e)).heap[w.heap.size]? = some (.cells vs e) := by rw [← hw]; exact heap_alloc_new w0 _
  have hev : Evo g.lim w lim' (w0.alloc (.cells vs e)) := ⟨hb.size, fun b hb' => by rw [hlim b hb']; exact Nat.le_refl _, fun b off hb' _ => hb.cell (p := ⟨b, off, none⟩) hb'⟩
  have hcellv : ∀ i, (w0.alloc (.cells vs e)).cell? ⟨w.heap.size, i, none⟩ = vs[i]? := fun i => cell_of_row _ _ i vs e (0, 0) hnewb
  have hfl := flat_len hr
  refine ⟨lim', .sl sz rows _ 0 cap hc hr ?_ ?_, hb, hlim⟩
  · intro k hk
    have hkv : k < vs.size := by omega
    have hu : vs[k]? = some vs[k] := Array.getElem?_eq_getElem hkv
    have hkf : k < rows.flatten.length := by omega
    refine ⟨by show 0 + k < (if _ then _ else _); rw [if_pos rfl]; omega, vs[k], by rw [Nat.zero_add, hcellv]; exact hu, (hcell k _ _ (List.getElem?_eq_getElem hkf) hu).2⟩
  · intro i j row c u hi hj hu
    rw [Nat.zero_add, hcellv] at hu
    exact ((hcell _ c u (flat_get hr hi hj) hu).1).mono hev

theorem slInv {lim : Nat → Nat} {w : World} {sz : Nat} {rows : List (List D)} {v : Value} (h : DRep lim w (.sl sz rows) v) :
    ∃ (A : Option Addr) (c : Nat) (vs : List Value), v = .slice A rows.length c ∧ vs.length = rows.length * sz ∧ (rows.length = 0 ∨ ∃ b off, A = some ⟨b, off, none⟩) ∧ (A = none → rows.length = 0 ∧ c = 0) ∧
      (∀ b off, A = some ⟨b, off, none⟩ → ∀ (j : Nat) u, vs[j]? = some u → w.cell? ⟨b, off + j, none⟩ = some u) ∧ (∀ row ∈ rows, row.length = sz) ∧
      ∀ (j : Nat) u c, vs[j]? = some u → rows.flatten[j]? = some c → DRep lim w c u ∧ u.oneCell' = true := by
  cases h with
  | nil _ A => exact ⟨A, 0, [], rfl, by simp, .inl rfl, fun _ => ⟨rfl, rfl⟩, by simp, by simp, by simp⟩
  | sl _ _ b off cap hc hr hx h =>
    have hfl := flat_len hr
    refine ⟨some ⟨b, off, none⟩, cap, (List.range (rows.length * sz)).map fun j => (w.cell? ⟨b, off + j, none⟩).getD undef, rfl, by simp, .inr ⟨b, off, rfl⟩, (fun h => by cases h), ?_, hr, ?_⟩
    · intro b' off' he j u hu
      cases he
      rw [List.getElem?_map] at hu
      by_cases hj : j < rows.length * sz
      · obtain ⟨_, u', hu', h1⟩ := hx j hj
        simp [List.getElem?_range hj, hu'] at hu
        subst hu
        exact hu'
      · simp [List.getElem?_eq_none (show (List.range (rows.length * sz)).length ≤ j by simp; omega)] at hu
    · intro j u c hu hc'
      have hj : j < rows.length * sz := by have := (List.getElem?_eq_some_iff.1 hc').1; omega
      rw [List.getElem?_map] at hu
      obtain ⟨_, u', hu', h1⟩ := hx j hj
      simp [List.getElem?_range hj, hu'] at hu
      subst hu
      refine ⟨?_, h1⟩
      have hsz : 0 < sz := by
        rcases Nat.eq_zero_or_pos sz with h0 | h0
        · subst h0; omega
        · exact h0
      have hdm : j = (j / sz) * sz + j % sz := by rw [Nat.mul_comm]; exact (Nat.div_add_mod j sz).symm
      have hi : j / sz < rows.length := Nat.div_lt_of_lt_mul (by rw [Nat.mul_comm]; exact hj)
      have hm : j % sz < rows[j / sz].length := by rw [hr _ (List.getElem_mem hi)]; exact Nat.mod_lt _ hsz
      have hg := flat_get hr (List.getElem?_eq_getElem hi) (List.getElem?_eq_getElem hm)
      rw [← hdm, hc'] at hg
      cases hg
      refine h (j / sz) (j % sz) _ _ u' (List.getElem?_eq_getElem hi) (List.getElem?_eq_getElem hm) ?_
      rw [← hdm]
      exact hu'

/-- A slice value that reads as rows, from its cells. -/
theorem sl_cut {lim : Nat → Nat} {w : World} {sz : Nat} {rows : List (List D)} {A : Option Addr} {c l h : Nat} (hd : DRep lim w (.sl sz rows) (.slice A rows.length c)) (hlh : l ≤ h) (hh : h ≤ rows.length) (hc : rows.length ≤ c) :
    DRep lim w (.sl sz ((rows.take h).drop l)) (sliced A l h c sz) := by
  unfold sliced
  have hlen : ((rows.take h).drop l).length = h - l := by simp; omega
  cases hd with
  | nil =>
    have : h = 0 := by simpa using hh
    subst this
    have : l = 0 := by omega
    subst this
    simpa using DRep.nil sz _
  | sl _ _ b off cap hc' hr hx hcell =>
    have key : ∀ off', (off' = off + l * sz ∨ h - l = 0) → DRep lim w (.sl sz ((rows.take h).drop l)) (.slice (some ⟨b, off', none⟩) (h - l) (c - l)) := by
      intro off' ho
      rw [← hlen]
      refine .sl sz _ b off' (c - l) (by rw [hlen]; omega) (fun row hm => hr row (List.mem_of_mem_take (List.mem_of_mem_drop hm))) ?_ ?_
      · intro k hk
        rw [hlen] at hk
        rcases ho with rfl | h0
        · have hb : l * sz + k < rows.length * sz := by
            have h1 : (l + (h - l)) * sz ≤ rows.length * sz := Nat.mul_le_mul_right sz (by omega)
            rw [Nat.add_mul] at h1
            omega
          have := hx (l * sz + k) hb
          rw [Nat.add_assoc]; exact this
        · rw [h0, Nat.zero_mul] at hk; omega
      · intro i j row cc u hi hj hu
        rcases ho with rfl | h0
        · rw [List.getElem?_drop, List.getElem?_take] at hi
          split at hi
          · refine hcell (l + i) j row cc u hi hj ?_
            rw [← hu]
            congr 2
            rw [Nat.add_mul]; omega
          · cases hi
        · have := (List.getElem?_eq_some_iff.1 hi).1
          omega
    split
    · rename_i hcl
      exact key off (.inr (by omega))
    · simp only [Option.map_some, Addr.add_lit]
      exact key _ (.inl rfl)
end g
end Go.Abs
