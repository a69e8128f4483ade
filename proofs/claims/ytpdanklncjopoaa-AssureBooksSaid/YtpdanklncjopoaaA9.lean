/- Slice expressions, appends, literals. -/
import Derived.Test.YtpdanklncjopoaaA8
set_option linter.unusedSimpArgs false
set_option linter.unusedVariables false
set_option linter.unusedSectionVars false
namespace Go.Abs
open Go.RowKit

/-- What reads as a slice. -/
def asSl : EV → Option (Nat × List (List D))
  | .d (.sl sz rows) => some (sz, rows)
  | .d (.e0 sz) => some (sz, [])
  | .tsl sz rows _ => some (sz, rows)
  | _ => none
theorem asSl_rep {g : Ghost} {w : World} {st : St} {e : EV} {sz : Nat} {rows : List (List D)} {v : Value} (h : asSl e = some (sz, rows)) (hv : EVRep g w st e v) : DRep g.lim w (.sl sz rows) v := by
  unfold asSl at h
  split at h
  · cases h; cases hv with | d _ _ h => exact h
  · cases h; cases hv with | d _ _ h => exact D.e0_sl h
  · cases h; cases hv with | tsl _ _ _ _ _ _ h => exact h
  · cases h

section q
variable {P : Program} {base : Nat} {env : Env} {st : St} {d : Option Tmp} {ty : TypeId} {pos : String} {after : Array Edge} {gd : Option (Nat × Bool)} {t t2 e : TypeId} {x y z : Operand}

theorem elem_eq (ht : P.underlying t = some (.slice e)) : P.elem t = e := by simp [Program.elem, ht]
theorem size_of {inf : TypeInfo} {e : TypeId} (hi : P.info? e = some inf) (w : World) : (sizeOf e).run P w = .ok inf.size w := by simp [sizeOf, typeInfo, hi]

section sl
variable {sz : Nat} {rows : List (List D)} {ev : EV} {inf : TypeInfo} (ht : P.underlying t = some (.slice e)) (hi : P.info? e = some inf) (hsz : inf.size = sz) (hx : evo env x = some ev) (hs : asSl ev = some (sz, rows))
include ht hi hsz hx hs
theorem sl_run {g : Ghost} {w : World} {tmps : Array Value} (he : EnvRep g w st env tmps) {l h : Nat} (hlh : l ≤ h) (hh : h ≤ rows.length) {lo hi' : Option Operand}
    (hb : ∀ (A : Option Addr) (c : Nat), rows.length ≤ c → ∀ w' : World, (Instr.slice t (.slice A rows.length c) (lo.map (Act.eval ⟨tmps, []⟩)) (hi'.map (Act.eval ⟨tmps, []⟩)) none).run P w' = .ok (sliced A l h c sz) w') :
    ∃ v, EVRep g w st (.d (.sl sz ((rows.take h).drop l))) v ∧ ∀ w', Below w.heap.size w w' → (execOp (Act.eval ⟨tmps, []⟩) ⟨d, .slice t x lo hi' none, ty, pos, after, gd⟩).run P w' = .ok (.value v) w' := by
  have hd := asSl_rep hs (evo_rep he hx)
  obtain ⟨A, c, hv⟩ := sl_form hd
  rw [hv] at hd
  have hc : rows.length ≤ c := by
    cases hd with
    | nil => exact Nat.le_refl _
    | sl _ _ _ _ _ hc => exact hc
  refine ⟨_, .d _ _ (sl_cut hd hlh hh hc), fun w' _ => ?_⟩
  simp only [execOp, hv, Sem.run_bind, run_sliceAt_slice w' t _ _ _ _ (by rw [elem_eq ht]; exact ht), Option.map_none, hb A c hc w', Result.andThen_ok, Sem.run_pure]
theorem q_slLH {kl kh : IntKind} {l h : Int} (hy : evo env y = some (.d (.ex (.int kl l)))) (hz : evo env z = some (.d (.ex (.int kh h)))) (h0 : 0 ≤ l) (h1 : l ≤ h) (h2 : h ≤ rows.length) :
    OpQ P env st ⟨d, .slice t x (some y) (some z) none, ty, pos, after, gd⟩ (.d (.sl sz ((rows.take h.toNat).drop l.toNat))) := fun g base w tmps hinv he =>
  sl_run ht hi hsz hx hs he (by omega) (by omega) fun A c hc w' => by
    simp only [Option.map_some, (evo_rep he hy).ex_inv, (evo_rep he hz).ex_inv]
    rw [run_slice_lh w' t A rows.length c (by rw [elem_eq ht]; exact ht) kl kh l h h0 h1 (by omega)]
    simp [elem_eq ht, size_of hi, hsz]
theorem q_slH {kh : IntKind} {h : Int} (hz : evo env z = some (.d (.ex (.int kh h)))) (h0 : 0 ≤ h) (h2 : h ≤ rows.length) :
    OpQ P env st ⟨d, .slice t x none (some z) none, ty, pos, after, gd⟩ (.d (.sl sz (rows.take h.toNat))) := fun g base w tmps hinv he => by
  have := sl_run (d := d) (ty := ty) (pos := pos) (after := after) (gd := gd) ht hi hsz hx hs he (l := 0) (h := h.toNat) (lo := none) (hi' := some z) (by omega) (by omega) fun A c hc w' => by
    simp only [Option.map_some, Option.map_none, (evo_rep he hz).ex_inv]
    rw [run_slice_h w' t A rows.length c (by rw [elem_eq ht]; exact ht) kh h h0 (by omega)]
    simp [elem_eq ht, size_of hi, hsz]
  simpa using this
theorem q_slL {kl : IntKind} {l : Int} (hy : evo env y = some (.d (.ex (.int kl l)))) (h0 : 0 ≤ l) (h1 : l ≤ rows.length) :
    OpQ P env st ⟨d, .slice t x (some y) none none, ty, pos, after, gd⟩ (.d (.sl sz (rows.drop l.toNat))) := fun g base w tmps hinv he => by
  have := sl_run (d := d) (ty := ty) (pos := pos) (after := after) (gd := gd) ht hi hsz hx hs he (l := l.toNat) (h := rows.length) (lo := some y) (hi' := none) (by omega) (by omega) fun A c hc w' => by
    simp only [Option.map_some, Option.map_none, (evo_rep he hy).ex_inv]
    rw [run_slice_l w' t A rows.length c (by rw [elem_eq ht]; exact ht) kl l h0 (by omega)]
    simp [elem_eq ht, size_of hi, hsz]
  simpa using this
end sl

section str
variable {a : List UInt8} (ht : P.underlying t = some .string) (hx : evo env x = some (.d (.ex (.string ⟨a.toArray⟩))))
include ht hx
theorem str_bounds {l h : Nat} : (⟨a.toArray⟩ : ByteArray).extract l h = ⟨((a.drop l).take (h - l)).toArray⟩ := ByteArray.extract_mk a l h
theorem q_strLH {kl kh : IntKind} {l h : Int} (hy : evo env y = some (.d (.ex (.int kl l)))) (hz : evo env z = some (.d (.ex (.int kh h)))) (h0 : 0 ≤ l) (h1 : l ≤ h) (h2 : h ≤ a.length) :
    OpQ P env st ⟨d, .slice t x (some y) (some z) none, ty, pos, after, gd⟩ (.d (.ex (.string ⟨((a.drop l.toNat).take (h.toNat - l.toNat)).toArray⟩))) := q_ex fun g w tmps w' he => by
  have e1 : (h.toNat : Int) = h := Int.toNat_of_nonneg (by omega)
  have hb1 := run_sliceBound (P := P) w' kl l h.toNat .sliceB h0 (by omega)
  have hb2 := run_sliceBound (P := P) w' kh h a.length .sliceAlen (by omega) h2
  simp [execOp, (evo_rep he hx).ex_inv, (evo_rep he hy).ex_inv, (evo_rep he hz).ex_inv, Instr.sliceAt, Instr.slice, run_underlying ht, Instr.sliceBounds, ByteArray.size_mk', hb1, hb2, ByteArray.extract_mk]
theorem q_strH {kh : IntKind} {h : Int} (hz : evo env z = some (.d (.ex (.int kh h)))) (h0 : 0 ≤ h) (h2 : h ≤ a.length) :
    OpQ P env st ⟨d, .slice t x none (some z) none, ty, pos, after, gd⟩ (.d (.ex (.string ⟨(a.take h.toNat).toArray⟩))) := q_ex fun g w tmps w' he => by
  have hb2 := run_sliceBound (P := P) w' kh h a.length .sliceAlen h0 h2
  simp [execOp, (evo_rep he hx).ex_inv, (evo_rep he hz).ex_inv, Instr.sliceAt, Instr.slice, run_underlying ht, Instr.sliceBounds, ByteArray.size_mk', hb2, ByteArray.extract_mk]
theorem q_strL {kl : IntKind} {l : Int} (hy : evo env y = some (.d (.ex (.int kl l)))) (h0 : 0 ≤ l) (h2 : l ≤ a.length) :
    OpQ P env st ⟨d, .slice t x (some y) none none, ty, pos, after, gd⟩ (.d (.ex (.string ⟨(a.drop l.toNat).toArray⟩))) := q_ex fun g w tmps w' he => by
  have hb1 := run_sliceBound (P := P) w' kl l a.length .sliceB h0 h2
  simp [execOp, (evo_rep he hx).ex_inv, (evo_rep he hy).ex_inv, Instr.sliceAt, Instr.slice, run_underlying ht, Instr.sliceBounds, ByteArray.size_mk', hb1, ByteArray.extract_mk]
  rw [List.take_of_length_le (by simp)]
end str

/-! ### append -/
/-- Where the appended cells come from. -/
structure Src (P : Program) (w : World) (sz : Nat) (u : Value) (m : Nat) (news : List Value) : Prop where
  len : Builtin.lenOf u = pure m
  cells : ∀ w' : World, w'.heap = w.heap → (Builtin.firstCells sz m u).run P w' = .ok news.toArray w'
  size : news.length = m * sz
  one : ∀ v ∈ news, v.oneCell' = true

theorem run_append3 (w : World) {base ty sz : Nat} {inf : TypeInfo} {zv : Value} {d2 : TypeDesc} (ht : P.underlying t = some (.slice e)) (ht2 : P.underlying t2 = some d2) (hn2 : d2 = .string ∨ ∃ e2, d2 = .slice e2) (hi : P.info? e = some inf) (hz : inf.zero = some zv)
    (hsize : inf.size = sz) (hzs : zv.cells.size = sz) {v : Value} {n : Nat} {xs : List Value} (hown : w.ownsRow base e sz v n xs) {u : Value} {m : Nat} {news : List Value} (hs : Src P w sz u m news)
    (h63 : n + m ≤ maxLen) (hbytes : (n + m) * inf.bytes ≤ 140737488355328) (hbase : base ≤ w.heap.size) :
    ∃ v' w', (Builtin.append_ #[t, t2] ty #[v, u]).run P w = .ok v' w' ∧ w'.ownsRow base e sz v' (n + m) (xs ++ news) ∧ (m = 0 → v' = v) ∧
      ((v'.ownBlock = v.ownBlock ∧ w'.heap.size = w.heap.size ∧ w.grownBy w' v.ownBlock) ∨ (v'.ownBlock = some w.heap.size ∧ Below w.heap.size w w')) := by
  rcases hn2 with rfl | ⟨e2, rfl⟩
  all_goals
    subst hsize
    have hsmall : n + m ≤ 9223372036854775807 := by simp only [maxLen] at h63; omega
    have hlen : (xs ++ news).length = (n + m) * inf.size := by rw [List.length_append, hown.1, hs.size, Nat.add_mul]
    have hl := hs.len
    have grown : ∀ (old : Nat), old < n + m → 
        (w.drew.alloc (.cells (xs.toArray ++ news.toArray ++ Builtin.zeroCells zv.cells (grownCap w (n + m) old e - (n + m))) e)).ownsRow base e inf.size
          (.slice (some ⟨w.heap.size, 0, none⟩) (n + m) (grownCap w (n + m) old e)) (n + m) (xs ++ news) ∧
        Below w.heap.size w (w.drew.alloc (.cells (xs.toArray ++ news.toArray ++ Builtin.zeroCells zv.cells (grownCap w (n + m) old e - (n + m))) e)) := by
      intro old ho
      have hge := grownCap_ge w (n + m) old e
      have hcm : grownCap w (n + m) old e ≤ maxLen := grownCap_le_maxLen w (n + m) old e h63
      refine ⟨⟨hlen, .inr ⟨w.heap.size, _, _, rfl, hbase, heap_alloc_new w.drew _, hge, hcm, ?_, ?_⟩⟩, ((Below.refl _ w).drew).alloc (Nat.le_refl _) _⟩
      · simp only [Array.size_append, List.size_toArray, size_zeroCells, hzs, hown.1, hs.size, ← Nat.add_mul]
        congr 1
        omega
      · simp only [Array.toList_append, List.append_assoc]
        rw [← List.append_assoc, ← hlen]
        exact List.take_left
    rcases hown.2 with ⟨rfl, rfl⟩ | ⟨g, cap, cur, rfl, hbg, hg, hnc, hcm, hcs, htake⟩
    · have hx : xs = [] := List.eq_nil_of_length_eq_zero (by simpa using hown.1)
      subst hx
      by_cases hm : m = 0
      · subst hm
        have hn : news = [] := List.eq_nil_of_length_eq_zero (by simpa using hs.size)
        subst hn
        refine ⟨.slice none 0 0, w, ?_, World.ownsRow_nil w base e inf.size, fun _ => rfl, .inl ⟨rfl, rfl, ⟨rfl, rfl, rfl, Nat.le_refl _, fun _ _ _ => rfl⟩⟩⟩
        have hf := hs.cells w rfl
        simp [Builtin.append_, run_underlying ht, run_underlying ht2, sizeOf, typeInfo, hi, hl, hf]
      · have hgr := grown 0 (by omega)
        refine ⟨_, _, ?_, hgr.1, fun h0 => by omega, .inr ⟨rfl, hgr.2⟩⟩
        have hf := hs.cells w.drew rfl
        have hm0 : ¬ m = 0 := hm
        have h63' : ¬ (9223372036854775807 < (m : Int)) := by omega
        have h48' : ¬ (281474976710656 < Builtin.nextslicecap m 0 * inf.bytes) := by
          have hb' := hbytes
          rw [Nat.zero_add] at hb'
          have := growslice_fits (need := m) (old := 0) (by omega) hb'
          omega
        simp [Builtin.append_, run_underlying ht, run_underlying ht2, sizeOf, typeInfo, zeroValue, hi, hz, hl, hm0, h63', h48', Question.forced, run_firstCells_none, hf, newRow, grownCap]
    · by_cases hroom : n + m ≤ cap
      · have hfit : n * inf.size + news.length ≤ cur.size := by rw [hs.size, hcs, ← Nat.add_mul]; exact Nat.mul_le_mul_right _ hroom
        have hst := run_storeCells_at P g (n * inf.size) e news 0 cur w hg (by simpa using hfit) hs.one
        simp only [Nat.add_zero] at hst
        have hf := hs.cells w rfl
        refine ⟨.slice (some ⟨g, 0, none⟩) (n + m) cap, w.setRow g (cur.toList.take (n * inf.size) ++ news ++ cur.toList.drop (n * inf.size + news.length)).toArray, ?_, ⟨hlen, .inr ⟨g, cap, _, rfl, hbg, setRow_heap w g cur _ e _ hg, hroom, hcm, ?_, ?_⟩⟩, fun h0 => by subst h0; rfl, .inl ⟨rfl, by simp, ⟨rfl, rfl, rfl, by simp, fun k _ hk => setRow_other w g k _ (fun e => hk (by simp [Value.ownBlock, e]))⟩⟩⟩
        · simp [Builtin.append_, run_underlying ht, run_underlying ht2, sizeOf, typeInfo, hi, hl, hroom, hf, Addr.add_lit, hst]
        · simp only [List.size_toArray, List.length_append, List.length_take, List.length_drop, Array.length_toList]
          omega
        · rw [htake, ← hlen]
          exact List.take_left
      · have holds : ∀ j u, xs[j]? = some u → w.cell? ((⟨g, 0, none⟩ : Addr).add j) = some u := hown.cells (g := g) rfl
        have hgr := grown cap (by omega)
        refine ⟨_, _, ?_, hgr.1, fun h0 => by omega, .inr ⟨rfl, hgr.2⟩⟩
        have hf := hs.cells w.drew rfl
        have hold := run_firstCells_some (P := P) w.drew inf.size n ⟨g, 0, none⟩ n cap xs hown.1 (by simpa using holds)
        have h63' : ¬ (9223372036854775807 < ((n : Int) + (m : Int))) := by omega
        have h48' : ¬ (281474976710656 < Builtin.nextslicecap (n + m) cap * inf.bytes) := by
          have := growslice_fits (need := n + m) (old := cap) (by omega) hbytes
          omega
        simp [Builtin.append_, run_underlying ht, run_underlying ht2, sizeOf, typeInfo, zeroValue, hi, hz, hl, hroom, h63', h48', Question.forced, hold, hf, newRow, grownCap]
        rw [show (xs ++ news).toArray = xs.toArray ++ news.toArray from by simp, Array.append_assoc]
end q
end Go.Abs
