/- Owned rows: grown, copied into, made of elements, read as a text. -/
import Derived.Test.YtpdanklncjopoaaG3
import Derived.Laws.CopyRow
set_option linter.unusedSimpArgs false
set_option linter.unusedVariables false
set_option linter.unusedSectionVars false
namespace Go.Abs
open Go.RowKit

section rules
variable {P : Program} {f : FuncId} {N : Nat} {S : Start} {Q : EV → St → Prop} {k : List Item} {todo : List Item} {base : Nat} {env : Env} {st : St} {ops rest : List Oper}
  {d : Option Tmp} {ty : TypeId} {pos : String} {after : Array Edge} {gd : Option (Nat × Bool)} {t t2 e : TypeId} {x y z : Operand}
section sl
variable {α : Type} {sz : Nat} {row : α → List D} {l : List α} {ev : EV} {inf : TypeInfo} {tk n : Nat}
theorem append_valV {l' : List α} {zv : Value} {d2 : TypeDesc} {g : Ghost} {w : World} {v u : Value} {news : List Value} (ht : P.underlying t = some (.slice e)) (ht2 : P.underlying t2 = some d2) (hn2 : d2 = .string ∨ ∃ e2, d2 = .slice e2)
    (hi : P.info? e = some inf) (hz : inf.zero = some zv) (hsize : inf.size = sz) (hzs : zv.cells.size = sz) (hb : inf.bytes ≤ 100000) (hinv : Inv g base w st) (hv : EVRep g w st (.vc tk n) v) (htl : st.tails[tk]? = some ⟨e, sz, n, some (l.map row)⟩)
    (hn : l.length + l'.length ≤ 1000000000) (hsr : SrcRep P g.lim w sz u (l'.map row) news) :
    ∃ v' g' w', (Builtin.append_ #[t, t2] ty #[v, u]).run P w = .ok v' w' ∧ EVRep g' w' (st.setTail tk ⟨e, sz, (l ++ l').length, some ((l ++ l').map row)⟩) (.vc tk (l ++ l').length) v' ∧
      Inv g' base w' (st.setTail tk ⟨e, sz, (l ++ l').length, some ((l ++ l').map row)⟩) ∧ Step base g w st g' w' (st.setTail tk ⟨e, sz, (l ++ l').length, some ((l ++ l').map row)⟩) := by
  obtain ⟨hvk, xs, hown, hlim, hrr⟩ := vc_val hinv htl hv
  have hnl : n = l.length := by have := hrr.len; simpa using this.symm
  have hm : (l'.map row).length = l'.length := by simp
  obtain ⟨v', w', hrun, hown', hm0, hc⟩ := run_append3 (P := P) (ty := ty) w ht ht2 hn2 hi hz hsize hzs hown hsr.src (by simp only [maxLen]; rw [hm]; omega) (by rw [hm, hnl]; exact big_le hn hb) hinv.base
  rw [hm] at hown' hm0
  have e1 : (l ++ l').length = n + l'.length := by rw [List.length_append, hnl]
  rw [e1]
  rw [hvk] at hc hm0
  have hrows : RowsRep g.lim w sz (n + l'.length) ((l ++ l').map row) (xs ++ news) := by
    refine ⟨by simp [hnl], fun r hr => ?_, fun j c u hcc hu => ?_⟩
    · rw [List.map_append] at hr
      rcases List.mem_append.1 hr with h | h
      · exact hrr.row r h
      · exact hsr.rows r h
    · rw [List.map_append, List.flatten_append] at hcc
      have hfl := flat_len hrr.row
      have hxl := hown.1
      rw [hrr.len] at hfl
      by_cases hj : j < xs.length
      · rw [List.getElem?_append_left hj] at hu
        rw [List.getElem?_append_left (by omega)] at hcc
        exact hrr.rep j c u hcc hu
      · rw [List.getElem?_append_right (by omega)] at hu
        rw [List.getElem?_append_right (by omega)] at hcc
        have e2 : ((l.map row).flatten).length = xs.length := by omega
        rw [e2] at hcc
        exact hsr.rep _ u c hu hcc
  obtain ⟨g', q1, q2, q3, q4⟩ := hinv.turn (x' := ⟨e, sz, n + l'.length, some ((l ++ l').map row)⟩) htl hown' hc (fun hh => by cases hh) (fun rows _ rows' _ => ⟨rfl, Nat.le_add_right _ _, fun e => hm0 (by simp only at e; omega)⟩) (fun rows hh => by cases hh; exact hrows)
  refine ⟨v', g', w', hrun, ?_, q3, q4⟩
  have hlen : tk < st.tails.length := (List.getElem?_eq_some_iff.1 htl).1
  obtain ⟨⟨A, c, hv⟩, _⟩ := own_form hown'
  refine .vc _ _ _ (by simpa [St.setTail] using hlen) ⟨A, _, c, hv⟩ fun y rows hy ho => ?_
  have : y = ⟨e, sz, n + l'.length, some ((l ++ l').map row)⟩ := by
    have : (⟨e, sz, n + l'.length, some ((l ++ l').map row)⟩ : Tail) = y := by simpa [St.setTail, List.getElem?_set, hlen] using hy
    exact this.symm
  subst this
  exact ⟨Nat.le_refl _, fun _ => q1.symm⟩
theorem append_coreV {l' : List α} {zv : Value} {d2 : TypeDesc} (ht : P.underlying t = some (.slice e)) (ht2 : P.underlying t2 = some d2) (hn2 : d2 = .string ∨ ∃ e2, d2 = .slice e2)
    (hi : P.info? e = some inf) (hz : inf.zero = some zv) (hsize : inf.size = sz) (hzs : zv.cells.size = sz) (hb : inf.bytes ≤ 100000) (hx : evo env x = some (.vc tk n)) (htl : st.tails[tk]? = some ⟨e, sz, n, some (l.map row)⟩)
    (hn : l.length + l'.length ≤ 1000000000)
    (hsrc : ∀ (g : Ghost) (w : World) (tmps : Array Value), Inv g base w st → EnvRep g w st env tmps → ∃ news, SrcRep P g.lim w sz (Act.eval ⟨tmps, []⟩ y) (l'.map row) news) :
    OpV P base env st ⟨d, .call ⟨.builtin .append, #[x, y], #[t, t2]⟩, ty, pos, after, gd⟩ (.vc tk (l ++ l').length) (st.setTail tk ⟨e, sz, (l ++ l').length, some ((l ++ l').map row)⟩) := by
  intro g w tmps hinv he
  obtain ⟨news, hsr⟩ := hsrc g w tmps hinv he
  obtain ⟨v', g', w', hrun, h1, h2, h3⟩ := append_valV (ty := ty) ht ht2 hn2 hi hz hsize hzs hb hinv (evo_rep he hx) htl hn hsr
  exact ⟨v', g', w', by simp [execOp, resolve, invoke, builtin, hrun], h1, h2, h3⟩
/-- An append to nil, the row owned. -/
theorem v_appendNilV {l' : List α} {zv : Value} {w : EV} (ht : P.underlying t = some (.slice e)) (hi : P.info? e = some inf) (hz : inf.zero = some zv) (hsize : inf.size = sz) (hzs : zv.cells.size = sz) (hb : inf.bytes ≤ 100000)
    (hx : evo env x = some (.d nilD)) (hy : evo env y = some w) (hs : asSl w = some (sz, l'.map row)) (hn : l'.length ≤ 1000000000) :
    OpV P base env st ⟨d, .call ⟨.builtin .append, #[x, y], #[t, t]⟩, ty, pos, after, gd⟩ (.vc st.tails.length ([] ++ l').length) ((st.tok ⟨e, sz, 0, some (([] : List α).map row)⟩).setTail st.tails.length ⟨e, sz, ([] ++ l').length, some (([] ++ l').map row)⟩) := by
  intro g w0 tmps hinv he
  obtain ⟨news, hsr⟩ := srcRep_sl (P := P) (asSl_rep hs (evo_rep he hy))
  obtain ⟨g1, h1, _, h1l, h2, h3⟩ := hinv.newTail ⟨e, sz, 0, some (([] : List α).map row)⟩ (v := .slice none 0 0) (w' := w0) (xs := []) (World.ownsRow_nil w0 base _ _) (.inl ⟨rfl, rfl⟩) (fun rows hr => by cases hr; exact ⟨rfl, by simp, by simp⟩)
  have htl : (st.tok ⟨e, sz, 0, some (([] : List α).map row)⟩).tails[st.tails.length]? = some ⟨e, sz, 0, some (([] : List α).map row)⟩ := by simp [St.tok]
  have hvx : Act.eval ⟨tmps, []⟩ x = .slice none 0 0 := (evo_rep he hx).ex_inv
  have hsr' : SrcRep P g1.lim w0 sz (Act.eval ⟨tmps, []⟩ y) (l'.map row) news := ⟨hsr.src, hsr.rows, fun j v c a b => ⟨(hsr.rep j v c a b).1.mono h3.sevo.evo, (hsr.rep j v c a b).2⟩⟩
  have hrep : EVRep g1 w0 (st.tok ⟨e, sz, 0, some (([] : List α).map row)⟩) (.vc st.tails.length 0) (Act.eval ⟨tmps, []⟩ x) := by
    rw [hvx, ← h1]
    refine .vc _ _ _ (by simp [St.tok]) ⟨_, _, _, h1⟩ fun y rows hy ho => ?_
    rw [htl] at hy
    cases hy
    exact ⟨Nat.le_refl _, fun _ => rfl⟩
  obtain ⟨v', g', w', hrun, k1, k2, k3⟩ := append_valV (ty := ty) ht ht (.inr ⟨e, rfl⟩) hi hz hsize hzs hb h2 hrep htl (by simpa using hn) hsr'
  exact ⟨v', g', w', by simp [execOp, resolve, invoke, builtin, hrun], k1, k2, h3.trans k3⟩
theorem v_appendV {l' : List α} {zv : Value} {w : EV} (ht : P.underlying t = some (.slice e)) (hi : P.info? e = some inf) (hz : inf.zero = some zv) (hsize : inf.size = sz) (hzs : zv.cells.size = sz) (hb : inf.bytes ≤ 100000)
    (hx : evo env x = some (.vc tk n)) (htl : st.tails[tk]? = some ⟨e, sz, n, some (l.map row)⟩) (hy : evo env y = some w) (hs : asSl w = some (sz, l'.map row)) (hn : l.length + l'.length ≤ 1000000000) :
    OpV P base env st ⟨d, .call ⟨.builtin .append, #[x, y], #[t, t]⟩, ty, pos, after, gd⟩ (.vc tk (l ++ l').length) (st.setTail tk ⟨e, sz, (l ++ l').length, some ((l ++ l').map row)⟩) :=
  append_coreV ht ht (.inr ⟨e, rfl⟩) hi hz hsize hzs hb hx htl hn fun g w tmps _ he => srcRep_sl (asSl_rep hs (evo_rep he hy))
theorem v_appendStrV {l a : List UInt8} {zv : Value} (ht : P.underlying t = some (.slice e)) (ht2 : P.underlying t2 = some .string) (hi : P.info? e = some inf) (hz : inf.zero = some zv) (hsize : inf.size = 1) (hzs : zv.cells.size = 1) (hb : inf.bytes ≤ 100000)
    (hx : evo env x = some (.vc tk n)) (htl : st.tails[tk]? = some ⟨e, 1, n, some (l.map rB8)⟩) (hy : evo env y = some (.d (cS a))) (hn : l.length + a.length ≤ 1000000000) :
    OpV P base env st ⟨d, .call ⟨.builtin .append, #[x, y], #[t, t2]⟩, ty, pos, after, gd⟩ (.vc tk (l ++ a).length) (st.setTail tk ⟨e, 1, (l ++ a).length, some ((l ++ a).map rB8)⟩) :=
  append_coreV ht ht2 (.inl rfl) hi hz hsize hzs hb hx htl hn fun g w tmps _ he => by
    have h := (evo_rep he hy).ex_inv
    rw [h]
    exact ⟨_, srcRep_str a⟩
/-- 'copy(x, y)' into an owned row. -/
theorem v_copyV {l' : List α} {w : EV} {e' : Nat} (ht : P.underlying t = some (.slice e)) (hi : P.info? e = some inf) (hsize : inf.size = sz) (hx : evo env x = some (.vc tk n)) (htl : st.tails[tk]? = some ⟨e', sz, n, some (l.map row)⟩)
    (hy : evo env y = some w) (hs : asSl w = some (sz, l'.map row)) :
    OpV P base env st ⟨d, .call ⟨.builtin .copy, #[x, y], #[t, t2]⟩, ty, pos, after, gd⟩ (.d (cI ((min l'.length l.length : Nat) : Int))) (st.setTail tk ⟨e', sz, n, some ((l'.take (min l'.length l.length) ++ l.drop (min l'.length l.length)).map row)⟩) := by
  intro g w0 tmps hinv he
  obtain ⟨hvk, xs, hown, hlim, hrr⟩ := vc_val hinv htl (evo_rep he hx)
  have hnl : n = l.length := by have := hrr.len; simpa using this.symm
  obtain ⟨A, c, vs, hvA, hvl, hA, hnil, hcell, hrw, hrep⟩ := slInv (asSl_rep hs (evo_rep he hy))
  rw [List.length_map] at hvA hvl hA hnil
  generalize hm : min l'.length l.length = m
  have hml : m ≤ l'.length := by omega
  have hmr : m ≤ l.length := by omega
  have hms : m * sz ≤ n * sz := Nat.mul_le_mul_right _ (by omega)
  have hms' : m * sz ≤ l'.length * sz := Nat.mul_le_mul_right _ hml
  have hxl := hown.1
  -- the cells that are copied
  have hfirst : (Builtin.firstCells sz m (Act.eval ⟨tmps, []⟩ y)).run P w0 = .ok (vs.take (m * sz)).toArray w0 := by
    rw [hvA]
    cases A with
    | none =>
      have h0 : vs = [] := List.eq_nil_of_length_eq_zero (by rw [hvl, (hnil rfl).1]; simp)
      subst h0
      simp [Builtin.firstCells]
    | some ad =>
      rcases hA with h0 | ⟨b, off, hab⟩
      · have h1 : m = 0 := by omega
        subst h1
        simp [Builtin.firstCells, loadCells, loadCellsFrom]
      · cases hab
        refine run_firstCells_some w0 sz m _ _ c _ (by simp; omega) fun j v hv => ?_
        rw [Addr.add_lit]
        rw [List.getElem?_take] at hv
        split at hv
        · exact hcell b off rfl j v hv
        · cases hv
  have hone : ∀ v ∈ vs.take (m * sz), v.oneCell' = true := fun v hv => by
    have hv' := List.mem_of_mem_take hv
    obtain ⟨j, hj⟩ := List.mem_iff_getElem?.1 hv'
    have hj' := (List.getElem?_eq_some_iff.1 hj).1
    have hfl := flat_len hrw
    rw [List.length_map] at hfl
    exact (hrep j v _ hj (List.getElem?_eq_getElem (by omega))).2
  have hus : (vs.take (m * sz)).length = m * sz := by simp; omega
  have hrl : ∀ a ∈ l', (row a).length = sz := fun a ha => hrw _ (List.mem_map.2 ⟨a, ha, rfl⟩)
  have hrl2 : ∀ a ∈ l, (row a).length = sz := fun a ha => hrr.row _ (List.mem_map.2 ⟨a, ha, rfl⟩)
  have hrows : RowsRep g.lim w0 sz n ((l'.take m ++ l.drop m).map row) (xs.take 0 ++ vs.take (m * sz) ++ xs.drop (0 + (vs.take (m * sz)).length)) := by
    refine ⟨by simp; omega, fun r hr => ?_, fun j cc u hcc hu => ?_⟩
    · obtain ⟨a, ha, rfl⟩ := List.mem_map.1 hr
      rcases List.mem_append.1 ha with h | h
      · exact hrl a (List.mem_of_mem_take h)
      · exact hrl2 a (List.mem_of_mem_drop h)
    · rw [List.map_append, List.flatten_append] at hcc
      have hf1 : ((l'.take m).map row).flatten.length = m * sz := by
        rw [flat_len (sz := sz) (fun r hr => by obtain ⟨a, ha, rfl⟩ := List.mem_map.1 hr; exact hrl a (List.mem_of_mem_take ha))]
        simp; rw [Nat.min_eq_left hml]
      have t1 : ((l'.take m).map row).flatten = ((l'.map row).flatten).take (m * sz) := by
        have : l'.map row = (l'.take m).map row ++ (l'.drop m).map row := by rw [← List.map_append, List.take_append_drop]
        rw [this, List.flatten_append, ← hf1, List.take_left]
      have hf2 : ((l.take m).map row).flatten.length = m * sz := by
        rw [flat_len (sz := sz) (fun r hr => by obtain ⟨a, ha, rfl⟩ := List.mem_map.1 hr; exact hrl2 a (List.mem_of_mem_take ha))]
        simp; rw [Nat.min_eq_left hmr]
      have t2 : ((l.drop m).map row).flatten = ((l.map row).flatten).drop (m * sz) := by
        have : l.map row = (l.take m).map row ++ (l.drop m).map row := by rw [← List.map_append, List.take_append_drop]
        rw [this, List.flatten_append, ← hf2, List.drop_left]
      simp only [List.take_zero, List.nil_append, Nat.zero_add, hus] at hu
      by_cases hj : j < m * sz
      · rw [List.getElem?_append_left (by omega), t1, List.getElem?_take, if_pos hj] at hcc
        rw [List.getElem?_append_left (by omega), List.getElem?_take, if_pos hj] at hu
        exact hrep j u cc hu hcc
      · rw [List.getElem?_append_right (by omega), hf1, t2, List.getElem?_drop] at hcc
        rw [List.getElem?_append_right (by omega), hus, List.getElem?_drop] at hu
        exact hrr.rep _ cc u hcc hu
  obtain ⟨⟨A2, c2, hv2⟩, hsome⟩ := own_form hown
  have hlen2 : Builtin.lenOf (Act.eval ⟨tmps, []⟩ y) = pure l'.length := by rw [hvA]; rfl
  have hmin : Nat.min l'.length n = m := by rw [hnl]; exact hm
  by_cases hn0 : A2 = none
  · subst hn0
    have hm0 : m = 0 := by
      rcases hown.2 with ⟨_, h2⟩ | ⟨gb, cap, cur, h1, _⟩
      · omega
      · rw [hv2] at h1; cases h1
    have hnew : (l'.take m ++ l.drop m) = l := by rw [hm0]; simp
    rw [hnew]
    have hst : st.setTail tk ⟨e', sz, n, some (l.map row)⟩ = st := by
      have hlen : tk < st.tails.length := (List.getElem?_eq_some_iff.1 htl).1
      have h3 : st.tails[tk] = ⟨e', sz, n, some (l.map row)⟩ := (List.getElem?_eq_some_iff.1 htl).2
      unfold St.setTail
      rw [← h3, List.set_getElem_self]
    rw [hst]
    refine ⟨.int .i64 m, g, w0, ?_, .d _ _ (.ex _), hinv, .refl _ _ _ _⟩
    simp [execOp, resolve, invoke, builtin, Builtin.copy_, run_underlying ht, hv2, hlen2, sizeOf, typeInfo, hi, hsize, hmin, hfirst, goInt]
  · obtain ⟨b, hb⟩ : ∃ b, A2 = some ⟨b, 0, none⟩ := by
      rcases hown.2 with ⟨h1, _⟩ | ⟨gb, cap, cur, h1, _⟩
      · rw [hv2] at h1; cases h1; exact absurd rfl hn0
      · rw [hv2] at h1; cases h1; exact ⟨gb, rfl⟩
    subst hb
    rw [hv2] at hown
    obtain ⟨w', k1, k2, k3, k4⟩ := own_store (P := P) hown 0 (vs.take (m * sz)) (by omega) hone
    rw [hv2] at hvk
    obtain ⟨g', q1, q2, q3, q4⟩ := hinv.turn (x' := ⟨e', sz, n, some ((l'.take m ++ l.drop m).map row)⟩) (v' := g.tk tk) (w' := w') htl (by rw [← hvk]; exact k2) (.inl ⟨rfl, k4, by rw [← hvk]; exact k3⟩) (fun hh => by cases hh) (fun rows _ rows' _ => ⟨rfl, Nat.le_refl _, fun _ => rfl⟩) (fun rows hh => by cases hh; exact hrows)
    refine ⟨.int .i64 m, g', w', ?_, .d _ _ (.ex _), q3, q4⟩
    simp [execOp, resolve, invoke, builtin, Builtin.copy_, run_underlying ht, hv2, hlen2, sizeOf, typeInfo, hi, hsize, hmin, hfirst, goInt, k1]
/-- '[]T{}', owned. -/
theorem v_build0V (row : α → List D) (ht : P.underlying t = some (.slice e)) (hi : P.info? e = some inf) (hsz : inf.size = sz) :
    OpV P base env st ⟨d, .buildSlice t 0 #[], ty, pos, after, gd⟩ (.vc st.tails.length ([] : List α).length) (st.tok ⟨e, sz, ([] : List α).length, some (([] : List α).map row)⟩) := by
  intro g w tmps hinv he
  obtain ⟨g', h1, _, _, h2, h3⟩ := hinv.newTail ⟨e, sz, 0, some []⟩ (v := .slice (some ⟨w.heap.size, 0, none⟩) 0 0) (xs := []) ⟨by simp, .inr ⟨w.heap.size, 0, #[], rfl, hinv.base, heap_alloc_new w _, Nat.le_refl _, by simp [maxLen], by simp, by simp⟩⟩
    (.inr ⟨rfl, (Below.refl _ w).alloc (Nat.le_refl _) _⟩) (fun rows hh => by cases hh; exact ⟨rfl, by simp, by simp⟩)
  refine ⟨.slice (some ⟨w.heap.size, 0, none⟩) 0 0, g', _, ?_, .vc _ _ _ (by simp [St.tok]) ⟨_, _, _, rfl⟩ fun y rows hy ho => ?_, h2, h3⟩
  · simp [execOp, Instr.buildSlice, run_underlying ht, size_of hi, newRow, Instr.fill]
    rw [show Array.map (fun _ => (default : Value)) (Array.range 0) = #[] from by simp [Array.range_zero']]
  · have : y = ⟨e, sz, 0, some []⟩ := by simpa [St.tok, eq_comm] using hy
    subst this
    exact ⟨Nat.le_refl _, fun _ => h1.symm⟩
/-- 'string(x)' of an owned row of bytes. -/
theorem q_bytesStrV {a : List UInt8} {e' : Nat} (hs : P.underlying t = some (.slice e)) (he' : P.underlying e = some (.int .u8)) (hd : P.underlying t2 = some .string) (hx : evo env x = some (.vc tk n)) (htl : st.tails[tk]? = some ⟨e', 1, n, some (a.map rB8)⟩) :
    OpQ P env st ⟨d, .convert t t2 x, ty, pos, after, gd⟩ (.d (cS a)) := fun g base w tmps hinv he => by
  refine ⟨_, .d _ _ (.ex _), fun w' hb => ?_⟩
  obtain ⟨hvk, xs, hown, hlim, hrr⟩ := vc_val hinv htl (evo_rep he hx)
  have hnl : n = a.length := by have := hrr.len; simpa using this.symm
  obtain ⟨⟨A2, c2, hv2⟩, hsome⟩ := own_form hown
  subst hnl
  simp only [execOp, hv2, Sem.run_bind, run_convert_bytes_string w' t t2 e _ a.length c2 hs he' hd]
  rw [bytesToString_run (l := a) (fun h0 => ?_) (fun ad ha => ?_)]
  · rfl
  · subst h0
    rcases hown.2 with ⟨_, h2⟩ | ⟨gb, cap, cur, h1, _⟩
    · exact List.eq_nil_of_length_eq_zero h2
    · rw [hv2] at h1; cases h1
  · subst ha
    have hown2 := hown
    rw [hv2] at hown2
    obtain ⟨b, rfl⟩ : ∃ b, ad = ⟨b, 0, none⟩ := by
      rcases hown2.2 with ⟨h1, _⟩ | ⟨gb, cap, cur, h1, _⟩
      · cases h1
      · cases h1; exact ⟨gb, rfl⟩
    refine loadCells_run (by simp) (fun j u hu => ?_)
    rw [List.getElem?_map] at hu
    cases hj : a[j]? with
    | none => rw [hj] at hu; cases hu
    | some bb =>
      rw [hj] at hu
      cases hu
      have hi : (a.map rB8)[j]? = some (rB8 bb) := by rw [List.getElem?_map, hj]; rfl
      obtain ⟨u, k1, k2, _⟩ := hrr.get hown.1 hi (j := 0) (c := .ex (.int .u8 (bb.toNat : Int))) rfl
      rw [Nat.mul_one, Nat.add_zero] at k1
      have hc := hown2.cells (g := b) rfl j u k1
      rw [Addr.add_lit] at hc
      cases k2
      exact (hb.cell (p := ⟨b, 0 + j, none⟩) (hown2.lt b rfl).2).trans hc
end sl
end rules
end Go.Abs
