/- Slices of three places; arrays in memory at any place. -/
import Derived.Test.YtpdanklncjopoaaG4
set_option linter.unusedSimpArgs false
set_option linter.unusedVariables false
set_option linter.unusedSectionVars false
namespace Go.Abs
open Go.RowKit
section rules
variable {P : Program} {f : FuncId} {N : Nat} {S : Start} {Q : EV → St → Prop} {k : List Item} {todo : List Item} {base : Nat} {env : Env} {st : St} {ops rest : List Oper}
  {d : Option Tmp} {ty : TypeId} {pos : String} {after : Array Edge} {gd : Option (Nat × Bool)} {t t2 e : TypeId} {x y z u : Operand}
theorem sl_pre {lim : Nat → Nat} {w : World} {sz : Nat} {rows : List (List D)} {A : Option Addr} {c h m : Nat} (hd : DRep lim w (.sl sz rows) (.slice A rows.length c)) (hh : h ≤ rows.length) (hm : h ≤ m) (hc : m ≤ c) :
    DRep lim w (.sl sz (rows.take h)) (.slice A (rows.take h).length m) := by
  have hlen : (rows.take h).length = h := by simp; omega
  rw [hlen]
  cases hd with
  | nil =>
    have h1 : h = 0 := by simpa using hh
    have h2 : m = 0 := by omega
    subst h1; subst h2
    exact .nil sz _
  | sl _ _ b off cap hc' hr hx hcell =>
    have e : h = (rows.take h).length := hlen.symm
    rw [show (Value.slice (some ⟨b, off, none⟩) h m) = .slice (some ⟨b, off, none⟩) (rows.take h).length m from by rw [hlen]]
    refine .sl sz _ b off m (by rw [hlen]; exact hm) (fun row hm => hr row (List.mem_of_mem_take hm)) (fun k hk => hx k (Nat.lt_of_lt_of_le hk (Nat.mul_le_mul_right _ (by rw [hlen]; exact hh)))) fun i j row cc v hi hj hu => ?_
    rw [List.getElem?_take] at hi
    split at hi
    · exact hcell i j row cc v hi hj hu
    · cases hi
theorem sl_cap {lim : Nat → Nat} {w : World} {sz : Nat} {rows : List (List D)} {A : Option Addr} {c : Nat} (hd : DRep lim w (.sl sz rows) (.slice A rows.length c)) : rows.length ≤ c := by
  generalize hv : Value.slice A rows.length c = v at hd
  cases hd with
  | nil => exact Nat.zero_le _
  | sl _ _ _ _ _ hc => cases hv; exact hc
section sl
variable {α : Type} {sz : Nat} {row : α → List D} {l : List α} {ev : EV} {inf : TypeInfo}
/-- 's[:h:m]'. -/
theorem q_slHML {kh km : IntKind} {b c : Int} (ht : P.underlying t = some (.slice e)) (hi : P.info? e = some inf) (hsz : inf.size = sz) (hx : evo env x = some ev) (hs : asSl ev = some (sz, l.map row)) (hz : evo env z = some (.d (.ex (.int kh b)))) (hu : evo env u = some (.d (.ex (.int km c))))
    (h : 0 ≤ b ∧ b ≤ c ∧ c ≤ l.length) : OpQ P env st ⟨d, .slice t x none (some z) (some u), ty, pos, after, gd⟩ (.d (slOf sz row (l.take b.toNat))) := fun g base w tmps hinv he => by
  have hd := asSl_rep hs (evo_rep he hx)
  obtain ⟨A, cp, hv⟩ := sl_form hd
  rw [hv] at hd
  have hcap : (l.map row).length ≤ cp := sl_cap hd
  rw [List.length_map] at hcap
  have hd' := sl_pre (h := b.toNat) (m := c.toNat) hd (by simp; omega) (by omega) (by omega)
  have hl' : ((l.map row).take b.toNat).length = b.toNat := by simp; omega
  have hcut := sl_cut hd' (l := 0) (h := b.toNat) (by omega) (by rw [hl']; exact Nat.le_refl _) (by rw [hl']; omega)
  have e1 : (((l.map row).take b.toNat).take b.toNat).drop 0 = (l.take b.toNat).map row := by simp [List.take_take]
  rw [e1] at hcut
  refine ⟨_, .d _ _ hcut, fun w' _ => ?_⟩
  have hrun := run_slice_hm (P := P) w' t A (l.map row).length cp (by rw [elem_eq ht]; exact ht) kh km b c h.1 h.2.1 (by omega)
  simp only [execOp, hv, Sem.run_bind, run_sliceAt_slice w' t _ _ _ _ (by rw [elem_eq ht]; exact ht), Option.map_none, Option.map_some, (evo_rep he hz).ex_inv, (evo_rep he hu).ex_inv, hrun, Result.andThen_ok, Sem.run_pure]
  simp [elem_eq ht, size_of hi, hsz]
/-- 's[l:h:m]'. -/
theorem q_slLHML {kl kh km : IntKind} {a b c : Int} (ht : P.underlying t = some (.slice e)) (hi : P.info? e = some inf) (hsz : inf.size = sz) (hx : evo env x = some ev) (hs : asSl ev = some (sz, l.map row)) (hy : evo env y = some (.d (.ex (.int kl a)))) (hz : evo env z = some (.d (.ex (.int kh b)))) (hu : evo env u = some (.d (.ex (.int km c))))
    (h : 0 ≤ a ∧ a ≤ b ∧ b ≤ c ∧ c ≤ l.length) : OpQ P env st ⟨d, .slice t x (some y) (some z) (some u), ty, pos, after, gd⟩ (.d (slOf sz row ((l.take b.toNat).drop a.toNat))) := fun g base w tmps hinv he => by
  have hd := asSl_rep hs (evo_rep he hx)
  obtain ⟨A, cp, hv⟩ := sl_form hd
  rw [hv] at hd
  have hcap : (l.map row).length ≤ cp := sl_cap hd
  rw [List.length_map] at hcap
  have hd' := sl_pre (h := b.toNat) (m := c.toNat) hd (by simp; omega) (by omega) (by omega)
  have hl' : ((l.map row).take b.toNat).length = b.toNat := by simp; omega
  have hcut := sl_cut hd' (l := a.toNat) (h := b.toNat) (by omega) (by rw [hl']; exact Nat.le_refl _) (by rw [hl']; omega)
  have e1 : (((l.map row).take b.toNat).take b.toNat).drop a.toNat = ((l.take b.toNat).drop a.toNat).map row := by simp [List.take_take]
  rw [e1] at hcut
  refine ⟨_, .d _ _ hcut, fun w' _ => ?_⟩
  have hrun := run_slice_lhm (P := P) w' t A (l.map row).length cp (by rw [elem_eq ht]; exact ht) kl kh km a b c h.1 h.2.1 h.2.2.1 (by omega)
  simp only [execOp, hv, Sem.run_bind, run_sliceAt_slice w' t _ _ _ _ (by rw [elem_eq ht]; exact ht), Option.map_none, Option.map_some, (evo_rep he hy).ex_inv, (evo_rep he hz).ex_inv, (evo_rep he hu).ex_inv, hrun, Result.andThen_ok, Sem.run_pure]
  simp [elem_eq ht, size_of hi, hsz]
end sl

/-! ### arrays that the call owns, of one cell an element -/
section arr
variable {α : Type} {c1 : α → D} {l : List α} {o : Nat} {T : TypeId}
theorem q_idxArrS {n : Nat} {kk : IntKind} {i : Int} (ht : P.underlying t = some (.array n e)) (hi : ∃ inf, P.info? e = some inf ∧ inf.size = 1) (hx : evo env x = some (.ref o 0)) (hy : evo env y = some (.d (.ex (.int kk i)))) (h : 0 ≤ i ∧ i < (n : Int)) :
    OpQ P env st ⟨d, .indexAddr t x y, ty, pos, after, gd⟩ (.ref o i.toNat) := by
  have := q_idxArr (st := st) (d := d) (ty := ty) (pos := pos) (after := after) (gd := gd) (m := i.toNat) ht hi hx hy (by omega) (by omega)
  simpa using this
theorem q_loadArr [Inhabited α] {i : Nat} (h1 : (P.underlying t).map oneB = some true) (hx : evo env x = some (.ref o i)) (ho : st.objs[o]? = some (.row T (l.map fun b => EV.d (c1 b)))) (hi : i < l.length) :
    OpQ P env st ⟨d, .load t x, ty, pos, after, gd⟩ (.d (c1 (nth l i))) :=
  q_loadO h1 hx ho (by rw [List.getElem?_map, List.getElem?_eq_getElem hi, ← nth_eq hi]; rfl)
theorem u_storeArr {i : Nat} {a : α} (hx : evo env x = some (.ref o i)) (hy : evo env y = some (.d (c1 a))) (ho : st.objs[o]? = some (.row T (l.map fun b => EV.d (c1 b)))) (hc : cellsE (.d (c1 a)) = some [.d (c1 a)]) (hi : i < l.length)
    (hs : (P.info? t).map (·.size) = some 1) : OpU P base env st ⟨d, .store t x y, ty, pos, after, gd⟩ (st.set o (.row T ((l.set i a).map fun b => EV.d (c1 b)))) := by
  have := u_store (base := base) (d := d) (ty := ty) (pos := pos) (after := after) (gd := gd) hx hy ho hc (by simp; omega) hs
  have e1 : putCells (l.map fun b => EV.d (c1 b)) i [.d (c1 a)] = (l.set i a).map fun b => EV.d (c1 b) := by
    unfold putCells
    rw [List.map_set, List.set_eq_take_append_cons_drop, if_pos (by simpa using hi)]
    simp
  rwa [e1] at this
/-- 'a[:]'. -/
theorem q_arrAll {n : Nat} (ht : P.underlying t = some (.array n e)) (hi : ∃ inf, P.info? e = some inf ∧ inf.size = 1) (hx : evo env x = some (.ref o 0)) :
    OpQ P env st ⟨d, .slice t x none none none, ty, pos, after, gd⟩ (.osl o 0 n n) := fun g base w tmps hinv he => by
  obtain ⟨inf, hi, h1⟩ := hi
  have h := evo_rep he hx
  generalize hv : Act.eval ⟨tmps, []⟩ x = v at h
  cases h with
  | ref _ _ hlt' =>
    refine ⟨.slice (some ⟨g.ob o, 0, none⟩) n n, .osl _ _ _ _ hlt', fun w' _ => ?_⟩
    by_cases hn : n = 0
    · subst hn
      simp [execOp, hv, Instr.sliceAt, run_underlying ht, Instr.sureAddr, Instr.sliceBounds, sizeOf, typeInfo, hi, Addr.add_lit]
    · simp [execOp, hv, Instr.sliceAt, run_underlying ht, Instr.sureAddr, Instr.sliceBounds, sizeOf, typeInfo, hi, hn, Addr.add_lit]
theorem srcRep_osl {g : Ghost} {w : World} {n : Nat} {v : Value} (hinv : Inv g base w st) (hv : EVRep g w st (.osl o 0 n n) v) (ho : st.objs[o]? = some (.row T (l.map fun b => EV.d (c1 b)))) (hn : l.length = n) :
    ∃ news, SrcRep P g.lim w 1 v (l.map fun b => [c1 b]) news := by
  cases hv with
  | osl _ _ _ _ hlt =>
    obtain ⟨_, _, vs, hb, hsz, hreps⟩ := hinv.row o T _ ho
    have hfl : (l.map fun b => [c1 b]).flatten = l.map c1 := by
      clear hn ho hsz hreps
      induction l with
      | nil => rfl
      | cons a l ih => simp [ih]
    have hvl : vs.size = l.length := by simpa using hsz
    have hrep : ∀ (j : Nat) u c, vs.toList[j]? = some u → (l.map c1)[j]? = some c → DRep g.lim w c u ∧ u.oneCell' = true := fun j u c hu hc => by
      rw [List.getElem?_map] at hc
      obtain ⟨a, ha, rfl⟩ := Option.map_eq_some_iff.1 hc
      have h1 := hreps j (.d (c1 a)) u (by rw [List.getElem?_map, ha]; rfl) (by simpa using hu)
      exact ⟨by cases h1.1 with | d _ _ h => exact h, h1.2⟩
    refine ⟨vs.toList, ⟨by simp [Builtin.lenOf, hn], fun w' hw => ?_, by simp [hvl], fun u hu => ?_⟩, by simp, fun j u c hu hc => hrep j u c hu (by rw [← hfl]; exact hc)⟩
    · refine run_firstCells_some w' 1 _ _ n n _ (by simp [hvl]) fun j u hu => ?_
      rw [Addr.add_lit, Nat.zero_add]
      have : w.cell? ⟨g.ob o, j, none⟩ = some u := by rw [cell_of_row w _ j vs T (0, 0) hb]; simpa using hu
      simpa [World.cell?, hw] using this
    · obtain ⟨j, hj⟩ := List.mem_iff_getElem?.1 hu
      have hjl := (List.getElem?_eq_some_iff.1 hj).1
      have hjl' : j < (l.map c1).length := by simp at hjl ⊢; omega
      exact (hrep j u _ hj (List.getElem?_eq_getElem hjl')).2
theorem v_appendOslV {tk n m : Nat} {l' : List α} {inf : TypeInfo} {zv : Value} (ht : P.underlying t = some (.slice e)) (hi : P.info? e = some inf) (hz : inf.zero = some zv) (hsize : inf.size = 1) (hzs : zv.cells.size = 1) (hb : inf.bytes ≤ 100000)
    (hx : evo env x = some (.vc tk n)) (htl : st.tails[tk]? = some ⟨e, 1, n, some (l.map fun b => [c1 b])⟩) (hy : evo env y = some (.osl o 0 m m)) (ho : st.objs[o]? = some (.row T (l'.map fun b => EV.d (c1 b)))) (hn : l'.length = m ∧ l.length + l'.length ≤ 1000000000) :
    OpV P base env st ⟨d, .call ⟨.builtin .append, #[x, y], #[t, t]⟩, ty, pos, after, gd⟩ (.vc tk (l ++ l').length) (st.setTail tk ⟨e, 1, (l ++ l').length, some ((l ++ l').map fun b => [c1 b])⟩) :=
  append_coreV ht ht (.inr ⟨e, rfl⟩) hi hz hsize hzs hb hx htl hn.2 fun g w tmps hinv he => srcRep_osl hinv (evo_rep he hy) ho hn.1
theorem v_appendOsl {tk m : Nat} {l' : List α} {inf : TypeInfo} {zv : Value} (ht : P.underlying t = some (.slice e)) (hi : P.info? e = some inf) (hz : inf.zero = some zv) (hsize : inf.size = 1) (hzs : zv.cells.size = 1) (hb : inf.bytes ≤ 100000)
    (hx : evo env x = some (.tsl 1 (l.map fun b => [c1 b]) tk)) (htl : st.tails[tk]? = some ⟨e, 1, l.length, none⟩) (hy : evo env y = some (.osl o 0 m m)) (ho : st.objs[o]? = some (.row T (l'.map fun b => EV.d (c1 b)))) (hn : l'.length = m ∧ l.length + l'.length ≤ 1000000000) :
    OpV P base env st ⟨d, .call ⟨.builtin .append, #[x, y], #[t, t]⟩, ty, pos, after, gd⟩ (.tsl 1 ((l ++ l').map fun b => [c1 b]) tk) (st.setTail tk ⟨e, 1, (l ++ l').length, none⟩) := by
  intro g w tmps hinv he
  obtain ⟨news, hsr⟩ := srcRep_osl (P := P) hinv (evo_rep he hy) ho hn.1
  have e1 : (l ++ l').map (fun b => [c1 b]) = l.map (fun b => [c1 b]) ++ l'.map (fun b => [c1 b]) := by simp
  have e2 : (l ++ l').length = (l.map (fun b => [c1 b]) ++ l'.map (fun b => [c1 b])).length := by simp
  rw [e1, e2]
  obtain ⟨v', g', w', hrun, h1, h2, h3⟩ := append_val (ty := ty) (rows := l.map fun b => [c1 b]) ht ht (.inr ⟨e, rfl⟩) hi hz hsize hzs hinv (evo_rep he hx) (by simpa using htl) (by simpa using big_le hn.2 hb) (by simp; omega) hsr
  exact ⟨v', g', w', by simp [execOp, resolve, invoke, builtin, hrun], h1, h2, h3⟩
end arr
end rules
section norm
variable {P : Program} {f : FuncId} {N : Nat} {S : Start} {Q : EV → St → Prop} {k : List Item} {todo : List Item} {env : Env} {st : St} {ops rest : List Oper}
theorem ARun.freezeL {α : Type} {l : List α} {row : α → List D} {i tk e sz n : Nat} (hl : lookup i env = some (.vc tk n)) (htl : st.tails[tk]? = some ⟨e, sz, n, some (l.map row)⟩)
    (h : ARun P f N S Q todo ((i, .tsl sz (l.map row) tk) :: env) (st.setTail tk ⟨e, sz, l.length, none⟩)) : ARun P f N S Q todo env st :=
  .lenV htl fun hn => .freeze hl htl (by rw [hn]; exact h)
theorem AOps.freezeL {α : Type} {l : List α} {row : α → List D} {i tk e sz n : Nat} (hl : lookup i env = some (.vc tk n)) (htl : st.tails[tk]? = some ⟨e, sz, n, some (l.map row)⟩)
    (h : AOps P f N S Q ops rest k ((i, .tsl sz (l.map row) tk) :: env) (st.setTail tk ⟨e, sz, l.length, none⟩)) : AOps P f N S Q ops rest k env st :=
  fun j hj => .freezeL hl htl (h j hj)
/-- An owned row's length, told by its contents. -/
theorem ARun.normV {α : Type} {l : List α} {row : α → List D} {tk e sz n : Nat} (E : Nat → Env) (T : Nat → St) (htl : st.tails[tk]? = some ⟨e, sz, n, some (l.map row)⟩) (hE : SubEnv env (E n)) (hT : st = T n)
    (h : ARun P f N S Q todo (E l.length) (T l.length)) : ARun P f N S Q todo env st :=
  .lenV htl fun hn => .sub hE (by rw [hT, hn]; exact h)
end norm
theorem EVle.tupE {es xs : List EV} (h : EVlesE es xs) : EVle (.tup es) (.tup xs) := by
  intro g w st v hv
  obtain ⟨h1, h2⟩ := h.get
  cases hv with
  | tup _ vs hs hc =>
    refine .tup _ vs (by rw [hs, h1]) fun i d u hd hu => ?_
    obtain ⟨e, he, hle⟩ := h2 i d hd
    exact hle _ _ _ _ (hc i e u he hu)
end Go.Abs
