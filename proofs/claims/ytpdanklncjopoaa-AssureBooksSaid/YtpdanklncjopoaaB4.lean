/- Rules in the shape in which walks want them. -/
import Derived.Test.YtpdanklncjopoaaB3
set_option linter.unusedSimpArgs false
set_option linter.unusedVariables false
set_option linter.unusedSectionVars false
namespace Go.Abs
open Go.RowKit

theorem i64w {n : Int} (h1 : -9223372036854775808 ≤ n) (h2 : n ≤ 9223372036854775807) : IntKind.i64.wrap n = n := by
  rw [IntKind.wrap_i64]; omega

/-- What is referred to lies below. -/
def okEV (n m : Nat) : EV → Bool
  | .d _ => true
  | .ref o _ => Nat.blt o n
  | .osl o _ _ _ => Nat.blt o n
  | .tsl _ _ t => Nat.blt t m
  | .mp o => Nat.blt o n
  | .vc t _ => Nat.blt t m
  | .vp t _ _ _ => Nat.blt t m
  | .vw t _ _ _ => Nat.blt t m
  | .clo _ cs => okEVs n m cs
  | .agg cs => okEVs n m cs
  | .tup cs => okEVs n m cs
  | .gd _ x => okEV n m x
where
  okEVs (n m : Nat) : List EV → Bool
  | [] => true
  | x :: l => okEV n m x && okEVs n m l
theorem blt_lt {a b : Nat} (h : Nat.blt a b = true) : a < b := Nat.le_of_ble_eq_true h
theorem okEVs_get {n m : Nat} : ∀ {l : List EV}, okEV.okEVs n m l = true → ∀ (i : Nat) c, l[i]? = some c → okEV n m c = true
  | [], _, i, c, h => by simp at h
  | x :: l, ho, 0, c, h => by
    simp only [okEV.okEVs, Bool.and_eq_true] at ho
    simp at h; subst h; exact ho.1
  | x :: l, ho, i + 1, c, h => by
    simp only [okEV.okEVs, Bool.and_eq_true] at ho
    exact okEVs_get ho.2 i c (by simpa using h)
theorem okEV_rep {g : Ghost} {w : World} {st : St} {n m : Nat} {x : EV} {v : Value} (hn : n ≤ st.objs.length) (hm : m ≤ st.tails.length) (ho : okEV n m x = true) (h : EVRep g w st x v) : EVRep g w ⟨st.objs.take n, st.tails.take m⟩ x v := by
  have ht' : ∀ {t : Nat} {x : Tail}, (st.tails.take m)[t]? = some x → st.tails[t]? = some x := fun {t x} hx => by
    rw [List.getElem?_take] at hx; split at hx; exact hx; cases hx
  induction h with
  | d x v h => exact .d _ _ h
  | ref o off h => exact .ref _ _ (by have := blt_lt ho; simp; omega)
  | osl o off l c h => exact .osl _ _ _ _ (by have := blt_lt ho; simp; omega)
  | tsl sz rows t v e k hd ht hk hv =>
    have := blt_lt ho
    exact .tsl sz rows t v e k hd (by simp [List.getElem?_take, this, ht]) hk hv
  | mp o h => exact .mp _ (by have := blt_lt ho; simp; omega)
  | clo f cs vs hs h ih =>
    simp only [okEV] at ho
    exact .clo f cs vs hs fun i c u hc hu => ih i c u hc hu (okEVs_get ho i c hc)
  | agg cs vs hs h1 h ih =>
    simp only [okEV] at ho
    exact .agg cs vs hs h1 fun i c u hc hu => ih i c u hc hu (okEVs_get ho i c hc)
  | tup cs vs hs h ih =>
    simp only [okEV] at ho
    exact .tup cs vs hs fun i c u hc hu => ih i c u hc hu (okEVs_get ho i c hc)
  | gd b x v h0 h ih =>
    simp only [okEV] at ho
    exact .gd b x v h0 fun hb => ih hb ho
  | vc t k v ht hf h => exact .vc t k v (by have := blt_lt ho; simp; omega) hf fun x rows hx => h x rows (ht' hx)
  | vp t k i off v ht hf h => exact .vp t k i off v (by have := blt_lt ho; simp; omega) hf fun x rows hx => h x rows (ht' hx)
  | vw t k lo n v ht hf h => exact .vw t k lo n v (by have := blt_lt ho; simp; omega) hf fun x rows hx => h x rows (ht' hx)
def okObj (n m : Nat) : AObj → Bool
  | .row _ cs => cs.all (okEV n m)
  | .map es => es.all fun p => okEV n m p.2
  | .raw _ => true
  | .gone => true
def okEnv (n m : Nat) : Env → Bool
  | [] => true
  | (_, x) :: e => okEV n m x && okEnv n m e
theorem okEnv_get {n m i : Nat} {y : EV} : ∀ {env : Env}, okEnv n m env = true → lookup i env = some y → okEV n m y = true
  | [], _, h => by simp [lookup] at h
  | (j, x) :: e, ho, h => by
    simp only [okEnv, Bool.and_eq_true] at ho
    unfold lookup at h
    cases hb : Nat.beq i j with
    | true => rw [hb] at h; cases h; exact ho.1
    | false => rw [hb] at h; exact okEnv_get ho.2 h

section drop
variable {P : Program} {f : FuncId} {N : Nat} {S : Start} {Q : EV → St → Prop} {k : List Item} {todo : List Item} {env env' : Env} {st st' : St}
theorem Inv.drop {g : Ghost} {base : Nat} {w : World} {n m : Nat} (h : Inv g base w st) (hn : n ≤ st.objs.length) (hm : m ≤ st.tails.length) (ho : (st.objs.take n).all (okObj n m) = true) : Inv g base w ⟨st.objs.take n, st.tails.take m⟩ := by
  have hob : ∀ o x, (st.objs.take n)[o]? = some x → st.objs[o]? = some x := fun o x hx => by
    rw [List.getElem?_take] at hx; split at hx; exact hx; cases hx
  have htl : ∀ t x, (st.tails.take m)[t]? = some x → st.tails[t]? = some x := fun t x hx => by
    rw [List.getElem?_take] at hx; split at hx; exact hx; cases hx
  have hok : ∀ o x, (st.objs.take n)[o]? = some x → okObj n m x = true := fun o x hx => List.all_eq_true.1 ho x (List.mem_of_getElem? hx)
  have hlive : ∀ o, St.live ⟨st.objs.take n, st.tails.take m⟩ o → st.live o := fun o ⟨x, hx, hne⟩ => ⟨x, hob o x hx, hne⟩
  refine ⟨h.base, fun o ty cs hx => ?_, fun o es hx => ?_, fun o x hx => h.raw o x (hob o _ hx), fun o o' hne h1 h2 => h.ne o o' hne (hlive _ h1) (hlive _ h2), fun t e sz k hx => h.tail t e sz k (htl t _ hx), fun t t' x x' b hne h1 h2 => h.tailNe t t' x x' b hne (htl t _ h1) (htl t' _ h2), fun t x o h1 h2 => h.tailObj t x o (htl t _ h1) (hlive _ h2), h.glob, fun t e sz k rows hx => h.own t e sz k rows (htl t _ hx)⟩
  · obtain ⟨h1, h2, vs, h3, h4, h5⟩ := h.row o ty cs (hob o _ hx)
    have hc := hok o _ hx
    simp only [okObj, List.all_eq_true] at hc
    exact ⟨h1, h2, vs, h3, h4, fun i c u hcc hu => ⟨okEV_rep hn hm (hc c (List.mem_of_getElem? hcc)) (h5 i c u hcc hu).1, (h5 i c u hcc hu).2⟩⟩
  · obtain ⟨h1, ms, c, h3, h4, h5, h6⟩ := h.map o es (hob o _ hx)
    have hc := hok o _ hx
    simp only [okObj, List.all_eq_true] at hc
    exact ⟨h1, ms, c, h3, h4, fun i k x me a b => ⟨(h5 i k x me a b).1, okEV_rep hn hm (hc _ (List.mem_of_getElem? a)) (h5 i k x me a b).2⟩, h6⟩

theorem Hist.drop {S : Start} {g : Ghost} {w : World} {n m : Nat} (hh : Hist S g w st) (hS1 : S.st.objs.length ≤ n) (hS2 : S.st.tails.length ≤ m) (hn : n ≤ st.objs.length) (hm : m ≤ st.tails.length) : Hist S g w ⟨st.objs.take n, st.tails.take m⟩ := by
  refine ⟨⟨hh.sevo.evo, hh.sevo.ob, by simp; omega, fun t e sz k hk => ?_, by simp; omega, fun t x' rows' hlt hx ho => ?_⟩, hh.below, hh.lim, hh.frame, fun b hb hw => hh.fresh b hb ?_⟩
  · obtain ⟨k', h1, h2⟩ := hh.sevo.tails t e sz k hk
    have hlt := (List.getElem?_eq_some_iff.1 hk).1
    exact ⟨k', by simp [List.getElem?_take, show t < m by omega, h1], h2⟩
  · refine hh.sevo.own t x' rows' hlt ?_ ho
    rw [List.getElem?_take] at hx; split at hx; exact hx; cases hx
  · rcases hw with ⟨o, ⟨x, hx, hne⟩, h2⟩ | ⟨t, x, hx, h2⟩
    · refine .inl ⟨o, ⟨x, ?_, hne⟩, h2⟩
      rw [List.getElem?_take] at hx; split at hx; exact hx; cases hx
    · refine .inr ⟨t, x, ?_, h2⟩
      rw [List.getElem?_take] at hx; split at hx; exact hx; cases hx
/-- To another environment and state: what is no longer referred to is let go. -/
theorem ARun.to (n m : Nat) (hE : SubEnv env env') (ho : st.objs.take n = st'.objs) (ht : st.tails.take m = st'.tails) (hn : Nat.ble n st.objs.length = true) (hm : Nat.ble m st.tails.length = true) (hok : (okEnv n m env' && st'.objs.all (okObj n m)) = true)
    (hS1 : S.st.objs.length ≤ n) (hS2 : S.st.tails.length ≤ m) (h : ARun P f N S Q todo env' st') : ARun P f N S Q todo env st := by
  have hn' := Nat.le_of_ble_eq_true hn
  have hm' := Nat.le_of_ble_eq_true hm
  simp only [Bool.and_eq_true] at hok
  have hst : st' = ⟨st.objs.take n, st.tails.take m⟩ := by cases st'; simp at ho ht; rw [ho, ht]
  subst hst
  intro g w tmps hinv hh he hN
  refine h g w tmps (hinv.drop hn' hm' hok.2) (hh.drop (by omega) (by omega) hn' hm') ?_ hN
  · intro i y hy
    obtain ⟨v, h1, h2⟩ := (he.sub hE) i y hy
    exact ⟨v, h1, okEV_rep hn' hm' (okEnv_get hok.1 hy) h2⟩
theorem SubEnv.nil : SubEnv env [] := trivial
theorem SubEnv.cons {i : Nat} {x y : EV} {t : Env} (h : lookup i env = some x) (hle : EVle x y) (ht : SubEnv env t) : SubEnv env ((i, y) :: t) := ⟨⟨x, h, hle⟩, ht⟩
theorem ARun.withSt (h : st = st') (hk : ARun P f N S Q todo env st') : ARun P f N S Q todo env st := h ▸ hk
end drop

section enter
variable {P : Program} {f : FuncId} {fn : Func} {c : Code} {N : Nat}
theorem ACall.enter' {args : List D} {q : D → Prop} (hf : P.funcs[f]? = some fn) (hb : fn.body = some c) (hN : fn.ntmps = N) (hl : Nat.ble args.length N = true)
    (h : ∀ S : Start, S.st = ⟨[], []⟩ → ARun P f N S (QD q) [.code c] (argEnv 0 (args.map EV.d)) ⟨[], []⟩) : ACall P f args q :=
  .of (.enter hf hb hN (by simpa using hl) fun S hS => h S hS)
end enter

theorem mapget {α β : Type} {f : α → β} {l : List α} {n : Nat} (d : α) (h : n < l.length) : (l.map f)[n]? = some (f (l.getD n d)) := by
  rw [List.getElem?_map, List.getD_eq_getElem?_getD, List.getElem?_eq_getElem h]; rfl

section q
variable {P : Program} {base : Nat} {env : Env} {st : St} {d : Option Tmp} {ty : TypeId} {pos : String} {after : Array Edge} {gd : Option (Nat × Bool)} {t t2 e : TypeId} {x y z : Operand}
section int
variable {a b : Int} (hx : evo env x = some (.d (.ex (.int .i64 a)))) (hy : evo env y = some (.d (.ex (.int .i64 b))))
include hx hy
theorem q_addI (h1 : -9223372036854775808 ≤ a + b) (h2 : a + b ≤ 9223372036854775807) : OpQ P env st ⟨d, .binOp .add t x y t2, ty, pos, after, gd⟩ (.d (.ex (.int .i64 (a + b)))) := q_add hx hy (i64w h1 h2)
theorem q_subI (h1 : -9223372036854775808 ≤ a - b) (h2 : a - b ≤ 9223372036854775807) : OpQ P env st ⟨d, .binOp .sub t x y t2, ty, pos, after, gd⟩ (.d (.ex (.int .i64 (a - b)))) := q_sub hx hy (i64w h1 h2)
theorem q_mulI (h1 : -9223372036854775808 ≤ a * b) (h2 : a * b ≤ 9223372036854775807) : OpQ P env st ⟨d, .binOp .mul t x y t2, ty, pos, after, gd⟩ (.d (.ex (.int .i64 (a * b)))) := q_mul hx hy (i64w h1 h2)
theorem q_quoI (h0 : 0 ≤ a) (ha : a ≤ 9223372036854775807) (hb : 0 < b) : OpQ P env st ⟨d, .binOp .quo t x y t2, ty, pos, after, gd⟩ (.d (.ex (.int .i64 (a / b)))) := by
  have h1 : 0 ≤ a / b := Int.ediv_nonneg h0 (by omega)
  have h2 : a / b ≤ a := Int.ediv_le_self _ h0
  exact q_quo hx hy (by omega) (by rw [Int.tdiv_eq_ediv_of_nonneg h0]; exact i64w (by omega) (by omega))
theorem q_remI (h0 : 0 ≤ a) (hb : 0 < b) : OpQ P env st ⟨d, .binOp .rem t x y t2, ty, pos, after, gd⟩ (.d (.ex (.int .i64 (a % b)))) :=
  q_rem hx hy (by omega) (Int.tmod_eq_emod_of_nonneg h0)
end int

/-- '&s[i]', i a natural number. -/
theorem q_idxN {sz : Nat} {rows : List (List D)} {ev : EV} {k : IntKind} {i : Int} {n : Nat} {row : List D} {inf : TypeInfo} (ht : P.underlying t = some (.slice e)) (hi : P.info? e = some inf) (hsz : inf.size = sz)
    (hx : evo env x = some ev) (hs : asSl ev = some (sz, rows)) (hy : evo env y = some (.d (.ex (.int k i)))) (hn : i = n) (hr : rows[n]? = some row) :
    OpQ P env st ⟨d, .indexAddr t x y, ty, pos, after, gd⟩ (.d (.ro row)) := fun g base w tmps hinv he => by
  subst hn
  obtain ⟨b, off, c, hv, hlt, hro⟩ := sl_ro (asSl_rep hs (evo_rep he hx)) hr
  refine ⟨_, .d _ _ hro, fun w' _ => ?_⟩
  have := index_run (d := d) (ty := ty) (pos := pos) (after := after) (gd := gd) ht hi hv (evo_rep he hy).ex_inv (by omega) (by omega) w'
  rw [Int.toNat_natCast, hsz] at this
  exact this
theorem q_indexN {a : List UInt8} {k : IntKind} {i : Int} {n : Nat} (ht : P.underlying t = some .string) (hx : evo env x = some (.d (.ex (.string ⟨a.toArray⟩)))) (hy : evo env y = some (.d (.ex (.int k i)))) (hn : i = n) (hlt : n < a.length) :
    OpQ P env st ⟨d, .index t x y, ty, pos, after, gd⟩ (.d (.ex (.int .u8 ((a.getD n 0).toNat : Int)))) := by
  subst hn
  exact q_indexS ht hx hy (by omega) (by rw [Int.toNat_natCast, List.getD_eq_getElem?_getD, List.getElem?_eq_getElem hlt]; rfl)
theorem q_lenA {sz : Nat} {rows : List (List D)} {ev : EV} (ht : P.underlying t = some (.slice e)) (hx : evo env x = some ev) (hs : asSl ev = some (sz, rows)) :
    OpQ P env st ⟨d, .call ⟨.builtin .len, #[x], #[t]⟩, ty, pos, after, gd⟩ (.d (.ex (.int .i64 rows.length))) := q_ex fun g w tmps w' he => by
  obtain ⟨A, c, hv⟩ := sl_form (asSl_rep hs (evo_rep he hx))
  exact len_run ht hv w'
/-- The whole of what a pointer points to. -/
theorem q_loadAll {cs : List D} {n : Nat} (h1 : (P.underlying t).map oneB = some false) (hs : (P.info? t).map (·.size) = some n) (hx : evo env x = some (.d (.ro cs))) (hn : Nat.beq cs.length n = true) :
    OpQ P env st ⟨d, .load t x, ty, pos, after, gd⟩ (.d (.agg cs)) := by
  have hn' := Nat.eq_of_beq_eq_true hn
  have := q_loadA (d := d) (ty := ty) (pos := pos) (after := after) (gd := gd) (st := st) h1 hs (Nat.le_of_eq hn'.symm) hx
  rwa [List.take_of_length_le (by omega)] at this

theorem q_negI {a : Int} (hx : evo env x = some (.d (.ex (.int .i64 a)))) (h1 : -9223372036854775807 ≤ a) (h2 : a ≤ 9223372036854775807) : OpQ P env st ⟨d, .unOp .neg t x, ty, pos, after, gd⟩ (.d (.ex (.int .i64 (-a)))) :=
  q_neg hx (by rw [i64w (by omega) (by omega)]; omega)
def placesOf (P : Program) (t : TypeId) : Option (List (Nat × Nat)) := match P.underlying t with
  | some (.struct fs) => if fs.toList.all (fun f => (P.info? f.type).isSome) then some (fs.toList.map fun f => (f.offset, szOf P f.type)) else none
  | _ => none
theorem q_buildP {ps : List (Nat × Nat)} {inf : TypeInfo} {z : Value} {zs r : List D} {l : List (Nat × Operand)} (hp : placesOf P t = some ps) (hi : P.info? t = some inf) (hz : inf.zero = some z) (hzs : cellsD (.d (cv z)) = some zs)
    (hl : layD (fun i => ps[i]?) env zs l = some r) : OpQ P env st ⟨d, .build t l.toArray, ty, pos, after, gd⟩ (.d (.agg r)) := by
  unfold placesOf at hp
  split at hp
  · rename_i fs hu
    split at hp
    · rename_i hall
      cases hp
      refine q_build hu hi hz hzs hall ?_
      rw [← hl]
      congr 1
      funext i
      simp [placeOf]
    · cases hp
  · cases hp

/-- '[]T{x}'. -/
theorem g_buildSlice1 {sz : Nat} {inf : TypeInfo} {z : Value} {zs r : List D} {l : List (Nat × Operand)} (ht : P.underlying t = some (.slice e)) (hi : P.info? e = some inf) (hsz : inf.size = sz) (hz : inf.zero = some z) (hzs : Nat.beq z.cells.size sz = true)
    (hbig : Nat.ble sz 16777216 = true) (hs0 : Nat.blt 0 sz = true) (hzr : cellsD (.d (cv z)) = some zs) (hl : layD (fun i => some (i * sz, sz)) env zs l = some r) :
    OpG P env st ⟨d, .buildSlice t 1 l.toArray, ty, pos, after, gd⟩ (.d (.sl sz [r])) := by
  have hzs' := Nat.eq_of_beq_eq_true hzs
  have hbig' := Nat.le_of_ble_eq_true hbig
  intro g base w tmps hinv he
  have hz' := cellsD_rep (g := g) (w := w) (st := st) hzr (.d _ _ (cv_rep _ _ z))
  have hzl : zs.length = sz := by rw [← hz'.1, hzs']
  have hrl : r.length = sz := by
    obtain ⟨us, _, _, h3⟩ := layD_rep he l zs z.cells r hl hz'
    rw [h3, hzl]
  have hfl : (List.replicate 1 zs).flatten = zs := by simp
  exact g_buildSlice (len := 1) ht hi hsz hz hzs' (by omega) (by omega) (by rw [hfl, hzl]; omega) hzr (by rw [hfl, hl]; simp) (by simp [hrl]) rfl (blt_lt hs0) g base w tmps hinv he
end q
end Go.Abs
