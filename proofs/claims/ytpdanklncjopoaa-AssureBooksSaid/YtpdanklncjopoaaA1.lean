/- An abstract layer over the model's walk: values described by their contents (D, EV), a state of owned objects and growing slices (St), and the judgement ARun that a frame with a given list of things to do comes to an end of the wanted kind. No program is in sight here. -/
import Derived.Test.YtpdanklncjopoaaA0
set_option linter.unusedSimpArgs false
set_option linter.unusedVariables false
namespace Go.Abs
open Go.RowKit

/-- What a value holds, memory that never turns again looked through. -/
inductive D where
  | ex (v : Value)
  | agg (cs : List D)
  | tup (cs : List D)
  | sl (sz : Nat) (rows : List (List D))
  | ro (cs : List D)
  | e0 (sz : Nat)
  | any

inductive DRep (lim : Nat → Nat) (w : World) : D → Value → Prop where
  | ex (v : Value) : DRep lim w (.ex v) v
  | agg (cs : List D) (vs : Array Value) (hs : vs.size = cs.length)
      (h1 : ∀ (i : Nat) (u : Value), vs[i]? = some u → u.oneCell' = true)
      (h : ∀ (i : Nat) c (u : Value), cs[i]? = some c → vs[i]? = some u → DRep lim w c u) : DRep lim w (.agg cs) (.agg vs)
  | tup (cs : List D) (vs : Array Value) (hs : vs.size = cs.length)
      (h : ∀ (i : Nat) c (u : Value), cs[i]? = some c → vs[i]? = some u → DRep lim w c u) : DRep lim w (.tup cs) (.tuple vs)
  | nil (sz : Nat) (A : Option Addr) : DRep lim w (.sl sz []) (.slice A 0 0)
  | sl (sz : Nat) (rows : List (List D)) (b off cap : Nat) (hc : rows.length ≤ cap) (hr : ∀ row, row ∈ rows → row.length = sz)
      (hx : ∀ k, k < rows.length * sz → off + k < lim b ∧ ∃ u : Value, w.cell? ⟨b, off + k, none⟩ = some u ∧ u.oneCell' = true)
      (h : ∀ (i j : Nat) row c (u : Value), rows[i]? = some row → row[j]? = some c → w.cell? ⟨b, off + (i * sz + j), none⟩ = some u → DRep lim w c u) :
      DRep lim w (.sl sz rows) (.slice (some ⟨b, off, none⟩) rows.length cap)
  | ro (cs : List D) (b off : Nat)
      (hx : ∀ k, k < cs.length → off + k < lim b ∧ ∃ u : Value, w.cell? ⟨b, off + k, none⟩ = some u ∧ u.oneCell' = true)
      (h : ∀ (j : Nat) c (u : Value), cs[j]? = some c → w.cell? ⟨b, off + j, none⟩ = some u → DRep lim w c u) : DRep lim w (.ro cs) (.pointer (some ⟨b, off, none⟩))
  | e0 (sz : Nat) (A : Option Addr) (h : A = none ∨ ∃ b off, A = some ⟨b, off, none⟩) : DRep lim w (.e0 sz) (.slice A 0 0)
  | any (v : Value) : DRep lim w .any v

/-- From one world to a later one: what is published stays. -/
structure Evo (l : Nat → Nat) (w : World) (l' : Nat → Nat) (w' : World) : Prop where
  size : w.heap.size ≤ w'.heap.size
  lim : ∀ b : Nat, b < w.heap.size → l b ≤ l' b
  cell : ∀ b off : Nat, b < w.heap.size → off < l b → w'.cell? ⟨b, off, none⟩ = w.cell? ⟨b, off, none⟩

theorem Evo.refl (lim : Nat → Nat) (w : World) : Evo lim w lim w := ⟨Nat.le_refl _, fun _ _ => Nat.le_refl _, fun _ _ _ _ => rfl⟩
theorem Evo.trans {l1 l2 l3 : Nat → Nat} {w1 w2 w3 : World} (h : Evo l1 w1 l2 w2) (k : Evo l2 w2 l3 w3) : Evo l1 w1 l3 w3 :=
  ⟨Nat.le_trans h.size k.size, fun b hb => Nat.le_trans (h.lim b hb) (k.lim b (Nat.lt_of_lt_of_le hb h.size)),
    fun b off hb ho => (k.cell b off (Nat.lt_of_lt_of_le hb h.size) (Nat.lt_of_lt_of_le ho (h.lim b hb))).trans (h.cell b off hb ho)⟩

theorem idx_lt {i j n sz : Nat} (hi : i < n) (hj : j < sz) : i * sz + j < n * sz := by
  have : (i + 1) * sz ≤ n * sz := Nat.mul_le_mul_right sz hi
  rw [Nat.add_mul] at this
  omega

theorem DRep.mono {lim lim' : Nat → Nat} {w w' : World} (e : Evo lim w lim' w') {x : D} {v : Value} (h : DRep lim w x v) : DRep lim' w' x v := by
  induction h with
  | ex v => exact .ex v
  | agg cs vs hs h1 _ ih => exact .agg cs vs hs h1 ih
  | tup cs vs hs _ ih => exact .tup cs vs hs ih
  | nil sz A => exact .nil sz A
  | sl sz rows b off cap hc hr hx _ ih =>
    have hcell : ∀ k, k < rows.length * sz → w'.cell? ⟨b, off + k, none⟩ = w.cell? ⟨b, off + k, none⟩ := by
      intro k hk
      obtain ⟨hl, u, hu, _⟩ := hx k hk
      exact e.cell b (off + k) (World.block_lt_of_cell? w _ hu) hl
    refine .sl sz rows b off cap hc hr ?_ ?_
    · intro k hk
      obtain ⟨hl, u, hu, h1⟩ := hx k hk
      exact ⟨Nat.lt_of_lt_of_le hl (e.lim b (World.block_lt_of_cell? w _ hu)), u, (hcell k hk).trans hu, h1⟩
    · intro i j row c u hi hj hu
      refine ih i j row c u hi hj ?_
      rw [← hcell (i * sz + j) ?_]
      · exact hu
      · have hl := hr row (List.mem_of_getElem? hi)
        exact idx_lt (List.getElem?_eq_some_iff.1 hi).1 (by rw [← hl]; exact (List.getElem?_eq_some_iff.1 hj).1)
  | ro cs b off hx _ ih =>
    have hcell : ∀ k, k < cs.length → w'.cell? ⟨b, off + k, none⟩ = w.cell? ⟨b, off + k, none⟩ := by
      intro k hk
      obtain ⟨hl, u, hu, _⟩ := hx k hk
      exact e.cell b (off + k) (World.block_lt_of_cell? w _ hu) hl
    refine .ro cs b off ?_ ?_
    · intro k hk
      obtain ⟨hl, u, hu, h1⟩ := hx k hk
      exact ⟨Nat.lt_of_lt_of_le hl (e.lim b (World.block_lt_of_cell? w _ hu)), u, (hcell k hk).trans hu, h1⟩
    · intro j c u hj hu
      refine ih j c u hj ?_
      rw [← hcell j (List.getElem?_eq_some_iff.1 hj).1]
      exact hu
  | e0 sz A h => exact .e0 sz A h
  | any v => exact .any v

/-- What a slot holds: data, or a reference to what the running calls own. -/
inductive EV where
  | d (x : D)
  | ref (o off : Nat)
  | osl (o off len cap : Nat)
  | tsl (sz : Nat) (rows : List (List D)) (t : Nat)
  | mp (o : Nat)
  | clo (f : FuncId) (caps : List EV)
  | agg (cs : List EV)
  | tup (cs : List EV)
  | gd (b : Bool) (x : EV)
  /-- the slice of a row that the call alone owns, when it had k elements -/
  | vc (t k : Nat)
  /-- a place in such a row: the cell off of its element i -/
  | vp (t k i off : Nat)
  /-- a part of such a row: n elements from the element lo on -/
  | vw (t k lo n : Nat)

/-- A growing slice: published (its first n elements never turn again), or owned (its version and its contents are known, and may turn). -/
structure Tail where
  e : TypeId
  sz : Nat
  n : Nat
  own : Option (List (List D))

inductive AObj where
  | row (ty : TypeId) (cs : List EV)
  | map (es : List (Value × EV))
  | raw (x : Obj)
  | gone

structure St where
  objs : List AObj
  tails : List Tail

structure Ghost where
  lim : Nat → Nat
  ob : Nat → Nat
  tk : Nat → Value

inductive EVRep (g : Ghost) (w : World) (st : St) : EV → Value → Prop where
  | d (x : D) (v : Value) (h : DRep g.lim w x v) : EVRep g w st (.d x) v
  | ref (o off : Nat) (h : o < st.objs.length) : EVRep g w st (.ref o off) (.pointer (some ⟨g.ob o, off, none⟩))
  | osl (o off len cap : Nat) (h : o < st.objs.length) : EVRep g w st (.osl o off len cap) (.slice (some ⟨g.ob o, off, none⟩) len cap)
  | tsl (sz : Nat) (rows : List (List D)) (t : Nat) (v : Value) (e : TypeId) (n : Nat) (hd : DRep g.lim w (.sl sz rows) v) (ht : st.tails[t]? = some ⟨e, sz, n, none⟩)
      (hn : rows.length ≤ n) (hv : rows.length = n → v = g.tk t) : EVRep g w st (.tsl sz rows t) v
  | mp (o : Nat) (h : o < st.objs.length) : EVRep g w st (.mp o) (.map (some (g.ob o)))
  | clo (f : FuncId) (cs : List EV) (vs : Array Value) (hs : vs.size = cs.length)
      (h : ∀ (i : Nat) c (u : Value), cs[i]? = some c → vs[i]? = some u → EVRep g w st c u) : EVRep g w st (.clo f cs) (.func (.func f) #[] vs)
  | agg (cs : List EV) (vs : Array Value) (hs : vs.size = cs.length) (h1 : ∀ (i : Nat) (u : Value), vs[i]? = some u → u.oneCell' = true)
      (h : ∀ (i : Nat) c (u : Value), cs[i]? = some c → vs[i]? = some u → EVRep g w st c u) : EVRep g w st (.agg cs) (.agg vs)
  | tup (cs : List EV) (vs : Array Value) (hs : vs.size = cs.length)
      (h : ∀ (i : Nat) c (u : Value), cs[i]? = some c → vs[i]? = some u → EVRep g w st c u) : EVRep g w st (.tup cs) (.tuple vs)
  | gd (b : Bool) (x : EV) (v : Value) (h0 : b = false → v = undef) (h : b = true → EVRep g w st x v) : EVRep g w st (.gd b x) v
  | vc (t k : Nat) (v : Value) (ht : t < st.tails.length) (hf : ∃ A n c, v = .slice A n c) (h : ∀ x rows, st.tails[t]? = some x → x.own = some rows → k ≤ x.n ∧ (k = x.n → v = g.tk t)) : EVRep g w st (.vc t k) v
  | vp (t k i off : Nat) (v : Value) (ht : t < st.tails.length) (hf : ∃ b o, v = .pointer (some ⟨b, o, none⟩))
      (h : ∀ x rows, st.tails[t]? = some x → x.own = some rows → k ≤ x.n ∧ (k = x.n → ∃ b n c, g.tk t = .slice (some ⟨b, 0, none⟩) n c ∧ v = .pointer (some ⟨b, i * x.sz + off, none⟩))) : EVRep g w st (.vp t k i off) v
  | vw (t k lo n : Nat) (v : Value) (ht : t < st.tails.length) (hf : ∃ A c, v = .slice A n c)
      (h : ∀ x rows, st.tails[t]? = some x → x.own = some rows → k ≤ x.n ∧ (k = x.n → n = 0 ∨ ∃ b m c c', g.tk t = .slice (some ⟨b, 0, none⟩) m c ∧ v = .slice (some ⟨b, lo * x.sz, none⟩) n c')) : EVRep g w st (.vw t k lo n) v

structure SEvo (g : Ghost) (w : World) (st : St) (g' : Ghost) (w' : World) (st' : St) : Prop where
  evo : Evo g.lim w g'.lim w'
  ob : ∀ o, o < st.objs.length → g'.ob o = g.ob o
  objs : st.objs.length ≤ st'.objs.length
  tails : ∀ t e sz n, st.tails[t]? = some ⟨e, sz, n, none⟩ → ∃ n', st'.tails[t]? = some ⟨e, sz, n', none⟩ ∧ n ≤ n' ∧ (n' = n → g'.tk t = g.tk t)
  tlen : st.tails.length ≤ st'.tails.length
  own : ∀ t x' rows', t < st.tails.length → st'.tails[t]? = some x' → x'.own = some rows' → ∃ x rows, st.tails[t]? = some x ∧ x.own = some rows ∧ x.sz = x'.sz ∧ x.n ≤ x'.n ∧ (x.n = x'.n → g'.tk t = g.tk t)

/-- The owned rows keep their versions. -/
theorem own_same {g g' : Ghost} {st st' : St} (hs : ∀ t x' rows', t < st.tails.length → st'.tails[t]? = some x' → x'.own = some rows' → st.tails[t]? = some x' ∧ g'.tk t = g.tk t) :
    ∀ t x' rows', t < st.tails.length → st'.tails[t]? = some x' → x'.own = some rows' → ∃ x rows, st.tails[t]? = some x ∧ x.own = some rows ∧ x.sz = x'.sz ∧ x.n ≤ x'.n ∧ (x.n = x'.n → g'.tk t = g.tk t) :=
  fun t x' rows' hlt hx ho => ⟨x', rows', (hs t x' rows' hlt hx ho).1, ho, rfl, Nat.le_refl _, fun _ => (hs t x' rows' hlt hx ho).2⟩
theorem SEvo.refl (g : Ghost) (w : World) (st : St) : SEvo g w st g w st :=
  ⟨.refl _ _, fun _ _ => rfl, Nat.le_refl _, fun _ _ _ n h => ⟨n, h, Nat.le_refl _, fun _ => rfl⟩, Nat.le_refl _, own_same fun _ _ _ _ h _ => ⟨h, rfl⟩⟩
theorem SEvo.trans {g1 g2 g3 : Ghost} {w1 w2 w3 : World} {s1 s2 s3 : St} (h : SEvo g1 w1 s1 g2 w2 s2) (k : SEvo g2 w2 s2 g3 w3 s3) : SEvo g1 w1 s1 g3 w3 s3 := by
  refine ⟨h.evo.trans k.evo, fun o ho => (k.ob o (Nat.lt_of_lt_of_le ho h.objs)).trans (h.ob o ho), Nat.le_trans h.objs k.objs, fun t e sz n ht => ?_, Nat.le_trans h.tlen k.tlen, fun t x'' rows'' hlt hx ho => ?_⟩
  rotate_left
  · obtain ⟨x', rows', a1, a2, a3, a4, a5⟩ := k.own t x'' rows'' (Nat.lt_of_lt_of_le hlt h.tlen) hx ho
    obtain ⟨x, rows, b1, b2, b3, b4, b5⟩ := h.own t x' rows' hlt a1 a2
    exact ⟨x, rows, b1, b2, b3.trans a3, Nat.le_trans b4 a4, fun e => (a5 (by omega)).trans (b5 (by omega))⟩
  obtain ⟨n', h1, h2, h3⟩ := h.tails t e sz n ht
  obtain ⟨n'', k1, k2, k3⟩ := k.tails t e sz n' h1
  refine ⟨n'', k1, Nat.le_trans h2 k2, fun hn => ?_⟩
  have e1 : n' = n := by omega
  subst e1
  exact (k3 hn).trans (h3 rfl)

theorem EVRep.mono {g g' : Ghost} {w w' : World} {st st' : St} (e : SEvo g w st g' w' st') {x : EV} {v : Value} (h : EVRep g w st x v) : EVRep g' w' st' x v := by
  induction h with
  | d x v h => exact .d x v (h.mono e.evo)
  | ref o off h => rw [← e.ob o h]; exact .ref o off (Nat.lt_of_lt_of_le h e.objs)
  | osl o off len cap h => rw [← e.ob o h]; exact .osl o off len cap (Nat.lt_of_lt_of_le h e.objs)
  | tsl sz rows t v el n hd ht hn hv =>
    obtain ⟨n', h1, h2, h3⟩ := e.tails t el sz n ht
    refine .tsl sz rows t v el n' (hd.mono e.evo) h1 (Nat.le_trans hn h2) (fun hr => ?_)
    have e1 : n' = n := by omega
    subst e1
    exact (hv hr).trans (h3 rfl).symm
  | mp o h => rw [← e.ob o h]; exact .mp o (Nat.lt_of_lt_of_le h e.objs)
  | clo f cs vs hs _ ih => exact .clo f cs vs hs ih
  | agg cs vs hs h1 _ ih => exact .agg cs vs hs h1 ih
  | tup cs vs hs _ ih => exact .tup cs vs hs ih
  | gd b x v h0 _ ih => exact .gd b x v h0 ih
  | vc t k v ht hf h =>
    refine .vc t k v (Nat.lt_of_lt_of_le ht e.tlen) hf fun x' rows' hx ho => ?_
    obtain ⟨x, rows, b1, b2, _, b4, b5⟩ := e.own t x' rows' ht hx ho
    obtain ⟨c1, c2⟩ := h x rows b1 b2
    exact ⟨by omega, fun hk => (c2 (by omega)).trans (b5 (by omega)).symm⟩
  | vp t k i off v ht hf h =>
    refine .vp t k i off v (Nat.lt_of_lt_of_le ht e.tlen) hf fun x' rows' hx ho => ?_
    obtain ⟨x, rows, b1, b2, b3, b4, b5⟩ := e.own t x' rows' ht hx ho
    obtain ⟨c1, c2⟩ := h x rows b1 b2
    exact ⟨by omega, fun hk => by
      obtain ⟨b, n, c, d1, d2⟩ := c2 (by omega)
      exact ⟨b, n, c, (b5 (by omega)).trans d1, by rw [← b3]; exact d2⟩⟩
  | vw t k lo n v ht hf h =>
    refine .vw t k lo n v (Nat.lt_of_lt_of_le ht e.tlen) hf fun x' rows' hx ho => ?_
    obtain ⟨x, rows, b1, b2, b3, b4, b5⟩ := e.own t x' rows' ht hx ho
    obtain ⟨c1, c2⟩ := h x rows b1 b2
    exact ⟨by omega, fun hk => by
      rcases c2 (by omega) with hz | ⟨b, m, c, c', d1, d2⟩
      · exact .inl hz
      · exact .inr ⟨b, m, c, c', (b5 (by omega)).trans d1, by rw [← b3]; exact d2⟩⟩

def St.live (st : St) (o : Nat) : Prop := ∃ x, st.objs[o]? = some x ∧ x ≠ .gone

/-- The tables stand. -/
def Globs (B : Nat) (w : World) : Prop := (∀ x ∈ GL, x.1 < B ∧ ∃ ty fr, w.heap[x.1]? = some (.cells x.2 ty fr)) ∧ ∀ k ∈ GI, k < B ∧ ∃ m, w.cell? ⟨k, 0, none⟩ = some (.int .i64 m)
theorem Globs.below {B : Nat} {w w' : World} (h : Globs B w) (hb : Below B w w') : Globs B w' := ⟨fun x hx =>
  let ⟨h1, ty, fr, h2⟩ := h.1 x hx
  ⟨h1, ty, fr, (hb.block _ h1).trans h2⟩, fun k hk =>
  let ⟨h1, m, h2⟩ := h.2 k hk
  ⟨h1, m, (hb.cell (p := ⟨k, 0, none⟩) h1).trans h2⟩⟩
theorem Globs.mono {B B' : Nat} {w : World} (h : Globs B w) (hb : B ≤ B') : Globs B' w := ⟨fun x hx =>
  let ⟨h1, h2⟩ := h.1 x hx
  ⟨Nat.lt_of_lt_of_le h1 hb, h2⟩, fun k hk =>
  let ⟨h1, h2⟩ := h.2 k hk
  ⟨Nat.lt_of_lt_of_le h1 hb, h2⟩⟩
/-- What an owned row holds. -/
structure RowsRep (lim : Nat → Nat) (w : World) (sz n : Nat) (rows : List (List D)) (xs : List Value) : Prop where
  len : rows.length = n
  row : ∀ r, r ∈ rows → r.length = sz
  rep : ∀ (i : Nat) c (u : Value), rows.flatten[i]? = some c → xs[i]? = some u → DRep lim w c u ∧ u.oneCell' = true
theorem RowsRep.mono {lim lim' : Nat → Nat} {w w' : World} {sz n : Nat} {rows : List (List D)} {xs : List Value} (h : RowsRep lim w sz n rows xs) (e : Evo lim w lim' w') : RowsRep lim' w' sz n rows xs :=
  ⟨h.len, h.row, fun i c u a b => ⟨(h.rep i c u a b).1.mono e, (h.rep i c u a b).2⟩⟩
structure Inv (g : Ghost) (B : Nat) (w : World) (st : St) : Prop where
  base : B ≤ w.heap.size
  row : ∀ o ty cs, st.objs[o]? = some (.row ty cs) → B ≤ g.ob o ∧ g.lim (g.ob o) = 0 ∧
    ∃ vs : Array Value, w.heap[g.ob o]? = some (.cells vs ty (0, 0)) ∧ vs.size = cs.length ∧ ∀ (i : Nat) c (u : Value), cs[i]? = some c → vs[i]? = some u → EVRep g w st c u ∧ u.oneCell' = true
  map : ∀ o es, st.objs[o]? = some (.map es) → B ≤ g.ob o ∧
    ∃ (ms : Array MapEntry) (clock : Nat), w.heap[g.ob o]? = some (.map ms clock) ∧ ms.size = es.length ∧
      (∀ (i : Nat) k x (m : MapEntry), es[i]? = some (k, x) → ms[i]? = some m → m.key = k ∧ EVRep g w st x m.val) ∧
      (∀ (i : Nat) (m : MapEntry), ms[i]? = some m → m.born < clock) ∧
      (∀ (i j : Nat) (m m' : MapEntry), ms[i]? = some m → ms[j]? = some m' → m.born = m'.born → i = j)
  raw : ∀ o x, st.objs[o]? = some (.raw x) → B ≤ g.ob o ∧ g.lim (g.ob o) = 0 ∧ w.heap[g.ob o]? = some x
  ne : ∀ o o', o ≠ o' → st.live o → st.live o' → g.ob o ≠ g.ob o'
  tail : ∀ t e sz n, st.tails[t]? = some ⟨e, sz, n, none⟩ → ∃ xs, w.ownsRow B e sz (g.tk t) n xs ∧ ∀ b, (g.tk t).ownBlock = some b → g.lim b = n * sz
  tailNe : ∀ t t' x x' b, t ≠ t' → st.tails[t]? = some x → st.tails[t']? = some x' → (g.tk t).ownBlock = some b → (g.tk t').ownBlock ≠ some b
  tailObj : ∀ t x o, st.tails[t]? = some x → st.live o → (g.tk t).ownBlock ≠ some (g.ob o)
  glob : Globs B w
  own : ∀ t e sz n rows, st.tails[t]? = some ⟨e, sz, n, some rows⟩ → ∃ xs, w.ownsRow B e sz (g.tk t) n xs ∧ (∀ b, (g.tk t).ownBlock = some b → g.lim b = 0) ∧ RowsRep g.lim w sz n rows xs

theorem Inv.anyTail {g : Ghost} {B : Nat} {w : World} {st : St} (h : Inv g B w st) {t : Nat} {x : Tail} (hx : st.tails[t]? = some x) : ∃ xs, w.ownsRow B x.e x.sz (g.tk t) x.n xs := by
  obtain ⟨e, sz, n, own⟩ := x
  cases own with
  | none => obtain ⟨xs, h1, _⟩ := h.tail t e sz n hx; exact ⟨xs, h1⟩
  | some rows => obtain ⟨xs, h1, _⟩ := h.own t e sz n rows hx; exact ⟨xs, h1⟩
theorem Inv.tail_lt {g : Ghost} {B : Nat} {w : World} {st : St} (h : Inv g B w st) {t : Nat} {x : Tail} (hx : st.tails[t]? = some x) {b : Nat} (hb : (g.tk t).ownBlock = some b) : B ≤ b ∧ b < w.heap.size := by
  obtain ⟨xs, h1⟩ := h.anyTail hx; exact h1.lt b hb
/-- An owned row in a world where its block stands. -/
theorem ownsRow_keep {w w' : World} {B e sz n : Nat} {v : Value} {xs : List Value} (h : w.ownsRow B e sz v n xs) (hb : ∀ b, v.ownBlock = some b → w'.heap[b]? = w.heap[b]?) : w'.ownsRow B e sz v n xs := by
  obtain ⟨k1, k2⟩ := h
  refine ⟨k1, ?_⟩
  rcases k2 with k2 | ⟨gb, cap, cur, e1, e2, e3, e4⟩
  · exact .inl k2
  · exact .inr ⟨gb, cap, cur, e1, e2, by rw [hb gb (by rw [e1]; rfl)]; exact e3, e4⟩
/-- The blocks that the running calls own. -/
def Owned (g : Ghost) (st : St) (b : Nat) : Prop := (∃ o, st.live o ∧ g.ob o = b) ∨ (∃ t x, st.tails[t]? = some x ∧ (g.tk t).ownBlock = some b)

theorem Inv.owned_lt {g : Ghost} {B : Nat} {w : World} {st : St} (h : Inv g B w st) {b : Nat} (ho : Owned g st b) : B ≤ b ∧ b < w.heap.size := by
  rcases ho with ⟨o, ⟨x, hx, hne⟩, rfl⟩ | ⟨t, x, hx, hb⟩
  · cases x with
    | row ty cs => obtain ⟨h1, h2, vs, h3, _⟩ := h.row o ty cs hx; exact ⟨h1, (Array.getElem?_eq_some_iff.1 h3).1⟩
    | map es => obtain ⟨h1, ms, c, h3, _⟩ := h.map o es hx; exact ⟨h1, (Array.getElem?_eq_some_iff.1 h3).1⟩
    | raw y => obtain ⟨h1, _, h3⟩ := h.raw o y hx; exact ⟨h1, (Array.getElem?_eq_some_iff.1 h3).1⟩
    | gone => exact absurd rfl hne
  · exact h.tail_lt hx hb

abbrev Env := List (Nat × EV)
def lookup (i : Nat) : Env → Option EV
  | [] => none
  | (j, x) :: e => match Nat.beq i j with
    | true => some x
    | false => lookup i e

def EnvRep (g : Ghost) (w : World) (st : St) (env : Env) (tmps : Array Value) : Prop :=
  ∀ i x, lookup i env = some x → ∃ v : Value, tmps[i]? = some v ∧ EVRep g w st x v

theorem EnvRep.mono {g g' : Ghost} {w w' : World} {st st' : St} {env : Env} {tmps : Array Value} (e : SEvo g w st g' w' st') (h : EnvRep g w st env tmps) : EnvRep g' w' st' env tmps :=
  fun i x hx => let ⟨v, h1, h2⟩ := h i x hx; ⟨v, h1, h2.mono e⟩

theorem EnvRep.put {g : Ghost} {w : World} {st : St} {env : Env} {tmps : Array Value} {d : Nat} {x : EV} {v : Value} (h : EnvRep g w st env tmps) (hd : d < tmps.size) (hv : EVRep g w st x v) :
    EnvRep g w st ((d, x) :: env) (tmps.setIfInBounds d v) := by
  intro i y hy
  unfold lookup at hy
  by_cases hi : i = d
  · subst hi
    have : Nat.beq i i = true := Nat.beq_refl i
    rw [this] at hy
    simp only [Option.some.injEq] at hy
    subst hy
    exact ⟨v, by simp [hd], hv⟩
  · have : Nat.beq i d = false := by
      cases hb : Nat.beq i d with
      | false => rfl
      | true => exact absurd (Nat.eq_of_beq_eq_true hb) hi
    rw [this] at hy
    obtain ⟨u, h1, h2⟩ := h i y hy
    exact ⟨u, by simp [Array.getElem?_setIfInBounds, Ne.symm hi, h1], h2⟩

/-- Slots that nothing is known of may be written. -/
theorem EnvRep.drop {g : Ghost} {w : World} {st : St} {env : Env} {tmps : Array Value} {d : Nat} {v : Value} (h : EnvRep g w st env tmps) (hd : d < tmps.size) :
    EnvRep g w st ((d, .d .any) :: env) (tmps.setIfInBounds d v) := h.put hd (.d _ _ (.any v))

structure Start where
  g : Ghost
  w : World
  st : St
  base : Nat

structure Hist (S : Start) (g : Ghost) (w : World) (st : St) : Prop where
  sevo : SEvo S.g S.w S.st g w st
  below : Below S.base S.w w
  lim : ∀ b, b < S.base → g.lim b = S.g.lim b
  frame : ∀ b, b < S.w.heap.size → ¬ Owned S.g S.st b → w.heap[b]? = S.w.heap[b]? ∧ g.lim b = S.g.lim b
  fresh : ∀ b, b < S.w.heap.size → Owned g st b → Owned S.g S.st b

def RPost (S : Start) (Q : EV → St → Prop) (e : Ending) (w : World) : Prop :=
  ∃ v r st g, e = .returned v ∧ Q r st ∧ EVRep g w st r v ∧ Inv g S.base w st ∧ Hist S g w st

def bf (f : FuncId) : Frame := { (default : Frame) with fn := f, kind := .normal }

def FWP (P : Program) (f : FuncId) (R : Ending → World → Prop) (todo : List Item) (tmps : Array Value) (w : World) : Prop :=
  ∀ cs, ∃ e w' fr, R e w' ∧ Comes P (lone ((bf f).at ⟨tmps, []⟩ todo) cs w) (lone fr cs w') e ∧ fr.fn = f ∧ fr.leaving P w' e

theorem FWP.step {P : Program} {f : FuncId} {R : Ending → World → Prop} {todo todo' : List Item} {tmps tmps' : Array Value} {w w' : World}
    (h : ∀ cs, step P (lone ((bf f).at ⟨tmps, []⟩ todo) cs w) = .next (lone ((bf f).at ⟨tmps', []⟩ todo') cs w')) (k : FWP P f R todo' tmps' w') : FWP P f R todo tmps w := by
  intro cs
  obtain ⟨e, w2, fr, hR, hc, h1, h2⟩ := k cs
  exact ⟨e, w2, fr, hR, Comes.of_steps (.one (h cs)) hc, h1, h2⟩

theorem FWP.mono {P : Program} {f : FuncId} {R R' : Ending → World → Prop} {todo : List Item} {tmps : Array Value} {w : World} (h : FWP P f R todo tmps w) (hr : ∀ e w, R e w → R' e w) : FWP P f R' todo tmps w :=
  fun cs => let ⟨e, w', fr, a, b, c, d⟩ := h cs; ⟨e, w', fr, hr _ _ a, b, c, d⟩

section ops
variable {P : Program} {f : FuncId} {R : Ending → World → Prop} {k : List Item} {tmps : Array Value} {w : World} {ops : Array Oper} {i : Nat} {rest : List Nat} {o : Oper}

theorem put_eq (dst : Option Tmp) (v : Value) : Act.put ⟨tmps, []⟩ dst v = ⟨(Act.put ⟨tmps, []⟩ dst v).tmps, []⟩ := by cases dst <;> rfl

theorem FWP.value {v : Value} {w' : World} (ho : ops[i]? = some o) (hw : Region.wanted o (yielded ops tmps) = true)
    (hr : (execOp (Act.eval ⟨tmps, []⟩) o).run P w = .ok (.value v) w') (h : FWP P f R (.inRegion ops rest :: k) (Act.put ⟨tmps, []⟩ o.dst v).tmps w') :
    FWP P f R (.inRegion ops (i :: rest) :: k) tmps w := by
  refine FWP.step (fun cs => ?_) h
  have hg := stepG_op (P := P) (b := bf f) (a := ⟨tmps, []⟩) (k := k) (cs := cs) (w := w) (rest := rest) ho hw
  have hfin : ∀ v, ((bf f).at ⟨tmps, []⟩ (.inRegion ops (i :: rest) :: k)).finish v = (bf f).at (Act.put ⟨tmps, []⟩ o.dst v) (.inRegion ops rest :: k) := by
    intro v; rw [Frame.finish_at, ho]; rfl
  refine step_lone_go ?_
  rw [← put_eq, hg, ← hfin]
  simp [stepG.apply, hr]

theorem FWP.skip {w' : World} (ho : ops[i]? = some o) (hw : Region.wanted o (yielded ops tmps) = true)
    (hr : (execOp (Act.eval ⟨tmps, []⟩) o).run P w = .ok .skip w') (h : FWP P f R (.inRegion ops rest :: k) (Act.put ⟨tmps, []⟩ o.dst undef).tmps w') :
    FWP P f R (.inRegion ops (i :: rest) :: k) tmps w := by
  refine FWP.step (fun cs => ?_) h
  have hg := stepG_op (P := P) (b := bf f) (a := ⟨tmps, []⟩) (k := k) (cs := cs) (w := w) (rest := rest) ho hw
  have hfin : ∀ v, ((bf f).at ⟨tmps, []⟩ (.inRegion ops (i :: rest) :: k)).finish v = (bf f).at (Act.put ⟨tmps, []⟩ o.dst v) (.inRegion ops rest :: k) := by
    intro v; rw [Frame.finish_at, ho]; rfl
  refine step_lone_go ?_
  rw [← put_eq, hg, ← hfin]
  simp [stepG.apply, hr]

theorem FWP.unwanted (ho : ops[i]? = some o) (hw : Region.wanted o (yielded ops tmps) = false)
    (h : FWP P f R (.inRegion ops rest :: k) (Act.put ⟨tmps, []⟩ o.dst undef).tmps w) : FWP P f R (.inRegion ops (i :: rest) :: k) tmps w := by
  refine FWP.step (fun cs => ?_) h
  have hs := step_op_skip (P := P) (b := bf f) (a := ⟨tmps, []⟩) (k := k) (cs := cs) (w := w) (ops := ops) (i := i) (rest := rest) (by simp [ho]; simpa using hw)
  simp only [ho, Option.bind_some] at hs
  rw [← put_eq]
  exact hs

theorem FWP.call {f' : FuncId} {args : Array Value} {w' : World} (ho : ops[i]? = some o) (hw : Region.wanted o (yielded ops tmps) = true)
    (hr : (execOp (Act.eval ⟨tmps, []⟩) o).run P w = .ok (.enter f' args) w')
    (h : Calls P f' args w' fun e w2 => ∃ v, e = .returned v ∧ FWP P f R (.inRegion ops rest :: k) (Act.put ⟨tmps, []⟩ o.dst v).tmps w2) :
    FWP P f R (.inRegion ops (i :: rest) :: k) tmps w := by
  intro cs
  have hg := stepG_op (P := P) (b := bf f) (a := ⟨tmps, []⟩) (k := k) (cs := cs) (w := w) (rest := rest) ho hw
  have hfin : ∀ v, ((bf f).at ⟨tmps, []⟩ (.inRegion ops (i :: rest) :: k)).finish v = (bf f).at (Act.put ⟨tmps, []⟩ o.dst v) (.inRegion ops rest :: k) := by
    intro v; rw [Frame.finish_at, ho]; rfl
  obtain ⟨e, w2, fr, ⟨v, rfl, hF⟩, hsteps, _, hleave⟩ := h ((bf f).at ⟨tmps, []⟩ (.inRegion ops (i :: rest) :: k) :: cs)
  have henter : Go.step P (lone ((bf f).at ⟨tmps, []⟩ (.inRegion ops (i :: rest) :: k)) cs w) =
      .next (lone (Frame.enter P f' args .normal) ((bf f).at ⟨tmps, []⟩ (.inRegion ops (i :: rest) :: k) :: cs) w') :=
    step_lone_go (by rw [hg]; simp [stepG.apply, hr, Frame.at])
  obtain ⟨e, w3, fr', hR, hc, h1, h2⟩ := hF cs
  refine ⟨e, w3, fr', hR, Comes.of_steps (.head henter (hsteps.trans (.one ?_))) hc, h1, h2⟩
  rw [← put_eq, ← hfin]
  exact step_leave_returned hleave

theorem FWP.regionEnd (h : FWP P f R k tmps w) : FWP P f R (.inRegion ops [] :: k) tmps w := FWP.step (fun _ => step_region_end) h
end ops

section control
variable {P : Program} {f : FuncId} {R : Ending → World → Prop} {k : List Item} {tmps : Array Value} {w : World}
theorem FWP.seq {x y : Code} (h : FWP P f R (.code x :: .code y :: k) tmps w) : FWP P f R (.code (.seq x y) :: k) tmps w := FWP.step (fun _ => step_seq) h
theorem FWP.skipC (h : FWP P f R k tmps w) : FWP P f R (.code .skip :: k) tmps w := FWP.step (fun _ => step_skip) h
theorem FWP.labelC {l : Nat} (h : FWP P f R k tmps w) : FWP P f R (.code (.label l) :: k) tmps w := FWP.step (fun _ => step_label) h
theorem FWP.inBlock {id : Nat} (h : FWP P f R k tmps w) : FWP P f R (.inBlock id :: k) tmps w := FWP.step (fun _ => step_inBlock) h
theorem FWP.block {id : Nat} {c : Code} (h : FWP P f R (.code c :: .inBlock id :: k) tmps w) : FWP P f R (.code (.block id c) :: k) tmps w := FWP.step (fun _ => step_block) h
theorem FWP.loop {c : Code} (h : FWP P f R (.code c :: .inLoop c :: k) tmps w) : FWP P f R (.code (.loop c) :: k) tmps w := FWP.step (fun _ => step_loop) h
theorem FWP.inLoop {c : Code} (h : FWP P f R (.code c :: .inLoop c :: k) tmps w) : FWP P f R (.inLoop c :: k) tmps w := FWP.step (fun _ => step_inLoop) h
theorem FWP.exit {id : Nat} {k' : List Item} (hk : exitTo id k = some k') (h : FWP P f R k' tmps w) : FWP P f R (.code (.exit id) :: k) tmps w := FWP.step (fun _ => step_exit hk) h
theorem FWP.goto {l : Nat} {k' : List Item} (hk : gotoIn l k = some k') (h : FWP P f R k' tmps w) : FWP P f R (.code (.goto l) :: k) tmps w := FWP.step (fun _ => step_goto hk) h
theorem FWP.cond {c : Operand} {x y : Code} {t : Bool} (hc : Act.eval ⟨tmps, []⟩ c = .bool t) (h : FWP P f R (.code (if t then x else y) :: k) tmps w) : FWP P f R (.code (.cond c x y) :: k) tmps w :=
  FWP.step (fun _ => step_cond hc) h
theorem FWP.region {id : Nat} {ops : Array Oper} (h : FWP P f R (.inRegion ops (List.range ops.size) :: k) tmps w) : FWP P f R (.code (.region id ops false) :: k) tmps w := FWP.step (fun _ => step_region) h
theorem FWP.regionDraw {id : Nat} {ops : Array Oper} (h : ∀ t, FWP P f R (.inRegion ops (Region.schedule (P.follows .mixedOrders) ops t) :: k) tmps { w with drawn := w.drawn + 1 }) :
    FWP P f R (.code (.region id ops true) :: k) tmps w := FWP.step (fun _ => step_region_draw) (h _)
theorem FWP.ret {fn : Func} {v : Value} (hf : P.funcs[f]? = some fn) (hr : (results fn tmps).run P w = .ok v w) (hR : R (.returned v) w) : FWP P f R (.code .ret :: k) tmps w :=
  fun cs => ⟨.returned v, w, _, hR, .one step_ret, rfl, rfl, rfl, rfl, fn, hf, hr⟩
theorem FWP.fin {fn : Func} {v : Value} (hf : P.funcs[f]? = some fn) (hr : (results fn tmps).run P w = .ok v w) (hR : R (.returned v) w) : FWP P f R [] tmps w :=
  fun cs => ⟨.returned v, w, _, hR, .one step_end, rfl, rfl, rfl, rfl, fn, hf, hr⟩
theorem FWP.calls {fn : Func} {c : Code} {args : Array Value} (hf : P.funcs[f]? = some fn) (hb : fn.body = some c)
    (h : FWP P f R [.code c] (args ++ Array.replicate (fn.ntmps - args.size) undef) w) : Calls P f args w R := by
  intro cs
  have henter : Frame.enter P f args .normal = (bf f).at ⟨args ++ Array.replicate (fn.ntmps - args.size) undef, []⟩ [.code c] := by
    simp [Frame.enter, Frame.at, hf, hb, bf]
  obtain ⟨e, w', fr, hR, hc, h1, h2⟩ := h cs
  rw [← henter] at hc
  exact ⟨e, w', fr, hR, hc, h1, h2⟩
end control
end Go.Abs
