/- Appends onto a growing slice. -/
import Derived.Test.YtpdanklncjopoaaA9
set_option linter.unusedSimpArgs false
set_option linter.unusedVariables false
set_option linter.unusedSectionVars false
namespace Go.Abs
open Go.RowKit

theorem own_sl {w : World} {lim : Nat → Nat} {base e sz n : Nat} {v : Value} {xs : List Value} {rows : List (List D)} (ho : w.ownsRow base e sz v n xs) (hn : rows.length = n) (hr : ∀ row ∈ rows, row.length = sz)
    (hl : ∀ b, v.ownBlock = some b → n * sz ≤ lim b) (hx : ∀ (j : Nat) u c, xs[j]? = some u → rows.flatten[j]? = some c → DRep lim w c u ∧ u.oneCell' = true) : DRep lim w (.sl sz rows) v := by
  rcases ho.2 with ⟨rfl, rfl⟩ | ⟨g, cap, cur, rfl, hb, hg, hnc, hcm, hcs, htake⟩
  · have : rows = [] := List.eq_nil_of_length_eq_zero hn
    subst this
    exact .nil sz _
  · subst hn
    have hfl := flat_len hr
    have hcells := ho.cells (g := g) rfl
    refine .sl sz rows g 0 cap hnc hr ?_ ?_
    · intro k hk
      have hkx : k < xs.length := by rw [ho.1]; exact hk
      have h1 := hcells k xs[k] (List.getElem?_eq_getElem hkx)
      rw [Addr.add_lit] at h1
      have hkf : k < rows.flatten.length := by rw [hfl]; exact hk
      exact ⟨by have := hl g rfl; omega, xs[k], h1, (hx k _ _ (List.getElem?_eq_getElem hkx) (List.getElem?_eq_getElem hkf)).2⟩
    · intro i j row c u hi hj hu
      have hlt := idx_lt (List.getElem?_eq_some_iff.1 hi).1 (show j < sz by rw [← hr row (List.mem_of_getElem? hi)]; exact (List.getElem?_eq_some_iff.1 hj).1)
      have hkx : i * sz + j < xs.length := by rw [ho.1]; exact hlt
      have h1 := hcells _ xs[i * sz + j] (List.getElem?_eq_getElem hkx)
      rw [Addr.add_lit, hu] at h1
      cases h1
      exact (hx _ _ _ (List.getElem?_eq_getElem hkx) (flat_get hr hi hj)).1

/-- What the source of an append reads as. -/
structure SrcRep (P : Program) (lim : Nat → Nat) (w : World) (sz : Nat) (u : Value) (rs : List (List D)) (news : List Value) : Prop where
  src : Src P w sz u rs.length news
  rows : ∀ row ∈ rs, row.length = sz
  rep : ∀ (j : Nat) v c, news[j]? = some v → rs.flatten[j]? = some c → DRep lim w c v ∧ v.oneCell' = true

theorem srcRep_sl {P : Program} {lim : Nat → Nat} {w : World} {sz : Nat} {u : Value} {rows : List (List D)} (h : DRep lim w (.sl sz rows) u) : ∃ news, SrcRep P lim w sz u rows news := by
  obtain ⟨A, c, vs, rfl, hl, hA, hnil, hcell, hr, hrep⟩ := slInv h
  have hfl := flat_len hr
  refine ⟨vs, ⟨rfl, fun w' hw => ?_, hl, fun v hv => ?_⟩, hr, hrep⟩
  · cases A with
    | none =>
      have : vs = [] := List.eq_nil_of_length_eq_zero (by rw [hl, (hnil rfl).1]; simp)
      subst this
      simp [Builtin.firstCells]
    | some ad =>
      rcases hA with h0 | ⟨b, off, hab⟩
      · have : vs = [] := List.eq_nil_of_length_eq_zero (by rw [hl, h0]; simp)
        subst this
        simp [Builtin.firstCells, h0, loadCells, loadCellsFrom]
      · cases hab
        refine run_firstCells_some w' sz rows.length _ _ c vs hl fun j v hv => ?_
        rw [Addr.add_lit]
        have := hcell b off rfl j v hv
        simpa [World.cell?, hw] using this
  · obtain ⟨j, hj⟩ := List.mem_iff_getElem?.1 hv
    have hj' := (List.getElem?_eq_some_iff.1 hj).1
    exact (hrep j v _ hj (List.getElem?_eq_getElem (by omega))).2

def byteRows (l : List UInt8) : List (List D) := l.map fun b => [D.ex (.int .u8 (b.toNat : Int))]
theorem srcRep_str {P : Program} {lim : Nat → Nat} {w : World} (l : List UInt8) : SrcRep P lim w 1 (.string ⟨l.toArray⟩) (byteRows l) (l.map fun b => .int .u8 (b.toNat : Int)) := by
  have hfl : (byteRows l).flatten = l.map fun b => D.ex (.int .u8 (b.toNat : Int)) := by
    unfold byteRows
    induction l with
    | nil => rfl
    | cons a l ih => simp [ih]
  refine ⟨⟨?_, fun w' hw => ?_, by simp [byteRows], ?_⟩, ?_, ?_⟩
  · simp [Builtin.lenOf, byteRows, ByteArray.size_mk']
  · have : (byteRows l).length = l.length := by simp [byteRows]
    simp [Builtin.firstCells, this, ByteArray.extract_mk]
  · intro v hv
    simp only [List.mem_map] at hv
    obtain ⟨b, _, rfl⟩ := hv
    rfl
  · intro row hr
    simp only [byteRows, List.mem_map] at hr
    obtain ⟨b, _, rfl⟩ := hr
    rfl
  · intro j v c hv hc
    rw [hfl, List.getElem?_map] at hc
    rw [List.getElem?_map] at hv
    cases hl : l[j]? with
    | none => rw [hl] at hv; cases hv
    | some b =>
      rw [hl] at hv hc
      cases hv; cases hc
      exact ⟨.ex _, rfl⟩

section append
variable {P : Program} {g : Ghost} {base : Nat} {w : World} {st : St}
/-- How far the published part of a row reaches. -/
def Tail.pub (x : Tail) : Nat := if x.own = none then x.n * x.sz else 0
theorem pub_none {x : Tail} (h : x.own = none) : x.pub = x.n * x.sz := by simp [Tail.pub, h]
theorem pub_some {x : Tail} {p : List (List D)} (h : x.own = some p) : x.pub = 0 := by simp [Tail.pub, h]
theorem Inv.tail_lim (h : Inv g base w st) {t : Nat} {x : Tail} (hx : st.tails[t]? = some x) {b : Nat} (hb : (g.tk t).ownBlock = some b) : g.lim b = x.pub := by
  obtain ⟨e, sz, n, own⟩ := x
  cases own with
  | none => obtain ⟨xs, _, h2⟩ := h.tail t e sz n hx; exact h2 b hb
  | some rows => obtain ⟨xs, _, h2, _⟩ := h.own t e sz n rows hx; exact h2 b hb

/-- A row that a token stands for turns. -/
theorem Inv.turn (h : Inv g base w st) {tk : Nat} {x x' : Tail} (htl : st.tails[tk]? = some x) {v' : Value} {w' : World} {xs' : List Value} (hown' : w'.ownsRow base x'.e x'.sz v' x'.n xs')
    (hc : (v'.ownBlock = (g.tk tk).ownBlock ∧ w'.heap.size = w.heap.size ∧ w.grownBy w' (g.tk tk).ownBlock) ∨ (v'.ownBlock = some w.heap.size ∧ Below w.heap.size w w'))
    (hpub : x.own = none → x'.own = none ∧ x'.e = x.e ∧ x'.sz = x.sz ∧ x.n ≤ x'.n ∧ (x'.n = x.n → v' = g.tk tk) ∧ (∀ b, (g.tk tk).ownBlock = some b → v'.ownBlock = some b → ∀ off, off < x.n * x.sz → w'.cell? ⟨b, off, none⟩ = w.cell? ⟨b, off, none⟩))
    (hprv : ∀ rows, x.own = some rows → ∀ rows', x'.own = some rows' → x'.sz = x.sz ∧ x.n ≤ x'.n ∧ (x.n = x'.n → v' = g.tk tk))
    (hrep : ∀ rows', x'.own = some rows' → RowsRep g.lim w x'.sz x'.n rows' xs') :
    ∃ g', g'.tk tk = v' ∧ (∀ b, v'.ownBlock = some b → g'.lim b = x'.pub) ∧ Inv g' base w' (st.setTail tk x') ∧ Step base g w st g' w' (st.setTail tk x') := by
  have hlimtk : ∀ b, (g.tk tk).ownBlock = some b → g.lim b = x.pub := fun b hb => h.tail_lim htl hb
  have hlt : ∀ b, (g.tk tk).ownBlock = some b → base ≤ b ∧ b < w.heap.size := fun b hb => h.tail_lt htl hb
  have hlen : tk < st.tails.length := (List.getElem?_eq_some_iff.1 htl).1
  have hsize : w.heap.size ≤ w'.heap.size := by rcases hc with ⟨_, h1, _⟩ | ⟨_, h1⟩; omega; exact h1.size
  have hos : w'.os = w.os ∧ w'.tape = w.tape ∧ w'.output = w.output := by rcases hc with ⟨_, _, h1⟩ | ⟨_, h1⟩ <;> exact ⟨h1.os, h1.tape, h1.output⟩
  have hsame : ∀ k, k < w.heap.size → (g.tk tk).ownBlock ≠ some k → w'.heap[k]? = w.heap[k]? := by
    intro k hk hne
    rcases hc with ⟨_, _, h1⟩ | ⟨_, h1⟩
    · exact h1.block k hk (Ne.symm hne)
    · exact h1.block k hk
  have hnew : ∀ k, k < w.heap.size → (g.tk tk).ownBlock ≠ some k → v'.ownBlock ≠ some k := by
    intro k hk hne
    rcases hc with ⟨h1, _, _⟩ | ⟨h1, _⟩ <;> rw [h1]
    · exact hne
    · intro he; cases he; omega
  let g' : Ghost := ⟨fun b => if v'.ownBlock = some b then x'.pub else g.lim b, g.ob, fun t => if t = tk then v' else g.tk t⟩
  have hlim1 : ∀ b, v'.ownBlock = some b → g'.lim b = x'.pub := fun b hb => by show (if _ then _ else _) = _; rw [if_pos hb]
  have hlim2 : ∀ b, v'.ownBlock ≠ some b → g'.lim b = g.lim b := fun b hb => by show (if _ then _ else _) = _; rw [if_neg hb]
  have htk1 : g'.tk tk = v' := by show (if tk = tk then v' else _) = _; rw [if_pos rfl]
  have htk2 : ∀ t, t ≠ tk → g'.tk t = g.tk t := fun t ht => by show (if t = tk then v' else _) = _; rw [if_neg ht]
  have hbasene : ∀ k, k < base → (g.tk tk).ownBlock ≠ some k := fun k hk he => by have := (hlt k he).1; omega
  have hbel : Below base w w' := ⟨hos.1, hos.2.1, hos.2.2, hsize, fun k hk => hsame k (Nat.lt_of_lt_of_le hk h.base) (hbasene k hk)⟩
  have hpubn : x.own = none → x.pub ≤ x'.pub := by
    intro hx
    obtain ⟨h1, _, h3, h4, _⟩ := hpub hx
    rw [pub_none hx, pub_none h1, h3]
    exact Nat.mul_le_mul_right _ h4
  have hzero : x.own ≠ none → x.pub = 0 := fun hx => by cases ho : x.own with | none => exact absurd ho hx | some p => exact pub_some ho
  have hevo : Evo g.lim w g'.lim w' := by
    refine ⟨hsize, fun b hb => ?_, fun b off hb ho => ?_⟩
    · by_cases he : v'.ownBlock = some b
      · rw [hlim1 b he]
        have hb' : (g.tk tk).ownBlock = some b := by
          rcases hc with ⟨h1, _, _⟩ | ⟨h1, _⟩
          · rw [← h1]; exact he
          · rw [h1] at he; cases he; omega
        rw [hlimtk b hb']
        by_cases hx : x.own = none
        · exact hpubn hx
        · rw [hzero hx]; exact Nat.zero_le _
      · rw [hlim2 b he]; exact Nat.le_refl _
    · by_cases he : (g.tk tk).ownBlock = some b
      · rcases hc with ⟨h1, _, _⟩ | ⟨_, h1⟩
        · rw [hlimtk b he] at ho
          by_cases hx : x.own = none
          · rw [pub_none hx] at ho
            exact (hpub hx).2.2.2.2.2 b he (h1.trans he) off ho
          · rw [hzero hx] at ho; omega
        · exact h1.cell (p := ⟨b, off, none⟩) hb
      · exact World.cell?_of_block (w := w) (a := ⟨b, off, none⟩) (hsame b hb he)
  have htail' : ∀ t y, t ≠ tk → (st.setTail tk x').tails[t]? = some y → st.tails[t]? = some y := fun t y ht hy => by simpa [St.setTail, List.getElem?_set, Ne.symm ht] using hy
  have htailtk : ∀ y, (st.setTail tk x').tails[tk]? = some y → y = x' := fun y hy => by
    have : x' = y := by simpa [St.setTail, List.getElem?_set, hlen] using hy
    exact this.symm
  have hs : SEvo g w st g' w' (st.setTail tk x') := by
    refine ⟨hevo, fun _ _ => rfl, Nat.le_refl _, fun t e' sz' n' ht => ?_, by simp [St.setTail], fun t y rows' hlt' hy ho => ?_⟩
    · by_cases htt : t = tk
      · subst htt
        rw [htl] at ht
        cases ht
        obtain ⟨h1, h2, h3, h4, h5, _⟩ := hpub rfl
        obtain ⟨e1, s1, n1, o1⟩ := x'
        simp only at h1 h2 h3 h4 h5
        subst h1; subst h2; subst h3
        exact ⟨n1, by simp [St.setTail, List.getElem?_set, hlen], h4, fun he => by rw [htk1]; exact h5 he⟩
      · exact ⟨n', by simp [St.setTail, List.getElem?_set, Ne.symm htt, ht], Nat.le_refl _, fun _ => htk2 t htt⟩
    · by_cases htt : t = tk
      · subst htt
        have := htailtk y hy
        subst this
        cases hx : x.own with
        | none => rw [(hpub hx).1] at ho; cases ho
        | some rows =>
          obtain ⟨h1, h2, h3⟩ := hprv rows hx rows' ho
          exact ⟨x, rows, htl, hx, h1.symm, h2, fun e => by rw [htk1]; exact h3 e⟩
      · exact ⟨y, rows', htail' t y htt hy, ho, rfl, Nat.le_refl _, fun _ => htk2 t htt⟩
  have hgone : ∀ o, st.live o → g.ob o < w.heap.size ∧ (g.tk tk).ownBlock ≠ some (g.ob o) := fun o ho => ⟨(h.live_lt ho).1, h.tailObj tk _ o htl ho⟩
  have hrw : ∀ o y, st.objs[o]? = some (.raw y) → base ≤ g'.ob o ∧ g'.lim (g'.ob o) = 0 ∧ w'.heap[g'.ob o]? = some y := by
    intro o y hx
    obtain ⟨h1, h2, h3⟩ := h.raw o y hx
    obtain ⟨k1, k2⟩ := hgone o ⟨_, hx, by simp⟩
    exact ⟨h1, (hlim2 _ (hnew _ k1 k2)).trans h2, by show w'.heap[g.ob o]? = _; rw [hsame _ k1 k2]; exact h3⟩
  have hother : ∀ t y, t ≠ tk → (st.setTail tk x').tails[t]? = some y → ∀ b, (g.tk t).ownBlock = some b → b < w.heap.size ∧ (g.tk tk).ownBlock ≠ some b ∧ v'.ownBlock ≠ some b := fun t y htt hy b hb => by
    have h1 := (h.tail_lt (htail' t y htt hy) hb).2
    have h2 := h.tailNe t tk _ _ b htt (htail' t _ htt hy) htl hb
    exact ⟨h1, h2, hnew b h1 h2⟩
  refine ⟨g', htk1, hlim1, ⟨Nat.le_trans h.base hsize, ?_, ?_, hrw, h.ne, ?_, ?_, ?_, h.glob.below hbel, ?_⟩, ⟨hs, hbel, fun b hb => hlim2 b (hnew b (Nat.lt_of_lt_of_le hb h.base) (hbasene b hb)), fun b hb hn => ?_, fun b hb hw => ?_⟩⟩
  · intro o ty cs hx
    obtain ⟨h1, h2, vs, h3, h4, h5⟩ := h.row o ty cs hx
    obtain ⟨k1, k2⟩ := hgone o ⟨_, hx, by simp⟩
    exact ⟨h1, (hlim2 _ (hnew _ k1 k2)).trans h2, vs, by show w'.heap[g.ob o]? = _; rw [hsame _ k1 k2]; exact h3, h4, fun i c u hc hu => ⟨(h5 i c u hc hu).1.mono hs, (h5 i c u hc hu).2⟩⟩
  · intro o es hx
    obtain ⟨h1, ms, c, h3, h4, h5, h6⟩ := h.map o es hx
    obtain ⟨k1, k2⟩ := hgone o ⟨_, hx, by simp⟩
    exact ⟨h1, ms, c, by show w'.heap[g.ob o]? = _; rw [hsame _ k1 k2]; exact h3, h4, fun i k y m a b => ⟨(h5 i k y m a b).1, (h5 i k y m a b).2.mono hs⟩, h6⟩
  · intro t e' sz' n' ht
    by_cases htt : t = tk
    · subst htt
      have := htailtk _ ht
      subst this
      rw [htk1]
      exact ⟨_, hown', fun b hb => (hlim1 b hb).trans (pub_none rfl)⟩
    · obtain ⟨ys, k1, k2⟩ := h.tail t e' sz' n' (htail' t _ htt ht)
      rw [htk2 t htt]
      exact ⟨ys, ownsRow_keep k1 fun b hb => hsame b (hother t _ htt ht b hb).1 (hother t _ htt ht b hb).2.1, fun b hb => by rw [hlim2 b (hother t _ htt ht b hb).2.2]; exact k2 b hb⟩
  · intro t t' y y' b hne ht ht' hb
    by_cases h1 : t = tk
    · subst h1
      rw [htk1] at hb
      rw [htk2 t' (Ne.symm hne)]
      intro hb'
      exact (hother t' _ (Ne.symm hne) ht' b hb').2.2 hb
    · rw [htk2 t h1] at hb
      by_cases h2 : t' = tk
      · subst h2
        rw [htk1]
        exact (hother t _ h1 ht b hb).2.2
      · rw [htk2 t' h2]
        exact h.tailNe t t' _ _ b hne (htail' t _ h1 ht) (htail' t' _ h2 ht') hb
  · intro t y o ht ho
    obtain ⟨k1, k2⟩ := hgone o ho
    by_cases h1 : t = tk
    · subst h1
      rw [htk1]
      exact hnew _ k1 k2
    · rw [htk2 t h1]
      exact h.tailObj t y o (htail' t _ h1 ht) ho
  · intro t e' sz' n' rows' ht
    by_cases htt : t = tk
    · subst htt
      have := htailtk _ ht
      subst this
      rw [htk1]
      exact ⟨_, hown', fun b hb => (hlim1 b hb).trans (pub_some rfl), (hrep rows' rfl).mono hevo⟩
    · obtain ⟨ys, k1, k2, k3⟩ := h.own t e' sz' n' rows' (htail' t _ htt ht)
      rw [htk2 t htt]
      exact ⟨ys, ownsRow_keep k1 fun b hb => hsame b (hother t _ htt ht b hb).1 (hother t _ htt ht b hb).2.1, fun b hb => by rw [hlim2 b (hother t _ htt ht b hb).2.2]; exact k2 b hb, k3.mono hevo⟩
  · have hne : (g.tk tk).ownBlock ≠ some b := fun e => hn (.inr ⟨tk, x, htl, e⟩)
    exact ⟨hsame b hb hne, hlim2 b (hnew b hb hne)⟩
  · rcases hw with ⟨o, h1, h2⟩ | ⟨t, y, h1, h2⟩
    · exact .inl ⟨o, h1, h2⟩
    · by_cases htt : t = tk
      · subst htt
        rw [htk1] at h2
        rcases hc with ⟨c1, _, _⟩ | ⟨c1, _⟩
        · exact .inr ⟨t, x, htl, by rw [← c1]; exact h2⟩
        · rw [c1] at h2; cases h2; omega
      · rw [htk2 t htt] at h2
        exact .inr ⟨t, y, htail' t y htt h1, h2⟩

theorem Inv.append (h : Inv g base w st) {tk e sz n m : Nat} (htl : st.tails[tk]? = some ⟨e, sz, n, none⟩) {v' : Value} {w' : World} {xs news : List Value} (hown : w.ownsRow base e sz (g.tk tk) n xs) (hown' : w'.ownsRow base e sz v' (n + m) (xs ++ news))
    (hm0 : m = 0 → v' = g.tk tk)
    (hc : (v'.ownBlock = (g.tk tk).ownBlock ∧ w'.heap.size = w.heap.size ∧ w.grownBy w' (g.tk tk).ownBlock) ∨ (v'.ownBlock = some w.heap.size ∧ Below w.heap.size w w')) :
    ∃ g', g'.tk tk = v' ∧ (∀ b, v'.ownBlock = some b → g'.lim b = (n + m) * sz) ∧ Inv g' base w' (st.setTail tk ⟨e, sz, n + m, none⟩) ∧ Step base g w st g' w' (st.setTail tk ⟨e, sz, n + m, none⟩) := by
  obtain ⟨g', h1, h2, h3, h4⟩ := h.turn (x' := ⟨e, sz, n + m, none⟩) htl hown' hc
    (fun _ => ⟨rfl, rfl, rfl, Nat.le_add_right _ _, fun he => hm0 (by simp only at he; omega), fun b he hv off ho => by
      have hox : off < xs.length := by rw [hown.1]; exact ho
      have c1 := hown.cells he off xs[off] (List.getElem?_eq_getElem hox)
      have c2 := hown'.cells hv off xs[off] (by rw [List.getElem?_append_left hox]; exact List.getElem?_eq_getElem hox)
      rw [Addr.add_lit, Nat.zero_add] at c1 c2
      rw [c1, c2]⟩)
    (fun rows hh => by cases hh) (fun rows hh => by cases hh)
  exact ⟨g', h1, fun b hb => (h2 b hb).trans (pub_none rfl), h3, h4⟩

/-- A new token. -/
theorem Inv.newTail (h : Inv g base w st) (x : Tail) {v : Value} {w' : World} {xs : List Value} (hown : w'.ownsRow base x.e x.sz v x.n xs)
    (hc : (w' = w ∧ v.ownBlock = none) ∨ (v.ownBlock = some w.heap.size ∧ Below w.heap.size w w'))
    (hrep : ∀ rows, x.own = some rows → RowsRep g.lim w x.sz x.n rows xs) :
    ∃ g', g'.tk st.tails.length = v ∧ (∀ b, v.ownBlock = some b → g'.lim b = x.pub) ∧ (∀ b, b < w.heap.size → g'.lim b = g.lim b) ∧ Inv g' base w' (st.tok x) ∧ Step base g w st g' w' (st.tok x) := by
  have hbel : Below w.heap.size w w' := by
    rcases hc with ⟨rfl, _⟩ | ⟨_, h1⟩
    · exact .refl _ _
    · exact h1
  have hvb : ∀ b, v.ownBlock = some b → b = w.heap.size := by
    intro b hb
    rcases hc with ⟨_, h1⟩ | ⟨h1, _⟩
    · rw [h1] at hb; cases hb
    · rw [h1] at hb; cases hb; rfl
  let g' : Ghost := ⟨fun b => if v.ownBlock = some b then x.pub else g.lim b, g.ob, fun t => if t = st.tails.length then v else g.tk t⟩
  have hlim1 : ∀ b, v.ownBlock = some b → g'.lim b = x.pub := fun b hb => by show (if _ then _ else _) = _; rw [if_pos hb]
  have hlim2 : ∀ b, b < w.heap.size → g'.lim b = g.lim b := fun b hb => by
    show (if _ then _ else _) = _
    rw [if_neg]
    intro e
    have := hvb b e
    omega
  have h1 : g'.tk st.tails.length = v := by show (if _ then _ else _) = _; rw [if_pos rfl]
  have h2 : ∀ t, t ≠ st.tails.length → g'.tk t = g.tk t := fun t ht => by show (if _ then _ else _) = _; rw [if_neg ht]
  have hold : ∀ t y, (st.tok x).tails[t]? = some y → (t < st.tails.length ∧ st.tails[t]? = some y) ∨ (t = st.tails.length ∧ y = x) := by
    intro t y hx
    have hlt := (List.getElem?_eq_some_iff.1 hx).1
    simp [St.tok] at hlt
    by_cases ht : t < st.tails.length
    · exact .inl ⟨ht, by simpa [St.tok, List.getElem?_append_left ht] using hx⟩
    · have : t = st.tails.length := by omega
      subst this
      exact .inr ⟨rfl, by simpa [St.tok, eq_comm] using hx⟩
  have hevo : Evo g.lim w g'.lim w' := ⟨hbel.size, fun b hb => by rw [hlim2 b hb]; exact Nat.le_refl _, fun b off hb _ => hbel.cell (p := ⟨b, off, none⟩) hb⟩
  have hs : SEvo g w st g' w' (st.tok x) := ⟨hevo, fun _ _ => rfl, Nat.le_refl _, fun t e' sz' n ht => by
    have hlt := (List.getElem?_eq_some_iff.1 ht).1
    exact ⟨n, by simp [St.tok, List.getElem?_append_left hlt, ht], Nat.le_refl _, fun _ => h2 t (by omega)⟩, by simp [St.tok], own_same fun t y rows' hlt hy _ => ⟨by
      rcases hold t y hy with ⟨_, hh⟩ | ⟨hh, _⟩
      · exact hh
      · omega, h2 t (by omega)⟩⟩
  have hne : ∀ t y b, st.tails[t]? = some y → (g.tk t).ownBlock = some b → v.ownBlock ≠ some b := fun t y b hy hb hv => by
    have := (h.tail_lt hy hb).2
    have := hvb b hv
    omega
  refine ⟨g', h1, hlim1, hlim2, ⟨Nat.le_trans h.base hbel.size, fun o ty cs hx => ?_, fun o es hx => ?_, fun o y hx => ?_, h.ne, ?_, ?_, ?_, h.glob.below (hbel.mono h.base), ?_⟩, ⟨hs, hbel.mono h.base, fun b hb => hlim2 b (Nat.lt_of_lt_of_le hb h.base), fun b hb _ => ⟨hbel.block b hb, hlim2 b hb⟩, fun b hb hw => ?_⟩⟩
  · obtain ⟨k1, k2, vs, k3, k4, k5⟩ := h.row o ty cs hx
    have hlt := (Array.getElem?_eq_some_iff.1 k3).1
    exact ⟨k1, (hlim2 _ hlt).trans k2, vs, (hbel.block _ hlt).trans k3, k4, fun i c u hc hu => ⟨(k5 i c u hc hu).1.mono hs, (k5 i c u hc hu).2⟩⟩
  · obtain ⟨k1, ms, c, k3, k4, k5, k6⟩ := h.map o es hx
    have hlt := (Array.getElem?_eq_some_iff.1 k3).1
    exact ⟨k1, ms, c, (hbel.block _ hlt).trans k3, k4, fun i k y m a b => ⟨(k5 i k y m a b).1, (k5 i k y m a b).2.mono hs⟩, k6⟩
  · obtain ⟨k1, k2, k3⟩ := h.raw o y hx
    have hlt := (Array.getElem?_eq_some_iff.1 k3).1
    exact ⟨k1, (hlim2 _ hlt).trans k2, (hbel.block _ hlt).trans k3⟩
  · intro t e' sz' n ht
    rcases hold t _ ht with ⟨hlt, ht'⟩ | ⟨rfl, he⟩
    · rw [h2 t (by omega)]
      obtain ⟨ys, k1, k2⟩ := h.tail t e' sz' n ht'
      exact ⟨ys, ownsRow_keep k1 fun b hb => hbel.block b (k1.lt b hb).2, fun b hb => (hlim2 b (k1.lt b hb).2).trans (k2 b hb)⟩
    · subst he
      rw [h1]
      exact ⟨xs, hown, fun b hb => (hlim1 b hb).trans (pub_none rfl)⟩
  · intro t t' y y' b hne' ht ht' hb
    rcases hold t _ ht with ⟨hlt, k⟩ | ⟨rfl, he⟩
    · rw [h2 t (by omega)] at hb
      rcases hold t' _ ht' with ⟨hlt', k'⟩ | ⟨rfl, he'⟩
      · rw [h2 t' (by omega)]; exact h.tailNe t t' y y' b hne' k k' hb
      · rw [h1]; exact hne t y b k hb
    · rw [h1] at hb
      rcases hold t' _ ht' with ⟨hlt', k'⟩ | ⟨rfl, he'⟩
      · rw [h2 t' (by omega)]
        intro hb'
        exact hne t' y' b k' hb' hb
      · exact absurd rfl hne'
  · intro t y o ht ho
    rcases hold t _ ht with ⟨hlt, k⟩ | ⟨rfl, he⟩
    · rw [h2 t (by omega)]; exact h.tailObj t y o k ho
    · rw [h1]
      intro e
      have := hvb _ e
      have := (h.live_lt ho).1
      have e2 : g'.ob o = g.ob o := rfl
      omega
  · intro t e' sz' n rows' ht
    rcases hold t _ ht with ⟨hlt, ht'⟩ | ⟨rfl, he⟩
    · rw [h2 t (by omega)]
      obtain ⟨ys, k1, k2, k3⟩ := h.own t e' sz' n rows' ht'
      exact ⟨ys, ownsRow_keep k1 fun b hb => hbel.block b (k1.lt b hb).2, fun b hb => (hlim2 b (k1.lt b hb).2).trans (k2 b hb), k3.mono hevo⟩
    · subst he
      rw [h1]
      exact ⟨xs, hown, fun b hb => (hlim1 b hb).trans (pub_some rfl), (hrep rows' rfl).mono hevo⟩
  · rcases hw with ⟨o, a1, a2⟩ | ⟨t, y, a1, a2⟩
    · exact .inl ⟨o, a1, a2⟩
    · rcases hold t _ a1 with ⟨hlt, k⟩ | ⟨rfl, he⟩
      · rw [h2 t (by omega)] at a2
        exact .inr ⟨t, y, k, a2⟩
      · rw [h1] at a2
        have := hvb b a2
        omega

/-- A token for a slice that is nil yet. -/
theorem Inv.newTok (h : Inv g base w st) (e sz : Nat) : ∃ g', g'.tk st.tails.length = .slice none 0 0 ∧ Inv g' base w (st.tok ⟨e, sz, 0, none⟩) ∧ Step base g w st g' w (st.tok ⟨e, sz, 0, none⟩) := by
  obtain ⟨g', h1, _, _, h2, h3⟩ := h.newTail ⟨e, sz, 0, none⟩ (World.ownsRow_nil w base _ _) (.inl ⟨rfl, rfl⟩) (fun rows hh => by cases hh)
  exact ⟨g', h1, h2, h3⟩
end append

section rules
variable {P : Program} {f : FuncId} {N : Nat} {S : Start} {Q : EV → St → Prop} {k : List Item} {base : Nat} {env : Env} {st : St} {ops rest : List Oper}
  {d : Option Tmp} {ty : TypeId} {pos : String} {after : Array Edge} {gd : Option (Nat × Bool)} {t t2 e : TypeId} {x y : Operand}

theorem append_val {g : Ghost} {w : World} {v u : Value} {sz : Nat} {rows rows' : List (List D)} {tk : Nat} {inf : TypeInfo} {z : Value} {d2 : TypeDesc} (ht : P.underlying t = some (.slice e)) (ht2 : P.underlying t2 = some d2) (hn2 : d2 = .string ∨ ∃ e2, d2 = .slice e2)
    (hi : P.info? e = some inf) (hz : inf.zero = some z) (hsize : inf.size = sz) (hzs : z.cells.size = sz) (hinv : Inv g base w st) (hxr : EVRep g w st (.tsl sz rows tk) v) (htl : st.tails[tk]? = some ⟨e, sz, rows.length, none⟩)
    (hn : (rows.length + rows'.length) * inf.bytes ≤ 140737488355328) (h63 : rows.length + rows'.length ≤ 4611686018427387904)
    {news : List Value} (hsr : SrcRep P g.lim w sz u rows' news) :
    ∃ v' g' w', (Builtin.append_ #[t, t2] ty #[v, u]).run P w = .ok v' w' ∧ EVRep g' w' (st.setTail tk ⟨e, sz, (rows ++ rows').length, none⟩) (.tsl sz (rows ++ rows') tk) v' ∧ Inv g' base w' (st.setTail tk ⟨e, sz, (rows ++ rows').length, none⟩) ∧
      Step base g w st g' w' (st.setTail tk ⟨e, sz, (rows ++ rows').length, none⟩) := by
  rw [show (rows ++ rows').length = rows.length + rows'.length from List.length_append]
  cases hxr with
  | tsl _ _ _ _ e0 n0 hd ht0 hn0 hv0 =>
    rw [htl] at ht0
    cases ht0
    have hvk := hv0 rfl
    obtain ⟨xs, hown, hlim⟩ := hinv.tail tk e sz _ htl
    obtain ⟨v', w', hrun, hown', hm0, hc⟩ := run_append3 (P := P) (ty := ty) w ht ht2 hn2 hi hz hsize hzs hown hsr.src (by simp only [maxLen]; omega) hn hinv.base
    obtain ⟨g', htk, hlim', hinv', hstep⟩ := hinv.append htl hown hown' hm0 hc
    refine ⟨v', g', w', ?_, ?_, hinv', hstep⟩
    · rw [hvk]; exact hrun
    · have hlen : tk < st.tails.length := (List.getElem?_eq_some_iff.1 htl).1
      obtain ⟨A, c, vs, hvA, hvl, hA, hnil, hcell, hrw, hrep⟩ := slInv hd
      refine .tsl sz _ tk v' e (rows.length + rows'.length) (own_sl hown' (by simp) ?_ (fun b hb => Nat.le_of_eq (hlim' b hb).symm) ?_) (by simp [St.setTail, List.getElem?_set, hlen]) (by simp) (fun _ => htk.symm)
      · intro row hr
        rcases List.mem_append.1 hr with h | h
        · exact hrw row h
        · exact hsr.rows row h
      · intro j u c' hu hc'
        rw [List.flatten_append] at hc'
        have hfl := flat_len hrw
        have hxl := hown.1
        by_cases hj : j < xs.length
        · rw [List.getElem?_append_left hj] at hu
          rw [List.getElem?_append_left (by omega)] at hc'
          have hjv : j < vs.length := by omega
          have hu2 : vs[j]? = some u := by
            have e1 := List.getElem?_eq_getElem hjv
            rcases hA with h0 | ⟨b, off, hab⟩
            · rw [h0] at hxl; omega
            · have c1 := hcell b off hab j _ e1
              have hob : (g.tk tk).ownBlock = some b ∧ off = 0 := by
                rcases hown.2 with ⟨h1, h2⟩ | ⟨gb, cap, cur, h1, _⟩
                · rw [h2] at hxl; omega
                · rw [← hvk, hvA, hab] at h1
                  cases h1
                  exact ⟨by rw [← hvk, hvA, hab]; rfl, rfl⟩
              have c2 := hown.cells hob.1 j u hu
              rw [Addr.add_lit] at c2
              rw [hob.2, c2] at c1
              cases c1
              exact e1
          exact ⟨(hrep j u c' hu2 hc').1.mono hstep.sevo.evo, (hrep j u c' hu2 hc').2⟩
        · rw [List.getElem?_append_right (by omega)] at hu
          rw [List.getElem?_append_right (by omega)] at hc'
          have e1 : rows.flatten.length = xs.length := by omega
          rw [e1] at hc'
          exact ⟨(hsr.rep _ u c' hu hc').1.mono hstep.sevo.evo, (hsr.rep _ u c' hu hc').2⟩

theorem append_core {sz : Nat} {rows rows' : List (List D)} {tk : Nat} {inf : TypeInfo} {z : Value} {d2 : TypeDesc} (ht : P.underlying t = some (.slice e)) (ht2 : P.underlying t2 = some d2) (hn2 : d2 = .string ∨ ∃ e2, d2 = .slice e2)
    (hi : P.info? e = some inf) (hz : inf.zero = some z) (hsize : inf.size = sz) (hzs : z.cells.size = sz) (hx : evo env x = some (.tsl sz rows tk)) (htl : st.tails[tk]? = some ⟨e, sz, rows.length, none⟩)
    (hn : (rows.length + rows'.length) * inf.bytes ≤ 140737488355328) (h63 : rows.length + rows'.length ≤ 4611686018427387904)
    (hsrc : ∀ (g : Ghost) (w : World) (tmps : Array Value), EnvRep g w st env tmps → ∃ news, SrcRep P g.lim w sz (Act.eval ⟨tmps, []⟩ y) rows' news) :
    OpV P base env st ⟨d, .call ⟨.builtin .append, #[x, y], #[t, t2]⟩, ty, pos, after, gd⟩ (.tsl sz (rows ++ rows') tk) (st.setTail tk ⟨e, sz, (rows ++ rows').length, none⟩) := by
  intro g w tmps hinv he
  obtain ⟨news, hsr⟩ := hsrc g w tmps he
  obtain ⟨v', g', w', hrun, h1, h2, h3⟩ := append_val (ty := ty) ht ht2 hn2 hi hz hsize hzs hinv (evo_rep he hx) htl hn h63 hsr
  exact ⟨v', g', w', by simp [execOp, resolve, invoke, builtin, hrun], h1, h2, h3⟩

/-- append(s, xs...) where s grows by a token. -/
theorem v_append {sz : Nat} {rows rows' : List (List D)} {tk : Nat} {inf : TypeInfo} {z : Value} {ev : EV} (ht : P.underlying t = some (.slice e)) (hi : P.info? e = some inf) (hz : inf.zero = some z) (hsize : inf.size = sz) (hzs : z.cells.size = sz)
    (hx : evo env x = some (.tsl sz rows tk)) (htl : st.tails[tk]? = some ⟨e, sz, rows.length, none⟩) (hy : evo env y = some ev) (hs : asSl ev = some (sz, rows'))
    (hn : (rows.length + rows'.length) * inf.bytes ≤ 140737488355328) (h63 : rows.length + rows'.length ≤ 4611686018427387904) :
    OpV P base env st ⟨d, .call ⟨.builtin .append, #[x, y], #[t, t]⟩, ty, pos, after, gd⟩ (.tsl sz (rows ++ rows') tk) (st.setTail tk ⟨e, sz, (rows ++ rows').length, none⟩) :=
  append_core ht ht (.inr ⟨e, rfl⟩) hi hz hsize hzs hx htl hn h63 fun g w tmps he => srcRep_sl (asSl_rep hs (evo_rep he hy))
/-- append(b, s...), s a string. -/
theorem v_appendStr {rows : List (List D)} {l : List UInt8} {tk : Nat} {inf : TypeInfo} {z : Value} (ht : P.underlying t = some (.slice e)) (ht2 : P.underlying t2 = some .string) (hi : P.info? e = some inf) (hz : inf.zero = some z) (hsize : inf.size = 1) (hzs : z.cells.size = 1)
    (hx : evo env x = some (.tsl 1 rows tk)) (htl : st.tails[tk]? = some ⟨e, 1, rows.length, none⟩) (hy : evo env y = some (.d (.ex (.string ⟨l.toArray⟩))))
    (hn : (rows.length + l.length) * inf.bytes ≤ 140737488355328) (h63 : rows.length + l.length ≤ 4611686018427387904) :
    OpV P base env st ⟨d, .call ⟨.builtin .append, #[x, y], #[t, t2]⟩, ty, pos, after, gd⟩ (.tsl 1 (rows ++ byteRows l) tk) (st.setTail tk ⟨e, 1, (rows ++ byteRows l).length, none⟩) :=
  append_core ht ht2 (.inl rfl) hi hz hsize hzs hx htl (by simpa [byteRows] using hn) (by simpa [byteRows] using h63) fun g w tmps he => ⟨_, by rw [(evo_rep he hy).ex_inv]; exact srcRep_str l⟩

/-- append([]T{}, xs...): data. -/
theorem g_append0 {sz : Nat} {rows' : List (List D)} {inf : TypeInfo} {z : Value} {ev e0 : EV} (ht : P.underlying t = some (.slice e)) (hi : P.info? e = some inf) (hz : inf.zero = some z) (hsize : inf.size = sz) (hzs : z.cells.size = sz)
    (hx : evo env x = some e0) (h0 : e0 = .d (.e0 sz) ∨ e0 = .d (.ex (.slice none 0 0))) (hy : evo env y = some ev) (hs : asSl ev = some (sz, rows')) (hn : rows'.length * inf.bytes ≤ 140737488355328) (h63 : rows'.length ≤ 4611686018427387904) :
    OpG P env st ⟨d, .call ⟨.builtin .append, #[x, y], #[t, t]⟩, ty, pos, after, gd⟩ (.d (.sl sz rows')) := by
  intro g base w tmps hinv he
  have hdx : DRep g.lim w (.e0 sz) (Act.eval ⟨tmps, []⟩ x) := by
    rcases h0 with rfl | rfl
    · cases evo_rep he hx with | d _ _ h => exact h
    · rw [(evo_rep he hx).ex_inv]; exact .e0 sz none (.inl rfl)
  obtain ⟨news, hsr⟩ := srcRep_sl (P := P) (asSl_rep hs (evo_rep he hy))
  generalize hv : Act.eval ⟨tmps, []⟩ x = v at hdx
  generalize hu : Act.eval ⟨tmps, []⟩ y = u at hsr
  cases hdx with
  | e0 _ A hA =>
    have hl := hsr.src.len
    by_cases hm : rows'.length = 0
    · have hr0 : rows' = [] := List.eq_nil_of_length_eq_zero hm
      subst hr0
      have hn0 : news = [] := List.eq_nil_of_length_eq_zero (by simpa using hsr.src.size)
      subst hn0
      have hf := hsr.src.cells w rfl
      refine .inl ⟨.slice A 0 0, g.lim, w, ?_, .d _ _ (D.e0_sl (.e0 sz A hA)), .refl _ _, fun _ _ => rfl⟩
      subst hsize
      simp only [List.length_nil] at hl hf
      cases A <;> simp [execOp, hv, hu, resolve, invoke, builtin, Builtin.append_, run_underlying ht, sizeOf, typeInfo, hi, hl, hf, storeCells]
    · have hfl := flat_len hsr.rows
      have hge := grownCap_ge w rows'.length 0 e
      obtain ⟨lim', h1, h2, h3⟩ := new_row (g := g) (w := w) (w0 := w.drew) (sz := sz) (cap := grownCap w rows'.length 0 e) (rows := rows') (vs := news.toArray ++ Builtin.zeroCells z.cells (grownCap w rows'.length 0 e - rows'.length)) (e := e) rfl rfl rfl rfl
        hsr.rows hge (by simp [hsr.src.size]) (fun i c v hc hvv => by
          have hi' : i < news.length := by have := (List.getElem?_eq_some_iff.1 hc).1; rw [hsr.src.size]; omega
          rw [Array.getElem?_append_left (by simpa using hi')] at hvv
          exact hsr.rep i v c (by simpa using hvv) hc)
      refine .inl ⟨_, lim', _, ?_, .d _ _ h1, h2, h3⟩
      have hf := hsr.src.cells w.drew rfl
      subst hsize
      have h63' : ¬ (9223372036854775807 < (rows'.length : Int)) := by omega
      have h48' : ¬ (281474976710656 < Builtin.nextslicecap rows'.length 0 * inf.bytes) := by
        have := growslice_fits (need := rows'.length) (old := 0) (by omega) hn
        omega
      have hfirst : (Builtin.firstCells inf.size 0 (.slice A 0 0)).run P w.drew = .ok #[] w.drew := by cases A <;> simp [Builtin.firstCells, loadCells, loadCellsFrom]
      have hm' : rows' ≠ [] := fun hh => hm (by rw [hh]; rfl)
      simp [execOp, hv, hu, resolve, invoke, builtin, Builtin.append_, run_underlying ht, sizeOf, typeInfo, zeroValue, hi, hz, hl, hm', h63', h48', Question.forced, hfirst, hf, newRow, grownCap]

/-- A nil or empty slice becomes one that grows. -/
theorem ARun.tok {todo : List Item} {i : Nat} {e sz : Nat} (hx : lookup i env = some (.d (.ex (.slice none 0 0)))) (h : ARun P f N S Q todo ((i, .tsl sz [] st.tails.length) :: env) (st.tok ⟨e, sz, 0, none⟩)) : ARun P f N S Q todo env st := by
  intro g w tmps hinv hh he hn
  obtain ⟨g', h1, hinv', hs⟩ := hinv.newTok e sz
  refine h g' w tmps hinv' (hh.step hs) ?_ hn
  intro j y hy
  unfold lookup at hy
  cases hb : Nat.beq j i with
  | true =>
    rw [hb] at hy
    simp only [Option.some.injEq] at hy
    subst hy
    have := Nat.eq_of_beq_eq_true hb
    subst this
    obtain ⟨v, k1, k2⟩ := he j _ hx
    rw [k2.ex_inv] at k1
    exact ⟨_, k1, .tsl sz [] _ _ e 0 (.nil sz _) (by simp [St.tok]) (Nat.le_refl _) (fun _ => h1.symm)⟩
  | false =>
    rw [hb] at hy
    exact (he.mono hs.sevo) j y hy
/-- append(nil, xs...), and what comes grows. -/
theorem v_appendNil {sz : Nat} {rows' : List (List D)} {inf : TypeInfo} {z : Value} {ev : EV} (ht : P.underlying t = some (.slice e)) (hi : P.info? e = some inf) (hz : inf.zero = some z) (hsize : inf.size = sz) (hzs : z.cells.size = sz)
    (hx : evo env x = some (.d (.ex (.slice none 0 0)))) (hy : evo env y = some ev) (hs : asSl ev = some (sz, rows'))
    (hn : rows'.length * inf.bytes ≤ 140737488355328) (h63 : rows'.length ≤ 4611686018427387904) :
    OpV P base env st ⟨d, .call ⟨.builtin .append, #[x, y], #[t, t]⟩, ty, pos, after, gd⟩ (.tsl sz rows' st.tails.length) ((st.tok ⟨e, sz, 0, none⟩).setTail st.tails.length ⟨e, sz, rows'.length, none⟩) := by
  intro g w tmps hinv he
  obtain ⟨g1, k1, k2, k3⟩ := hinv.newTok e sz
  obtain ⟨news, hsr⟩ := srcRep_sl (P := P) ((asSl_rep hs (evo_rep he hy)).mono k3.sevo.evo)
  obtain ⟨v', g', w', hrun, h1, h2, h3⟩ := append_val (ty := ty) (rows := []) ht ht (.inr ⟨e, rfl⟩) hi hz hsize hzs k2 (.tsl sz [] st.tails.length (.slice none 0 0) e 0 (.nil sz _) (by simp [St.tok]) (Nat.le_refl _) (fun _ => k1.symm)) (by simp [St.tok]) (by simpa using hn) (by simpa using h63) hsr
  exact ⟨v', g', w', by simp [execOp, (evo_rep he hx).ex_inv, resolve, invoke, builtin, hrun], by simpa using h1, by simpa using h2, by simpa using k3.trans h3⟩
end rules
end Go.Abs
