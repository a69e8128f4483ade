/- Steps that turn the state: new objects, stores, tokens of growing slices, appends. -/
import Derived.Test.YtpdanklncjopoaaA4
set_option linter.unusedSimpArgs false
set_option linter.unusedVariables false
namespace Go.Abs
open Go.RowKit

def St.set (st : St) (o : Nat) (x : AObj) : St := ⟨st.objs.set o x, st.tails⟩
def St.add (st : St) (x : AObj) : St := ⟨st.objs ++ [x], st.tails⟩
def St.tok (st : St) (x : Tail) : St := ⟨st.objs, st.tails ++ [x]⟩
def St.setTail (st : St) (t : Nat) (x : Tail) : St := ⟨st.objs, st.tails.set t x⟩

theorem evo_of_blocks {lim lim' : Nat → Nat} {w w' : World} (hs : w.heap.size ≤ w'.heap.size) (h : ∀ b, b < w.heap.size → lim b ≤ lim' b ∧ (lim b = 0 ∨ w'.heap[b]? = w.heap[b]?)) : Evo lim w lim' w' :=
  ⟨hs, fun b hb => (h b hb).1, fun b off hb ho => by
    rcases (h b hb).2 with h2 | h2
    · omega
    · exact World.cell?_of_block (w := w) (a := ⟨b, off, none⟩) h2⟩

section inv
variable {g : Ghost} {base : Nat} {w : World} {st : St}

theorem Inv.live_lt (h : Inv g base w st) {o : Nat} (hl : st.live o) : g.ob o < w.heap.size ∧ base ≤ g.ob o := by
  obtain ⟨x, hx, hne⟩ := hl
  cases x with
  | row ty cs =>
    obtain ⟨h1, h2, vs, h3, _⟩ := h.row o ty cs hx
    exact ⟨(Array.getElem?_eq_some_iff.1 h3).1, h1⟩
  | map es =>
    obtain ⟨h1, ms, c, h3, _⟩ := h.map o es hx
    exact ⟨(Array.getElem?_eq_some_iff.1 h3).1, h1⟩
  | raw y =>
    obtain ⟨h1, _, h3⟩ := h.raw o y hx
    exact ⟨(Array.getElem?_eq_some_iff.1 h3).1, h1⟩
  | gone => exact absurd rfl hne

theorem live_set {st : St} {o o' : Nat} {x : AObj} (ho : st.live o) (h : (st.set o x).live o') : st.live o' := by
  obtain ⟨y, hy, hne⟩ := h
  simp only [St.set, List.getElem?_set] at hy
  split at hy
  · rename_i e
    subst e
    exact ho
  · exact ⟨y, hy, hne⟩

/-- One object's block turns, all else stays. -/
theorem Inv.setBlock (h : Inv g base w st) {o : Nat} (hl : st.live o) {w' : World} {x : AObj} (hlim : g.lim (g.ob o) = 0) (hsz : w'.heap.size = w.heap.size) (hoth : ∀ b, b ≠ g.ob o → w'.heap[b]? = w.heap[b]?)
    (hos : w'.os = w.os) (htp : w'.tape = w.tape) (hout : w'.output = w.output)
    (hrow : SEvo g w st g w' (st.set o x) → ∀ ty cs, x = .row ty cs → ∃ vs : Array Value, w'.heap[g.ob o]? = some (.cells vs ty (0, 0)) ∧ vs.size = cs.length ∧ ∀ (i : Nat) c u, cs[i]? = some c → vs[i]? = some u → EVRep g w' (st.set o x) c u ∧ u.oneCell' = true)
    (hmap : SEvo g w st g w' (st.set o x) → ∀ es, x = .map es → ∃ (ms : Array MapEntry) (clock : Nat), w'.heap[g.ob o]? = some (.map ms clock) ∧ ms.size = es.length ∧
      (∀ (i : Nat) k y (m : MapEntry), es[i]? = some (k, y) → ms[i]? = some m → m.key = k ∧ EVRep g w' (st.set o x) y m.val) ∧
      (∀ (i : Nat) (m : MapEntry), ms[i]? = some m → m.born < clock) ∧
      (∀ (i j : Nat) (m m' : MapEntry), ms[i]? = some m → ms[j]? = some m' → m.born = m'.born → i = j))
    (hraw : ∀ y, x = .raw y → w'.heap[g.ob o]? = some y := by (intro y hy; cases hy)) :
    Inv g base w' (st.set o x) ∧ Step base g w st g w' (st.set o x) := by
  obtain ⟨hlt, hbase⟩ := h.live_lt hl
  have hbel : Below base w w' := ⟨hos, htp, hout, by omega, fun k hk => hoth k (by omega)⟩
  have hs : SEvo g w st g w' (st.set o x) := by
    refine ⟨evo_of_blocks (by omega) (fun b hb => ⟨Nat.le_refl _, ?_⟩), fun _ _ => rfl, by simp [St.set], fun t e sz n ht => ⟨n, ht, Nat.le_refl _, fun _ => rfl⟩, Nat.le_refl _, own_same fun _ _ _ _ h _ => ⟨h, rfl⟩⟩
    by_cases hb' : b = g.ob o
    · subst hb'; exact .inl hlim
    · exact .inr (hoth b hb')
  have hlo : o < st.objs.length := by obtain ⟨y, hy, _⟩ := hl; exact (List.getElem?_eq_some_iff.1 hy).1
  have hother : ∀ o' y, o' ≠ o → (st.set o x).objs[o']? = some y → st.objs[o']? = some y := by
    intro o' y hne hy
    simpa [St.set, List.getElem?_set, Ne.symm hne] using hy
  have hrw : ∀ o' y, (st.set o x).objs[o']? = some (.raw y) → base ≤ g.ob o' ∧ g.lim (g.ob o') = 0 ∧ w'.heap[g.ob o']? = some y := by
    intro o' y hx
    by_cases ho : o' = o
    · subst ho
      have hx' : x = .raw y := by simpa [St.set, List.getElem?_set, hlo] using hx
      exact ⟨hbase, hlim, hraw y hx'⟩
    · have hy := hother o' _ ho hx
      obtain ⟨h1, h2, h3⟩ := h.raw o' y hy
      have hne := h.ne o' o ho ⟨_, hy, by simp⟩ hl
      exact ⟨h1, h2, by rw [hoth _ hne]; exact h3⟩
  refine ⟨⟨by rw [hsz]; exact h.base, ?_, ?_, hrw, ?_, ?_, ?_, ?_, h.glob.below hbel, ?_⟩, ⟨hs, hbel, fun _ _ => rfl, fun b _ hn => ⟨hoth b (fun e => hn (.inl ⟨o, hl, e.symm⟩)), rfl⟩, fun b _ hw => by
    rcases hw with ⟨o', h1, h2⟩ | h1
    · exact .inl ⟨o', live_set hl h1, h2⟩
    · exact .inr h1⟩⟩
  · intro o' ty cs hx
    by_cases ho : o' = o
    · subst ho
      have hx' : x = .row ty cs := by simpa [St.set, List.getElem?_set, hlo] using hx
      obtain ⟨vs, h1, h2, h3⟩ := hrow hs ty cs hx'
      exact ⟨hbase, hlim, vs, h1, h2, h3⟩
    · have hy := hother o' _ ho hx
      obtain ⟨h1, h2, vs, h3, h4, h5⟩ := h.row o' ty cs hy
      have hne := h.ne o' o ho ⟨_, hy, by simp⟩ hl
      exact ⟨h1, h2, vs, by rw [hoth _ hne]; exact h3, h4, fun i c u hc hu => ⟨(h5 i c u hc hu).1.mono hs, (h5 i c u hc hu).2⟩⟩
  · intro o' es hx
    by_cases ho : o' = o
    · subst ho
      have hx' : x = .map es := by simpa [St.set, List.getElem?_set, hlo] using hx
      obtain ⟨ms, c, h1, h2, h3⟩ := hmap hs es hx'
      exact ⟨hbase, ms, c, h1, h2, h3⟩
    · have hy := hother o' _ ho hx
      obtain ⟨h1, ms, c, h3, h4, h5, h6⟩ := h.map o' es hy
      have hne := h.ne o' o ho ⟨_, hy, by simp⟩ hl
      exact ⟨h1, ms, c, by rw [hoth _ hne]; exact h3, h4, fun i k y m a b => ⟨(h5 i k y m a b).1, (h5 i k y m a b).2.mono hs⟩, h6⟩
  · exact fun o1 o2 hne h1 h2 => h.ne o1 o2 hne (live_set hl h1) (live_set hl h2)
  · intro t e sz n ht
    obtain ⟨xs, h1, h2⟩ := h.tail t e sz n ht
    refine ⟨xs, ?_, h2⟩
    obtain ⟨k1, k2⟩ := h1
    refine ⟨k1, ?_⟩
    rcases k2 with k2 | ⟨gb, cap, cur, e1, e2, e3, e4⟩
    · exact .inl k2
    · refine .inr ⟨gb, cap, cur, e1, e2, ?_, e4⟩
      rw [hoth gb ?_]
      · exact e3
      · intro hgb
        subst hgb
        exact h.tailObj t _ o ht hl (by rw [e1]; rfl)
  · exact h.tailNe
  · exact fun t x' o' ht hl' => h.tailObj t x' o' ht (live_set hl hl')
  · intro t e sz n rows ht
    obtain ⟨xs, h1, h2, h3⟩ := h.own t e sz n rows ht
    exact ⟨xs, ownsRow_keep h1 fun b hb' => hoth b fun hgb => h.tailObj t _ o ht hl (by rw [hb', hgb]), h2, h3.mono hs.evo⟩

/-- A new block becomes a new object. -/
theorem Inv.newObj (h : Inv g base w st) (x : AObj) (b : Obj)
    (hrow : ∀ ty cs, x = .row ty cs → ∃ vs : Array Value, b = .cells vs ty (0, 0) ∧ vs.size = cs.length ∧ ∀ (i : Nat) c u, cs[i]? = some c → vs[i]? = some u → EVRep g w st c u ∧ u.oneCell' = true)
    (hmap : ∀ es, x = .map es → es = [] ∧ b = .map #[] 0)
    (hraw : ∀ y, x = .raw y → b = y := by (intro y hy; cases hy)) :
    ∃ g', Inv g' base (w.alloc b) (st.add x) ∧ Step base g w st g' (w.alloc b) (st.add x) ∧ g'.ob st.objs.length = w.heap.size := by
  let g' : Ghost := ⟨fun k => if k = w.heap.size then 0 else g.lim k, fun o => if o = st.objs.length then w.heap.size else g.ob o, g.tk⟩
  have hbel : Below w.heap.size w (w.alloc b) := (Below.refl _ w).alloc (Nat.le_refl _) b
  have hlimlt : ∀ k, k < w.heap.size → g'.lim k = g.lim k := fun k hk => by show (if k = w.heap.size then 0 else g.lim k) = _; rw [if_neg (by omega)]
  have hoblt : ∀ o, o < st.objs.length → g'.ob o = g.ob o := fun o ho => by show (if o = st.objs.length then _ else g.ob o) = _; rw [if_neg (by omega)]
  have hobnew : g'.ob st.objs.length = w.heap.size := by show (if _ = st.objs.length then _ else _) = _; rw [if_pos rfl]
  have hs : SEvo g w st g' (w.alloc b) (st.add x) := by
    refine ⟨⟨by simp, fun k hk => by rw [hlimlt k hk]; exact Nat.le_refl _, fun k off hk _ => hbel.cell (p := ⟨k, off, none⟩) hk⟩, hoblt, by simp [St.add], fun t e sz n ht => ⟨n, ht, Nat.le_refl _, fun _ => rfl⟩, Nat.le_refl _, own_same fun _ _ _ _ h _ => ⟨h, rfl⟩⟩
  have hold : ∀ o y, o < st.objs.length → (st.add x).objs[o]? = some y → st.objs[o]? = some y := by
    intro o y ho hy
    simpa [St.add, List.getElem?_append_left ho] using hy
  have hnew : ∀ o y, (st.add x).objs[o]? = some y → ¬ o < st.objs.length → o = st.objs.length ∧ y = x := by
    intro o y hy ho
    have hlt := (List.getElem?_eq_some_iff.1 hy).1
    simp [St.add] at hlt
    have : o = st.objs.length := by omega
    subst this
    simpa [St.add, eq_comm] using hy
  have hliveold : ∀ o, o < st.objs.length → (st.add x).live o → st.live o := fun o ho ⟨y, hy, hne⟩ => ⟨y, hold o y ho hy, hne⟩
  have hnewb : (w.alloc b).heap[w.heap.size]? = some b := heap_alloc_new w b
  have hrw : ∀ o y, (st.add x).objs[o]? = some (.raw y) → base ≤ g'.ob o ∧ g'.lim (g'.ob o) = 0 ∧ (w.alloc b).heap[g'.ob o]? = some y := by
    intro o y hx
    by_cases ho : o < st.objs.length
    · obtain ⟨h1, h2, h3⟩ := h.raw o y (hold o _ ho hx)
      have hlt := (Array.getElem?_eq_some_iff.1 h3).1
      rw [hoblt o ho, hlimlt _ hlt, hbel.block _ hlt]
      exact ⟨h1, h2, h3⟩
    · obtain ⟨rfl, hxx⟩ := hnew o _ hx ho
      rw [hobnew]
      exact ⟨h.base, by show (if w.heap.size = w.heap.size then 0 else _) = 0; rw [if_pos rfl], by rw [hnewb, hraw y hxx.symm]⟩
  refine ⟨g', ⟨⟨by have := h.base; simp; omega, ?_, ?_, hrw, ?_, ?_, ?_, ?_, h.glob.below (hbel.mono h.base), ?_⟩, ⟨hs, hbel.mono h.base, fun k hk => hlimlt k (Nat.lt_of_lt_of_le hk h.base), fun k hk _ => ⟨hbel.block k hk, hlimlt k hk⟩, fun k hk hw => by
    rcases hw with ⟨o, h1, h2⟩ | h1
    · by_cases ho : o < st.objs.length
      · exact .inl ⟨o, hliveold o ho h1, by rw [← hoblt o ho]; exact h2⟩
      · obtain ⟨y, hy, _⟩ := h1
        obtain ⟨rfl, _⟩ := hnew o _ hy ho
        rw [hobnew] at h2
        omega
    · exact .inr h1⟩, hobnew⟩⟩
  · intro o ty cs hx
    by_cases ho : o < st.objs.length
    · obtain ⟨h1, h2, vs, h3, h4, h5⟩ := h.row o ty cs (hold o _ ho hx)
      have hlt := (Array.getElem?_eq_some_iff.1 h3).1
      rw [hoblt o ho, hlimlt _ hlt, hbel.block _ hlt]
      exact ⟨h1, h2, vs, h3, h4, fun i c u hc hu => ⟨(h5 i c u hc hu).1.mono hs, (h5 i c u hc hu).2⟩⟩
    · obtain ⟨rfl, hxx⟩ := hnew o _ hx ho
      obtain ⟨vs, h1, h2, h3⟩ := hrow ty cs hxx.symm
      rw [hobnew]
      refine ⟨h.base, by show (if w.heap.size = w.heap.size then 0 else _) = 0; rw [if_pos rfl], vs, by rw [hnewb, h1], h2, fun i c u hc hu => ⟨(h3 i c u hc hu).1.mono hs, (h3 i c u hc hu).2⟩⟩
  · intro o es hx
    by_cases ho : o < st.objs.length
    · obtain ⟨h1, ms, c, h3, h4, h5, h6⟩ := h.map o es (hold o _ ho hx)
      have hlt := (Array.getElem?_eq_some_iff.1 h3).1
      rw [hoblt o ho, hbel.block _ hlt]
      exact ⟨h1, ms, c, h3, h4, fun i k y m a b => ⟨(h5 i k y m a b).1, (h5 i k y m a b).2.mono hs⟩, h6⟩
    · obtain ⟨rfl, hxx⟩ := hnew o _ hx ho
      obtain ⟨rfl, h2⟩ := hmap es hxx.symm
      rw [hobnew]
      exact ⟨h.base, #[], 0, by rw [hnewb, h2], rfl, fun i k y m a _ => by simp at a, fun i m a => by simp at a, fun i j m m' a => by simp at a⟩
  · intro o1 o2 hne h1 h2
    by_cases ho1 : o1 < st.objs.length <;> by_cases ho2 : o2 < st.objs.length
    · rw [hoblt o1 ho1, hoblt o2 ho2]; exact h.ne o1 o2 hne (hliveold o1 ho1 h1) (hliveold o2 ho2 h2)
    · obtain ⟨y, hy, _⟩ := h2
      obtain ⟨rfl, _⟩ := hnew o2 _ hy ho2
      rw [hoblt o1 ho1, hobnew]
      have := (h.live_lt (hliveold o1 ho1 h1)).1
      omega
    · obtain ⟨y, hy, _⟩ := h1
      obtain ⟨rfl, _⟩ := hnew o1 _ hy ho1
      rw [hoblt o2 ho2, hobnew]
      have := (h.live_lt (hliveold o2 ho2 h2)).1
      omega
    · obtain ⟨y, hy, _⟩ := h1
      obtain ⟨y', hy', _⟩ := h2
      exact absurd ((hnew o1 _ hy ho1).1.trans (hnew o2 _ hy' ho2).1.symm) hne
  · intro t e sz n ht
    obtain ⟨xs, h1, h2⟩ := h.tail t e sz n ht
    exact ⟨xs, h1.alloc b, fun k hk => by rw [hlimlt k (h1.lt k hk).2]; exact h2 k hk⟩
  · exact h.tailNe
  · intro t x' o ht hl
    by_cases ho : o < st.objs.length
    · rw [hoblt o ho]; exact h.tailObj t x' o ht (hliveold o ho hl)
    · obtain ⟨y, hy, _⟩ := hl
      obtain ⟨rfl, _⟩ := hnew o _ hy ho
      rw [hobnew]
      intro hk
      have := (h.tail_lt ht hk).2
      omega
  · intro t e sz n rows ht
    obtain ⟨xs, h1, h2, h3⟩ := h.own t e sz n rows ht
    exact ⟨xs, h1.alloc b, fun k hk => by rw [hlimlt k (h1.lt k hk).2]; exact h2 k hk, h3.mono hs.evo⟩
end inv
end Go.Abs
