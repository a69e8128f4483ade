/- Contracts of the library, as contracts on data. -/
import Derived.Test.YtmdpmallgcekgaaDoorD3
import Derived.Sort.Grow
import Derived.Deep.Draws
set_option linter.unusedSimpArgs false
set_option linter.unusedVariables false
namespace Go.Abs
open Go.RowKit
theorem DArgs.one {lim : Nat → Nat} {w : World} {d : D} {vs : Array Value} (h : DArgs lim w [d] vs) : ∃ v, vs = #[v] ∧ DRep lim w d v := by
  obtain ⟨h1, h2⟩ := h
  match vs, h1 with
  | ⟨[v]⟩, _ => exact ⟨v, rfl, h2 0 d v rfl rfl⟩
theorem DArgs.two {lim : Nat → Nat} {w : World} {d e : D} {vs : Array Value} (h : DArgs lim w [d, e] vs) : ∃ v u, vs = #[v, u] ∧ DRep lim w d v ∧ DRep lim w e u := by
  obtain ⟨h1, h2⟩ := h
  match vs, h1 with
  | ⟨[v, u]⟩, _ => exact ⟨v, u, rfl, h2 0 d v rfl rfl, h2 1 e u rfl rfl⟩
theorem below_grow (w : World) (k : Nat) (os : Array Obj) : Below w.heap.size w (Go.Sort.grow (w.drewN k) os) :=
  ⟨rfl, rfl, rfl, by simp [Go.Sort.grow], fun b hb => by
    show ((w.drewN k).heap ++ os)[b]? = _
    rw [Array.getElem?_append_left (show b < (w.drewN k).heap.size from hb)]
    rfl⟩
/-- A contract of a callee that makes memory and gives a value without references. -/
theorem ACall.lib {P : Program} {f : FuncId} {args : List D} {u : Value}
    (h : ∀ lim w vs, Globs w.heap.size w → DArgs lim w args vs → Calls P f vs w fun e w' => e = .returned u ∧ Below w.heap.size w w') : ACall P f args (· = .ex u) := by
  intro lim w vs hg ha
  refine (h lim w vs hg ha).mono ?_
  rintro e w' ⟨rfl, hb⟩
  exact ⟨u, .ex u, lim, rfl, rfl, .ex u, ⟨hb.size, fun _ _ => Nat.le_refl _, fun b off hb' _ => hb.cell (p := ⟨b, off, none⟩) hb'⟩, hb, fun _ _ => rfl⟩
theorem strs_cells {lim : Nat → Nat} {w : World} {xs : List (List UInt8)} {v : Value} (h : DRep lim w (.sl 1 (xs.map rS)) v) :
    (∃ A c, v = .slice A 0 c ∧ xs = []) ∨ ∃ b off c, v = .slice (some ⟨b, off, none⟩) xs.length c ∧ xs.length ≤ c ∧ b < w.heap.size ∧ ∀ (j : Nat) x, xs[j]? = some x → w.cell? ⟨b, off + j, none⟩ = some (.string ⟨x.toArray⟩) := by
  generalize hr : xs.map rS = rows at h
  cases h with
  | nil _ A =>
    have : xs = [] := by simpa using hr
    exact .inl ⟨A, 0, rfl, this⟩
  | sl _ _ b off c hc hrow hx hcell =>
    subst hr
    rw [List.length_map] at *
    by_cases h0 : xs = []
    · subst h0; exact .inl ⟨_, c, rfl, rfl⟩
    · refine .inr ⟨b, off, c, rfl, hc, ?_, fun j x hj => ?_⟩
      · have hl : 0 < xs.length := List.length_pos_iff.2 h0
        obtain ⟨_, u, hu, _⟩ := hx 0 (by omega)
        exact World.block_lt_of_cell? w _ hu
      · have hjl := (List.getElem?_eq_some_iff.1 hj).1
        obtain ⟨_, u, hu, _⟩ := hx j (by omega)
        have := hcell j 0 (rS x) (.ex (.string ⟨x.toArray⟩)) u (by rw [List.getElem?_map, hj]; rfl) rfl (by rw [Nat.mul_one, Nat.add_zero]; exact hu)
        rw [hu, drep_ex this]
end Go.Abs
