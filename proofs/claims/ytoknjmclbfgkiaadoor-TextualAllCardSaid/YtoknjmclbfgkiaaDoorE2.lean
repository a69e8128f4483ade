/- Contracts of the library that give fresh lists of texts, or pairs. -/
import Derived.Test.YtoknjmclbfgkiaaDoorE1
set_option linter.unusedSimpArgs false
set_option linter.unusedVariables false
namespace Go.Abs
open Go.RowKit
theorem ACall.libStrs {P : Program} {f : FuncId} {args : List D} {xs : List (List UInt8)} {T : TypeId}
    (h : ∀ lim w vs, Globs w.heap.size w → DArgs lim w args vs → Calls P f vs w fun e w' => e = .returned (.slice (some ⟨w.heap.size, 0, none⟩) xs.length xs.length) ∧ w' = w.alloc (.cells (xs.map fun x => Value.string ⟨x.toArray⟩).toArray T)) : ACall P f args (· = slOf 1 rS xs) := by
  intro lim w vs hg ha
  refine (h lim w vs hg ha).mono ?_
  rintro e w' ⟨rfl, rfl⟩
  generalize hO : Obj.cells (xs.map fun x => Value.string ⟨x.toArray⟩).toArray T = O
  have hb : Below w.heap.size w (w.alloc O) := (Below.refl _ w).alloc (Nat.le_refl _) _
  have hlim : ∀ b, b < w.heap.size → (if b = w.heap.size then xs.length else lim b) = lim b := fun b hb' => if_neg (by omega)
  refine ⟨_, _, fun b => if b = w.heap.size then xs.length else lim b, rfl, rfl, ?_, ⟨hb.size, fun b hb' => by rw [hlim b hb']; exact Nat.le_refl _, fun b off hb' _ => hb.cell (p := ⟨b, off, none⟩) hb'⟩, hb, hlim⟩
  have hcell : ∀ (j : Nat) x, xs[j]? = some x → (w.alloc O).cell? ⟨w.heap.size, j, none⟩ = some (.string ⟨x.toArray⟩) := fun j x hj => by
    subst hO
    simp only [World.cell?, heap_alloc_new]
    simp [hj]
  have hl : (xs.map rS).length = xs.length := List.length_map _
  have : DRep (fun b => if b = w.heap.size then xs.length else lim b) (w.alloc O) (.sl 1 (xs.map rS)) (.slice (some ⟨w.heap.size, 0, none⟩) (xs.map rS).length xs.length) := by
    refine .sl 1 (xs.map rS) w.heap.size 0 _ (by simp) (fun row hrow => by obtain ⟨x, _, rfl⟩ := List.mem_map.1 hrow; rfl) (fun k hk => ?_) (fun i j row c u hi hj hu => ?_)
    · have hk' : k < xs.length := by simpa using hk
      refine ⟨by rw [if_pos rfl]; omega, .string ⟨xs[k].toArray⟩, ?_, rfl⟩
      rw [Nat.zero_add]
      exact hcell k _ (List.getElem?_eq_getElem hk')
    · rw [List.getElem?_map] at hi
      obtain ⟨x, hx, rfl⟩ := Option.map_eq_some_iff.1 hi
      match j with
      | 0 =>
        rw [Nat.mul_one, Nat.add_zero, Nat.zero_add, hcell i x hx] at hu
        cases hu
        simp [rS] at hj
        subst hj
        exact .ex _
      | j + 1 => simp [rS] at hj
  rw [hl] at this
  exact this
theorem ACall.libPair {P : Program} {f : FuncId} {args : List D} {a b : Value}
    (h : ∀ lim w vs, Globs w.heap.size w → DArgs lim w args vs → Calls P f vs w fun e w' => e = .returned (.tuple #[a, b]) ∧ Below w.heap.size w w') : ACall P f args (· = .tup [.ex a, .ex b]) := by
  intro lim w vs hg ha
  refine (h lim w vs hg ha).mono ?_
  rintro e w' ⟨rfl, hb⟩
  refine ⟨_, _, lim, rfl, rfl, .tup _ _ rfl fun i c u hc hu => ?_, ⟨hb.size, fun _ _ => Nat.le_refl _, fun b off hb' _ => hb.cell (p := ⟨b, off, none⟩) hb'⟩, hb, fun _ _ => rfl⟩
  match i with
  | 0 => simp at hc hu; subst hc hu; exact .ex _
  | 1 => simp at hc hu; subst hc hu; exact .ex _
  | i + 2 => simp at hc
end Go.Abs
