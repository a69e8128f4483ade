/- The world of the witness: its listed variables laid, the search for an error's type told. -/
import Derived.Test.YtleflofddacmdaaGreatDoorFE
set_option maxRecDepth 100000
set_option maxHeartbeats 1000000
set_option linter.unusedVariables false
namespace Go.Proofs.YtleflofddacmdaaGreatDoor
open Go Go.Fast
noncomputable def lay2 (t n : Nat) (d : DataW Unit) : Option (List Value × List Obj) := match d with
  | .iface name e => match Tryz.prog.underlying t, (match name == "*errors.errorString" with
      | true => some 900
      | false => (List.range Tryz.prog.types.size).find? fun u => Tryz.prog.typeName? 3 u == some name) with
    | some (.interface _), some u => match e.lay Tryz.prog u n with
      | some x => match Lay.pack Tryz.prog u x.1 with
        | some v => some ([.iface u v], x.2)
        | none => none
      | none => none
    | _, _ => none
  | d => d.lay Tryz.prog t n
theorem lay2_eq (t n : Nat) (d : DataW Unit) : lay2 t n d = d.lay Tryz.prog t n := by
  cases d with
  | iface name e =>
    unfold lay2
    rw [DataW.lay]
    cases h : name == "*errors.errorString" with
    | true =>
      have := eq_of_beq h
      subst this
      rw [errT]
      simp only [h]
      rfl
    | false =>
      simp only [h]
      rfl
  | _ => rfl
noncomputable def layL2 : Nat → List (String × DataW Unit) → Option (List (Nat × List Value) × List Obj)
  | _, [] => some ([], [])
  | n, x :: r => match Tryz.prog.globalNamed x.1 with
    | some g => match Tryz.prog.globals[g]? with
      | some gl => match lay2 gl.type n x.2 with
        | some y => match layL2 (n + y.2.length) r with
          | some z => some ((g, y.1) :: z.1, y.2 ++ z.2)
          | none => none
        | none => none
      | none => none
    | none => none
theorem layL2_eq : ∀ (l : List (String × DataW Unit)) (n : Nat), Lay.layList Tryz.prog n l = layL2 n l
  | [], n => rfl
  | x :: r, n => by
    unfold Lay.layList layL2
    simp only [layL2_eq r, lay2_eq]
    rfl
noncomputable abbrev W0 (os : Os) : World := World.laidAll Tryz.prog os Rows.topOnceRow.laid
noncomputable abbrev WC (os : Os) : World := (W0 os).forCall (fun _ _ => 0) ⟨#[], #[.slice none 0 0, .slice none 0 0], []⟩
end Go.Proofs.YtleflofddacmdaaGreatDoor
