/- The world of the witness: what the card asks of it. -/
import Derived.Test.YtleflofddacmdaaGreatDoorFGa
import GoSem.ClaimGoes
set_option maxRecDepth 100000
namespace Go.Proofs.YtleflofddacmdaaGreatDoor
open Go Go.Fast
theorem by_rec {b : Bool} (h : (Bool.rec (motive := fun _ => Prop) False True b) = True) : b = true := by
  cases b with
  | true => rfl
  | false => exact absurd h (by simp)
def fits (w : World) (B : List Nat) (o : Option (List (Nat × List Value) × List Obj)) : Bool := match o with
  | some y => decide (y.1.map (·.1)).Nodup && (y.1.all fun r => Lay.isRow w.heap.toList[r.1]? && !B.contains r.1) && B.all (· < w.heap.size)
  | none => false
theorem fits_eq (P : Program) (w : World) (l : List (String × DataW Unit)) (B : List Nat) : w.layFits P l B = fits w B (Lay.layList P w.heap.size l) := rfl
theorem fits_l2 (w : World) (l : List (String × DataW Unit)) (B : List Nat) (h : fits w B (layL2 w.heap.size l) = true) : w.layFits Tryz.prog l B = true := by
  rw [fits_eq, layL2_eq]; exact h
noncomputable def ifs (P : Program) (w' : World) (o : Option (List (Nat × List Value) × List Obj)) : Bool := match o with
  | some y => (y.1.all fun r => r.2.all (Lay.okV P w')) && y.2.all (Lay.okO P w')
  | none => false
theorem ifs_eq (P : Program) (w w' : World) (l : List (String × DataW Unit)) : w.layIfaces P l w' = ifs P w' (Lay.layList P w.heap.size l) := rfl
noncomputable def lv (w : World) (o : Option (List (Nat × List Value) × List Obj)) : World := match o with
  | some y => { w with heap := ⟨Lay.setRows w.heap.toList y.1 ++ y.2⟩ }
  | none => w
theorem lv_eq (P : Program) (w : World) (l : List (String × DataW Unit)) : w.layVars P l = lv w (Lay.layList P w.heap.size l) := rfl
noncomputable def HWw (os : Os) : World := World.holding Tryz.prog os ⟨#[], #[], []⟩
noncomputable def VW (os : Os) : World := lv (HWw os) (layL2 (HWw os).heap.size Rows.topOnceRow.laid)
theorem laid_is (os : Os) (l : List (String × DataW Unit)) : World.laidAll Tryz.prog os l = lv (HWw os) (layL2 (HWw os).heap.size l) := by
  show (HWw os).layVars Tryz.prog l = _
  rw [lv_eq, layL2_eq]
theorem q8 (os : Os) : fits (HWw os) [] (layL2 (HWw os).heap.size Rows.topOnceRow.laid) = true := by_rec (by kernel_rfl)
theorem q7 (os : Os) : ifs Tryz.prog (VW os) (layL2 (HWw os).heap.size Rows.topOnceRow.laid) = true := by_rec (by kernel_rfl)
theorem q1 (os : Os) : ((VW os).forCall (fun _ _ => 0) ⟨#[], #[.slice none 0 0, .slice none 0 0], []⟩).variablesZipB Tryz.prog = true := by_rec (by kernel_rfl)
theorem VW_is (os : Os) : World.laidAll Tryz.prog os Rows.topOnceRow.laid = VW os := laid_is os _
theorem z6w (os : Os) : (World.holding Tryz.prog os ⟨#[], #[], []⟩).layFits Tryz.prog Rows.topOnceRow.laid [] = true := fits_l2 _ _ _ (q8 os)
theorem z7 (os : Os) : (World.holding Tryz.prog os ⟨#[], #[], []⟩).layIfaces Tryz.prog Rows.topOnceRow.laid (World.laidAll Tryz.prog os Rows.topOnceRow.laid) = true := by
  rw [ifs_eq, layL2_eq, VW_is]; exact q7 os
theorem z1 (os : Os) : ((World.laidAll Tryz.prog os Rows.topOnceRow.laid).forCall (fun _ _ => 0) ⟨#[], #[.slice none 0 0, .slice none 0 0], []⟩).variablesZipB Tryz.prog = true := by
  rw [VW_is]; exact q1 os
theorem q2 (os : Os) : ((((VW os).forCall (fun _ _ => 0) ⟨#[], #[.slice none 0 0, .slice none 0 0], []⟩).heap.toList.drop Tryz.prog.globals.size).take ((begin Tryz.prog (fun _ _ => 0) default).world.heap.size - Tryz.prog.globals.size)) = (begin Tryz.prog (fun _ _ => 0) default).world.heap.toList.drop Tryz.prog.globals.size := by kernel_rfl
theorem z2 (os : Os) : ((((World.laidAll Tryz.prog os Rows.topOnceRow.laid).forCall (fun _ _ => 0) ⟨#[], #[.slice none 0 0, .slice none 0 0], []⟩).heap.toList.drop Tryz.prog.globals.size).take ((begin Tryz.prog (fun _ _ => 0) default).world.heap.size - Tryz.prog.globals.size)) = (begin Tryz.prog (fun _ _ => 0) default).world.heap.toList.drop Tryz.prog.globals.size := by
  rw [VW_is]; exact q2 os
theorem nogo : Tryz.prog.funcs.toList.any Func.goes = false := by kernel_rfl
theorem goes_no (f : Nat) : Tryz.prog.goes f = false := by
  have h : ∀ g : Nat, (Tryz.prog.funcs[g]?).any Func.goes = false := fun g => by
    cases hg : Tryz.prog.funcs[g]? with
    | none => rfl
    | some fn =>
      have := List.any_eq_false.1 nogo fn (by rw [← Array.getElem?_toList] at hg; exact List.mem_of_getElem? hg)
      simpa using this
  have h2 : Tryz.prog.funcs.any Func.goes = false := by rw [← Array.any_toList]; exact nogo
  unfold Program.goes
  rw [h2, Bool.and_false, Bool.or_false, List.any_eq_false]
  intro g _
  rw [h g]; simp
theorem goes_is : false = Rows.topOnceRow.goesBy Tryz.pinned.checked.prog := by
  show false = Tryz.prog.goesAt .entering "billing/billingtop.TopOnce"
  unfold Program.goesAt Program.goesFrom
  rw [show Tryz.prog.funcNamed "billing/billingtop.TopOnce" = some 3 from fname, Option.any_some, goes_no]
  rfl
end Go.Proofs.YtleflofddacmdaaGreatDoor
