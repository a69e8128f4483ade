/- The closed facts of the row, together. -/
import Derived.Test.YtleflofddacmdaaGreatDoorFC
set_option maxRecDepth 100000
set_option maxHeartbeats 1000000
set_option linter.unusedVariables false
namespace Go.Proofs.YtleflofddacmdaaGreatDoor
open Go Go.Fast
theorem rest : (Tryz.checked.prog.globals.all (fun g => decide (g.type < Tryz.checked.prog.types.size)) && Tryz.checked.prog.funcs.all (fun f => f.params.all fun t => decide (t < Tryz.checked.prog.types.size))) = true := by
  rw [← Array.all_toList, ← Array.all_toList]
  have h : Tryz.checked.prog.types.size = 950 := by kernel_rfl
  rw [h]
  show _ = _
  kernel_rfl
theorem spec : Go.ClosedOfChecked.AllSpec Tryz.checked.prog := Go.ClosedOfChecked.allSpec_of Tryz.checked.wellFormed rfl
theorem laidOut : laidOutB Tryz.prog = true := Go.ClosedOfChecked.laidOutB_of spec rest
theorem mapsOut : mapsRowed Tryz.prog = true := Go.ClosedOfChecked.mapsRowed_of spec
theorem keys : Tryz.prog.plainKeys = false := by kernel_rfl
theorem heard : Tryz.prog.stopsHeard = true := by kernel_rfl
theorem may : Tryz.prog.mayEnter = true := by kernel_rfl
theorem joined : joinedFacts Tryz.prog 3 Tryz.f3 Rows.topOnceSpec Rows.topOnceRow = true := by
  unfold joinedFacts
  rw [laidOut, mapsOut, inPlace_is, unf_is, rec_is, vars_is, keys, heard, may]
  simp only [Bool.and_eq_true, Bool.and_true]
  and_intros <;> kernel_rfl
theorem fname : Tryz.prog.funcNamed Rows.topOnceRow.func = some 3 := named (by kernel_rfl)
end Go.Proofs.YtleflofddacmdaaGreatDoor
