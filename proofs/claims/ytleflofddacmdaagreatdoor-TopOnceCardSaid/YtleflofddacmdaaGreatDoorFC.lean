/- The closed facts of the row that look at all functions that are come to. -/
import Derived.Test.YtleflofddacmdaaGreatDoorFB
set_option maxRecDepth 100000
set_option linter.unusedVariables false
namespace Go.Proofs.YtleflofddacmdaaGreatDoor
open Go Go.Fast
theorem only {P : Program} {S : List Nat} {c : Func → Bool} (h : allAt (fun i fn => c fn || S.contains i) P.funcs.toList 0 = true) {g : Nat} {fn : Func} (hg : P.funcs[g]? = some fn) (hS : S.contains g = false) : c fn = true := by
  rw [← Array.getElem?_toList] at hg
  have := allAt_get h hg
  rw [Nat.zero_add, hS, Bool.or_false] at this
  exact this
theorem filt {α : Type} (q : Nat → Option α) (S : List Nat) (h : ∀ g, S.contains g = false → q g = none) : ∀ l : List Nat, l.filterMap q = (l.filter S.contains).filterMap q
  | [] => rfl
  | g :: l => by
    rw [List.filterMap_cons, List.filter_cons, filt q S h l]
    cases hc : S.contains g with
    | true => rw [if_pos rfl, List.filterMap_cons]
    | false => rw [h g hc]; simp
theorem flat {α : Type} (q : Nat → List α) (S : List Nat) (h : ∀ g, S.contains g = false → q g = []) : ∀ l : List Nat, l.flatMap q = (l.filter S.contains).flatMap q
  | [] => rfl
  | g :: l => by
    rw [List.flatMap_cons, List.filter_cons, flat q S h l]
    cases hc : S.contains g with
    | true => rw [if_pos rfl, List.flatMap_cons]
    | false => rw [h g hc]; simp
theorem inPlace_is : Tryz.prog.inPlace 3 = Rows.topOnceRow.inPlace := by
  unfold Program.inPlace
  rw [clos, filt _ [0, 1, 217, 266, 392, 434, 483, 555, 567, 612, 777, 778, 779, 780, 781, 782, 783, 784, 785, 786, 787, 788, 789, 790, 791, 792, 793, 794, 795, 796, 797, 798, 799, 800, 801, 802, 803, 804, 805, 806] (fun g hg => ?_)]
  · kernel_rfl
  · cases h : Tryz.prog.funcs[g]? with
    | none => rfl
    | some fn =>
      have := only (c := fun fn => !(fn.ours || fn.body.isNone || fn.name == "runtime.NumGoroutine")) (by kernel_rfl) h hg
      rw [Bool.not_eq_true'] at this
      rw [Option.bind_some, this]; rfl
theorem unf_is : Tryz.prog.unfollowed 3 = true := by
  unfold Program.unfollowed
  rw [clos, List.any_eq_true]
  exact ⟨41, List.contains_iff_mem.1 (by kernel_rfl), by kernel_rfl⟩
theorem rec_is : Tryz.prog.recurses 3 = true := by unfold Program.recurses; rw [unf_is]; rfl
theorem vars_is : Tryz.prog.varsNamed 3 = Rows.topOnceRow.named := by
  unfold Program.varsNamed
  rw [clos, flat _ [299, 332, 503, 562, 563, 651, 665, 666, 807] (fun g hg => ?_)]
  rotate_left
  · cases h : Tryz.prog.funcs[g]? with
    | none => rfl
    | some fn =>
      have := only (c := fun fn => (fn.body.elim [] Code.globalsNamed).isEmpty) (by kernel_rfl) h hg
      rw [Option.bind_some]
      exact List.isEmpty_iff.1 this
  have e := filt (fun g => (Tryz.prog.funcs[g]?).bind fun fn => if fn.body.isNone then entryReads.lookup fn.name else none) [434] (fun g hg => ?_) CL
  · rw [e]
    show _ = _
    kernel_rfl
  · cases h : Tryz.prog.funcs[g]? with
    | none => rfl
    | some fn =>
      have := only (c := fun fn => !fn.body.isNone || (entryReads.lookup fn.name).isNone) (by kernel_rfl) h hg
      rw [Option.bind_some]
      cases hb : fn.body.isNone with
      | false => rfl
      | true =>
        rw [hb] at this
        simpa using this
end Go.Proofs.YtleflofddacmdaaGreatDoor
