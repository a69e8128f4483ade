/- The type of a listed error, found by one pass; the world of the witness. -/
import Derived.Test.YtleflofddacmdaaGreatDoorFD
import Derived.Lay
import Derived.LaidLaws
set_option maxRecDepth 100000
set_option maxHeartbeats 1000000
set_option linter.unusedVariables false
namespace Go.Fast
open Go
noncomputable def allTs (p : Nat → TypeInfo → Bool) (l : List TypeInfo) : Nat → Bool :=
  List.rec (fun _ => true) (fun x _ ih i => match p i x with
    | true => ih (i + 1)
    | false => false) l
theorem allTs_get {p : Nat → TypeInfo → Bool} : ∀ {l : List TypeInfo} {k i : Nat} {x : TypeInfo}, allTs p l k = true → l[i]? = some x → p (k + i) x = true
  | [], _, _, _, _, h => by cases h
  | y :: l, k, i, x, h, hx => by
    change (match p k y with
      | true => allTs p l (k + 1)
      | false => false) = true at h
    cases hp : p k y with
    | false => rw [hp] at h; cases h
    | true =>
      rw [hp] at h
      cases i with
      | zero => cases hx; exact hp
      | succ i =>
        have := allTs_get (p := p) (l := l) (k := k + 1) (i := i) (x := x) h hx
        rwa [show k + (i + 1) = k + 1 + i by omega]
def quick (name : String) (r : TypeInfo) : Bool := match r.desc with
  | .named n _ => !(n == name)
  | .pointer _ => false
  | .bool | .int _ | .float _ | .string => !(r.str == name)
  | _ => true
theorem quick_no {P : Program} {name : String} {d j : Nat} {r : TypeInfo} (hi : P.info? j = some r) (h : quick name r = true) : (P.typeName? (d + 1) j == some name) = false := by
  unfold Program.typeName?
  rw [hi]
  unfold quick at h
  simp only
  cases hd : r.desc <;> rw [hd] at h <;> simp only at h ⊢ <;> first | rfl | (simp at h; done) | skip
  all_goals (split <;> simp_all)
theorem find_is {P : Program} {name : String} {U : Nat} (S : List Nat) (h1 : U < P.types.size) (h2 : (P.typeName? 3 U == some name) = true)
    (h3 : allTs (fun i r => Nat.ble U i || quick name r || S.contains i) P.types.toList 0 = true) (h4 : (S.all fun j => !(P.typeName? 3 j == some name)) = true) :
    (List.range P.types.size).find? (fun u => P.typeName? 3 u == some name) = some U := by
  rw [List.find?_range_eq_some]
  refine ⟨h2, List.mem_range.2 h1, fun j hj => ?_⟩
  have hjs : j < P.types.size := by omega
  obtain ⟨r, hr⟩ : ∃ r, P.types[j]? = some r := ⟨P.types[j], by simp [hjs]⟩
  have hi : P.info? j = some r := by rw [Go.ClosedOfChecked.info_lt hjs, hr]
  have := allTs_get h3 (by rw [Array.getElem?_toList]; exact hr)
  rw [Nat.zero_add, Bool.or_eq_true, Bool.or_eq_true] at this
  rcases this with (h | h) | h
  · have := Nat.le_of_ble_eq_true h; omega
  · rw [quick_no hi h]; rfl
  · have := List.all_eq_true.1 h4 j (List.contains_iff_mem.1 h)
    simpa using this
end Go.Fast
namespace Go.Proofs.YtleflofddacmdaaGreatDoor
open Go Go.Fast
theorem tsz : Tryz.prog.types.size = 950 := by kernel_rfl
theorem errT : (List.range Tryz.prog.types.size).find? (fun u => Tryz.prog.typeName? 3 u == some "*errors.errorString") = some 900 :=
  find_is [15, 16, 17, 53, 97, 141, 179, 257, 299, 335, 388, 449, 452, 519, 575, 631, 645, 710, 754, 797] (by rw [tsz]; decide) (by kernel_rfl) (by kernel_rfl) (by kernel_rfl)
end Go.Proofs.YtleflofddacmdaaGreatDoor
