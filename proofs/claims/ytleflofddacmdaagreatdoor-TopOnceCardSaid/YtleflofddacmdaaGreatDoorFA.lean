/- Closed facts of a great program, told by one pass over its functions. -/
import Derived.Test.YtleflofddacmdaaGreatDoorRows
import Derived.JoinedOf
import Derived.KernelRfl
import Derived.ClosedOfChecked
import Derived.LaidOnce
namespace Go.Fast
open Go
/-- The places of a list at which p holds. -/
noncomputable def places (p : Func → Bool) (l : List Func) : Nat → List Nat :=
  List.rec (fun _ => []) (fun x _ ih i => match p x with
    | true => i :: ih (i + 1)
    | false => ih (i + 1)) l
theorem places_range (p : Func → Bool) : ∀ (l pre : List Func), (List.range' pre.length l.length).filter (fun i => ((pre ++ l)[i]?).any p) = places p l pre.length
  | [], pre => by simp [places]
  | x :: l, pre => by
    have ih := places_range p l (pre ++ [x])
    rw [List.length_append, List.length_singleton, List.append_assoc, List.singleton_append] at ih
    rw [List.length_cons, List.range'_succ, List.filter_cons]
    have h1 : ((pre ++ x :: l)[pre.length]?).any p = p x := by simp
    rw [h1]
    show _ = (match p x with
      | true => pre.length :: places p l (pre.length + 1)
      | false => places p l (pre.length + 1))
    cases hp : p x with
    | true => rw [if_pos rfl, ih]
    | false => rw [if_neg (by simp), ih]
theorem named {P : Program} {name : String} {i : Nat} (h : places (fun fn => fn.name == name) P.funcs.toList 0 = [i]) : P.funcNamed name = some i := by
  unfold Program.funcNamed
  have e := places_range (fun fn => fn.name == name) P.funcs.toList []
  rw [List.length_nil, h, List.nil_append] at e
  have e2 : (List.range P.funcs.size).filter (fun i => (P.funcs[i]?).any (·.name == name)) = [i] := by
    rw [← e, List.range_eq_range', Array.length_toList]
    refine List.filter_congr fun j _ => ?_
    rw [Array.getElem?_toList]
  rw [e2]
theorem word {P : Program} {w : String} {b : Bool} (h : P.funcs.toList.any (fun fn => fn.body.isNone && fn.name == w) = b) : P.worded w = b := by
  unfold Program.worded
  rw [← Array.any_toList, h]
/-- What is said of every place of a list. -/
noncomputable def allAt (p : Nat → Func → Bool) (l : List Func) : Nat → Bool :=
  List.rec (fun _ => true) (fun x _ ih i => match p i x with
    | true => ih (i + 1)
    | false => false) l
theorem allAt_get {p : Nat → Func → Bool} : ∀ {l : List Func} {k i : Nat} {x : Func}, allAt p l k = true → l[i]? = some x → p (k + i) x = true
  | [], _, _, _, _, h => by cases h
  | y :: l, k, i, x, h, hx => by
    change (match p k y with
      | true => allAt p l (k + 1)
      | false => false) = true at h
    cases hp : p k y with
    | false => rw [hp] at h; cases h
    | true =>
      rw [hp] at h
      cases i with
      | zero => cases hx; exact hp
      | succ i =>
        have := allAt_get (p := p) (l := l) (k := k + 1) (i := i) (x := x) h hx
        rwa [show k + (i + 1) = k + 1 + i by omega]
/-- The functions that are come to. -/
noncomputable def clo (T : Nat → List Nat) (n : Nat) : List Nat → Nat → List Nat → List Nat :=
  Nat.rec (fun _ _ seen => seen.reverse) (fun _ ih todo m seen => match todo with
    | [] => seen.reverse
    | f :: todo => match Nat.testBit m f with
      | true => ih todo m seen
      | false => ih (T f ++ todo) (m ||| 1 <<< f) (f :: seen)) n
theorem clo_eq {P : Program} {T : Nat → List Nat} (hT : ∀ f, T f = (P.funcs[f]?).elim [] P.leadsTo) : ∀ (n : Nat) (todo : List Nat) (m : Nat) (seen : List Nat), (∀ f, m.testBit f = seen.contains f) → P.closureVia n todo seen = clo T n todo m seen
  | 0, todo, m, seen, _ => by
    cases todo <;> rfl
  | n + 1, [], m, seen, _ => rfl
  | n + 1, f :: todo, m, seen, hm => by
    unfold Program.closureVia
    show _ = (match Nat.testBit m f with
      | true => clo T n todo m seen
      | false => clo T n (T f ++ todo) (m ||| 1 <<< f) (f :: seen))
    rw [hm f]
    cases hc : seen.contains f with
    | true => rw [if_pos rfl]; exact clo_eq hT n todo m seen hm
    | false =>
      rw [if_neg (by simp), ← hT f]
      refine clo_eq hT n _ _ _ fun g => ?_
      rw [Nat.testBit_or, hm g, Nat.one_shiftLeft, Nat.testBit_two_pow, List.contains_cons]
      have e : (g == f) = decide (f = g) := by
        by_cases e : f = g
        · simp [e]
        · rw [decide_eq_false e]; simpa using fun h : g = f => e h.symm
      rw [e, Bool.or_comm]
/-- A table in rows of 32. -/
def row2 (LL : List (List (List Nat))) (f : Nat) : List Nat := (LL.getD (f / 32) []).getD (f % 32) []
theorem row2_eq : ∀ (LL : List (List (List Nat))), (∀ (i : Nat) r, LL[i]? = some r → i + 1 < LL.length → r.length = 32) → (∀ r, r ∈ LL → r.length ≤ 32) → ∀ f, row2 LL f = LL.flatten.getD f []
  | [], _, _, f => by simp [row2]
  | r :: LL, h, hl, f => by
    unfold row2
    rw [List.flatten_cons]
    by_cases hf : f < 32
    · rw [Nat.div_eq_of_lt hf, Nat.mod_eq_of_lt hf]
      show r.getD f [] = _
      by_cases hr : f < r.length
      · simp [List.getD, List.getElem?_append_left hr, hr]
      · have h1 : LL = [] := by
          cases LL with
          | nil => rfl
          | cons a b => have := h 0 r rfl (by simp); omega
        subst h1
        simp [List.getD, hr]
    · have h1 := hl r (List.mem_cons_self ..)
      have e1 : f / 32 = (f - 32) / 32 + 1 := by omega
      have e2 : f % 32 = (f - 32) % 32 := by omega
      have ih := row2_eq LL (fun i x hx hi => h (i + 1) x hx (by simp; omega)) (fun x hx => hl x (List.mem_cons_of_mem _ hx)) (f - 32)
      rw [e1, e2]
      show row2 LL (f - 32) = _
      rw [ih]
      cases LL with
      | nil => simp [List.getD, List.getElem?_eq_none (show r.length ≤ f by omega)]
      | cons a b =>
        have hr := h 0 r rfl (by simp)
        simp [List.getD, List.getElem?_append_right (show r.length ≤ f by omega), hr]
theorem closure_is {P : Program} {f : Nat} {LL : List (List (List Nat))} {CL : List Nat} (h : P.funcs.toList.map P.leadsTo = LL.flatten) (h1 : (LL.dropLast.all fun r => r.length == 32) = true) (h2 : (LL.all fun r => Nat.ble r.length 32) = true)
    (hc : clo (row2 LL) (1 + (LL.flatten.map fun x => x.length + 1).sum) [f] 0 [] = CL) : P.closure f = CL := by
  unfold Program.closure
  have hT : ∀ f, row2 LL f = (P.funcs[f]?).elim [] P.leadsTo := fun f => by
    rw [row2_eq LL (fun i r hr hi => ?_) (fun r hr => Nat.le_of_ble_eq_true (List.all_eq_true.1 h2 r hr)), ← h, ← Array.getElem?_toList]
    · rw [List.getD, List.getElem?_map]
      cases P.funcs.toList[f]? <;> rfl
    · have : r ∈ LL.dropLast := by
        rw [List.mem_iff_getElem?]
        exact ⟨i, by rw [List.getElem?_dropLast, if_pos (by omega), hr]⟩
      simpa using List.all_eq_true.1 h1 r this
  have e : (P.funcs.toList.map fun g => (P.leadsTo g).length + 1) = LL.flatten.map fun x => x.length + 1 := by
    rw [← h, List.map_map]; rfl
  rw [e, clo_eq hT _ _ 0 _ (fun g => by simp), hc]
end Go.Fast
