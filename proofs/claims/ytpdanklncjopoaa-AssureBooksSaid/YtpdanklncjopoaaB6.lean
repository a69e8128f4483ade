/- Small words for plain data. -/
import Derived.Test.YtpdanklncjopoaaB5
set_option linter.unusedSimpArgs false
set_option linter.unusedVariables false
namespace Go.Abs
open Go.RowKit

def nth {α : Type} [Inhabited α] (l : List α) (k : Nat) : α := l.getD k default
theorem nth_eq {α : Type} [Inhabited α] {l : List α} {k : Nat} (h : k < l.length) : nth l k = l[k] := by
  unfold nth
  rw [List.getD_eq_getElem?_getD, List.getElem?_eq_getElem h]; rfl
theorem mapnth {α β : Type} [Inhabited α] {f : α → β} {l : List α} {n : Nat} (h : n < l.length) : (l.map f)[n]? = some (f (nth l n)) := mapget default h
theorem take_nth {α : Type} [Inhabited α] {l : List α} {k : Nat} (h : k < l.length) : l.take (k + 1) = l.take k ++ [nth l k] := by
  rw [nth_eq h, List.take_succ_eq_append_getElem h]
theorem drop_nth {α : Type} [Inhabited α] {l : List α} {k : Nat} (h : k < l.length) : l.drop k = nth l k :: l.drop (k + 1) := by
  rw [nth_eq h]; exact List.drop_eq_getElem_cons h
/-- int, string, bool as cells. -/
abbrev cI (n : Int) : D := .ex (.int .i64 n)
abbrev cS (l : List UInt8) : D := .ex (.string ⟨l.toArray⟩)
abbrev cB (b : Bool) : D := .ex (.bool b)
def rI (n : Int) : List D := [.ex (.int .i64 n)]
def rS (l : List UInt8) : List D := [.ex (.string ⟨l.toArray⟩)]
def rB8 (b : UInt8) : List D := [.ex (.int .u8 (b.toNat : Int))]
/-- A slice of T's. -/
abbrev slOf {α : Type} (sz : Nat) (row : α → List D) (l : List α) : D := .sl sz (l.map row)
end Go.Abs
