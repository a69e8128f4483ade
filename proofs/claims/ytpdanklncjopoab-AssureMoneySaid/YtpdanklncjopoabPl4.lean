import Derived.Test.YtpdanklncjopoabPl3
set_option linter.unusedSimpArgs false
set_option linter.unusedVariables false
namespace Go.Proofs.Ytpdanklncjopoab
open Go.RowKit Go.Abs

abbrev wr (n : Int) : Int := IntKind.i64.wrap n
theorem foldl_take {α β : Type} [Inhabited α] {f : β → α → β} {s : β} {l : List α} {k : Nat} (h : k < l.length) : (l.take (k + 1)).foldl f s = f ((l.take k).foldl f s) (nth l k) := by
  rw [take_nth h, List.foldl_append]; rfl
structure Rng where
  source : Int
  from_ : Int
  to_ : Int
instance : Inhabited Rng := ⟨⟨0, 0, 0⟩⟩
def Rng.row (r : Rng) : List D := [cI r.source, cI r.from_, cI r.to_]
structure Hd where
  source : Int
  number : Int
  format : Int
  count : Int
instance : Inhabited Hd := ⟨⟨0, 0, 0, 0⟩⟩
def Hd.row (h : Hd) : List D := [cI h.source, cI h.number, cI h.format, cI h.count]
structure Med where
  seen : List Rng
  opn : List (List D)
  heads : List Hd
  us : List (List D)
  susp : List (List D)
  rej : List (List D)
def Med.row (m : Med) : List D := [slOf 3 Rng.row m.seen, .sl 12 m.opn, slOf 4 Hd.row m.heads, .sl 12 m.us, .sl 12 m.susp, .sl 4 m.rej]
def countF (l : List Rng) : Int := l.foldl (fun n r => wr (n + wr (wr (r.to_ - r.from_) + 1))) 0
def readF (l : List Hd) : Int := l.foldl (fun n h => wr (n + h.count)) 0
def mergedF (m : Med) : Int := wr (wr (wr (countF m.seen - m.us.length) - m.susp.length) - m.opn.length)
def balF (m : Med) : List D := [cI (readF m.heads), cI m.us.length, cI (mergedF m), cI m.rej.length, cI m.susp.length, cI m.opn.length]
def sumF (m : Med) : Int := wr (wr (wr (wr (m.us.length + mergedF m) + m.rej.length) + m.susp.length) + m.opn.length)
def leak1 (key a b : Int) : List Leak := if a = b then [] else [⟨1, key, a, b⟩]
def intakeF (m : Med) (read : Int) : List Leak := leak1 1 read (readF m.heads) ++ leak1 2 (readF m.heads) (sumF m)
def outC : Option (List (List D)) → EV
  | none => .d (.ex (.slice none 0 0))
  | some rows => .tsl 4 rows 0
def outT : Option (List (List D)) → List Tail
  | none => []
  | some rows => [⟨51, 4, rows.length⟩]
end Go.Proofs.Ytpdanklncjopoab
