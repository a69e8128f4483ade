/- The package-level tables that the walks lean on: the powers of ten of the library's number printer. -/
import Derived.WalkKit
import Derived.Below
import Derived.Lib.ItoaNum
namespace Go.Abs
def GL : List (Nat × Array Value) := [(1, (Go.Lib.pow10Tab.map fun z => Value.int .u64 z).toArray)]
/-- A variable of the library's own that holds some number. -/
def GI : List Nat := [0]
end Go.Abs
