/- The package-level tables that the walks lean on: the powers of ten of the library's number printer. -/
import Derived.WalkKit
import Derived.Below
import Derived.Lib.ItoaNum
namespace Go.Abs
def GL : List (Nat × Array Value) := [(0, (Go.Lib.pow10Tab.map fun z => Value.int .u64 z).toArray)]
def GI : List Nat := []
end Go.Abs
