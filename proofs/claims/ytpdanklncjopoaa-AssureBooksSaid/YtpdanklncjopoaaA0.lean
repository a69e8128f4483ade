/- The package-level tables that the walks lean on: none. -/
import Derived.WalkKit
import Derived.Below
namespace Go.Abs
def GL : List (Nat × Array Value) := []
def GI : List Nat := []
end Go.Abs
