/- Contracts of functions, and what they rest on: sortlaw. -/
import Derived.Test.YtjlonhiojgljcaaGreatD1
import Derived.Lib.SlicesCompact
set_option linter.unusedVariables false
set_option linter.unusedSimpArgs false
set_option maxRecDepth 10000
set_option maxHeartbeats 4000000
namespace Go.Proofs.VI
open Go
/-- A text as the list of its bytes. -/
def kS (s : ByteArray) : List UInt8 := s.data.toList
theorem ltL_irrefl : ∀ x : List UInt8, ¬ x < x := List.lt_irrefl
theorem ltL_trans {x y z : List UInt8} (h : x < y) (k : y < z) : x < z := List.lt_trans h k
end Go.Proofs.VI
