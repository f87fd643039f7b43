/- Contracts of functions, and what they rest on: harness. -/
import Derived.Test.YtjlonhiojgljcaaGreatD1
import Derived.Test.YtjlonhiojgljcaaGreatT
set_option linter.unusedVariables false
set_option linter.unusedSimpArgs false
set_option maxRecDepth 10000
set_option maxHeartbeats 4000000
namespace Go.Proofs.VI
open Go
end Go.Proofs.VI
