/- Contracts of functions, and what they rest on: l20c. -/
import Derived.Test.YtjlonhiojgljcaaGreatA3
set_option linter.unusedVariables false
set_option linter.unusedSimpArgs false
set_option maxRecDepth 10000
set_option maxHeartbeats 4000000
namespace Go.Proofs.VI
open Go
end Go.Proofs.VI
