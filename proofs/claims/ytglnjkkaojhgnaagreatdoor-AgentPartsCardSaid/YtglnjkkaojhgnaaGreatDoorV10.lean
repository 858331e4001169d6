/- Verification conditions of functions, as the definitions of this proof reckon them (each by the kernel). -/
import Derived.Test.YtglnjkkaojhgnaaGreatDoorSeatJ
set_option maxRecDepth 100000
set_option linter.unusedSimpArgs false
set_option linter.unusedVariables false
namespace Go.Vg
open Go Go.Proofs
end Go.Vg
