/- Expeditions are marked, and their marks are read. -/
import Derived.Test.YtmiajpljlkdhcaaGreatDoorATrek
namespace Go.Abs
open Go.RowKit Go.Proofs
set_option linter.unusedVariables false
set_option linter.unusedSimpArgs false
set_option maxRecDepth 100000
set_option maxHeartbeats 4000000

end Go.Abs
