/- The document's own look at a matcher, and what is small enough to be asked: plain. -/
import Derived.Test.YtembgehpgommgaaGreatC13
import Derived.Test.YtembgehpgommgaaGreatC11
set_option linter.unusedVariables false
set_option linter.unusedSimpArgs false
set_option maxRecDepth 100000
set_option maxHeartbeats 2000000
namespace Go.Proofs.YtembgehpgommgaaGreat
/-! ### What is small enough to be asked -/
end Go.Proofs.YtembgehpgommgaaGreat
set_option linter.unusedVariables false
set_option linter.unusedSimpArgs false
set_option maxRecDepth 100000
set_option maxHeartbeats 2000000
namespace Go.Proofs.YtembgehpgommgaaGreat
open Go.RowKit (Below)
section
variable {W0 : World} {st : Heap}
end
end Go.Proofs.YtembgehpgommgaaGreat
