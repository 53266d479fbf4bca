/- What is left of a file system behind a crash: of few names. -/
import Derived.Test.YtahgfnbkkfpcnaaGreatC27
set_option linter.unusedVariables false
set_option linter.unusedSimpArgs false
set_option maxRecDepth 100000
set_option maxHeartbeats 2000000
namespace Go.Proofs.YtahgfnbkkfpcnaaGreat
open Go.RowKit (Below)
section
variable {W0 : World} {st : Heap}
end
end Go.Proofs.YtahgfnbkkfpcnaaGreat
