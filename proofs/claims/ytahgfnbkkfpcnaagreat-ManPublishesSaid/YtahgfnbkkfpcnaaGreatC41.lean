/- The law ManChecks, walked. -/
import Derived.Test.YtahgfnbkkfpcnaaGreatC38
set_option linter.unusedVariables false
set_option linter.unusedSimpArgs false
set_option maxRecDepth 100000
set_option maxHeartbeats 8000000
namespace Go.Proofs.YtahgfnbkkfpcnaaGreat
open Go.RowKit (Below)
section
variable {W0 : World} {st : Heap}
theorem ManAt.free {st st' : Heap} (hk : Keep Free st st') {cs : List Value} {m : ManD} (h : ManAt st cs m) : ManAt st' cs m := h.mono fun _ _ _ _ h => h.free hk
end
end Go.Proofs.YtahgfnbkkfpcnaaGreat
