/- A remainder from 0 on; bytes in new memory. -/
import Derived.Test.YtgppogppdmbgmaaGreatCTab
import Derived.Test.YtgppogppdmbgmaaGreatC09
import Derived.Test.YtgppogppdmbgmaaGreatC35
set_option linter.unusedVariables false
set_option linter.unusedSimpArgs false
set_option maxRecDepth 100000
set_option maxHeartbeats 1000000
namespace Go.Proofs.YtgppogppdmbgmaaGreat
open Go.RowKit (Below)
section
variable {W0 : World} {st : Heap}
end
end Go.Proofs.YtgppogppdmbgmaaGreat
set_option linter.unusedVariables false
set_option linter.unusedSimpArgs false
set_option maxRecDepth 100000
set_option maxHeartbeats 8000000
namespace Go.Proofs.YtgppogppdmbgmaaGreat
open Go.RowKit (Below)
theorem frame_len {m : ManD} (hm : manM m = true) (hf : ManFits m) : 0 < (frameM (bodyM m)).length ∧ (frameM (bodyM m)).length ≤ 600000 := by
  have hbl := bodyM_len hm hf
  have h2 := vputM_len (bodyM m).length (by omega)
  unfold frameM le4
  simp only [List.length_append, List.length_cons, List.length_nil]
  omega
section
variable {W0 : World} {st : Heap}
end
end Go.Proofs.YtgppogppdmbgmaaGreat
