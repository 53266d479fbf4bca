/- The document's own look at a matcher, and what is small enough to be asked: plain. -/
import Derived.Test.YtflbapmjdfnhhaaGreatC13
import Derived.Test.YtflbapmjdfnhhaaGreatC11
set_option linter.unusedVariables false
set_option linter.unusedSimpArgs false
set_option maxRecDepth 100000
set_option maxHeartbeats 2000000
namespace Go.Proofs.YtflbapmjdfnhhaaGreat
/-! ### What is small enough to be asked -/
/-- Small, and so deep at most. -/
def NiceM : Nat → Mat → Prop
  | 0, _ => False
  | d + 1, .mk op name value vals kids => name.size ≤ 300 ∧ value.size ≤ 5000 ∧ vals.length ≤ 40 ∧ (∀ v ∈ vals, v.size ≤ 300) ∧ kids.length ≤ 200 ∧ ∀ k ∈ kids, NiceM d k
end Go.Proofs.YtflbapmjdfnhhaaGreat
set_option linter.unusedVariables false
set_option linter.unusedSimpArgs false
set_option maxRecDepth 100000
set_option maxHeartbeats 2000000
namespace Go.Proofs.YtflbapmjdfnhhaaGreat
open Go.RowKit (Below)
section
variable {W0 : World} {st : Heap}
end
end Go.Proofs.YtflbapmjdfnhhaaGreat
