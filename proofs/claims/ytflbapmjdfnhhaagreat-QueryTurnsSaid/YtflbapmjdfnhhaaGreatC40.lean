/- Counts: what windows of rows count together. -/
import Derived.Test.YtflbapmjdfnhhaaGreatC35
set_option linter.unusedVariables false
set_option linter.unusedSimpArgs false
set_option maxRecDepth 100000
namespace Go.Proofs.YtflbapmjdfnhhaaGreat
open Go.RowKit (Below)
theorem keepR_check {ev : List Lab → Bool} {l : List RowD} : ∀ r ∈ l.filter (keepR ev), checkS r.s = true := fun r hr => by
  have := (List.mem_filter.1 hr).2
  unfold keepR at this
  simp only [Bool.and_eq_true] at this
  exact this.1.2
end Go.Proofs.YtflbapmjdfnhhaaGreat
