/- The document's file system as data, and where it lies. -/
import Derived.Test.YtadgciaclhjjkaaGreatC11
import Derived.Test.YtadgciaclhjjkaaGreatC18
import Derived.Test.YtadgciaclhjjkaaGreatC08
import Derived.Test.YtadgciaclhjjkaaGreatC38
set_option linter.unusedVariables false
set_option linter.unusedSimpArgs false
set_option maxRecDepth 100000
set_option maxHeartbeats 2000000
namespace Go.Proofs.YtadgciaclhjjkaaGreat
open Go.RowKit (Below)
/-! ### Rows of structs -/
/-! ### Data -/
structure RU where
  b : UInt8
  cut : Bool
  n : Int
structure RF where
  sure : Bs
  us : List RU
structure RTn where
  kind : Int
  name : ByteArray
  to : ByteArray
  file : Int
abbrev RDir := List (ByteArray × Int)
structure RFS where
  files : List RF
  sure : RDir
  turns : List RTn
  c : Ctl
end Go.Proofs.YtadgciaclhjjkaaGreat
set_option linter.unusedVariables false
set_option linter.unusedSimpArgs false
set_option maxRecDepth 100000
set_option maxHeartbeats 4000000
namespace Go.Proofs.YtadgciaclhjjkaaGreat
open Go.RowKit (Below)
section
variable {W0 : World} {st : Heap}
end
end Go.Proofs.YtadgciaclhjjkaaGreat
