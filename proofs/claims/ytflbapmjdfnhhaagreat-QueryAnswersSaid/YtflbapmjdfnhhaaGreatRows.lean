/-
  NARROWER THAN 'FOR EVERY INPUT', by the rows' own cells (each row's printed sentence says how): QueryAnswers: loops · QueryTurns: loops · QuerySums: loops · QuerySets: loops.
  DERIVED. THE GIVEN ROWS OF THIS SEAT. 5 by the template 'for every input the law returns true; each argument reads behind the call as it read before'; 0 by the template 'total and deterministic' (their statements: YtflbapmjdfnhhaaGreatTotals.lean).
  GIVEN WITH THE SEED: the statements are not yours to turn. If you find one false, say at which input.
  Laid BY PROGRAM, IN A SANDBOX (cutbox-rows.mjs): the forced cells as the released guide's own fill.sh prints them over the translation 56f03358f59ea258… (all of the seat's roots in one cut). By AI agents, Wed Nov 11 2026. No macro, syntax, notation, axiom, sorry.
-/
import Derived.Test.YtflbapmjdfnhhaaGreatChecked
import GoSem.Claim
import GoSem.ClaimJoined
import GoSem.ClaimMapViews
import Derived.JoinedTies
import Derived.KernelRfl
namespace Go.Proofs.YtflbapmjdfnhhaaGreat
/- THE CELL 'sum', in the pinned program and in every row, IS THE sha256 OF THE DUMP (.gsa) THAT YtflbapmjdfnhhaaGreatProg.lean LOADS. Nothing in Lean hashes anything: it is a label: what it is worth is what the hold of that sum in a sandbox is worth. -/
noncomputable def Tryz.pinned : Pinned := { name := "ytflbapmjdfnhhaagreat", sum := "56f03358f59ea258458af380b0aa7d2623b49f63310896c662ad23fefda2b847", checked := Tryz.checked }
namespace Rows
def none {H : Type} : Left H := { results := [], args := [] }

/-- 'varvelaw23.QueryAnswers': WHATEVER THE INPUT: true; the input reads as it did. -/
def queryAnswersSpec : ChangeSpec := { name := "queryAnswers", fn := fun _ => fun
  | [d1, d2, d3] => { results := [.lit (.bool true)], args := [d1, d2, d3] }
  | _ => none }
def queryAnswersRow : OpenClaim := { program := "ytflbapmjdfnhhaagreat", sum := "56f03358f59ea258458af380b0aa7d2623b49f63310896c662ad23fefda2b847", func := "varve/varvelaw23.QueryAnswers", spec := "queryAnswers", inPlace := ["math.Float64frombits", "math/bits.Add64"], unfollowed := true, recurses := true, named := ["math/bits.divideError", "math/bits.overflowError"], loops := true, apart := false }
def QueryAnswersSaid : Prop := queryAnswersRow.holds Tryz.pinned (OpenSpec.ofChange queryAnswersSpec)

/-- ITS FALSE NEIGHBOUR: 'it returns false'. Refute it at one input. -/
def queryAnswersWrong : ChangeSpec := { name := "queryAnswers", fn := fun _ => fun
  | [d1, d2, d3] => { results := [.lit (.bool false)], args := [d1, d2, d3] }
  | _ => none }
def QueryAnswersWrongFalsely : Prop := queryAnswersRow.holds Tryz.pinned (OpenSpec.ofChange queryAnswersWrong)

/-- 'varvelaw23.QueryTurns': WHATEVER THE INPUT: true; the input reads as it did. -/
def queryTurnsSpec : ChangeSpec := { name := "queryTurns", fn := fun _ => fun
  | [d1, d2, d3] => { results := [.lit (.bool true)], args := [d1, d2, d3] }
  | _ => none }
def queryTurnsRow : OpenClaim := { program := "ytflbapmjdfnhhaagreat", sum := "56f03358f59ea258458af380b0aa7d2623b49f63310896c662ad23fefda2b847", func := "varve/varvelaw23.QueryTurns", spec := "queryTurns", inPlace := ["math.Float64frombits", "math/bits.Add64"], unfollowed := true, recurses := true, named := ["math/bits.divideError", "math/bits.overflowError"], loops := true, apart := false }
def QueryTurnsSaid : Prop := queryTurnsRow.holds Tryz.pinned (OpenSpec.ofChange queryTurnsSpec)

/-- ITS FALSE NEIGHBOUR: 'it returns false'. Refute it at one input. -/
def queryTurnsWrong : ChangeSpec := { name := "queryTurns", fn := fun _ => fun
  | [d1, d2, d3] => { results := [.lit (.bool false)], args := [d1, d2, d3] }
  | _ => none }
def QueryTurnsWrongFalsely : Prop := queryTurnsRow.holds Tryz.pinned (OpenSpec.ofChange queryTurnsWrong)

/-- 'varvelaw23.QuerySums': WHATEVER THE INPUT: true; the input reads as it did. -/
def querySumsSpec : ChangeSpec := { name := "querySums", fn := fun _ => fun
  | [d1, d2] => { results := [.lit (.bool true)], args := [d1, d2] }
  | _ => none }
def querySumsRow : OpenClaim := { program := "ytflbapmjdfnhhaagreat", sum := "56f03358f59ea258458af380b0aa7d2623b49f63310896c662ad23fefda2b847", func := "varve/varvelaw23.QuerySums", spec := "querySums", inPlace := ["math.Float64frombits", "math/bits.Add64"], unfollowed := true, recurses := true, named := ["math/bits.divideError", "math/bits.overflowError"], loops := true, apart := false }
def QuerySumsSaid : Prop := querySumsRow.holds Tryz.pinned (OpenSpec.ofChange querySumsSpec)

/-- ITS FALSE NEIGHBOUR: 'it returns false'. Refute it at one input. -/
def querySumsWrong : ChangeSpec := { name := "querySums", fn := fun _ => fun
  | [d1, d2] => { results := [.lit (.bool false)], args := [d1, d2] }
  | _ => none }
def QuerySumsWrongFalsely : Prop := querySumsRow.holds Tryz.pinned (OpenSpec.ofChange querySumsWrong)

/-- 'varvelaw23.QuerySets': WHATEVER THE INPUT: true; the input reads as it did. -/
def querySetsSpec : ChangeSpec := { name := "querySets", fn := fun _ => fun
  | [d1, d2, d3, d4] => { results := [.lit (.bool true)], args := [d1, d2, d3, d4] }
  | _ => none }
def querySetsRow : OpenClaim := { program := "ytflbapmjdfnhhaagreat", sum := "56f03358f59ea258458af380b0aa7d2623b49f63310896c662ad23fefda2b847", func := "varve/varvelaw23.QuerySets", spec := "querySets", inPlace := ["math.Float64frombits", "math/bits.Add64"], unfollowed := true, recurses := true, named := ["math/bits.divideError", "math/bits.overflowError"], loops := true, apart := false }
def QuerySetsSaid : Prop := querySetsRow.holds Tryz.pinned (OpenSpec.ofChange querySetsSpec)

/-- ITS FALSE NEIGHBOUR: 'it returns false'. Refute it at one input. -/
def querySetsWrong : ChangeSpec := { name := "querySets", fn := fun _ => fun
  | [d1, d2, d3, d4] => { results := [.lit (.bool false)], args := [d1, d2, d3, d4] }
  | _ => none }
def QuerySetsWrongFalsely : Prop := querySetsRow.holds Tryz.pinned (OpenSpec.ofChange querySetsWrong)

/-- 'varvelaw23.QueryParts': WHATEVER THE INPUT: true; the input reads as it did. -/
def queryPartsSpec : ChangeSpec := { name := "queryParts", fn := fun _ => fun
  | [d1, d2, d3] => { results := [.lit (.bool true)], args := [d1, d2, d3] }
  | _ => none }
def queryPartsRow : OpenClaim := { program := "ytflbapmjdfnhhaagreat", sum := "56f03358f59ea258458af380b0aa7d2623b49f63310896c662ad23fefda2b847", func := "varve/varvelaw23.QueryParts", spec := "queryParts", inPlace := ["math.Float64frombits", "math/bits.Add64"], unfollowed := true, recurses := true, named := ["math/bits.divideError", "math/bits.overflowError"], apart := false }
def QueryPartsSaid : Prop := queryPartsRow.holds Tryz.pinned (OpenSpec.ofChange queryPartsSpec)

/-- ITS FALSE NEIGHBOUR: 'it returns false'. Refute it at one input. -/
def queryPartsWrong : ChangeSpec := { name := "queryParts", fn := fun _ => fun
  | [d1, d2, d3] => { results := [.lit (.bool false)], args := [d1, d2, d3] }
  | _ => none }
def QueryPartsWrongFalsely : Prop := queryPartsRow.holds Tryz.pinned (OpenSpec.ofChange queryPartsWrong)

/- THE SECOND FORM. 'bulk': how many values and letters a reading holds, each counted each time it is reached (what is shared counts as often as it is met; a slice's spare places count too). A statement '..UptoSaid' is the law's where the arguments, and the package variables that the reading takes, are together of bulk at most 1048576: NARROWER than '..Said'. Prove '..Said' where nothing that the law and all that it calls make is longer than what came in: it says more and counts as full. Else prove '..UptoSaid'. A law counts once. -/
mutual
def uptoBulk {H : Type} : DataW H → Nat
  | .lit (.string bytes) => bytes.length + 1
  | .lit _ => 1
  | .nil => 1
  | .ptr d => uptoBulk d + 1
  | .slice elems spare => uptoBulkAll elems + uptoBulkAll spare + 1
  | .agg parts => uptoBulkAll parts + 1
  | .iface _ d => uptoBulk d + 1
  | .map entries => uptoBulkEntries entries + 1
  | .held _ => 1
def uptoBulkAll {H : Type} : List (DataW H) → Nat
  | [] => 0
  | d :: r => uptoBulk d + uptoBulkAll r
def uptoBulkEntries {H : Type} : List (Lit × DataW H) → Nat
  | [] => 0
  | x :: r => uptoBulkEntry x + uptoBulkEntries r
def uptoBulkEntry {H : Type} : Lit × DataW H → Nat
  | (.string bytes, d) => bytes.length + uptoBulk d + 1
  | (_, d) => uptoBulk d + 1
 end
def uptoSmall : (H : Type) → List (DataW H) → Bool := fun _ ds => decide (uptoBulkAll ds ≤ 1048576)
def OpenSpec.upto (s : _root_.Go.ChangeSpec) : _root_.Go.OpenSpec := { _root_.Go.OpenSpec.ofChange s with cond := some uptoSmall }

/-- 'varvelaw23.QueryAnswers', WHERE WHAT IT READS IS OF BULK AT MOST 1048576: true; the input reads as it did. -/
def queryAnswersUptoRow : OpenClaim := { program := "ytflbapmjdfnhhaagreat", sum := "56f03358f59ea258458af380b0aa7d2623b49f63310896c662ad23fefda2b847", func := "varve/varvelaw23.QueryAnswers", spec := "queryAnswers", inPlace := ["math.Float64frombits", "math/bits.Add64"], unfollowed := true, recurses := true, named := ["math/bits.divideError", "math/bits.overflowError"], loops := true, apart := false, narrowed := true }
def QueryAnswersUptoSaid : Prop := queryAnswersUptoRow.holds Tryz.pinned (OpenSpec.upto queryAnswersSpec)

/-- 'varvelaw23.QueryTurns', WHERE WHAT IT READS IS OF BULK AT MOST 1048576: true; the input reads as it did. -/
def queryTurnsUptoRow : OpenClaim := { program := "ytflbapmjdfnhhaagreat", sum := "56f03358f59ea258458af380b0aa7d2623b49f63310896c662ad23fefda2b847", func := "varve/varvelaw23.QueryTurns", spec := "queryTurns", inPlace := ["math.Float64frombits", "math/bits.Add64"], unfollowed := true, recurses := true, named := ["math/bits.divideError", "math/bits.overflowError"], loops := true, apart := false, narrowed := true }
def QueryTurnsUptoSaid : Prop := queryTurnsUptoRow.holds Tryz.pinned (OpenSpec.upto queryTurnsSpec)

/-- 'varvelaw23.QuerySums', WHERE WHAT IT READS IS OF BULK AT MOST 1048576: true; the input reads as it did. -/
def querySumsUptoRow : OpenClaim := { program := "ytflbapmjdfnhhaagreat", sum := "56f03358f59ea258458af380b0aa7d2623b49f63310896c662ad23fefda2b847", func := "varve/varvelaw23.QuerySums", spec := "querySums", inPlace := ["math.Float64frombits", "math/bits.Add64"], unfollowed := true, recurses := true, named := ["math/bits.divideError", "math/bits.overflowError"], loops := true, apart := false, narrowed := true }
def QuerySumsUptoSaid : Prop := querySumsUptoRow.holds Tryz.pinned (OpenSpec.upto querySumsSpec)

/-- 'varvelaw23.QuerySets', WHERE WHAT IT READS IS OF BULK AT MOST 1048576: true; the input reads as it did. -/
def querySetsUptoRow : OpenClaim := { program := "ytflbapmjdfnhhaagreat", sum := "56f03358f59ea258458af380b0aa7d2623b49f63310896c662ad23fefda2b847", func := "varve/varvelaw23.QuerySets", spec := "querySets", inPlace := ["math.Float64frombits", "math/bits.Add64"], unfollowed := true, recurses := true, named := ["math/bits.divideError", "math/bits.overflowError"], loops := true, apart := false, narrowed := true }
def QuerySetsUptoSaid : Prop := querySetsUptoRow.holds Tryz.pinned (OpenSpec.upto querySetsSpec)

/-- 'varvelaw23.QueryParts', WHERE WHAT IT READS IS OF BULK AT MOST 1048576: true; the input reads as it did. -/
def queryPartsUptoRow : OpenClaim := { program := "ytflbapmjdfnhhaagreat", sum := "56f03358f59ea258458af380b0aa7d2623b49f63310896c662ad23fefda2b847", func := "varve/varvelaw23.QueryParts", spec := "queryParts", inPlace := ["math.Float64frombits", "math/bits.Add64"], unfollowed := true, recurses := true, named := ["math/bits.divideError", "math/bits.overflowError"], apart := false, narrowed := true }
def QueryPartsUptoSaid : Prop := queryPartsUptoRow.holds Tryz.pinned (OpenSpec.upto queryPartsSpec)

end Rows
end Go.Proofs.YtflbapmjdfnhhaaGreat
