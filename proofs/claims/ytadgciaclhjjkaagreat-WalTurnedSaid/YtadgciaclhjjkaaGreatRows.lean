/-
  NARROWER THAN 'FOR EVERY INPUT', by the rows' own cells (each row's printed sentence says how): WalRecs: loops · WalPlays: loops.
  DERIVED. THE GIVEN ROWS OF THIS SEAT. 8 by the template 'for every input the law returns true; each argument reads behind the call as it read before'; 0 by the template 'total and deterministic' (their statements: YtadgciaclhjjkaaGreatTotals.lean).
  GIVEN WITH THE SEED: the statements are not yours to turn. If you find one false, say at which input.
  Laid BY PROGRAM, IN A SANDBOX (cutbox-rows.mjs): the forced cells as the released guide's own fill.sh prints them over the translation 04aee1e7cddba005… (all of the seat's roots in one cut). By AI agents, Wed Nov 11 2026. No macro, syntax, notation, axiom, sorry.
-/
import Derived.Test.YtadgciaclhjjkaaGreatChecked
import GoSem.Claim
import GoSem.ClaimJoined
import GoSem.ClaimMapViews
import Derived.JoinedTies
import Derived.KernelRfl
namespace Go.Proofs.YtadgciaclhjjkaaGreat
/- THE CELL 'sum', in the pinned program and in every row, IS THE sha256 OF THE DUMP (.gsa) THAT YtadgciaclhjjkaaGreatProg.lean LOADS. Nothing in Lean hashes anything: it is a label: what it is worth is what the hold of that sum in a sandbox is worth. -/
noncomputable def Tryz.pinned : Pinned := { name := "ytadgciaclhjjkaagreat", sum := "04aee1e7cddba005fc80f0e42233927742657ca4236d183510fdd017513867f8", checked := Tryz.checked }
namespace Rows
def none {H : Type} : Left H := { results := [], args := [] }

/-- 'varvelaw17.WalRecs': WHATEVER THE INPUT: true; the input reads as it did. -/
def walRecsSpec : ChangeSpec := { name := "walRecs", fn := fun _ => fun
  | [d1, d2] => { results := [.lit (.bool true)], args := [d1, d2] }
  | _ => none }
def walRecsRow : OpenClaim := { program := "ytadgciaclhjjkaagreat", sum := "04aee1e7cddba005fc80f0e42233927742657ca4236d183510fdd017513867f8", func := "varve/varvelaw17.WalRecs", spec := "walRecs", inPlace := ["math.Float64frombits"], unfollowed := true, recurses := true, loops := true, apart := false }
def WalRecsSaid : Prop := walRecsRow.holds Tryz.pinned (OpenSpec.ofChange walRecsSpec)

/-- ITS FALSE NEIGHBOUR: 'it returns false'. Refute it at one input. -/
def walRecsWrong : ChangeSpec := { name := "walRecs", fn := fun _ => fun
  | [d1, d2] => { results := [.lit (.bool false)], args := [d1, d2] }
  | _ => none }
def WalRecsWrongFalsely : Prop := walRecsRow.holds Tryz.pinned (OpenSpec.ofChange walRecsWrong)

/-- 'varvelaw17.WalNames': WHATEVER THE INPUT: true; the input reads as it did. -/
def walNamesSpec : ChangeSpec := { name := "walNames", fn := fun _ => fun
  | [d1, d2] => { results := [.lit (.bool true)], args := [d1, d2] }
  | _ => none }
def walNamesRow : OpenClaim := { program := "ytadgciaclhjjkaagreat", sum := "04aee1e7cddba005fc80f0e42233927742657ca4236d183510fdd017513867f8", func := "varve/varvelaw17.WalNames", spec := "walNames", inPlace := ["math.Float64frombits"], unfollowed := true, recurses := true, apart := false }
def WalNamesSaid : Prop := walNamesRow.holds Tryz.pinned (OpenSpec.ofChange walNamesSpec)

/-- ITS FALSE NEIGHBOUR: 'it returns false'. Refute it at one input. -/
def walNamesWrong : ChangeSpec := { name := "walNames", fn := fun _ => fun
  | [d1, d2] => { results := [.lit (.bool false)], args := [d1, d2] }
  | _ => none }
def WalNamesWrongFalsely : Prop := walNamesRow.holds Tryz.pinned (OpenSpec.ofChange walNamesWrong)

/-- 'varvelaw17.WalTurned': WHATEVER THE INPUT: true; the input reads as it did. -/
def walTurnedSpec : ChangeSpec := { name := "walTurned", fn := fun _ => fun
  | [d1, d2, d3, d4] => { results := [.lit (.bool true)], args := [d1, d2, d3, d4] }
  | _ => none }
def walTurnedRow : OpenClaim := { program := "ytadgciaclhjjkaagreat", sum := "04aee1e7cddba005fc80f0e42233927742657ca4236d183510fdd017513867f8", func := "varve/varvelaw17.WalTurned", spec := "walTurned", inPlace := ["math.Float64frombits"], unfollowed := true, recurses := true, apart := false }
def WalTurnedSaid : Prop := walTurnedRow.holds Tryz.pinned (OpenSpec.ofChange walTurnedSpec)

/-- ITS FALSE NEIGHBOUR: 'it returns false'. Refute it at one input. -/
def walTurnedWrong : ChangeSpec := { name := "walTurned", fn := fun _ => fun
  | [d1, d2, d3, d4] => { results := [.lit (.bool false)], args := [d1, d2, d3, d4] }
  | _ => none }
def WalTurnedWrongFalsely : Prop := walTurnedRow.holds Tryz.pinned (OpenSpec.ofChange walTurnedWrong)

/-- 'varvelaw17.WalOrder': WHATEVER THE INPUT: true; the input reads as it did. -/
def walOrderSpec : ChangeSpec := { name := "walOrder", fn := fun _ => fun
  | [d1, d2] => { results := [.lit (.bool true)], args := [d1, d2] }
  | _ => none }
def walOrderRow : OpenClaim := { program := "ytadgciaclhjjkaagreat", sum := "04aee1e7cddba005fc80f0e42233927742657ca4236d183510fdd017513867f8", func := "varve/varvelaw17.WalOrder", spec := "walOrder", inPlace := ["math.Float64frombits"], unfollowed := true, recurses := true, apart := false }
def WalOrderSaid : Prop := walOrderRow.holds Tryz.pinned (OpenSpec.ofChange walOrderSpec)

/-- ITS FALSE NEIGHBOUR: 'it returns false'. Refute it at one input. -/
def walOrderWrong : ChangeSpec := { name := "walOrder", fn := fun _ => fun
  | [d1, d2] => { results := [.lit (.bool false)], args := [d1, d2] }
  | _ => none }
def WalOrderWrongFalsely : Prop := walOrderRow.holds Tryz.pinned (OpenSpec.ofChange walOrderWrong)

/-- 'varvelaw17.WalOpens': WHATEVER THE INPUT: true; the input reads as it did. -/
def walOpensSpec : ChangeSpec := { name := "walOpens", fn := fun _ => fun
  | [d1, d2] => { results := [.lit (.bool true)], args := [d1, d2] }
  | _ => none }
def walOpensRow : OpenClaim := { program := "ytadgciaclhjjkaagreat", sum := "04aee1e7cddba005fc80f0e42233927742657ca4236d183510fdd017513867f8", func := "varve/varvelaw17.WalOpens", spec := "walOpens", inPlace := ["math.Float64frombits"], unfollowed := true, recurses := true, apart := false }
def WalOpensSaid : Prop := walOpensRow.holds Tryz.pinned (OpenSpec.ofChange walOpensSpec)

/-- ITS FALSE NEIGHBOUR: 'it returns false'. Refute it at one input. -/
def walOpensWrong : ChangeSpec := { name := "walOpens", fn := fun _ => fun
  | [d1, d2] => { results := [.lit (.bool false)], args := [d1, d2] }
  | _ => none }
def WalOpensWrongFalsely : Prop := walOpensRow.holds Tryz.pinned (OpenSpec.ofChange walOpensWrong)

/-- 'varvelaw17.WalKeeps': WHATEVER THE INPUT: true; the input reads as it did. -/
def walKeepsSpec : ChangeSpec := { name := "walKeeps", fn := fun _ => fun
  | [d1, d2, d3, d4] => { results := [.lit (.bool true)], args := [d1, d2, d3, d4] }
  | _ => none }
def walKeepsRow : OpenClaim := { program := "ytadgciaclhjjkaagreat", sum := "04aee1e7cddba005fc80f0e42233927742657ca4236d183510fdd017513867f8", func := "varve/varvelaw17.WalKeeps", spec := "walKeeps", inPlace := ["math.Float64frombits"], unfollowed := true, recurses := true, apart := false }
def WalKeepsSaid : Prop := walKeepsRow.holds Tryz.pinned (OpenSpec.ofChange walKeepsSpec)

/-- ITS FALSE NEIGHBOUR: 'it returns false'. Refute it at one input. -/
def walKeepsWrong : ChangeSpec := { name := "walKeeps", fn := fun _ => fun
  | [d1, d2, d3, d4] => { results := [.lit (.bool false)], args := [d1, d2, d3, d4] }
  | _ => none }
def WalKeepsWrongFalsely : Prop := walKeepsRow.holds Tryz.pinned (OpenSpec.ofChange walKeepsWrong)

/-- 'varvelaw17.WalTorn': WHATEVER THE INPUT: true; the input reads as it did. -/
def walTornSpec : ChangeSpec := { name := "walTorn", fn := fun _ => fun
  | [d1, d2] => { results := [.lit (.bool true)], args := [d1, d2] }
  | _ => none }
def walTornRow : OpenClaim := { program := "ytadgciaclhjjkaagreat", sum := "04aee1e7cddba005fc80f0e42233927742657ca4236d183510fdd017513867f8", func := "varve/varvelaw17.WalTorn", spec := "walTorn", inPlace := ["math.Float64frombits"], unfollowed := true, recurses := true, apart := false }
def WalTornSaid : Prop := walTornRow.holds Tryz.pinned (OpenSpec.ofChange walTornSpec)

/-- ITS FALSE NEIGHBOUR: 'it returns false'. Refute it at one input. -/
def walTornWrong : ChangeSpec := { name := "walTorn", fn := fun _ => fun
  | [d1, d2] => { results := [.lit (.bool false)], args := [d1, d2] }
  | _ => none }
def WalTornWrongFalsely : Prop := walTornRow.holds Tryz.pinned (OpenSpec.ofChange walTornWrong)

/-- 'varvelaw17.WalPlays': WHATEVER THE INPUT: true; the input reads as it did. -/
def walPlaysSpec : ChangeSpec := { name := "walPlays", fn := fun _ => fun
  | [d1, d2] => { results := [.lit (.bool true)], args := [d1, d2] }
  | _ => none }
def walPlaysRow : OpenClaim := { program := "ytadgciaclhjjkaagreat", sum := "04aee1e7cddba005fc80f0e42233927742657ca4236d183510fdd017513867f8", func := "varve/varvelaw17.WalPlays", spec := "walPlays", inPlace := ["math.Float64frombits"], unfollowed := true, recurses := true, loops := true, apart := false }
def WalPlaysSaid : Prop := walPlaysRow.holds Tryz.pinned (OpenSpec.ofChange walPlaysSpec)

/-- ITS FALSE NEIGHBOUR: 'it returns false'. Refute it at one input. -/
def walPlaysWrong : ChangeSpec := { name := "walPlays", fn := fun _ => fun
  | [d1, d2] => { results := [.lit (.bool false)], args := [d1, d2] }
  | _ => none }
def WalPlaysWrongFalsely : Prop := walPlaysRow.holds Tryz.pinned (OpenSpec.ofChange walPlaysWrong)

/- THE SECOND FORM. 'bulk': how many values and letters a reading holds, each counted each time it is reached (what is shared counts as often as it is met; a slice's spare places count too). A statement '..UptoSaid' is the law's where the arguments, and the package variables that the reading takes, are together of bulk at most 1048576: NARROWER than '..Said'. Prove '..Said' where nothing that the law and all that it calls make is longer than what came in: it says more and counts as full. Else prove '..UptoSaid'. A law counts once. -/
mutual
def uptoBulk {H : Type} : DataW H → Nat
  | .lit (.string bytes) => bytes.length + 1
  | .lit _ => 1
  | .nil => 1
  | .ptr d => uptoBulk d + 1
  | .slice elems spare => uptoBulkAll elems + uptoBulkAll spare + 1
  | .agg parts => uptoBulkAll parts + 1
  | .iface _ d => uptoBulk d + 1
  | .map entries => uptoBulkEntries entries + 1
  | .held _ => 1
def uptoBulkAll {H : Type} : List (DataW H) → Nat
  | [] => 0
  | d :: r => uptoBulk d + uptoBulkAll r
def uptoBulkEntries {H : Type} : List (Lit × DataW H) → Nat
  | [] => 0
  | x :: r => uptoBulkEntry x + uptoBulkEntries r
def uptoBulkEntry {H : Type} : Lit × DataW H → Nat
  | (.string bytes, d) => bytes.length + uptoBulk d + 1
  | (_, d) => uptoBulk d + 1
 end
def uptoSmall : (H : Type) → List (DataW H) → Bool := fun _ ds => decide (uptoBulkAll ds ≤ 1048576)
def OpenSpec.upto (s : _root_.Go.ChangeSpec) : _root_.Go.OpenSpec := { _root_.Go.OpenSpec.ofChange s with cond := some uptoSmall }

/-- 'varvelaw17.WalRecs', WHERE WHAT IT READS IS OF BULK AT MOST 1048576: true; the input reads as it did. -/
def walRecsUptoRow : OpenClaim := { program := "ytadgciaclhjjkaagreat", sum := "04aee1e7cddba005fc80f0e42233927742657ca4236d183510fdd017513867f8", func := "varve/varvelaw17.WalRecs", spec := "walRecs", inPlace := ["math.Float64frombits"], unfollowed := true, recurses := true, loops := true, apart := false, narrowed := true }
def WalRecsUptoSaid : Prop := walRecsUptoRow.holds Tryz.pinned (OpenSpec.upto walRecsSpec)

/-- 'varvelaw17.WalNames', WHERE WHAT IT READS IS OF BULK AT MOST 1048576: true; the input reads as it did. -/
def walNamesUptoRow : OpenClaim := { program := "ytadgciaclhjjkaagreat", sum := "04aee1e7cddba005fc80f0e42233927742657ca4236d183510fdd017513867f8", func := "varve/varvelaw17.WalNames", spec := "walNames", inPlace := ["math.Float64frombits"], unfollowed := true, recurses := true, apart := false, narrowed := true }
def WalNamesUptoSaid : Prop := walNamesUptoRow.holds Tryz.pinned (OpenSpec.upto walNamesSpec)

/-- 'varvelaw17.WalTurned', WHERE WHAT IT READS IS OF BULK AT MOST 1048576: true; the input reads as it did. -/
def walTurnedUptoRow : OpenClaim := { program := "ytadgciaclhjjkaagreat", sum := "04aee1e7cddba005fc80f0e42233927742657ca4236d183510fdd017513867f8", func := "varve/varvelaw17.WalTurned", spec := "walTurned", inPlace := ["math.Float64frombits"], unfollowed := true, recurses := true, apart := false, narrowed := true }
def WalTurnedUptoSaid : Prop := walTurnedUptoRow.holds Tryz.pinned (OpenSpec.upto walTurnedSpec)

/-- 'varvelaw17.WalOrder', WHERE WHAT IT READS IS OF BULK AT MOST 1048576: true; the input reads as it did. -/
def walOrderUptoRow : OpenClaim := { program := "ytadgciaclhjjkaagreat", sum := "04aee1e7cddba005fc80f0e42233927742657ca4236d183510fdd017513867f8", func := "varve/varvelaw17.WalOrder", spec := "walOrder", inPlace := ["math.Float64frombits"], unfollowed := true, recurses := true, apart := false, narrowed := true }
def WalOrderUptoSaid : Prop := walOrderUptoRow.holds Tryz.pinned (OpenSpec.upto walOrderSpec)

/-- 'varvelaw17.WalOpens', WHERE WHAT IT READS IS OF BULK AT MOST 1048576: true; the input reads as it did. -/
def walOpensUptoRow : OpenClaim := { program := "ytadgciaclhjjkaagreat", sum := "04aee1e7cddba005fc80f0e42233927742657ca4236d183510fdd017513867f8", func := "varve/varvelaw17.WalOpens", spec := "walOpens", inPlace := ["math.Float64frombits"], unfollowed := true, recurses := true, apart := false, narrowed := true }
def WalOpensUptoSaid : Prop := walOpensUptoRow.holds Tryz.pinned (OpenSpec.upto walOpensSpec)

/-- 'varvelaw17.WalKeeps', WHERE WHAT IT READS IS OF BULK AT MOST 1048576: true; the input reads as it did. -/
def walKeepsUptoRow : OpenClaim := { program := "ytadgciaclhjjkaagreat", sum := "04aee1e7cddba005fc80f0e42233927742657ca4236d183510fdd017513867f8", func := "varve/varvelaw17.WalKeeps", spec := "walKeeps", inPlace := ["math.Float64frombits"], unfollowed := true, recurses := true, apart := false, narrowed := true }
def WalKeepsUptoSaid : Prop := walKeepsUptoRow.holds Tryz.pinned (OpenSpec.upto walKeepsSpec)

/-- 'varvelaw17.WalTorn', WHERE WHAT IT READS IS OF BULK AT MOST 1048576: true; the input reads as it did. -/
def walTornUptoRow : OpenClaim := { program := "ytadgciaclhjjkaagreat", sum := "04aee1e7cddba005fc80f0e42233927742657ca4236d183510fdd017513867f8", func := "varve/varvelaw17.WalTorn", spec := "walTorn", inPlace := ["math.Float64frombits"], unfollowed := true, recurses := true, apart := false, narrowed := true }
def WalTornUptoSaid : Prop := walTornUptoRow.holds Tryz.pinned (OpenSpec.upto walTornSpec)

/-- 'varvelaw17.WalPlays', WHERE WHAT IT READS IS OF BULK AT MOST 1048576: true; the input reads as it did. -/
def walPlaysUptoRow : OpenClaim := { program := "ytadgciaclhjjkaagreat", sum := "04aee1e7cddba005fc80f0e42233927742657ca4236d183510fdd017513867f8", func := "varve/varvelaw17.WalPlays", spec := "walPlays", inPlace := ["math.Float64frombits"], unfollowed := true, recurses := true, loops := true, apart := false, narrowed := true }
def WalPlaysUptoSaid : Prop := walPlaysUptoRow.holds Tryz.pinned (OpenSpec.upto walPlaysSpec)

end Rows
end Go.Proofs.YtadgciaclhjjkaaGreat
