/-
  NARROWER THAN 'FOR EVERY INPUT', by the rows' own cells (each row's printed sentence says how): ManChecks: loops · ManBack: loops · ManOwn: loops.
  DERIVED. THE GIVEN ROWS OF THIS SEAT. 10 by the template 'for every input the law returns true; each argument reads behind the call as it read before'; 0 by the template 'total and deterministic' (their statements: YtenencpnnjacdaaTotals.lean).
  GIVEN WITH THE SEED: the statements are not yours to turn. If you find one false, say at which input.
  Laid BY PROGRAM, IN A SANDBOX (cutbox-rows.mjs): the forced cells as the released guide's own fill.sh prints them over the translation f6d3ad6ff16aefaf… (all of the seat's roots in one cut). By AI agents, Wed Nov 11 2026. No macro, syntax, notation, axiom, sorry.
-/
import Derived.Test.YtenencpnnjacdaaChecked
import GoSem.Claim
import GoSem.ClaimJoined
import GoSem.ClaimMapViews
import Derived.JoinedTies
import Derived.KernelRfl
namespace Go.Proofs.Ytenencpnnjacdaa
/- THE CELL 'sum', in the pinned program and in every row, IS THE sha256 OF THE DUMP (.gsa) THAT YtenencpnnjacdaaProg.lean LOADS. Nothing in Lean hashes anything: it is a label: what it is worth is what the hold of that sum in a sandbox is worth. -/
noncomputable def Try.pinned : Pinned := { name := "ytenencpnnjacdaa", sum := "f6d3ad6ff16aefaf406286a40adda9bb7782bdac524212fa1dc8dae4947232da", checked := Try.checked }
namespace Rows
def none {H : Type} : Left H := { results := [], args := [] }

/-- 'varvelaw21.ManChecks': WHATEVER THE INPUT: true; the input reads as it did. -/
def manChecksSpec : ChangeSpec := { name := "manChecks", fn := fun _ => fun
  | [d] => { results := [.lit (.bool true)], args := [d] }
  | _ => none }
def manChecksRow : OpenClaim := { program := "ytenencpnnjacdaa", sum := "f6d3ad6ff16aefaf406286a40adda9bb7782bdac524212fa1dc8dae4947232da", func := "varve/varvelaw21.ManChecks", spec := "manChecks", unfollowed := true, recurses := true, loops := true, apart := false }
def ManChecksSaid : Prop := manChecksRow.holds Try.pinned (OpenSpec.ofChange manChecksSpec)

/-- ITS FALSE NEIGHBOUR: 'it returns false'. Refute it at one input. -/
def manChecksWrong : ChangeSpec := { name := "manChecks", fn := fun _ => fun
  | [d] => { results := [.lit (.bool false)], args := [d] }
  | _ => none }
def ManChecksWrongFalsely : Prop := manChecksRow.holds Try.pinned (OpenSpec.ofChange manChecksWrong)

/-- 'varvelaw21.ManDecodes': WHATEVER THE INPUT: true; the input reads as it did. -/
def manDecodesSpec : ChangeSpec := { name := "manDecodes", fn := fun _ => fun
  | [d] => { results := [.lit (.bool true)], args := [d] }
  | _ => none }
def manDecodesRow : OpenClaim := { program := "ytenencpnnjacdaa", sum := "f6d3ad6ff16aefaf406286a40adda9bb7782bdac524212fa1dc8dae4947232da", func := "varve/varvelaw21.ManDecodes", spec := "manDecodes", unfollowed := true, recurses := true, apart := false }
def ManDecodesSaid : Prop := manDecodesRow.holds Try.pinned (OpenSpec.ofChange manDecodesSpec)

/-- ITS FALSE NEIGHBOUR: 'it returns false'. Refute it at one input. -/
def manDecodesWrong : ChangeSpec := { name := "manDecodes", fn := fun _ => fun
  | [d] => { results := [.lit (.bool false)], args := [d] }
  | _ => none }
def ManDecodesWrongFalsely : Prop := manDecodesRow.holds Try.pinned (OpenSpec.ofChange manDecodesWrong)

/-- 'varvelaw21.ManBack': WHATEVER THE INPUT: true; the input reads as it did. -/
def manBackSpec : ChangeSpec := { name := "manBack", fn := fun _ => fun
  | [d1, d2, d3] => { results := [.lit (.bool true)], args := [d1, d2, d3] }
  | _ => none }
def manBackRow : OpenClaim := { program := "ytenencpnnjacdaa", sum := "f6d3ad6ff16aefaf406286a40adda9bb7782bdac524212fa1dc8dae4947232da", func := "varve/varvelaw21.ManBack", spec := "manBack", unfollowed := true, recurses := true, loops := true, apart := false }
def ManBackSaid : Prop := manBackRow.holds Try.pinned (OpenSpec.ofChange manBackSpec)

/-- ITS FALSE NEIGHBOUR: 'it returns false'. Refute it at one input. -/
def manBackWrong : ChangeSpec := { name := "manBack", fn := fun _ => fun
  | [d1, d2, d3] => { results := [.lit (.bool false)], args := [d1, d2, d3] }
  | _ => none }
def ManBackWrongFalsely : Prop := manBackRow.holds Try.pinned (OpenSpec.ofChange manBackWrong)

/-- 'varvelaw21.ManOwn': WHATEVER THE INPUT: true; the input reads as it did. -/
def manOwnSpec : ChangeSpec := { name := "manOwn", fn := fun _ => fun
  | [d] => { results := [.lit (.bool true)], args := [d] }
  | _ => none }
def manOwnRow : OpenClaim := { program := "ytenencpnnjacdaa", sum := "f6d3ad6ff16aefaf406286a40adda9bb7782bdac524212fa1dc8dae4947232da", func := "varve/varvelaw21.ManOwn", spec := "manOwn", unfollowed := true, recurses := true, loops := true, apart := false }
def ManOwnSaid : Prop := manOwnRow.holds Try.pinned (OpenSpec.ofChange manOwnSpec)

/-- ITS FALSE NEIGHBOUR: 'it returns false'. Refute it at one input. -/
def manOwnWrong : ChangeSpec := { name := "manOwn", fn := fun _ => fun
  | [d] => { results := [.lit (.bool false)], args := [d] }
  | _ => none }
def ManOwnWrongFalsely : Prop := manOwnRow.holds Try.pinned (OpenSpec.ofChange manOwnWrong)

/-- 'varvelaw16.VfsOnce': WHATEVER THE INPUT: true; the input reads as it did. -/
def vfsOnceSpec : ChangeSpec := { name := "vfsOnce", fn := fun _ => fun
  | [d1, d2, d3] => { results := [.lit (.bool true)], args := [d1, d2, d3] }
  | _ => none }
def vfsOnceRow : OpenClaim := { program := "ytenencpnnjacdaa", sum := "f6d3ad6ff16aefaf406286a40adda9bb7782bdac524212fa1dc8dae4947232da", func := "varve/varvelaw16.VfsOnce", spec := "vfsOnce", unfollowed := true, recurses := true, apart := false }
def VfsOnceSaid : Prop := vfsOnceRow.holds Try.pinned (OpenSpec.ofChange vfsOnceSpec)

/-- ITS FALSE NEIGHBOUR: 'it returns false'. Refute it at one input. -/
def vfsOnceWrong : ChangeSpec := { name := "vfsOnce", fn := fun _ => fun
  | [d1, d2, d3] => { results := [.lit (.bool false)], args := [d1, d2, d3] }
  | _ => none }
def VfsOnceWrongFalsely : Prop := vfsOnceRow.holds Try.pinned (OpenSpec.ofChange vfsOnceWrong)

/-- 'varvelaw16.VfsSure': WHATEVER THE INPUT: true; the input reads as it did. -/
def vfsSureSpec : ChangeSpec := { name := "vfsSure", fn := fun _ => fun
  | [d1, d2, d3, d4] => { results := [.lit (.bool true)], args := [d1, d2, d3, d4] }
  | _ => none }
def vfsSureRow : OpenClaim := { program := "ytenencpnnjacdaa", sum := "f6d3ad6ff16aefaf406286a40adda9bb7782bdac524212fa1dc8dae4947232da", func := "varve/varvelaw16.VfsSure", spec := "vfsSure", unfollowed := true, recurses := true, apart := false }
def VfsSureSaid : Prop := vfsSureRow.holds Try.pinned (OpenSpec.ofChange vfsSureSpec)

/-- ITS FALSE NEIGHBOUR: 'it returns false'. Refute it at one input. -/
def vfsSureWrong : ChangeSpec := { name := "vfsSure", fn := fun _ => fun
  | [d1, d2, d3, d4] => { results := [.lit (.bool false)], args := [d1, d2, d3, d4] }
  | _ => none }
def VfsSureWrongFalsely : Prop := vfsSureRow.holds Try.pinned (OpenSpec.ofChange vfsSureWrong)

/-- 'varvelaw16.VfsCreates': WHATEVER THE INPUT: true; the input reads as it did. -/
def vfsCreatesSpec : ChangeSpec := { name := "vfsCreates", fn := fun _ => fun
  | [d1, d2, d3] => { results := [.lit (.bool true)], args := [d1, d2, d3] }
  | _ => none }
def vfsCreatesRow : OpenClaim := { program := "ytenencpnnjacdaa", sum := "f6d3ad6ff16aefaf406286a40adda9bb7782bdac524212fa1dc8dae4947232da", func := "varve/varvelaw16.VfsCreates", spec := "vfsCreates", unfollowed := true, recurses := true, apart := false }
def VfsCreatesSaid : Prop := vfsCreatesRow.holds Try.pinned (OpenSpec.ofChange vfsCreatesSpec)

/-- ITS FALSE NEIGHBOUR: 'it returns false'. Refute it at one input. -/
def vfsCreatesWrong : ChangeSpec := { name := "vfsCreates", fn := fun _ => fun
  | [d1, d2, d3] => { results := [.lit (.bool false)], args := [d1, d2, d3] }
  | _ => none }
def VfsCreatesWrongFalsely : Prop := vfsCreatesRow.holds Try.pinned (OpenSpec.ofChange vfsCreatesWrong)

/-- 'varvelaw16.VfsCuts': WHATEVER THE INPUT: true; the input reads as it did. -/
def vfsCutsSpec : ChangeSpec := { name := "vfsCuts", fn := fun _ => fun
  | [d1, d2, d3, d4] => { results := [.lit (.bool true)], args := [d1, d2, d3, d4] }
  | _ => none }
def vfsCutsRow : OpenClaim := { program := "ytenencpnnjacdaa", sum := "f6d3ad6ff16aefaf406286a40adda9bb7782bdac524212fa1dc8dae4947232da", func := "varve/varvelaw16.VfsCuts", spec := "vfsCuts", unfollowed := true, recurses := true, apart := false }
def VfsCutsSaid : Prop := vfsCutsRow.holds Try.pinned (OpenSpec.ofChange vfsCutsSpec)

/-- ITS FALSE NEIGHBOUR: 'it returns false'. Refute it at one input. -/
def vfsCutsWrong : ChangeSpec := { name := "vfsCuts", fn := fun _ => fun
  | [d1, d2, d3, d4] => { results := [.lit (.bool false)], args := [d1, d2, d3, d4] }
  | _ => none }
def VfsCutsWrongFalsely : Prop := vfsCutsRow.holds Try.pinned (OpenSpec.ofChange vfsCutsWrong)

/-- 'varvelaw16.VfsRenames': WHATEVER THE INPUT: true; the input reads as it did. -/
def vfsRenamesSpec : ChangeSpec := { name := "vfsRenames", fn := fun _ => fun
  | [d1, d2, d3, d4] => { results := [.lit (.bool true)], args := [d1, d2, d3, d4] }
  | _ => none }
def vfsRenamesRow : OpenClaim := { program := "ytenencpnnjacdaa", sum := "f6d3ad6ff16aefaf406286a40adda9bb7782bdac524212fa1dc8dae4947232da", func := "varve/varvelaw16.VfsRenames", spec := "vfsRenames", unfollowed := true, recurses := true, apart := false }
def VfsRenamesSaid : Prop := vfsRenamesRow.holds Try.pinned (OpenSpec.ofChange vfsRenamesSpec)

/-- ITS FALSE NEIGHBOUR: 'it returns false'. Refute it at one input. -/
def vfsRenamesWrong : ChangeSpec := { name := "vfsRenames", fn := fun _ => fun
  | [d1, d2, d3, d4] => { results := [.lit (.bool false)], args := [d1, d2, d3, d4] }
  | _ => none }
def VfsRenamesWrongFalsely : Prop := vfsRenamesRow.holds Try.pinned (OpenSpec.ofChange vfsRenamesWrong)

/-- 'varvelaw16.VfsPower': WHATEVER THE INPUT: true; the input reads as it did. -/
def vfsPowerSpec : ChangeSpec := { name := "vfsPower", fn := fun _ => fun
  | [d1, d2, d3] => { results := [.lit (.bool true)], args := [d1, d2, d3] }
  | _ => none }
def vfsPowerRow : OpenClaim := { program := "ytenencpnnjacdaa", sum := "f6d3ad6ff16aefaf406286a40adda9bb7782bdac524212fa1dc8dae4947232da", func := "varve/varvelaw16.VfsPower", spec := "vfsPower", unfollowed := true, recurses := true, apart := false }
def VfsPowerSaid : Prop := vfsPowerRow.holds Try.pinned (OpenSpec.ofChange vfsPowerSpec)

/-- ITS FALSE NEIGHBOUR: 'it returns false'. Refute it at one input. -/
def vfsPowerWrong : ChangeSpec := { name := "vfsPower", fn := fun _ => fun
  | [d1, d2, d3] => { results := [.lit (.bool false)], args := [d1, d2, d3] }
  | _ => none }
def VfsPowerWrongFalsely : Prop := vfsPowerRow.holds Try.pinned (OpenSpec.ofChange vfsPowerWrong)

/- THE SECOND FORM. 'bulk': how many values and letters a reading holds, each counted each time it is reached (what is shared counts as often as it is met; a slice's spare places count too). A statement '..UptoSaid' is the law's where the arguments, and the package variables that the reading takes, are together of bulk at most 1048576: NARROWER than '..Said'. Prove '..Said' where nothing that the law and all that it calls make is longer than what came in: it says more and counts as full. Else prove '..UptoSaid'. A law counts once. -/
mutual
def uptoBulk {H : Type} : DataW H → Nat
  | .lit (.string bytes) => bytes.length + 1
  | .lit _ => 1
  | .nil => 1
  | .ptr d => uptoBulk d + 1
  | .slice elems spare => uptoBulkAll elems + uptoBulkAll spare + 1
  | .agg parts => uptoBulkAll parts + 1
  | .iface _ d => uptoBulk d + 1
  | .map entries => uptoBulkEntries entries + 1
  | .held _ => 1
def uptoBulkAll {H : Type} : List (DataW H) → Nat
  | [] => 0
  | d :: r => uptoBulk d + uptoBulkAll r
def uptoBulkEntries {H : Type} : List (Lit × DataW H) → Nat
  | [] => 0
  | x :: r => uptoBulkEntry x + uptoBulkEntries r
def uptoBulkEntry {H : Type} : Lit × DataW H → Nat
  | (.string bytes, d) => bytes.length + uptoBulk d + 1
  | (_, d) => uptoBulk d + 1
 end
def uptoSmall : (H : Type) → List (DataW H) → Bool := fun _ ds => decide (uptoBulkAll ds ≤ 1048576)
def OpenSpec.upto (s : _root_.Go.ChangeSpec) : _root_.Go.OpenSpec := { _root_.Go.OpenSpec.ofChange s with cond := some uptoSmall }

/-- 'varvelaw21.ManChecks', WHERE WHAT IT READS IS OF BULK AT MOST 1048576: true; the input reads as it did. -/
def manChecksUptoRow : OpenClaim := { program := "ytenencpnnjacdaa", sum := "f6d3ad6ff16aefaf406286a40adda9bb7782bdac524212fa1dc8dae4947232da", func := "varve/varvelaw21.ManChecks", spec := "manChecks", unfollowed := true, recurses := true, loops := true, apart := false, narrowed := true }
def ManChecksUptoSaid : Prop := manChecksUptoRow.holds Try.pinned (OpenSpec.upto manChecksSpec)

/-- 'varvelaw21.ManDecodes', WHERE WHAT IT READS IS OF BULK AT MOST 1048576: true; the input reads as it did. -/
def manDecodesUptoRow : OpenClaim := { program := "ytenencpnnjacdaa", sum := "f6d3ad6ff16aefaf406286a40adda9bb7782bdac524212fa1dc8dae4947232da", func := "varve/varvelaw21.ManDecodes", spec := "manDecodes", unfollowed := true, recurses := true, apart := false, narrowed := true }
def ManDecodesUptoSaid : Prop := manDecodesUptoRow.holds Try.pinned (OpenSpec.upto manDecodesSpec)

/-- 'varvelaw21.ManBack', WHERE WHAT IT READS IS OF BULK AT MOST 1048576: true; the input reads as it did. -/
def manBackUptoRow : OpenClaim := { program := "ytenencpnnjacdaa", sum := "f6d3ad6ff16aefaf406286a40adda9bb7782bdac524212fa1dc8dae4947232da", func := "varve/varvelaw21.ManBack", spec := "manBack", unfollowed := true, recurses := true, loops := true, apart := false, narrowed := true }
def ManBackUptoSaid : Prop := manBackUptoRow.holds Try.pinned (OpenSpec.upto manBackSpec)

/-- 'varvelaw21.ManOwn', WHERE WHAT IT READS IS OF BULK AT MOST 1048576: true; the input reads as it did. -/
def manOwnUptoRow : OpenClaim := { program := "ytenencpnnjacdaa", sum := "f6d3ad6ff16aefaf406286a40adda9bb7782bdac524212fa1dc8dae4947232da", func := "varve/varvelaw21.ManOwn", spec := "manOwn", unfollowed := true, recurses := true, loops := true, apart := false, narrowed := true }
def ManOwnUptoSaid : Prop := manOwnUptoRow.holds Try.pinned (OpenSpec.upto manOwnSpec)

/-- 'varvelaw16.VfsOnce', WHERE WHAT IT READS IS OF BULK AT MOST 1048576: true; the input reads as it did. -/
def vfsOnceUptoRow : OpenClaim := { program := "ytenencpnnjacdaa", sum := "f6d3ad6ff16aefaf406286a40adda9bb7782bdac524212fa1dc8dae4947232da", func := "varve/varvelaw16.VfsOnce", spec := "vfsOnce", unfollowed := true, recurses := true, apart := false, narrowed := true }
def VfsOnceUptoSaid : Prop := vfsOnceUptoRow.holds Try.pinned (OpenSpec.upto vfsOnceSpec)

/-- 'varvelaw16.VfsSure', WHERE WHAT IT READS IS OF BULK AT MOST 1048576: true; the input reads as it did. -/
def vfsSureUptoRow : OpenClaim := { program := "ytenencpnnjacdaa", sum := "f6d3ad6ff16aefaf406286a40adda9bb7782bdac524212fa1dc8dae4947232da", func := "varve/varvelaw16.VfsSure", spec := "vfsSure", unfollowed := true, recurses := true, apart := false, narrowed := true }
def VfsSureUptoSaid : Prop := vfsSureUptoRow.holds Try.pinned (OpenSpec.upto vfsSureSpec)

/-- 'varvelaw16.VfsCreates', WHERE WHAT IT READS IS OF BULK AT MOST 1048576: true; the input reads as it did. -/
def vfsCreatesUptoRow : OpenClaim := { program := "ytenencpnnjacdaa", sum := "f6d3ad6ff16aefaf406286a40adda9bb7782bdac524212fa1dc8dae4947232da", func := "varve/varvelaw16.VfsCreates", spec := "vfsCreates", unfollowed := true, recurses := true, apart := false, narrowed := true }
def VfsCreatesUptoSaid : Prop := vfsCreatesUptoRow.holds Try.pinned (OpenSpec.upto vfsCreatesSpec)

/-- 'varvelaw16.VfsCuts', WHERE WHAT IT READS IS OF BULK AT MOST 1048576: true; the input reads as it did. -/
def vfsCutsUptoRow : OpenClaim := { program := "ytenencpnnjacdaa", sum := "f6d3ad6ff16aefaf406286a40adda9bb7782bdac524212fa1dc8dae4947232da", func := "varve/varvelaw16.VfsCuts", spec := "vfsCuts", unfollowed := true, recurses := true, apart := false, narrowed := true }
def VfsCutsUptoSaid : Prop := vfsCutsUptoRow.holds Try.pinned (OpenSpec.upto vfsCutsSpec)

/-- 'varvelaw16.VfsRenames', WHERE WHAT IT READS IS OF BULK AT MOST 1048576: true; the input reads as it did. -/
def vfsRenamesUptoRow : OpenClaim := { program := "ytenencpnnjacdaa", sum := "f6d3ad6ff16aefaf406286a40adda9bb7782bdac524212fa1dc8dae4947232da", func := "varve/varvelaw16.VfsRenames", spec := "vfsRenames", unfollowed := true, recurses := true, apart := false, narrowed := true }
def VfsRenamesUptoSaid : Prop := vfsRenamesUptoRow.holds Try.pinned (OpenSpec.upto vfsRenamesSpec)

/-- 'varvelaw16.VfsPower', WHERE WHAT IT READS IS OF BULK AT MOST 1048576: true; the input reads as it did. -/
def vfsPowerUptoRow : OpenClaim := { program := "ytenencpnnjacdaa", sum := "f6d3ad6ff16aefaf406286a40adda9bb7782bdac524212fa1dc8dae4947232da", func := "varve/varvelaw16.VfsPower", spec := "vfsPower", unfollowed := true, recurses := true, apart := false, narrowed := true }
def VfsPowerUptoSaid : Prop := vfsPowerUptoRow.holds Try.pinned (OpenSpec.upto vfsPowerSpec)

end Rows
end Go.Proofs.Ytenencpnnjacdaa
