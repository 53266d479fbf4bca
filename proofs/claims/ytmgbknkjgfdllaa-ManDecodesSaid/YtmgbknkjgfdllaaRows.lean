/-
  NARROWER THAN 'FOR EVERY INPUT', by the rows' own cells (each row's printed sentence says how): ManChecks: loops · ManBack: loops · ManOwn: loops.
  DERIVED. THE GIVEN ROWS OF THIS SEAT. 5 by the template 'for every input the law returns true; each argument reads behind the call as it read before'; 0 by the template 'total and deterministic' (their statements: YtmgbknkjgfdllaaTotals.lean).
  GIVEN WITH THE SEED: the statements are not yours to turn. If you find one false, say at which input.
  Laid BY PROGRAM, IN A SANDBOX (cutbox-rows.mjs): the forced cells as the released guide's own fill.sh prints them over the translation 2ead2f85712fa045… (all of the seat's roots in one cut). By AI agents, Wed Nov 11 2026. No macro, syntax, notation, axiom, sorry.
-/
import Derived.Test.YtmgbknkjgfdllaaChecked
import GoSem.Claim
import GoSem.ClaimJoined
import GoSem.ClaimMapViews
import Derived.JoinedTies
import Derived.KernelRfl
namespace Go.Proofs.Ytmgbknkjgfdllaa
/- THE CELL 'sum', in the pinned program and in every row, IS THE sha256 OF THE DUMP (.gsa) THAT YtmgbknkjgfdllaaProg.lean LOADS. Nothing in Lean hashes anything: it is a label: what it is worth is what the hold of that sum in a sandbox is worth. -/
noncomputable def Try.pinned : Pinned := { name := "ytmgbknkjgfdllaa", sum := "2ead2f85712fa0459555dc41fe1cd03c384a8a6b18e612c70a49aafaddb23776", checked := Try.checked }
namespace Rows
def none {H : Type} : Left H := { results := [], args := [] }

/-- 'varvelaw21.ManChecks': WHATEVER THE INPUT: true; the input reads as it did. -/
def manChecksSpec : ChangeSpec := { name := "manChecks", fn := fun _ => fun
  | [d] => { results := [.lit (.bool true)], args := [d] }
  | _ => none }
def manChecksRow : OpenClaim := { program := "ytmgbknkjgfdllaa", sum := "2ead2f85712fa0459555dc41fe1cd03c384a8a6b18e612c70a49aafaddb23776", func := "varve/varvelaw21.ManChecks", spec := "manChecks", unfollowed := true, recurses := true, loops := true, apart := false }
def ManChecksSaid : Prop := manChecksRow.holds Try.pinned (OpenSpec.ofChange manChecksSpec)

/-- ITS FALSE NEIGHBOUR: 'it returns false'. Refute it at one input. -/
def manChecksWrong : ChangeSpec := { name := "manChecks", fn := fun _ => fun
  | [d] => { results := [.lit (.bool false)], args := [d] }
  | _ => none }
def ManChecksWrongFalsely : Prop := manChecksRow.holds Try.pinned (OpenSpec.ofChange manChecksWrong)

/-- 'varvelaw21.ManDecodes': WHATEVER THE INPUT: true; the input reads as it did. -/
def manDecodesSpec : ChangeSpec := { name := "manDecodes", fn := fun _ => fun
  | [d] => { results := [.lit (.bool true)], args := [d] }
  | _ => none }
def manDecodesRow : OpenClaim := { program := "ytmgbknkjgfdllaa", sum := "2ead2f85712fa0459555dc41fe1cd03c384a8a6b18e612c70a49aafaddb23776", func := "varve/varvelaw21.ManDecodes", spec := "manDecodes", unfollowed := true, recurses := true, apart := false }
def ManDecodesSaid : Prop := manDecodesRow.holds Try.pinned (OpenSpec.ofChange manDecodesSpec)

/-- ITS FALSE NEIGHBOUR: 'it returns false'. Refute it at one input. -/
def manDecodesWrong : ChangeSpec := { name := "manDecodes", fn := fun _ => fun
  | [d] => { results := [.lit (.bool false)], args := [d] }
  | _ => none }
def ManDecodesWrongFalsely : Prop := manDecodesRow.holds Try.pinned (OpenSpec.ofChange manDecodesWrong)

/-- 'varvelaw21.ManBack': WHATEVER THE INPUT: true; the input reads as it did. -/
def manBackSpec : ChangeSpec := { name := "manBack", fn := fun _ => fun
  | [d1, d2, d3] => { results := [.lit (.bool true)], args := [d1, d2, d3] }
  | _ => none }
def manBackRow : OpenClaim := { program := "ytmgbknkjgfdllaa", sum := "2ead2f85712fa0459555dc41fe1cd03c384a8a6b18e612c70a49aafaddb23776", func := "varve/varvelaw21.ManBack", spec := "manBack", unfollowed := true, recurses := true, loops := true, apart := false }
def ManBackSaid : Prop := manBackRow.holds Try.pinned (OpenSpec.ofChange manBackSpec)

/-- ITS FALSE NEIGHBOUR: 'it returns false'. Refute it at one input. -/
def manBackWrong : ChangeSpec := { name := "manBack", fn := fun _ => fun
  | [d1, d2, d3] => { results := [.lit (.bool false)], args := [d1, d2, d3] }
  | _ => none }
def ManBackWrongFalsely : Prop := manBackRow.holds Try.pinned (OpenSpec.ofChange manBackWrong)

/-- 'varvelaw21.ManOwn': WHATEVER THE INPUT: true; the input reads as it did. -/
def manOwnSpec : ChangeSpec := { name := "manOwn", fn := fun _ => fun
  | [d] => { results := [.lit (.bool true)], args := [d] }
  | _ => none }
def manOwnRow : OpenClaim := { program := "ytmgbknkjgfdllaa", sum := "2ead2f85712fa0459555dc41fe1cd03c384a8a6b18e612c70a49aafaddb23776", func := "varve/varvelaw21.ManOwn", spec := "manOwn", unfollowed := true, recurses := true, loops := true, apart := false }
def ManOwnSaid : Prop := manOwnRow.holds Try.pinned (OpenSpec.ofChange manOwnSpec)

/-- ITS FALSE NEIGHBOUR: 'it returns false'. Refute it at one input. -/
def manOwnWrong : ChangeSpec := { name := "manOwn", fn := fun _ => fun
  | [d] => { results := [.lit (.bool false)], args := [d] }
  | _ => none }
def ManOwnWrongFalsely : Prop := manOwnRow.holds Try.pinned (OpenSpec.ofChange manOwnWrong)

/-- 'varvelaw16.VfsPower': WHATEVER THE INPUT: true; the input reads as it did. -/
def vfsPowerSpec : ChangeSpec := { name := "vfsPower", fn := fun _ => fun
  | [d1, d2, d3] => { results := [.lit (.bool true)], args := [d1, d2, d3] }
  | _ => none }
def vfsPowerRow : OpenClaim := { program := "ytmgbknkjgfdllaa", sum := "2ead2f85712fa0459555dc41fe1cd03c384a8a6b18e612c70a49aafaddb23776", func := "varve/varvelaw16.VfsPower", spec := "vfsPower", unfollowed := true, recurses := true, apart := false }
def VfsPowerSaid : Prop := vfsPowerRow.holds Try.pinned (OpenSpec.ofChange vfsPowerSpec)

/-- ITS FALSE NEIGHBOUR: 'it returns false'. Refute it at one input. -/
def vfsPowerWrong : ChangeSpec := { name := "vfsPower", fn := fun _ => fun
  | [d1, d2, d3] => { results := [.lit (.bool false)], args := [d1, d2, d3] }
  | _ => none }
def VfsPowerWrongFalsely : Prop := vfsPowerRow.holds Try.pinned (OpenSpec.ofChange vfsPowerWrong)

/- THE SECOND FORM. 'bulk': how many values and letters a reading holds, each counted each time it is reached (what is shared counts as often as it is met; a slice's spare places count too). A statement '..UptoSaid' is the law's where the arguments, and the package variables that the reading takes, are together of bulk at most 1048576: NARROWER than '..Said'. Prove '..Said' where nothing that the law and all that it calls make is longer than what came in: it says more and counts as full. Else prove '..UptoSaid'. A law counts once. -/
mutual
def uptoBulk {H : Type} : DataW H → Nat
  | .lit (.string bytes) => bytes.length + 1
  | .lit _ => 1
  | .nil => 1
  | .ptr d => uptoBulk d + 1
  | .slice elems spare => uptoBulkAll elems + uptoBulkAll spare + 1
  | .agg parts => uptoBulkAll parts + 1
  | .iface _ d => uptoBulk d + 1
  | .map entries => uptoBulkEntries entries + 1
  | .held _ => 1
def uptoBulkAll {H : Type} : List (DataW H) → Nat
  | [] => 0
  | d :: r => uptoBulk d + uptoBulkAll r
def uptoBulkEntries {H : Type} : List (Lit × DataW H) → Nat
  | [] => 0
  | x :: r => uptoBulkEntry x + uptoBulkEntries r
def uptoBulkEntry {H : Type} : Lit × DataW H → Nat
  | (.string bytes, d) => bytes.length + uptoBulk d + 1
  | (_, d) => uptoBulk d + 1
 end
def uptoSmall : (H : Type) → List (DataW H) → Bool := fun _ ds => decide (uptoBulkAll ds ≤ 1048576)
def OpenSpec.upto (s : _root_.Go.ChangeSpec) : _root_.Go.OpenSpec := { _root_.Go.OpenSpec.ofChange s with cond := some uptoSmall }

/-- 'varvelaw21.ManChecks', WHERE WHAT IT READS IS OF BULK AT MOST 1048576: true; the input reads as it did. -/
def manChecksUptoRow : OpenClaim := { program := "ytmgbknkjgfdllaa", sum := "2ead2f85712fa0459555dc41fe1cd03c384a8a6b18e612c70a49aafaddb23776", func := "varve/varvelaw21.ManChecks", spec := "manChecks", unfollowed := true, recurses := true, loops := true, apart := false, narrowed := true }
def ManChecksUptoSaid : Prop := manChecksUptoRow.holds Try.pinned (OpenSpec.upto manChecksSpec)

/-- 'varvelaw21.ManDecodes', WHERE WHAT IT READS IS OF BULK AT MOST 1048576: true; the input reads as it did. -/
def manDecodesUptoRow : OpenClaim := { program := "ytmgbknkjgfdllaa", sum := "2ead2f85712fa0459555dc41fe1cd03c384a8a6b18e612c70a49aafaddb23776", func := "varve/varvelaw21.ManDecodes", spec := "manDecodes", unfollowed := true, recurses := true, apart := false, narrowed := true }
def ManDecodesUptoSaid : Prop := manDecodesUptoRow.holds Try.pinned (OpenSpec.upto manDecodesSpec)

/-- 'varvelaw21.ManBack', WHERE WHAT IT READS IS OF BULK AT MOST 1048576: true; the input reads as it did. -/
def manBackUptoRow : OpenClaim := { program := "ytmgbknkjgfdllaa", sum := "2ead2f85712fa0459555dc41fe1cd03c384a8a6b18e612c70a49aafaddb23776", func := "varve/varvelaw21.ManBack", spec := "manBack", unfollowed := true, recurses := true, loops := true, apart := false, narrowed := true }
def ManBackUptoSaid : Prop := manBackUptoRow.holds Try.pinned (OpenSpec.upto manBackSpec)

/-- 'varvelaw21.ManOwn', WHERE WHAT IT READS IS OF BULK AT MOST 1048576: true; the input reads as it did. -/
def manOwnUptoRow : OpenClaim := { program := "ytmgbknkjgfdllaa", sum := "2ead2f85712fa0459555dc41fe1cd03c384a8a6b18e612c70a49aafaddb23776", func := "varve/varvelaw21.ManOwn", spec := "manOwn", unfollowed := true, recurses := true, loops := true, apart := false, narrowed := true }
def ManOwnUptoSaid : Prop := manOwnUptoRow.holds Try.pinned (OpenSpec.upto manOwnSpec)

/-- 'varvelaw16.VfsPower', WHERE WHAT IT READS IS OF BULK AT MOST 1048576: true; the input reads as it did. -/
def vfsPowerUptoRow : OpenClaim := { program := "ytmgbknkjgfdllaa", sum := "2ead2f85712fa0459555dc41fe1cd03c384a8a6b18e612c70a49aafaddb23776", func := "varve/varvelaw16.VfsPower", spec := "vfsPower", unfollowed := true, recurses := true, apart := false, narrowed := true }
def VfsPowerUptoSaid : Prop := vfsPowerUptoRow.holds Try.pinned (OpenSpec.upto vfsPowerSpec)

end Rows
end Go.Proofs.Ytmgbknkjgfdllaa
