/- The world as it was given, as an abstract heap that is only read; a slice of bytes that is an argument. -/
import Derived.Test.YtmgbknkjgfdllaaTab
import Derived.Test.YtmgbknkjgfdllaaSepW
import Derived.ProofKit
import Derived.OpenShut
import Derived.SizedLaws
set_option linter.unusedVariables false
set_option linter.unusedSimpArgs false
namespace Go.Proofs.Ytmgbknkjgfdllaa
open Go.ChangeShapes Go.WideShapes Go.ChangeAt Go.RowKit

theorem own : ownKnob Try.prog.godebug = none := by kernel_rfl
theorem laidOut : laidOutB Try.prog = true := by kernel_rfl
def snap (w : World) : Heap := fun k => match w.heap[k]? with
  | some (.cells cs e fr) => some (.cells false cs.toList cs.size (.ty 0))
  | _ => none
theorem snap_sim (w : World) : Sim w (snap w) w := by
  refine ⟨Below.refl _ _, fun b o hb => ?_⟩
  unfold snap at hb
  split at hb
  · rename_i cs e fr hw
    injection hb with hb; subst hb
    exact ⟨cs, e, fr, hw, rfl, List.prefix_rfl, fun h => by cases h⟩
  · cases hb
theorem snap_cell {w : World} {b off : Nat} {v : Value} (h : w.cell? ⟨b, off, none⟩ = some v) : ∃ ys n, snap w b = some (.cells false ys n (.ty 0)) ∧ ys[off]? = some v := by
  unfold World.cell? at h
  split at h
  · rename_i c e fr hw
    simp only [Option.isSome_none, Bool.false_eq_true, if_false] at h
    exact ⟨c.toList, c.size, by unfold snap; rw [hw], by simpa using h⟩
  · cases h
end Go.Proofs.Ytmgbknkjgfdllaa
