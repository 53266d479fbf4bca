/- The law QueryOnes holds: whatever the input, the Go function returns true, and its arguments read as they did. No condition. -/
import Derived.Test.YtembgehpgommgaaGreatRows
import Derived.Test.YtembgehpgommgaaGreatC09
import Derived.Test.YtembgehpgommgaaGreatC10
import Derived.Test.YtembgehpgommgaaGreatC24
import Derived.Test.YtembgehpgommgaaGreatC30
set_option linter.unusedVariables false
set_option linter.unusedSimpArgs false
namespace Go.Proofs.YtembgehpgommgaaGreat
open Go.ChangeShapes Go.WideShapes Go.ChangeAt Go.RowKit

set_option maxHeartbeats 800000 in
set_option maxRecDepth 100000 in
theorem queryOnes_lifted (os : Os) (started : os.Started) (H : Type) (enc : TypeId × Value → H) :
    ReturnsInHanded {} Tryz.checked os 4 .any (Rows.queryOnesSpec.pre6 enc Tryz.prog Tryz.f4 Rows.queryOnesRow.domain false) (Rows.queryOnesSpec.post enc Tryz.prog Tryz.f4 false true false false) := by
  refine returnsInHanded_of_change_sized (C := Tryz.checked) own started (by kernel_rfl) Tryz.func4
    (ChangeSpec.witness6 (enc := enc) (C := Tryz.checked) false ⟨#[], #[.agg #[.int .i64 0, .string ⟨#[]⟩, .string ⟨#[]⟩, .slice none 0 0, .slice none 0 0, .int .i64 0, .int .i64 0, .int .i64 0, .int .i64 0, .int .u64 0, .int .u64 0], .agg #[.slice none 0 0, .slice none 0 0, .int .u64 0, .int .u64 0, .int .u64 0, .int .u64 0]], []⟩ 8 (by kernel_rfl) (by kernel_rfl) (by kernel_rfl) (by kernel_rfl)) ?_
  intro W base args ds gs before hval0 hW _ hsz _
  have hval : ∀ (j : Nat) t v, Tryz.f4.params[j]? = some t → args[j]? = some v → Value.okWide Tryz.prog W .any base t v := hval0
  have hW' := hW
  obtain ⟨p, q, hA0, hV, rfl, _, _⟩ := hW
  have hA : DataW.TrodAll enc Tryz.prog W 0 (fun _ => true) true Tryz.f4.params.toList args.toList ds p := hA0
  rw [Tryz.params4] at hA hval
  obtain ⟨v0, v1, d0, d1, p0, p1, rfl, rfl, rfl, h0, h1⟩ := trodAll_two hA
  obtain ⟨rfl, rfl⟩ := trodVars_none hV
  clear hA0 hval0
  simp only [List.append_nil] at hW'
  have hlt0 : ∀ x ∈ p0, x.block < W.heap.size := fun x hx => by simpa using hW'.lt x (by simp [hx])
  have hlt1 : ∀ x ∈ p1, x.block < W.heap.size := fun x hx => by simpa using hW'.lt x (by simp [hx])
  have harg0 : ∀ W' : World, Below W.heap.size W W' → DataW.Trod enc Tryz.prog W' 0 (fun b => decide (b < W.heap.size)) true 31 v0 d0 p0 := fun W' hb =>
    Below.trod laidOut (by kernel_rfl) (of_decide_eq_true (by kernel_rfl)) h0 hb hlt0
  have harg1 : ∀ W' : World, Below W.heap.size W W' → DataW.Trod enc Tryz.prog W' 0 (fun b => decide (b < W.heap.size)) true 44 v1 d1 p1 := fun W' hb =>
    Below.trod laidOut (by kernel_rfl) (of_decide_eq_true (by kernel_rfl)) h1 hb hlt1
  obtain ⟨c0, rfl, _⟩ := okWide_struct Tryz.underlying31 (hval 0 31 v0 rfl rfl)
  obtain ⟨l0, rfl⟩ : ∃ l : List Value, c0 = l.toArray := ⟨c0.toList, by simp⟩
  obtain ⟨a, ha0⟩ := opened (n := 11) (A := AskW) (fun f => opens_ask f) h0 0 hsz rfl rfl
  have ha : AskW (snap W) l0 a := by simpa [Value.cells] using ha0
  obtain ⟨c1, rfl, _⟩ := okWide_struct Tryz.underlying44 (hval 1 44 v1 rfl rfl)
  obtain ⟨l1, rfl⟩ : ∃ l : List Value, c1 = l.toArray := ⟨c1.toList, by simp⟩
  obtain ⟨s, hs0⟩ := opened (n := 6) (A := SkW) (fun f => opens_sketch f) h1 1 hsz rfl rfl
  have hs : SkW (snap W) l1 s := by simpa [Value.cells] using hs0
  refine (queryOnes_walk ha hs.1 hs.2 W (snap_sim W)).mono ?_
  rintro e W' ⟨st', hs, rfl⟩
  refine ⟨_, rfl, _, _, _, [], _, [], hW', ?_, trodAll_mk2 (harg0 W' hs.below) (harg1 W' hs.below), rfl, hs.below.frame _, fun h => by cases h⟩
  exact trodAll_mk1 (shut_bool Tryz.underlying4 _)

theorem queryOnes_c1 : laidOutB Tryz.prog = true := by kernel_rfl
theorem queryOnes_c2 : mapsRowed Tryz.prog = true := by kernel_rfl
theorem queryOnes_c3 : (Rows.queryOnesRow.inPlace == Tryz.prog.inPlace 4) = true := by kernel_rfl
theorem queryOnes_c4 : (Rows.queryOnesRow.unfollowed == Tryz.prog.unfollowed 4) = true := by kernel_rfl
theorem queryOnes_c5 : (Rows.queryOnesRow.recurses == Tryz.prog.recurses 4) = true := by kernel_rfl
theorem queryOnes_c6 : (Rows.queryOnesRow.named == Tryz.prog.varsNamed 4) = true := by kernel_rfl
theorem queryOnes_closed : joinedFacts Tryz.prog 4 Tryz.f4 Rows.queryOnesSpec Rows.queryOnesRow = true := by
  unfold joinedFacts
  rw [queryOnes_c1, queryOnes_c2, queryOnes_c3, queryOnes_c4, queryOnes_c5, queryOnes_c6]
  kernel_rfl
theorem queryOnes_holds : Rows.QueryOnesSaid :=
  OpenClaim.holds_of_wide 4 Tryz.f4 rfl rfl rfl rfl rfl rfl rfl ⟨rfl, rfl, rfl, rfl, rfl⟩ rfl rfl rfl rfl rfl (by kernel_rfl) Tryz.func4 queryOnes_closed
    (of_decide_eq_true (by kernel_rfl)) (by unfold Func.isWrapper; first | (rw [if_pos (by decide +kernel)]; kernel_rfl) | (rw [if_neg (by decide +kernel)]; exact ⟨rfl, rfl⟩))
    (fun os started H enc _ => queryOnes_lifted os started H enc)
#print axioms queryOnes_holds
end Go.Proofs.YtembgehpgommgaaGreat
