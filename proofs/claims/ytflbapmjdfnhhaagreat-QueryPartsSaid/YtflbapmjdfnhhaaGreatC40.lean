/- The law QueryParts holds: whatever the input, the Go function returns true, and its arguments read as they did. No condition. -/
import Derived.Test.YtflbapmjdfnhhaaGreatRows
import Derived.Test.YtflbapmjdfnhhaaGreatC09
import Derived.Test.YtflbapmjdfnhhaaGreatC10
import Derived.Test.YtflbapmjdfnhhaaGreatC22
import Derived.Test.YtflbapmjdfnhhaaGreatC31
import Derived.Test.YtflbapmjdfnhhaaGreatC39
set_option linter.unusedVariables false
set_option linter.unusedSimpArgs false
namespace Go.Proofs.YtflbapmjdfnhhaaGreat
open Go.ChangeShapes Go.WideShapes Go.ChangeAt Go.RowKit

set_option maxHeartbeats 800000 in
set_option maxRecDepth 100000 in
theorem queryParts_lifted (os : Os) (started : os.Started) (H : Type) (enc : TypeId × Value → H) :
    ReturnsInHanded {} Tryz.checked os 7 .any (Rows.queryPartsSpec.pre6 enc Tryz.prog Tryz.f7 Rows.queryPartsRow.domain false) (Rows.queryPartsSpec.post enc Tryz.prog Tryz.f7 false true false false) := by
  refine returnsInHanded_of_change_sized (C := Tryz.checked) own started (by kernel_rfl) Tryz.func7
    (ChangeSpec.witness6 (enc := enc) (C := Tryz.checked) false ⟨#[], #[.slice none 0 0, .int .i64 0, .int .i64 0], []⟩ 8 (by kernel_rfl) (by kernel_rfl) (by kernel_rfl) (by kernel_rfl)) ?_
  intro W base args ds gs before hval0 hW _ hsz _
  have hval : ∀ (j : Nat) t v, Tryz.f7.params[j]? = some t → args[j]? = some v → Value.okWide Tryz.prog W .any base t v := hval0
  have hW' := hW
  obtain ⟨p, q, hA0, hV, rfl, _, _⟩ := hW
  have hA : DataW.TrodAll enc Tryz.prog W 0 (fun _ => true) true Tryz.f7.params.toList args.toList ds p := hA0
  rw [Tryz.params7] at hA hval
  obtain ⟨v0, v1, v2, d0, d1, d2, p0, p1, p2, rfl, rfl, rfl, h0, h1, h2⟩ := trodAll_three hA
  obtain ⟨rfl, rfl⟩ := trodVars_none hV
  clear hA0 hval0
  simp only [List.append_nil] at hW'
  have hlt0 : ∀ x ∈ p0, x.block < W.heap.size := fun x hx => by simpa using hW'.lt x (by simp [hx])
  have hlt1 : ∀ x ∈ p1, x.block < W.heap.size := fun x hx => by simpa using hW'.lt x (by simp [hx])
  have hlt2 : ∀ x ∈ p2, x.block < W.heap.size := fun x hx => by simpa using hW'.lt x (by simp [hx])
  have harg0 : ∀ W' : World, Below W.heap.size W W' → DataW.Trod enc Tryz.prog W' 0 (fun b => decide (b < W.heap.size)) true 29 v0 d0 p0 := fun W' hb =>
    Below.trod laidOut (by kernel_rfl) (of_decide_eq_true (by kernel_rfl)) h0 hb hlt0
  have harg1 : ∀ W' : World, Below W.heap.size W W' → DataW.Trod enc Tryz.prog W' 0 (fun b => decide (b < W.heap.size)) true 3 v1 d1 p1 := fun W' hb =>
    Below.trod laidOut (by kernel_rfl) (of_decide_eq_true (by kernel_rfl)) h1 hb hlt1
  have harg2 : ∀ W' : World, Below W.heap.size W W' → DataW.Trod enc Tryz.prog W' 0 (fun b => decide (b < W.heap.size)) true 3 v2 d2 p2 := fun W' hb =>
    Below.trod laidOut (by kernel_rfl) (of_decide_eq_true (by kernel_rfl)) h2 hb hlt2
  obtain ⟨a0, len0, cap0, rfl⟩ := okWide_slice Tryz.underlying29 (hval 0 29 v0 rfl rfl)
  obtain ⟨rows, lrows, hrows, brows, erows⟩ := opened_rows h0 0 hsz rfl rfl
  subst lrows
  obtain ⟨at_, rfl, rfl, rfl, wat_⟩ := open_int Tryz.underlying3 (hval 1 3 v1 rfl rfl) h1
  have bat_ := bounds_i64 wat_
  obtain ⟨step, rfl, rfl, rfl, wstep⟩ := open_int Tryz.underlying3 (hval 2 3 v2 rfl rfl) h2
  have bstep := bounds_i64 wstep
  refine (queryParts_walk hrows brows erows (by omega) (by omega) W (snap_sim W)).mono ?_
  rintro e W' ⟨st', hs, rfl⟩
  refine ⟨_, rfl, _, _, _, [], _, [], hW', ?_, trodAll_mk3 (harg0 W' hs.below) (harg1 W' hs.below) (harg2 W' hs.below), rfl, hs.below.frame _, fun h => by cases h⟩
  exact trodAll_mk1 (shut_bool Tryz.underlying4 _)

theorem queryParts_c1 : laidOutB Tryz.prog = true := by kernel_rfl
theorem queryParts_c2 : mapsRowed Tryz.prog = true := by kernel_rfl
theorem queryParts_c3 : (Rows.queryPartsRow.inPlace == Tryz.prog.inPlace 7) = true := by kernel_rfl
theorem queryParts_c4 : (Rows.queryPartsRow.unfollowed == Tryz.prog.unfollowed 7) = true := by kernel_rfl
theorem queryParts_c5 : (Rows.queryPartsRow.recurses == Tryz.prog.recurses 7) = true := by kernel_rfl
theorem queryParts_c6 : (Rows.queryPartsRow.named == Tryz.prog.varsNamed 7) = true := by kernel_rfl
theorem queryParts_closed : joinedFacts Tryz.prog 7 Tryz.f7 Rows.queryPartsSpec Rows.queryPartsRow = true := by
  unfold joinedFacts
  rw [queryParts_c1, queryParts_c2, queryParts_c3, queryParts_c4, queryParts_c5, queryParts_c6]
  kernel_rfl
theorem queryParts_holds : Rows.QueryPartsSaid :=
  OpenClaim.holds_of_wide 7 Tryz.f7 rfl rfl rfl rfl rfl rfl rfl ⟨rfl, rfl, rfl, rfl, rfl⟩ rfl rfl rfl rfl rfl (by kernel_rfl) Tryz.func7 queryParts_closed
    (of_decide_eq_true (by kernel_rfl)) (by unfold Func.isWrapper; first | (rw [if_pos (by decide +kernel)]; kernel_rfl) | (rw [if_neg (by decide +kernel)]; exact ⟨rfl, rfl⟩))
    (fun os started H enc _ => queryParts_lifted os started H enc)
#print axioms queryParts_holds
end Go.Proofs.YtflbapmjdfnhhaaGreat
