/- The law QueryAnswers holds: whatever the input, the Go function returns true, and its arguments read as they did. No condition. -/
import Derived.Test.YtflbapmjdfnhhaaGreatRows
import Derived.Test.YtflbapmjdfnhhaaGreatC09
import Derived.Test.YtflbapmjdfnhhaaGreatC10
import Derived.Test.YtflbapmjdfnhhaaGreatC26
import Derived.Test.YtflbapmjdfnhhaaGreatC35
import Derived.Test.YtflbapmjdfnhhaaGreatC46
set_option linter.unusedVariables false
set_option linter.unusedSimpArgs false
namespace Go.Proofs.YtflbapmjdfnhhaaGreat
open Go.ChangeShapes Go.WideShapes Go.ChangeAt Go.RowKit

set_option maxHeartbeats 800000 in
set_option maxRecDepth 100000 in
theorem queryAnswers_lifted (os : Os) (started : os.Started) (H : Type) (enc : TypeId × Value → H) :
    ReturnsInHanded {} Tryz.checked os 3 .any (Rows.queryAnswersSpec.pre6 enc Tryz.prog Tryz.f3 Rows.queryAnswersRow.domain false) (Rows.queryAnswersSpec.post enc Tryz.prog Tryz.f3 false true false false) := by
  refine returnsInHanded_of_change_sized (C := Tryz.checked) own started (by kernel_rfl) Tryz.func3
    (ChangeSpec.witness6 (enc := enc) (C := Tryz.checked) false ⟨#[], #[.agg #[.int .i64 0, .string ⟨#[]⟩, .string ⟨#[]⟩, .slice none 0 0, .slice none 0 0, .int .i64 0, .int .i64 0, .int .i64 0, .int .i64 0, .int .u64 0, .int .u64 0], .slice none 0 0, .int .i64 0], []⟩ 8 (by kernel_rfl) (by kernel_rfl) (by kernel_rfl) (by kernel_rfl)) ?_
  intro W base args ds gs before hval0 hW _ hsz _
  have hval : ∀ (j : Nat) t v, Tryz.f3.params[j]? = some t → args[j]? = some v → Value.okWide Tryz.prog W .any base t v := hval0
  have hW' := hW
  obtain ⟨p, q, hA0, hV, rfl, _, _⟩ := hW
  have hA : DataW.TrodAll enc Tryz.prog W 0 (fun _ => true) true Tryz.f3.params.toList args.toList ds p := hA0
  rw [Tryz.params3] at hA hval
  obtain ⟨v0, v1, v2, d0, d1, d2, p0, p1, p2, rfl, rfl, rfl, h0, h1, h2⟩ := trodAll_three hA
  obtain ⟨rfl, rfl⟩ := trodVars_none hV
  clear hA0 hval0
  simp only [List.append_nil] at hW'
  have hlt0 : ∀ x ∈ p0, x.block < W.heap.size := fun x hx => by simpa using hW'.lt x (by simp [hx])
  have hlt1 : ∀ x ∈ p1, x.block < W.heap.size := fun x hx => by simpa using hW'.lt x (by simp [hx])
  have hlt2 : ∀ x ∈ p2, x.block < W.heap.size := fun x hx => by simpa using hW'.lt x (by simp [hx])
  have harg0 : ∀ W' : World, Below W.heap.size W W' → DataW.Trod enc Tryz.prog W' 0 (fun b => decide (b < W.heap.size)) true 28 v0 d0 p0 := fun W' hb =>
    Below.trod laidOut (by kernel_rfl) (of_decide_eq_true (by kernel_rfl)) h0 hb hlt0
  have harg1 : ∀ W' : World, Below W.heap.size W W' → DataW.Trod enc Tryz.prog W' 0 (fun b => decide (b < W.heap.size)) true 29 v1 d1 p1 := fun W' hb =>
    Below.trod laidOut (by kernel_rfl) (of_decide_eq_true (by kernel_rfl)) h1 hb hlt1
  have harg2 : ∀ W' : World, Below W.heap.size W W' → DataW.Trod enc Tryz.prog W' 0 (fun b => decide (b < W.heap.size)) true 3 v2 d2 p2 := fun W' hb =>
    Below.trod laidOut (by kernel_rfl) (of_decide_eq_true (by kernel_rfl)) h2 hb hlt2
  obtain ⟨c0, rfl, _⟩ := okWide_struct Tryz.underlying28 (hval 0 28 v0 rfl rfl)
  obtain ⟨l0, rfl⟩ : ∃ l : List Value, c0 = l.toArray := ⟨c0.toList, by simp⟩
  obtain ⟨a, ha0⟩ := opened (n := 11) (A := AskW) (fun f => opens_ask f) h0 0 hsz rfl rfl
  have ha : AskW (snap W) l0 a := by simpa [Value.cells] using ha0
  obtain ⟨a1, len1, cap1, rfl⟩ := okWide_slice Tryz.underlying29 (hval 1 29 v1 rfl rfl)
  obtain ⟨rows, lrows, hrows, brows, erows⟩ := opened_rows h1 1 hsz rfl rfl
  subst lrows
  obtain ⟨most, rfl, rfl, rfl, wmost⟩ := open_int Tryz.underlying3 (hval 2 3 v2 rfl rfl) h2
  have bmost := bounds_i64 wmost
  refine (queryAnswers_walk ha hrows brows erows W (snap_sim W)).mono ?_
  rintro e W' ⟨st', hs, rfl⟩
  refine ⟨_, rfl, _, _, _, [], _, [], hW', ?_, trodAll_mk3 (harg0 W' hs.below) (harg1 W' hs.below) (harg2 W' hs.below), rfl, hs.below.frame _, fun h => by cases h⟩
  exact trodAll_mk1 (shut_bool Tryz.underlying4 _)

theorem queryAnswers_c1 : laidOutB Tryz.prog = true := by kernel_rfl
theorem queryAnswers_c2 : mapsRowed Tryz.prog = true := by kernel_rfl
theorem queryAnswers_c3 : (Rows.queryAnswersRow.inPlace == Tryz.prog.inPlace 3) = true := by kernel_rfl
theorem queryAnswers_c4 : (Rows.queryAnswersRow.unfollowed == Tryz.prog.unfollowed 3) = true := by kernel_rfl
theorem queryAnswers_c5 : (Rows.queryAnswersRow.recurses == Tryz.prog.recurses 3) = true := by kernel_rfl
theorem queryAnswers_c6 : (Rows.queryAnswersRow.named == Tryz.prog.varsNamed 3) = true := by kernel_rfl
theorem queryAnswers_closed : joinedFacts Tryz.prog 3 Tryz.f3 Rows.queryAnswersSpec Rows.queryAnswersRow = true := by
  unfold joinedFacts
  rw [queryAnswers_c1, queryAnswers_c2, queryAnswers_c3, queryAnswers_c4, queryAnswers_c5, queryAnswers_c6]
  kernel_rfl
theorem queryAnswers_holds : Rows.QueryAnswersSaid :=
  OpenClaim.holds_of_wide 3 Tryz.f3 rfl rfl rfl rfl rfl rfl rfl ⟨rfl, rfl, rfl, rfl, rfl⟩ rfl rfl rfl rfl rfl (by kernel_rfl) Tryz.func3 queryAnswers_closed
    (of_decide_eq_true (by kernel_rfl)) (by unfold Func.isWrapper; first | (rw [if_pos (by decide +kernel)]; kernel_rfl) | (rw [if_neg (by decide +kernel)]; exact ⟨rfl, rfl⟩))
    (fun os started H enc _ => queryAnswers_lifted os started H enc)
#print axioms queryAnswers_holds
end Go.Proofs.YtflbapmjdfnhhaaGreat
