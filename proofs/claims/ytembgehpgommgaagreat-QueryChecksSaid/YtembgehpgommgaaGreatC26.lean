/- The law QueryChecks holds: whatever the input, the Go function returns true, and its arguments read as they did. No condition. -/
import Derived.Test.YtembgehpgommgaaGreatRows
import Derived.Test.YtembgehpgommgaaGreatC09
import Derived.Test.YtembgehpgommgaaGreatC10
import Derived.Test.YtembgehpgommgaaGreatC25
set_option linter.unusedVariables false
set_option linter.unusedSimpArgs false
namespace Go.Proofs.YtembgehpgommgaaGreat
open Go.ChangeShapes Go.WideShapes Go.ChangeAt Go.RowKit

set_option maxHeartbeats 800000 in
set_option maxRecDepth 100000 in
theorem queryChecks_lifted (os : Os) (started : os.Started) (H : Type) (enc : TypeId × Value → H) :
    ReturnsInHanded {} Tryz.checked os 3 .any (Rows.queryChecksSpec.pre6 enc Tryz.prog Tryz.f3 Rows.queryChecksRow.domain false) (Rows.queryChecksSpec.post enc Tryz.prog Tryz.f3 false true false false) := by
  refine returnsInHanded_of_change_sized (C := Tryz.checked) own started (by kernel_rfl) Tryz.func3
    (ChangeSpec.witness6 (enc := enc) (C := Tryz.checked) false ⟨#[], #[.agg #[.int .i64 0, .int .i64 0, .int .i64 0, .int .i64 0, .int .i64 0], .int .i64 0, .agg #[.int .i64 0, .string ⟨#[]⟩, .string ⟨#[]⟩, .slice none 0 0, .slice none 0 0, .int .i64 0, .int .i64 0, .int .i64 0, .int .i64 0, .int .u64 0, .int .u64 0]], []⟩ 8 (by kernel_rfl) (by kernel_rfl) (by kernel_rfl) (by kernel_rfl)) ?_
  intro W base args ds gs before hval0 hW _ hsz _
  have hval : ∀ (j : Nat) t v, Tryz.f3.params[j]? = some t → args[j]? = some v → Value.okWide Tryz.prog W .any base t v := hval0
  have hW' := hW
  obtain ⟨p, q, hA0, hV, rfl, _, _⟩ := hW
  have hA : DataW.TrodAll enc Tryz.prog W 0 (fun _ => true) true Tryz.f3.params.toList args.toList ds p := hA0
  rw [Tryz.params3] at hA hval
  obtain ⟨v0, v1, v2, d0, d1, d2, p0, p1, p2, rfl, rfl, rfl, h0, h1, h2⟩ := trodAll_three hA
  obtain ⟨rfl, rfl⟩ := trodVars_none hV
  clear hA0 hval0
  simp only [List.append_nil] at hW'
  have hlt0 : ∀ x ∈ p0, x.block < W.heap.size := fun x hx => by simpa using hW'.lt x (by simp [hx])
  have hlt1 : ∀ x ∈ p1, x.block < W.heap.size := fun x hx => by simpa using hW'.lt x (by simp [hx])
  have hlt2 : ∀ x ∈ p2, x.block < W.heap.size := fun x hx => by simpa using hW'.lt x (by simp [hx])
  have harg0 : ∀ W' : World, Below W.heap.size W W' → DataW.Trod enc Tryz.prog W' 0 (fun b => decide (b < W.heap.size)) true 24 v0 d0 p0 := fun W' hb =>
    Below.trod laidOut (by kernel_rfl) (of_decide_eq_true (by kernel_rfl)) h0 hb hlt0
  have harg1 : ∀ W' : World, Below W.heap.size W W' → DataW.Trod enc Tryz.prog W' 0 (fun b => decide (b < W.heap.size)) true 3 v1 d1 p1 := fun W' hb =>
    Below.trod laidOut (by kernel_rfl) (of_decide_eq_true (by kernel_rfl)) h1 hb hlt1
  have harg2 : ∀ W' : World, Below W.heap.size W W' → DataW.Trod enc Tryz.prog W' 0 (fun b => decide (b < W.heap.size)) true 31 v2 d2 p2 := fun W' hb =>
    Below.trod laidOut (by kernel_rfl) (of_decide_eq_true (by kernel_rfl)) h2 hb hlt2
  obtain ⟨c0, rfl, _⟩ := okWide_struct Tryz.underlying24 (hval 0 24 v0 rfl rfl)
  obtain ⟨l0, rfl⟩ : ∃ l : List Value, c0 = l.toArray := ⟨c0.toList, by simp⟩
  obtain ⟨c, hc0⟩ := opened (n := 5) (A := ConfW) (fun f => opens_conf f) h0 0 hsz rfl rfl
  have hc : ConfW (snap W) l0 c := by simpa [Value.cells] using hc0
  obtain ⟨now, rfl, rfl, rfl, wnow⟩ := open_int Tryz.underlying3 (hval 1 3 v1 rfl rfl) h1
  have bnow := bounds_i64 wnow
  obtain ⟨c2, rfl, _⟩ := okWide_struct Tryz.underlying31 (hval 2 31 v2 rfl rfl)
  obtain ⟨l2, rfl⟩ : ∃ l : List Value, c2 = l.toArray := ⟨c2.toList, by simp⟩
  obtain ⟨a, ha0⟩ := opened (n := 11) (A := AskW) (fun f => opens_ask f) h2 2 hsz rfl rfl
  have ha : AskW (snap W) l2 a := by simpa [Value.cells] using ha0
  refine (queryChecks_walk hc ha W (snap_sim W)).mono ?_
  rintro e W' ⟨st', hs, rfl⟩
  refine ⟨_, rfl, _, _, _, [], _, [], hW', ?_, trodAll_mk3 (harg0 W' hs.below) (harg1 W' hs.below) (harg2 W' hs.below), rfl, hs.below.frame _, fun h => by cases h⟩
  exact trodAll_mk1 (shut_bool Tryz.underlying4 _)

theorem queryChecks_c1 : laidOutB Tryz.prog = true := by kernel_rfl
theorem queryChecks_c2 : mapsRowed Tryz.prog = true := by kernel_rfl
theorem queryChecks_c3 : (Rows.queryChecksRow.inPlace == Tryz.prog.inPlace 3) = true := by kernel_rfl
theorem queryChecks_c4 : (Rows.queryChecksRow.unfollowed == Tryz.prog.unfollowed 3) = true := by kernel_rfl
theorem queryChecks_c5 : (Rows.queryChecksRow.recurses == Tryz.prog.recurses 3) = true := by kernel_rfl
theorem queryChecks_c6 : (Rows.queryChecksRow.named == Tryz.prog.varsNamed 3) = true := by kernel_rfl
theorem queryChecks_closed : joinedFacts Tryz.prog 3 Tryz.f3 Rows.queryChecksSpec Rows.queryChecksRow = true := by
  unfold joinedFacts
  rw [queryChecks_c1, queryChecks_c2, queryChecks_c3, queryChecks_c4, queryChecks_c5, queryChecks_c6]
  kernel_rfl
theorem queryChecks_holds : Rows.QueryChecksSaid :=
  OpenClaim.holds_of_wide 3 Tryz.f3 rfl rfl rfl rfl rfl rfl rfl ⟨rfl, rfl, rfl, rfl, rfl⟩ rfl rfl rfl rfl rfl (by kernel_rfl) Tryz.func3 queryChecks_closed
    (of_decide_eq_true (by kernel_rfl)) (by unfold Func.isWrapper; first | (rw [if_pos (by decide +kernel)]; kernel_rfl) | (rw [if_neg (by decide +kernel)]; exact ⟨rfl, rfl⟩))
    (fun os started H enc _ => queryChecks_lifted os started H enc)
#print axioms queryChecks_holds
end Go.Proofs.YtembgehpgommgaaGreat
