/- The law WalTorn holds: whatever the input, the Go function returns true, and its arguments read as they did. No condition. -/
import Derived.Test.YtadgciaclhjjkaaGreatRows
import Derived.Test.YtadgciaclhjjkaaGreatC08
import Derived.Test.YtadgciaclhjjkaaGreatC46
set_option linter.unusedVariables false
set_option linter.unusedSimpArgs false
namespace Go.Proofs.YtadgciaclhjjkaaGreat
open Go.ChangeShapes Go.WideShapes Go.ChangeAt Go.RowKit

set_option maxHeartbeats 800000 in
set_option maxRecDepth 100000 in
theorem walTorn_lifted (os : Os) (started : os.Started) (H : Type) (enc : TypeId × Value → H) :
    ReturnsInHanded {} Tryz.checked os 9 .any (Rows.walTornSpec.pre6 enc Tryz.prog Tryz.f9 Rows.walTornRow.domain false) (Rows.walTornSpec.post enc Tryz.prog Tryz.f9 false true false false) := by
  refine returnsInHanded_of_change_sized (C := Tryz.checked) own started (by kernel_rfl) Tryz.func9
    (ChangeSpec.witness6 (enc := enc) (C := Tryz.checked) false ⟨#[], #[.int .i64 0, .int .i64 0], []⟩ 8 (by kernel_rfl) (by kernel_rfl) (by kernel_rfl) (by kernel_rfl)) ?_
  intro W base args ds gs before hval0 hW _ hsz _
  have hval : ∀ (j : Nat) t v, Tryz.f9.params[j]? = some t → args[j]? = some v → Value.okWide Tryz.prog W .any base t v := hval0
  have hW' := hW
  obtain ⟨p, q, hA0, hV, rfl, _, _⟩ := hW
  have hA : DataW.TrodAll enc Tryz.prog W 0 (fun _ => true) true Tryz.f9.params.toList args.toList ds p := hA0
  rw [Tryz.params9] at hA hval
  obtain ⟨v0, v1, d0, d1, p0, p1, rfl, rfl, rfl, h0, h1⟩ := trodAll_two hA
  obtain ⟨rfl, rfl⟩ := trodVars_none hV
  clear hA0 hval0
  simp only [List.append_nil] at hW'
  have hlt0 : ∀ x ∈ p0, x.block < W.heap.size := fun x hx => by simpa using hW'.lt x (by simp [hx])
  have hlt1 : ∀ x ∈ p1, x.block < W.heap.size := fun x hx => by simpa using hW'.lt x (by simp [hx])
  have harg0 : ∀ W' : World, Below W.heap.size W W' → DataW.Trod enc Tryz.prog W' 0 (fun b => decide (b < W.heap.size)) true 3 v0 d0 p0 := fun W' hb =>
    Below.trod laidOut (by kernel_rfl) (of_decide_eq_true (by kernel_rfl)) h0 hb hlt0
  have harg1 : ∀ W' : World, Below W.heap.size W W' → DataW.Trod enc Tryz.prog W' 0 (fun b => decide (b < W.heap.size)) true 3 v1 d1 p1 := fun W' hb =>
    Below.trod laidOut (by kernel_rfl) (of_decide_eq_true (by kernel_rfl)) h1 hb hlt1
  obtain ⟨n, rfl, rfl, rfl, wn⟩ := open_int Tryz.underlying3 (hval 0 3 v0 rfl rfl) h0
  have bn := bounds_i64 wn
  obtain ⟨at_, rfl, rfl, rfl, wat_⟩ := open_int Tryz.underlying3 (hval 1 3 v1 rfl rfl) h1
  have bat_ := bounds_i64 wat_
  refine (walTorn_walk W (snap_sim W)).mono ?_
  rintro e W' ⟨st', hs, rfl⟩
  refine ⟨_, rfl, _, _, _, [], _, [], hW', ?_, trodAll_mk2 (harg0 W' hs.below) (harg1 W' hs.below), rfl, hs.below.frame _, fun h => by cases h⟩
  exact trodAll_mk1 (shut_bool Tryz.underlying4 _)

theorem walTorn_c1 : laidOutB Tryz.prog = true := by kernel_rfl
theorem walTorn_c2 : mapsRowed Tryz.prog = true := by kernel_rfl
theorem walTorn_c3 : (Rows.walTornRow.inPlace == Tryz.prog.inPlace 9) = true := by kernel_rfl
theorem walTorn_c4 : (Rows.walTornRow.unfollowed == Tryz.prog.unfollowed 9) = true := by kernel_rfl
theorem walTorn_c5 : (Rows.walTornRow.recurses == Tryz.prog.recurses 9) = true := by kernel_rfl
theorem walTorn_c6 : (Rows.walTornRow.named == Tryz.prog.varsNamed 9) = true := by kernel_rfl
theorem walTorn_closed : joinedFacts Tryz.prog 9 Tryz.f9 Rows.walTornSpec Rows.walTornRow = true := by
  unfold joinedFacts
  rw [walTorn_c1, walTorn_c2, walTorn_c3, walTorn_c4, walTorn_c5, walTorn_c6]
  kernel_rfl
theorem walTorn_holds : Rows.WalTornSaid :=
  OpenClaim.holds_of_wide 9 Tryz.f9 rfl rfl rfl rfl rfl rfl rfl ⟨rfl, rfl, rfl, rfl, rfl⟩ rfl rfl rfl rfl rfl (by kernel_rfl) Tryz.func9 walTorn_closed
    (of_decide_eq_true (by kernel_rfl)) (by unfold Func.isWrapper; first | (rw [if_pos (by decide +kernel)]; kernel_rfl) | (rw [if_neg (by decide +kernel)]; exact ⟨rfl, rfl⟩))
    (fun os started H enc _ => walTorn_lifted os started H enc)
#print axioms walTorn_holds
end Go.Proofs.YtadgciaclhjjkaaGreat
