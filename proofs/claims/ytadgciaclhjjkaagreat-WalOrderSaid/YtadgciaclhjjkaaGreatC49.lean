/- The law WalOrder holds: whatever the input, the Go function returns true, and its arguments read as they did. No condition. -/
import Derived.Test.YtadgciaclhjjkaaGreatRows
import Derived.Test.YtadgciaclhjjkaaGreatC08
import Derived.Test.YtadgciaclhjjkaaGreatC48
set_option linter.unusedVariables false
set_option linter.unusedSimpArgs false
namespace Go.Proofs.YtadgciaclhjjkaaGreat
open Go.ChangeShapes Go.WideShapes Go.ChangeAt Go.RowKit

set_option maxHeartbeats 800000 in
set_option maxRecDepth 100000 in
theorem walOrder_lifted (os : Os) (started : os.Started) (H : Type) (enc : TypeId × Value → H) :
    ReturnsInHanded {} Tryz.checked os 6 .any (Rows.walOrderSpec.pre6 enc Tryz.prog Tryz.f6 Rows.walOrderRow.domain false) (Rows.walOrderSpec.post enc Tryz.prog Tryz.f6 false true false false) := by
  refine returnsInHanded_of_change_sized (C := Tryz.checked) own started (by kernel_rfl) Tryz.func6
    (ChangeSpec.witness6 (enc := enc) (C := Tryz.checked) false ⟨#[], #[.int .i64 0, .slice none 0 0], []⟩ 8 (by kernel_rfl) (by kernel_rfl) (by kernel_rfl) (by kernel_rfl)) ?_
  intro W base args ds gs before hval0 hW _ hsz _
  have hval : ∀ (j : Nat) t v, Tryz.f6.params[j]? = some t → args[j]? = some v → Value.okWide Tryz.prog W .any base t v := hval0
  have hW' := hW
  obtain ⟨p, q, hA0, hV, rfl, _, _⟩ := hW
  have hA : DataW.TrodAll enc Tryz.prog W 0 (fun _ => true) true Tryz.f6.params.toList args.toList ds p := hA0
  rw [Tryz.params6] at hA hval
  obtain ⟨v0, v1, d0, d1, p0, p1, rfl, rfl, rfl, h0, h1⟩ := trodAll_two hA
  obtain ⟨rfl, rfl⟩ := trodVars_none hV
  clear hA0 hval0
  simp only [List.append_nil] at hW'
  have hlt0 : ∀ x ∈ p0, x.block < W.heap.size := fun x hx => by simpa using hW'.lt x (by simp [hx])
  have hlt1 : ∀ x ∈ p1, x.block < W.heap.size := fun x hx => by simpa using hW'.lt x (by simp [hx])
  have harg0 : ∀ W' : World, Below W.heap.size W W' → DataW.Trod enc Tryz.prog W' 0 (fun b => decide (b < W.heap.size)) true 3 v0 d0 p0 := fun W' hb =>
    Below.trod laidOut (by kernel_rfl) (of_decide_eq_true (by kernel_rfl)) h0 hb hlt0
  have harg1 : ∀ W' : World, Below W.heap.size W W' → DataW.Trod enc Tryz.prog W' 0 (fun b => decide (b < W.heap.size)) true 74 v1 d1 p1 := fun W' hb =>
    Below.trod laidOut (by kernel_rfl) (of_decide_eq_true (by kernel_rfl)) h1 hb hlt1
  obtain ⟨n, rfl, rfl, rfl, wn⟩ := open_int Tryz.underlying3 (hval 0 3 v0 rfl rfl) h0
  have bn := bounds_i64 wn
  obtain ⟨a1, len1, cap1, rfl⟩ := okWide_slice Tryz.underlying74 (hval 1 74 v1 rfl rfl)
  obtain ⟨turns, lturns, hturns, bturns⟩ := opened_bools h1 1 hsz rfl rfl
  subst lturns
  refine (walOrder_walk hturns bturns W (snap_sim W)).mono ?_
  rintro e W' ⟨st', hs, rfl⟩
  refine ⟨_, rfl, _, _, _, [], _, [], hW', ?_, trodAll_mk2 (harg0 W' hs.below) (harg1 W' hs.below), rfl, hs.below.frame _, fun h => by cases h⟩
  exact trodAll_mk1 (shut_bool Tryz.underlying4 _)

theorem walOrder_c1 : laidOutB Tryz.prog = true := by kernel_rfl
theorem walOrder_c2 : mapsRowed Tryz.prog = true := by kernel_rfl
theorem walOrder_c3 : (Rows.walOrderRow.inPlace == Tryz.prog.inPlace 6) = true := by kernel_rfl
theorem walOrder_c4 : (Rows.walOrderRow.unfollowed == Tryz.prog.unfollowed 6) = true := by kernel_rfl
theorem walOrder_c5 : (Rows.walOrderRow.recurses == Tryz.prog.recurses 6) = true := by kernel_rfl
theorem walOrder_c6 : (Rows.walOrderRow.named == Tryz.prog.varsNamed 6) = true := by kernel_rfl
theorem walOrder_closed : joinedFacts Tryz.prog 6 Tryz.f6 Rows.walOrderSpec Rows.walOrderRow = true := by
  unfold joinedFacts
  rw [walOrder_c1, walOrder_c2, walOrder_c3, walOrder_c4, walOrder_c5, walOrder_c6]
  kernel_rfl
theorem walOrder_holds : Rows.WalOrderSaid :=
  OpenClaim.holds_of_wide 6 Tryz.f6 rfl rfl rfl rfl rfl rfl rfl ⟨rfl, rfl, rfl, rfl, rfl⟩ rfl rfl rfl rfl rfl (by kernel_rfl) Tryz.func6 walOrder_closed
    (of_decide_eq_true (by kernel_rfl)) (by unfold Func.isWrapper; first | (rw [if_pos (by decide +kernel)]; kernel_rfl) | (rw [if_neg (by decide +kernel)]; exact ⟨rfl, rfl⟩))
    (fun os started H enc _ => walOrder_lifted os started H enc)
#print axioms walOrder_holds
end Go.Proofs.YtadgciaclhjjkaaGreat
