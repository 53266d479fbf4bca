/- The law ManTwice holds: whatever the input, the Go function returns true, and its arguments read as they did. No condition. -/
import Derived.Test.YtgppogppdmbgmaaGreatRows
import Derived.Test.YtgppogppdmbgmaaGreatC09
import Derived.Test.YtgppogppdmbgmaaGreatC20
import Derived.Test.YtgppogppdmbgmaaGreatC37
set_option linter.unusedVariables false
set_option linter.unusedSimpArgs false
namespace Go.Proofs.YtgppogppdmbgmaaGreat
open Go.ChangeShapes Go.WideShapes Go.ChangeAt Go.RowKit

set_option maxHeartbeats 800000 in
set_option maxRecDepth 100000 in
theorem manTwice_lifted (os : Os) (started : os.Started) (H : Type) (enc : TypeId × Value → H) :
    ReturnsInHanded {} Tryz.checked os 13 .any (Rows.manTwiceSpec.pre6 enc Tryz.prog Tryz.f13 Rows.manTwiceRow.domain false) (Rows.manTwiceSpec.post enc Tryz.prog Tryz.f13 false true false false) := by
  refine returnsInHanded_of_change_sized (C := Tryz.checked) own started (by kernel_rfl) Tryz.func13
    (ChangeSpec.witness6 (enc := enc) (C := Tryz.checked) false ⟨#[], #[.slice none 0 0], []⟩ 8 (by kernel_rfl) (by kernel_rfl) (by kernel_rfl) (by kernel_rfl)) ?_
  intro W base args ds gs before hval0 hW _ hsz _
  have hval : ∀ (j : Nat) t v, Tryz.f13.params[j]? = some t → args[j]? = some v → Value.okWide Tryz.prog W .any base t v := hval0
  have hW' := hW
  obtain ⟨p, q, hA0, hV, rfl, _, _⟩ := hW
  have hA : DataW.TrodAll enc Tryz.prog W 0 (fun _ => true) true Tryz.f13.params.toList args.toList ds p := hA0
  rw [Tryz.params13] at hA hval
  obtain ⟨v0, d0, rfl, rfl, h0⟩ := trodAll_one hA
  obtain ⟨p0, hp0⟩ : ∃ p0, p0 = p := ⟨_, rfl⟩
  subst hp0
  obtain ⟨rfl, rfl⟩ := trodVars_none hV
  clear hA0 hval0
  simp only [List.append_nil] at hW'
  have hlt0 : ∀ x ∈ p0, x.block < W.heap.size := fun x hx => by simpa using hW'.lt x (by simp [hx])
  have harg0 : ∀ W' : World, Below W.heap.size W W' → DataW.Trod enc Tryz.prog W' 0 (fun b => decide (b < W.heap.size)) true 116 v0 d0 p0 := fun W' hb =>
    Below.trod laidOut (by kernel_rfl) (of_decide_eq_true (by kernel_rfl)) h0 hb hlt0
  obtain ⟨a0, len0, cap0, rfl⟩ := okWide_slice Tryz.underlying116 (hval 0 116 v0 rfl rfl)
  obtain ⟨l, ly, ll, hl, bl, el⟩ := opened_mans h0 0 hsz rfl rfl
  subst ll
  refine (manTwice_walk (hl.toF Free.ty) (fun i m hi => (el i m hi).1) (fun m hm => fits_of (by obtain ⟨i, hi⟩ := List.mem_iff_getElem?.1 hm; exact (el i m hi).2)) bl W (snap_sim W)).mono ?_
  rintro e W' ⟨st', hs, rfl⟩
  refine ⟨_, rfl, _, _, _, [], _, [], hW', ?_, trodAll_mk1 (harg0 W' hs.below), rfl, hs.below.frame _, fun h => by cases h⟩
  exact trodAll_mk1 (shut_bool Tryz.underlying4 _)

theorem manTwice_c1 : laidOutB Tryz.prog = true := by kernel_rfl
theorem manTwice_c2 : mapsRowed Tryz.prog = true := by kernel_rfl
theorem manTwice_c3 : (Rows.manTwiceRow.inPlace == Tryz.prog.inPlace 13) = true := by kernel_rfl
theorem manTwice_c4 : (Rows.manTwiceRow.unfollowed == Tryz.prog.unfollowed 13) = true := by kernel_rfl
theorem manTwice_c5 : (Rows.manTwiceRow.recurses == Tryz.prog.recurses 13) = true := by kernel_rfl
theorem manTwice_c6 : (Rows.manTwiceRow.named == Tryz.prog.varsNamed 13) = true := by kernel_rfl
theorem manTwice_closed : joinedFacts Tryz.prog 13 Tryz.f13 Rows.manTwiceSpec Rows.manTwiceRow = true := by
  unfold joinedFacts
  rw [manTwice_c1, manTwice_c2, manTwice_c3, manTwice_c4, manTwice_c5, manTwice_c6]
  kernel_rfl
theorem manTwice_holds : Rows.ManTwiceSaid :=
  OpenClaim.holds_of_wide 13 Tryz.f13 rfl rfl rfl rfl rfl rfl rfl ⟨rfl, rfl, rfl, rfl, rfl⟩ rfl rfl rfl rfl rfl (by kernel_rfl) Tryz.func13 manTwice_closed
    (of_decide_eq_true (by kernel_rfl)) (by unfold Func.isWrapper; first | (rw [if_pos (by decide +kernel)]; kernel_rfl) | (rw [if_neg (by decide +kernel)]; exact ⟨rfl, rfl⟩))
    (fun os started H enc _ => manTwice_lifted os started H enc)
#print axioms manTwice_holds
end Go.Proofs.YtgppogppdmbgmaaGreat
