/- The law QueryFloats holds: whatever the input, the Go function returns true, and its arguments read as they did. No condition. -/
import Derived.Test.YtembgehpgommgaaGreatRows
import Derived.Test.YtembgehpgommgaaGreatC09
import Derived.Test.YtembgehpgommgaaGreatC10
import Derived.Test.YtembgehpgommgaaGreatC22
import Derived.Test.YtembgehpgommgaaGreatC35
set_option linter.unusedVariables false
set_option linter.unusedSimpArgs false
namespace Go.Proofs.YtembgehpgommgaaGreat
open Go.ChangeShapes Go.WideShapes Go.ChangeAt Go.RowKit

set_option maxHeartbeats 800000 in
set_option maxRecDepth 100000 in
theorem queryFloats_lifted (os : Os) (started : os.Started) (H : Type) (enc : TypeId × Value → H) :
    ReturnsInHanded {} Tryz.checked os 9 .any (Rows.queryFloatsSpec.pre6 enc Tryz.prog Tryz.f9 Rows.queryFloatsRow.domain false) (Rows.queryFloatsSpec.post enc Tryz.prog Tryz.f9 false true false false) := by
  refine returnsInHanded_of_change_sized (C := Tryz.checked) own started (by kernel_rfl) Tryz.func9
    (ChangeSpec.witness6 (enc := enc) (C := Tryz.checked) false ⟨#[], #[.slice none 0 0, .slice none 0 0, .int .i64 0], []⟩ 8 (by kernel_rfl) (by kernel_rfl) (by kernel_rfl) (by kernel_rfl)) ?_
  intro W base args ds gs before hval0 hW _ hsz _
  have hval : ∀ (j : Nat) t v, Tryz.f9.params[j]? = some t → args[j]? = some v → Value.okWide Tryz.prog W .any base t v := hval0
  have hW' := hW
  obtain ⟨p, q, hA0, hV, rfl, _, _⟩ := hW
  have hA : DataW.TrodAll enc Tryz.prog W 0 (fun _ => true) true Tryz.f9.params.toList args.toList ds p := hA0
  rw [Tryz.params9] at hA hval
  obtain ⟨v0, v1, v2, d0, d1, d2, p0, p1, p2, rfl, rfl, rfl, h0, h1, h2⟩ := trodAll_three hA
  obtain ⟨rfl, rfl⟩ := trodVars_none hV
  clear hA0 hval0
  simp only [List.append_nil] at hW'
  have hlt0 : ∀ x ∈ p0, x.block < W.heap.size := fun x hx => by simpa using hW'.lt x (by simp [hx])
  have hlt1 : ∀ x ∈ p1, x.block < W.heap.size := fun x hx => by simpa using hW'.lt x (by simp [hx])
  have hlt2 : ∀ x ∈ p2, x.block < W.heap.size := fun x hx => by simpa using hW'.lt x (by simp [hx])
  have harg0 : ∀ W' : World, Below W.heap.size W W' → DataW.Trod enc Tryz.prog W' 0 (fun b => decide (b < W.heap.size)) true 40 v0 d0 p0 := fun W' hb =>
    Below.trod laidOut (by kernel_rfl) (of_decide_eq_true (by kernel_rfl)) h0 hb hlt0
  have harg1 : ∀ W' : World, Below W.heap.size W W' → DataW.Trod enc Tryz.prog W' 0 (fun b => decide (b < W.heap.size)) true 70 v1 d1 p1 := fun W' hb =>
    Below.trod laidOut (by kernel_rfl) (of_decide_eq_true (by kernel_rfl)) h1 hb hlt1
  have harg2 : ∀ W' : World, Below W.heap.size W W' → DataW.Trod enc Tryz.prog W' 0 (fun b => decide (b < W.heap.size)) true 3 v2 d2 p2 := fun W' hb =>
    Below.trod laidOut (by kernel_rfl) (of_decide_eq_true (by kernel_rfl)) h2 hb hlt2
  obtain ⟨a0, len0, cap0, rfl⟩ := okWide_slice Tryz.underlying40 (hval 0 40 v0 rfl rfl)
  obtain ⟨bits, bitsy, lbits, hbits, bbits, ebits⟩ := opened_nums h0 0 hsz rfl rfl
  subst lbits
  obtain ⟨a1, len1, cap1, rfl⟩ := okWide_slice Tryz.underlying70 (hval 1 70 v1 rfl rfl)
  obtain ⟨at_, lat_, hat_, bat_, zat_⟩ := opened_ints h1
  have sat_ := sized_ints (j := 1) hsz rfl rfl zat_
  subst lat_
  obtain ⟨step, rfl, rfl, rfl, wstep⟩ := open_int Tryz.underlying3 (hval 2 3 v2 rfl rfl) h2
  have bstep := bounds_i64 wstep
  refine (queryFloats_walk hbits ebits bbits ⟨.ty 0, (by intro g x r; simp), hat_⟩ bat_ (by omega) W (snap_sim W)).mono ?_
  rintro e W' ⟨st', hs, rfl⟩
  refine ⟨_, rfl, _, _, _, [], _, [], hW', ?_, trodAll_mk3 (harg0 W' hs.below) (harg1 W' hs.below) (harg2 W' hs.below), rfl, hs.below.frame _, fun h => by cases h⟩
  exact trodAll_mk1 (shut_bool Tryz.underlying4 _)

theorem queryFloats_c1 : laidOutB Tryz.prog = true := by kernel_rfl
theorem queryFloats_c2 : mapsRowed Tryz.prog = true := by kernel_rfl
theorem queryFloats_c3 : (Rows.queryFloatsRow.inPlace == Tryz.prog.inPlace 9) = true := by kernel_rfl
theorem queryFloats_c4 : (Rows.queryFloatsRow.unfollowed == Tryz.prog.unfollowed 9) = true := by kernel_rfl
theorem queryFloats_c5 : (Rows.queryFloatsRow.recurses == Tryz.prog.recurses 9) = true := by kernel_rfl
theorem queryFloats_c6 : (Rows.queryFloatsRow.named == Tryz.prog.varsNamed 9) = true := by kernel_rfl
theorem queryFloats_closed : joinedFacts Tryz.prog 9 Tryz.f9 Rows.queryFloatsSpec Rows.queryFloatsRow = true := by
  unfold joinedFacts
  rw [queryFloats_c1, queryFloats_c2, queryFloats_c3, queryFloats_c4, queryFloats_c5, queryFloats_c6]
  kernel_rfl
theorem queryFloats_holds : Rows.QueryFloatsSaid :=
  OpenClaim.holds_of_wide 9 Tryz.f9 rfl rfl rfl rfl rfl rfl rfl ⟨rfl, rfl, rfl, rfl, rfl⟩ rfl rfl rfl rfl rfl (by kernel_rfl) Tryz.func9 queryFloats_closed
    (of_decide_eq_true (by kernel_rfl)) (by unfold Func.isWrapper; first | (rw [if_pos (by decide +kernel)]; kernel_rfl) | (rw [if_neg (by decide +kernel)]; exact ⟨rfl, rfl⟩))
    (fun os started H enc _ => queryFloats_lifted os started H enc)
#print axioms queryFloats_holds
end Go.Proofs.YtembgehpgommgaaGreat
