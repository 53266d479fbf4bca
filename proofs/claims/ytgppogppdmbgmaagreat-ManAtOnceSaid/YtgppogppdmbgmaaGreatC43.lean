/- The law ManAtOnce holds: whatever the input, the Go function returns true, and its arguments read as they did. No condition. -/
import Derived.Test.YtgppogppdmbgmaaGreatRows
import Derived.Test.YtgppogppdmbgmaaGreatC09
import Derived.Test.YtgppogppdmbgmaaGreatC22
import Derived.Test.YtgppogppdmbgmaaGreatC23
import Derived.Test.YtgppogppdmbgmaaGreatC42
set_option linter.unusedVariables false
set_option linter.unusedSimpArgs false
namespace Go.Proofs.YtgppogppdmbgmaaGreat
open Go.ChangeShapes Go.WideShapes Go.ChangeAt Go.RowKit

set_option maxHeartbeats 800000 in
set_option maxRecDepth 100000 in
theorem manAtOnce_lifted (os : Os) (started : os.Started) (H : Type) (enc : TypeId × Value → H) :
    ReturnsInHanded {} Tryz.checked os 12 .any (Rows.manAtOnceSpec.pre6 enc Tryz.prog Tryz.f12 Rows.manAtOnceRow.domain false) (Rows.manAtOnceSpec.post enc Tryz.prog Tryz.f12 false true false false) := by
  refine returnsInHanded_of_change_sized (C := Tryz.checked) own started (by kernel_rfl) Tryz.func12
    (ChangeSpec.witness6 (enc := enc) (C := Tryz.checked) false ⟨#[], #[.agg #[.int .i64 0, .int .i64 0, .int .i64 0, .int .i64 0, .slice none 0 0, .slice none 0 0], .agg #[.int .i64 0, .int .i64 0, .int .i64 0, .int .i64 0, .slice none 0 0, .slice none 0 0], .int .i64 0, .int .i64 0, .slice none 0 0], []⟩ 8 (by kernel_rfl) (by kernel_rfl) (by kernel_rfl) (by kernel_rfl)) ?_
  intro W base args ds gs before hval0 hW _ hsz _
  have hval : ∀ (j : Nat) t v, Tryz.f12.params[j]? = some t → args[j]? = some v → Value.okWide Tryz.prog W .any base t v := hval0
  have hW' := hW
  obtain ⟨p, q, hA0, hV, rfl, _, _⟩ := hW
  have hA : DataW.TrodAll enc Tryz.prog W 0 (fun _ => true) true Tryz.f12.params.toList args.toList ds p := hA0
  rw [Tryz.params12] at hA hval
  obtain ⟨v0, v1, v2, v3, v4, d0, d1, d2, d3, d4, p0, p1, p2, p3, p4, rfl, rfl, rfl, h0, h1, h2, h3, h4⟩ := trodAll_five hA
  obtain ⟨rfl, rfl⟩ := trodVars_none hV
  clear hA0 hval0
  simp only [List.append_nil] at hW'
  have hlt0 : ∀ x ∈ p0, x.block < W.heap.size := fun x hx => by simpa using hW'.lt x (by simp [hx])
  have hlt1 : ∀ x ∈ p1, x.block < W.heap.size := fun x hx => by simpa using hW'.lt x (by simp [hx])
  have hlt2 : ∀ x ∈ p2, x.block < W.heap.size := fun x hx => by simpa using hW'.lt x (by simp [hx])
  have hlt3 : ∀ x ∈ p3, x.block < W.heap.size := fun x hx => by simpa using hW'.lt x (by simp [hx])
  have hlt4 : ∀ x ∈ p4, x.block < W.heap.size := fun x hx => by simpa using hW'.lt x (by simp [hx])
  have harg0 : ∀ W' : World, Below W.heap.size W W' → DataW.Trod enc Tryz.prog W' 0 (fun b => decide (b < W.heap.size)) true 81 v0 d0 p0 := fun W' hb =>
    Below.trod laidOut (by kernel_rfl) (of_decide_eq_true (by kernel_rfl)) h0 hb hlt0
  have harg1 : ∀ W' : World, Below W.heap.size W W' → DataW.Trod enc Tryz.prog W' 0 (fun b => decide (b < W.heap.size)) true 81 v1 d1 p1 := fun W' hb =>
    Below.trod laidOut (by kernel_rfl) (of_decide_eq_true (by kernel_rfl)) h1 hb hlt1
  have harg2 : ∀ W' : World, Below W.heap.size W W' → DataW.Trod enc Tryz.prog W' 0 (fun b => decide (b < W.heap.size)) true 3 v2 d2 p2 := fun W' hb =>
    Below.trod laidOut (by kernel_rfl) (of_decide_eq_true (by kernel_rfl)) h2 hb hlt2
  have harg3 : ∀ W' : World, Below W.heap.size W W' → DataW.Trod enc Tryz.prog W' 0 (fun b => decide (b < W.heap.size)) true 3 v3 d3 p3 := fun W' hb =>
    Below.trod laidOut (by kernel_rfl) (of_decide_eq_true (by kernel_rfl)) h3 hb hlt3
  have harg4 : ∀ W' : World, Below W.heap.size W W' → DataW.Trod enc Tryz.prog W' 0 (fun b => decide (b < W.heap.size)) true 70 v4 d4 p4 := fun W' hb =>
    Below.trod laidOut (by kernel_rfl) (of_decide_eq_true (by kernel_rfl)) h4 hb hlt4
  obtain ⟨c0, rfl, _⟩ := okWide_struct Tryz.underlying81 (hval 0 81 v0 rfl rfl)
  obtain ⟨l0, rfl⟩ : ∃ l : List Value, c0 = l.toArray := ⟨c0.toList, by simp⟩
  obtain ⟨a, ha0⟩ := opened (n := 6) (A := ManW') (fun f => opens_man f) h0 0 hsz rfl rfl
  obtain ⟨ha, ba⟩ : ManW' (snap W) l0 a := by simpa [Value.cells] using ha0
  obtain ⟨c1, rfl, _⟩ := okWide_struct Tryz.underlying81 (hval 1 81 v1 rfl rfl)
  obtain ⟨l1, rfl⟩ : ∃ l : List Value, c1 = l.toArray := ⟨c1.toList, by simp⟩
  obtain ⟨b, hb0⟩ := opened (n := 6) (A := ManW') (fun f => opens_man f) h1 1 hsz rfl rfl
  obtain ⟨hb, bb⟩ : ManW' (snap W) l1 b := by simpa [Value.cells] using hb0
  obtain ⟨after, rfl, rfl, rfl, wafter⟩ := open_int Tryz.underlying3 (hval 2 3 v2 rfl rfl) h2
  have bafter := bounds_i64 wafter
  obtain ⟨ops, rfl, rfl, rfl, wops⟩ := open_int Tryz.underlying3 (hval 3 3 v3 rfl rfl) h3
  have bops := bounds_i64 wops
  obtain ⟨a4, len4, cap4, rfl⟩ := okWide_slice Tryz.underlying70 (hval 4 70 v4 rfl rfl)
  obtain ⟨picks, lpicks, hpicks, bpicks, zpicks⟩ := opened_ints h4
  have spicks := sized_ints (j := 4) hsz rfl rfl zpicks
  subst lpicks
  refine (manOnce_walk ha (fits_of ba) hb (fits_of bb) hpicks bpicks (by omega) W (snap_sim W)).mono ?_
  rintro e W' ⟨st', hs, rfl⟩
  refine ⟨_, rfl, _, _, _, [], _, [], hW', ?_, trodAll_mk5 (harg0 W' hs.below) (harg1 W' hs.below) (harg2 W' hs.below) (harg3 W' hs.below) (harg4 W' hs.below), rfl, hs.below.frame _, fun h => by cases h⟩
  exact trodAll_mk1 (shut_bool Tryz.underlying4 _)

theorem manAtOnce_c1 : laidOutB Tryz.prog = true := by kernel_rfl
theorem manAtOnce_c2 : mapsRowed Tryz.prog = true := by kernel_rfl
theorem manAtOnce_c3 : (Rows.manAtOnceRow.inPlace == Tryz.prog.inPlace 12) = true := by kernel_rfl
theorem manAtOnce_c4 : (Rows.manAtOnceRow.unfollowed == Tryz.prog.unfollowed 12) = true := by kernel_rfl
theorem manAtOnce_c5 : (Rows.manAtOnceRow.recurses == Tryz.prog.recurses 12) = true := by kernel_rfl
theorem manAtOnce_c6 : (Rows.manAtOnceRow.named == Tryz.prog.varsNamed 12) = true := by kernel_rfl
theorem manAtOnce_closed : joinedFacts Tryz.prog 12 Tryz.f12 Rows.manAtOnceSpec Rows.manAtOnceRow = true := by
  unfold joinedFacts
  rw [manAtOnce_c1, manAtOnce_c2, manAtOnce_c3, manAtOnce_c4, manAtOnce_c5, manAtOnce_c6]
  kernel_rfl
theorem manAtOnce_holds : Rows.ManAtOnceSaid :=
  OpenClaim.holds_of_wide 12 Tryz.f12 rfl rfl rfl rfl rfl rfl rfl ⟨rfl, rfl, rfl, rfl, rfl⟩ rfl rfl rfl rfl rfl (by kernel_rfl) Tryz.func12 manAtOnce_closed
    (of_decide_eq_true (by kernel_rfl)) (by unfold Func.isWrapper; first | (rw [if_pos (by decide +kernel)]; kernel_rfl) | (rw [if_neg (by decide +kernel)]; exact ⟨rfl, rfl⟩))
    (fun os started H enc _ => manAtOnce_lifted os started H enc)
#print axioms manAtOnce_holds
end Go.Proofs.YtgppogppdmbgmaaGreat
