/- The law ManPublishes holds: whatever the input, the Go function returns true, and its arguments read as they did. No condition. -/
import Derived.Test.YtahgfnbkkfpcnaaGreatRows
import Derived.Test.YtahgfnbkkfpcnaaGreatC08
import Derived.Test.YtahgfnbkkfpcnaaGreatC18
import Derived.Test.YtahgfnbkkfpcnaaGreatC52
set_option linter.unusedVariables false
set_option linter.unusedSimpArgs false
namespace Go.Proofs.YtahgfnbkkfpcnaaGreat
open Go.ChangeShapes Go.WideShapes Go.ChangeAt Go.RowKit
set_option maxHeartbeats 800000 in
set_option maxRecDepth 100000 in
theorem zh8 (os : Os) (started : os.Started) (H : Type) (enc : TypeId × Value → H) :
  ReturnsInHanded {} Tryz.checked os 6 .any (Rows.manPublishesSpec.pre6 enc Tryz.prog Tryz.f6 Rows.manPublishesRow.domain false) (Rows.manPublishesSpec.post enc Tryz.prog Tryz.f6 false true false false) := by
 refine returnsInHanded_of_change_sized (C := Tryz.checked) own started (by kernel_rfl) Tryz.func6
  (ChangeSpec.witness6 (enc := enc) (C := Tryz.checked) false ⟨#[], #[.agg #[.int .i64 0, .int .i64 0, .int .i64 0, .int .i64 0, .slice none 0 0, .slice none 0 0], .slice none 0 0, .int .i64 0, .int .i64 0], []⟩ 8 (by kernel_rfl) (by kernel_rfl) (by kernel_rfl) (by kernel_rfl)) ?_
 intro W base args ds gs before hval0 hW _ hsz _
 have hval : ∀ (j : Nat) t v, Tryz.f6.params[j]? = some t → args[j]? = some v → Value.okWide Tryz.prog W .any base t v := hval0
 have hW' := hW
 obtain ⟨p, q, hA0, hV, rfl, _, _⟩ := hW
 have hA : DataW.TrodAll enc Tryz.prog W 0 (fun _ => true) true Tryz.f6.params.toList args.toList ds p := hA0
 rw [Tryz.params6] at hA hval
 obtain ⟨v0, v1, v2, v3, d0, d1, d2, d3, p0, p1, p2, p3, rfl, rfl, rfl, h0, h1, h2, h3⟩ := trodAll_four hA
 obtain ⟨rfl, rfl⟩ := trodVars_none hV
 clear hA0 hval0
 simp only [List.append_nil] at hW'
 have hlt0 : ∀ x ∈ p0, x.block < W.heap.size := fun x hx => by simpa using hW'.lt x (by simp [hx])
 have hlt1 : ∀ x ∈ p1, x.block < W.heap.size := fun x hx => by simpa using hW'.lt x (by simp [hx])
 have hlt2 : ∀ x ∈ p2, x.block < W.heap.size := fun x hx => by simpa using hW'.lt x (by simp [hx])
 have hlt3 : ∀ x ∈ p3, x.block < W.heap.size := fun x hx => by simpa using hW'.lt x (by simp [hx])
 have harg0 : ∀ W' : World, Below W.heap.size W W' → DataW.Trod enc Tryz.prog W' 0 (fun b => decide (b < W.heap.size)) true 77 v0 d0 p0 := fun W' hb =>
  Below.trod z6o (by kernel_rfl) (of_decide_eq_true (by kernel_rfl)) h0 hb hlt0
 have harg1 : ∀ W' : World, Below W.heap.size W W' → DataW.Trod enc Tryz.prog W' 0 (fun b => decide (b < W.heap.size)) true 40 v1 d1 p1 := fun W' hb =>
  Below.trod z6o (by kernel_rfl) (of_decide_eq_true (by kernel_rfl)) h1 hb hlt1
 have harg2 : ∀ W' : World, Below W.heap.size W W' → DataW.Trod enc Tryz.prog W' 0 (fun b => decide (b < W.heap.size)) true 3 v2 d2 p2 := fun W' hb =>
  Below.trod z6o (by kernel_rfl) (of_decide_eq_true (by kernel_rfl)) h2 hb hlt2
 have harg3 : ∀ W' : World, Below W.heap.size W W' → DataW.Trod enc Tryz.prog W' 0 (fun b => decide (b < W.heap.size)) true 3 v3 d3 p3 := fun W' hb =>
  Below.trod z6o (by kernel_rfl) (of_decide_eq_true (by kernel_rfl)) h3 hb hlt3
 obtain ⟨c0, rfl, _⟩ := okWide_struct Tryz.underlying77 (hval 0 77 v0 rfl rfl)
 obtain ⟨l0, rfl⟩ : ∃ l : List Value, c0 = l.toArray := ⟨c0.toList, by simp⟩
 obtain ⟨m, hm0⟩ := opened (n := 6) (A := ManW') (fun f => zhf f) h0 0 hsz rfl rfl
 obtain ⟨hm, bm⟩ : ManW' (snap W) l0 m := by simpa [Value.cells] using hm0
 obtain ⟨a1, len1, cap1, rfl⟩ := okWide_slice Tryz.underlying40 (hval 1 40 v1 rfl rfl)
 obtain ⟨data, ldata, hdata⟩ := zii h1
 subst ldata
 obtain ⟨kind, rfl, rfl, rfl, wkind⟩ := open_int Tryz.underlying3 (hval 2 3 v2 rfl rfl) h2
 have bkind := bounds_i64 wkind
 obtain ⟨after, rfl, rfl, rfl, wafter⟩ := open_int Tryz.underlying3 (hval 3 3 v3 rfl rfl) h3
 have bafter := bounds_i64 wafter
 refine (zho hm (fits_of bm) hdata W (snap_sim W)).mono ?_
 rintro e W' ⟨st', hs, rfl⟩
 refine ⟨_, rfl, _, _, _, [], _, [], hW', ?_, trodAll_mk4 (harg0 W' hs.below) (harg1 W' hs.below) (harg2 W' hs.below) (harg3 W' hs.below), rfl, hs.below.frame _, fun h => by cases h⟩
 exact trodAll_mk1 (shut_bool Tryz.underlying4 _)
theorem zg0 : laidOutB Tryz.prog = true := by kernel_rfl
theorem zfv : mapsRowed Tryz.prog = true := by kernel_rfl
theorem zgq : (Rows.manPublishesRow.inPlace == Tryz.prog.inPlace 6) = true := by kernel_rfl
theorem zjk : (Rows.manPublishesRow.unfollowed == Tryz.prog.unfollowed 6) = true := by kernel_rfl
theorem zh9 : (Rows.manPublishesRow.recurses == Tryz.prog.recurses 6) = true := by kernel_rfl
theorem zhy : (Rows.manPublishesRow.named == Tryz.prog.varsNamed 6) = true := by kernel_rfl
theorem zdv : joinedFacts Tryz.prog 6 Tryz.f6 Rows.manPublishesSpec Rows.manPublishesRow = true := by
 unfold joinedFacts
 rw [zg0, zfv, zgq, zjk, zh9, zhy]
 kernel_rfl
theorem manPublishes_holds : Rows.ManPublishesSaid :=
 OpenClaim.holds_of_wide 6 Tryz.f6 rfl rfl rfl rfl rfl rfl rfl ⟨rfl, rfl, rfl, rfl, rfl⟩ rfl rfl rfl rfl rfl (by kernel_rfl) Tryz.func6 zdv
  (of_decide_eq_true (by kernel_rfl)) (by unfold Func.isWrapper; first | (rw [if_pos (by decide +kernel)]; kernel_rfl) | (rw [if_neg (by decide +kernel)]; exact ⟨rfl, rfl⟩))
  (fun os started H enc _ => zh8 os started H enc)
#print axioms manPublishes_holds
end Go.Proofs.YtahgfnbkkfpcnaaGreat
