/- One window over no rows. -/
import Derived.Test.YtembgehpgommgaaGreatC20
set_option linter.unusedVariables false
set_option linter.unusedSimpArgs false
set_option maxRecDepth 100000
set_option maxHeartbeats 400000
namespace Go.Proofs.YtembgehpgommgaaGreat
open Go.RowKit (Below)
section
variable {W0 : World} {st : Heap}
theorem windowNil_spec {c0 c1 c2 c3 c4 c5 c6 c7 c9 c10 : Value} {lo hi : Int} : ICalls Tryz.prog W0 61 #[.agg #[c0, c1, c2, c3, c4, c5, c6, c7, Val.i 1, c9, c10], .slice none 0 0, Val.i lo, Val.i hi] st fun e st' => New st st' ∧ e = .returned (.agg #[Val.i lo, .bool true, Val.u 0, Val.i 0]) := by
  refine enter (args := [_, _, _, _]) Tryz.func61 rfl ?_
  simp [Tryz.f61, go_sem]
  unfold NewP
  intro a ha
  refine ⟨.ty 1, ?_⟩
  have k1 := (New.refl st).add (b := a) (o := .cells true [c0, c1, c2, c3, c4, c5, c6, c7, Val.i 1, c9, c10] 11 (.ty 1)) ha
  have g1 := upd_same st a (.cells true [c0, c1, c2, c3, c4, c5, c6, c7, Val.i 1, c9, c10] 11 (.ty 1))
  simp [go_sem]
  generalize upd st a (.cells true [c0, c1, c2, c3, c4, c5, c6, c7, Val.i 1, c9, c10] 11 (.ty 1)) = st1 at *
  unfold NewP
  intro c hc
  refine ⟨.ty 1, ?_⟩
  have k2 := (New.refl st1).add (b := c) (o := .cells true [Val.i 0, .bool false, Val.u 0, Val.i 0] 4 (.ty 1)) hc
  have g2 := upd_same st1 c (.cells true [Val.i 0, .bool false, Val.u 0, Val.i 0] 4 (.ty 1))
  simp [go_sem]
  generalize upd st1 c (.cells true [Val.i 0, .bool false, Val.u 0, Val.i 0] 4 (.ty 1)) = st2 at *
  refine ⟨fun E st' => st' = st2 ∧ E 2 = Val.i lo ∧ E 4 = ptr a ∧ E 8 = ptr c ∧ E 9 = .slice none 0 0 ∧ E 16 = Val.i 0 ∧ E 17 = Val.i 0, fun _ _ => 0, ⟨st2, .rfl' _, rfl, by simp [go_sem], by simp [go_sem], by simp [go_sem], by simp [go_sem], by simp [go_sem], by simp [go_sem]⟩, ?_⟩
  rintro E st3 ⟨rfl, e2, e4, e8, e9, e16, e17⟩
  simp [go_sem, e2, e4, e8, e9, e16, e17]
  refine sumNil_spec.mono ?_
  rintro e st4 ⟨k4, rfl⟩
  simp [go_sem, e2, e4, e8]
  unfold NewP
  intro b hb
  refine ⟨.ty 1, ?_⟩
  have k5 := (New.refl st4).add (b := b) (o := .cells true [.slice none 0 0, .slice none 0 0, Val.u 0, Val.u 0, Val.u 0, Val.u 0] 6 (.ty 1)) hb
  have g5 := upd_same st4 b (.cells true [.slice none 0 0, .slice none 0 0, Val.u 0, Val.u 0, Val.u 0, Val.u 0] 6 (.ty 1))
  have g1' := k5 _ _ (k4 _ _ (k2 _ _ g1))
  have g2' := k5 _ _ (k4 _ _ g2)
  simp [go_sem, e2, e4, e8, g1']
  generalize upd st4 b (.cells true [.slice none 0 0, .slice none 0 0, Val.u 0, Val.u 0, Val.u 0, Val.u 0] 6 (.ty 1)) = st5 at *
  refine oneNil_spec.mono ?_
  rintro e st6 ⟨k6, rfl⟩
  simp [go_sem, e2, e4, e8]
  unfold NewP
  intro d hd
  refine ⟨.ty 1, ?_⟩
  have g3' := k6 _ _ g2'
  have hcd : c ≠ d := by rintro rfl; rw [g3'] at hd; cases hd
  have kN := (((k1.trans k2).trans k4).trans k5).trans k6
  have hcn : st c = none := k1.none hc
  have hdn : st d = none := kN.none hd
  simp [go_sem, e2, e4, e8, hcd, Ne.symm hcd, upd_same, upd_ne, g3']
  refine RetI_cell ?_
  simp [go_sem, e8, hcd, Ne.symm hcd, upd_same, upd_ne, g3']
  first | exact (kN.put hdn).put hcn | exact ((kN.put hdn).put hdn).put hcn
end
end Go.Proofs.YtembgehpgommgaaGreat
