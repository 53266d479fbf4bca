/- Gauges: may one be, the program's way and the document's. -/
import Derived.Test.YtflbapmjdfnhhaaGreatC11
set_option linter.unusedVariables false
set_option linter.unusedSimpArgs false
set_option maxRecDepth 100000
set_option maxHeartbeats 400000
namespace Go.Proofs.YtflbapmjdfnhhaaGreat
open Go.RowKit (Below)
structure GauD where
  n : Nat
  nans : Nat
  lo : Nat
  hi : Nat
def GauD.cells (g : GauD) : List Value := [Val.u g.n, Val.u g.nans, Val.u g.lo, Val.u g.hi]
structure GauOK (g : GauD) : Prop where
  n : g.n < 2 ^ 64
  nans : g.nans < 2 ^ 64
  lo : g.lo < 2 ^ 64
  hi : g.hi < 2 ^ 64
def checkG (g : GauD) : Bool := if g.n = 0 then decide (g.lo = 0) && decide (g.hi = 0) else decide (kindN g.lo ≠ 4) && (decide (kindN g.hi ≠ 4) && !lessN g.hi g.lo)
theorem eq_gau {a b c d a' b' c' d' : Int} : binV Tryz.prog .eql 53 (.agg #[.int .u64 a, .int .u64 b, .int .u64 c, .int .u64 d]) (.agg #[.int .u64 a', .int .u64 b', .int .u64 c', .int .u64 d']) = some (.bool (decide (a = a') && (decide (b = b') && (decide (c = c') && decide (d = d'))))) := by
  have hs : Tryz.prog.stoodInHeld 53 = false := by kernel_rfl
  have hg : Tryz.prog.eqGuardType Tryz.prog.depth 53 = false := by kernel_rfl
  unfold binV eqBin aggEqB
  simp only [Tryz.underlying53, hs, hg]
  simp [fieldsEq, Tryz.underlying26]
  by_cases h1 : a = a' <;> by_cases h2 : b = b' <;> by_cases h3 : c = c' <;> by_cases h4 : d = d' <;> simp [h1, h2, h3, h4]
section
variable {W0 : World} {st : Heap}
theorem gaugeCheck_spec {g : GauD} (ok : GauOK g) : ICalls Tryz.prog W0 85 #[.agg g.cells.toArray] st fun e st' => e = .returned (.bool (checkG g)) ∧ New st st' := by
  obtain ⟨n, nans, lo, hi⟩ := g
  obtain ⟨o1, o2, o3, o4⟩ := ok
  simp only at o1 o2 o3 o4
  generalize hres : checkG ⟨n, nans, lo, hi⟩ = res
  unfold checkG at hres
  simp only at hres
  refine enter (args := [_]) Tryz.func85 rfl ?_
  simp [Tryz.f85, go_sem, GauD.cells]
  unfold NewP
  intro a ha
  refine ⟨.ty 1, ?_⟩
  have k1 := (New.refl st).add (b := a) (o := .cells true [Val.u n, Val.u nans, Val.u lo, Val.u hi] 4 (.ty 1)) ha
  have g1 := upd_same st a (.cells true [Val.u n, Val.u nans, Val.u lo, Val.u hi] 4 (.ty 1))
  generalize upd st a (.cells true [Val.u n, Val.u nans, Val.u lo, Val.u hi] 4 (.ty 1)) = st1 at *
  by_cases c0 : n = 0
  · subst c0
    rw [if_pos rfl] at hres
    simp [go_sem, g1, eq_gau]
    first | exact ⟨hres, k1⟩ | (refine ⟨?_, k1⟩; rw [← hres]; first | done | simp)
  · rw [if_neg c0] at hres
    have q0 : ((n : Int) = 0) = False := eq_false (by omega)
    simp [go_sem, g1, q0, c0]
    refine (none_spec o3).mono ?_
    rintro e st2 ⟨rfl, rfl⟩
    by_cases c1 : kindN lo = 4
    · have : res = false := by rw [← hres]; simp [c1]
      simp [go_sem, c1, this]
      exact k1
    simp [go_sem, c1, g1]
    refine (none_spec o4).mono ?_
    rintro e st3 ⟨rfl, rfl⟩
    by_cases c2 : kindN hi = 4
    · have : res = false := by rw [← hres]; simp [c2]
      simp [go_sem, c2, this]
      exact k1
    simp [go_sem, c2, g1]
    refine (Less_spec o4 o3).mono ?_
    rintro e st4 ⟨rfl, rfl⟩
    have : res = !lessN hi lo := by rw [← hres]; simp [c1, c2]
    simp [go_sem, this]
    exact k1
theorem refGaugeCheck_spec {g : GauD} (ok : GauOK g) : ICalls Tryz.prog W0 54 #[.agg g.cells.toArray] st fun e st' => e = .returned (.bool (checkG g)) ∧ New st st' := by
  obtain ⟨n, nans, lo, hi⟩ := g
  obtain ⟨o1, o2, o3, o4⟩ := ok
  simp only at o1 o2 o3 o4
  generalize hres : checkG ⟨n, nans, lo, hi⟩ = res
  unfold checkG at hres
  simp only at hres
  refine enter (args := [_]) Tryz.func54 rfl ?_
  simp [Tryz.f54, go_sem, GauD.cells]
  unfold NewP
  intro a ha
  refine ⟨.ty 1, ?_⟩
  have k1 := (New.refl st).add (b := a) (o := .cells true [Val.u n, Val.u nans, Val.u lo, Val.u hi] 4 (.ty 1)) ha
  have g1 := upd_same st a (.cells true [Val.u n, Val.u nans, Val.u lo, Val.u hi] 4 (.ty 1))
  generalize upd st a (.cells true [Val.u n, Val.u nans, Val.u lo, Val.u hi] 4 (.ty 1)) = st1 at *
  by_cases c0 : n = 0
  · subst c0
    rw [if_pos rfl] at hres
    by_cases c1 : lo = 0
    · subst c1
      have : res = decide (hi = 0) := by rw [← hres]; simp
      have q : ((hi : Int) = 0) = (hi = 0) := by apply propext; omega
      simp [go_sem, g1, this, q]
      exact k1
    · have : res = false := by rw [← hres]; simp [c1]
      have q : ((lo : Int) = 0) = False := eq_false (by omega)
      simp [go_sem, g1, this, q, c1]
      exact k1
  · rw [if_neg c0] at hres
    have q0 : ((n : Int) = 0) = False := eq_false (by omega)
    simp [go_sem, g1, q0, c0]
    refine (refKind_spec o3).mono ?_
    rintro e st2 ⟨rfl, rfl⟩
    by_cases c1 : kindN lo = 4
    · have : res = false := by rw [← hres]; simp [c1]
      have q1 : ((kindN lo : Int) = 4) = True := eq_true (by omega)
      simp [go_sem, c1, q1, this]
      exact k1
    have q1 : ((kindN lo : Int) = 4) = False := eq_false (by omega)
    simp [go_sem, c1, q1, g1]
    refine (refKind_spec o4).mono ?_
    rintro e st3 ⟨rfl, rfl⟩
    by_cases c2 : kindN hi = 4
    · have : res = false := by rw [← hres]; simp [c2]
      have q2 : ((kindN hi : Int) = 4) = True := eq_true (by omega)
      simp [go_sem, c2, q2, this]
      exact k1
    have q2 : ((kindN hi : Int) = 4) = False := eq_false (by omega)
    simp [go_sem, c2, q2, g1]
    refine (refLess_spec o4 o3).mono ?_
    rintro e st4 ⟨rfl, rfl⟩
    have : res = !lessN hi lo := by rw [← hres]; simp [c1, c2]
    simp [go_sem, this]
    exact k1
end
end Go.Proofs.YtflbapmjdfnhhaaGreat
