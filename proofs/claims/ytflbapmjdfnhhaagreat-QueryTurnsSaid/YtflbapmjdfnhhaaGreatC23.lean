/- Products and quotients, bit by bit: the document's way. -/
import Derived.Test.YtflbapmjdfnhhaaGreatC22
import Derived.Test.YtflbapmjdfnhhaaGreatC21
set_option linter.unusedVariables false
set_option linter.unusedSimpArgs false
set_option maxRecDepth 100000
set_option maxHeartbeats 400000
namespace Go.Proofs.YtflbapmjdfnhhaaGreat
open Go.RowKit (Below)
section
variable {W0 : World} {st : Heap}
end
end Go.Proofs.YtflbapmjdfnhhaaGreat
set_option linter.unusedVariables false
set_option linter.unusedSimpArgs false
set_option maxRecDepth 100000
set_option maxHeartbeats 400000
namespace Go.Proofs.YtflbapmjdfnhhaaGreat
open Go.RowKit (Below)
/-- How many unlike things, as far as hashes tell. -/
def distinctM (l : List Nat) : Nat := if l.length < 1024 then l.length else if l.getD (l.length - 1) 0 = 2 ^ 64 - 1 then 1023 else if l.getD (l.length - 1) 0 + 1 ≤ 1023 then 0 else 1023 * 2 ^ 64 / (l.getD (l.length - 1) 0 + 1)
theorem cellsU_get (l : List Nat) (i : Nat) (h : i < l.length) : (cellsU l)[i]? = some (.int .u64 ((l.getD i 0 : Nat) : Int)) := by
  simp [cellsU, List.getElem?_eq_getElem h]
section
variable {W0 : World} {st : Heap}
theorem Distinct_spec {v : Value} {l : List Nat} (h : RegF st 1 v (cellsU l) l.length) (hc : checkK l = true) (hb : ∀ x ∈ l, x < 2 ^ 64) : ICalls Tryz.prog W0 88 #[v] st fun e st' => e = .returned (.int .u64 (distinctM l : Nat)) ∧ New st st' := by
  have hlen : l.length ≤ 1024 := by simp [checkK] at hc; exact hc.1
  obtain ⟨tb, tc, rfl⟩ := h.slice
  refine enter (args := [_]) Tryz.func88 rfl ?_
  simp [Tryz.f88, go_sem]
  refine (kmvCheck_spec h (by omega)).mono ?_
  rintro e st1 ⟨rfl, rfl⟩
  rw [hc]
  unfold distinctM
  by_cases c1 : l.length < 1024
  · have q1 : ((l.length : Int) < 1024) = True := eq_true (by omega)
    have hw : IntKind.u64.wrap (l.length : Int) = (l.length : Int) := wraps_u64 _ (by omega) (by omega)
    rw [if_pos c1]
    simp [go_sem, q1, c1, hw]
    exact New.refl _
  have hl : l.length = 1024 := by omega
  have q1 : ((l.length : Int) < 1024) = False := eq_false (by omega)
  rw [if_neg c1]
  obtain ⟨blk, off, rfl, hg⟩ := src_get h.src (by omega)
  have hg1 := hg 1023 (by omega)
  rw [cellsU_get l 1023 (by omega)] at hg1
  rw [show l.length - 1 = 1023 by omega]
  have hm : l.getD 1023 0 < 2 ^ 64 := by
    rw [List.getD_eq_getElem?_getD, List.getElem?_eq_getElem (by omega)]
    exact hb _ (List.getElem_mem _)
  generalize l.getD 1023 0 = m at *
  have q2 : (1023 : Nat) < l.length := by omega
  have q2' : ((1023 : Int) < (l.length : Int)) = True := eq_true (by omega)
  by_cases c2 : m = 2 ^ 64 - 1
  · have q3 : ((m : Int) = 18446744073709551615) = True := eq_true (by omega)
    rw [if_pos c2]
    simp [go_sem, q1, c1, q2, q2', hg1, q3]
    exact New.refl _
  have q3 : ((m : Int) = 18446744073709551615) = False := eq_false (by omega)
  have hw : IntKind.u64.wrap ((m : Int) + 1) = ((m + 1 : Nat) : Int) := wrapU (by omega) (by omega)
  obtain ⟨m1, hm1⟩ : ∃ x, m + 1 = x := ⟨_, rfl⟩
  rw [hm1] at hw ⊢
  rw [if_neg c2]
  simp [go_sem, q1, c1, q2, q2', hg1, q3, hw]
  refine ICalls.mono (by simpa using wideDiv_spec (hi := 1023) (lo := 0) (y := m1) (by omega) (by omega) (by omega)) ?_
  rintro e st2 ⟨rfl, hk⟩
  by_cases c3 : m1 ≤ 1023
  · rw [if_pos c3, if_pos c3]
    simp [go_sem]
    exact hk
  · rw [if_neg c3, if_neg c3]
    obtain ⟨r, hr⟩ : ∃ r, 1023 * 2 ^ 64 / m1 = r := ⟨_, rfl⟩
    rw [hr]
    have hr' : (1023 * 18446744073709551616 : Int) / (m1 : Int) = (r : Int) := by rw [← hr]; simp
    simp [go_sem]
    refine ⟨?_, hk⟩
    first | exact hr' | (rw [← hr]; simp)
end
end Go.Proofs.YtflbapmjdfnhhaaGreat
