/- A remainder from 0 on, to the number. -/
import Derived.Test.YtahgfnbkkfpcnaaGreatC42
set_option linter.unusedVariables false
set_option linter.unusedSimpArgs false
set_option maxRecDepth 100000
set_option maxHeartbeats 1000000
namespace Go.Proofs.YtahgfnbkkfpcnaaGreat
section
variable {W0 : World} {st : Heap}
theorem z88 {n k : Int} (hk : 0 < k) (hk2 : k < 2 ^ 40) : z00 Tryz.prog W0 26 #[Val.i n, Val.i k] st fun e st' => e = .returned (Val.i (n % k)) ∧ st' = st := by
 refine enter (args := [_, _]) Tryz.func26 rfl ?_
 have hk0 : ¬ k = 0 := by omega
 have h1 := Int.tmod_lt_of_pos n hk
 have h2 : -k < n.tmod k := by
  have := Int.lt_tmod_of_pos n hk
  omega
 have hw1 : IntKind.i64.wrap (n.tmod k) = n.tmod k := z03 (by omega) (by omega)
 have he1 := Int.tdiv_mul_add_tmod n k
 have he2 := Int.emod_nonneg n hk0
 have he3 := Int.emod_lt_of_pos n hk
 by_cases hneg : n.tmod k < 0
 ·have hw2 : IntKind.i64.wrap (n.tmod k + k) = n.tmod k + k := z03 (by omega) (by omega)
  have he : n.tmod k + k = n % k := by
   have h3 : (n.tmod k + k) % k = n.tmod k + k := Int.emod_eq_of_lt (by omega) (by omega)
   rw [← h3, Int.add_emod_right]
   conv => rhs; rw [← he1]
   rw [Int.mul_comm, Int.mul_add_emod_self_left]
  simp [Tryz.f26, go_sem, hk0, hneg, hw1, hw2]
  exact he
 ·have he : n.tmod k = n % k := by
   have h3 : (n.tmod k) % k = n.tmod k := Int.emod_eq_of_lt (by omega) (by omega)
   rw [← h3]
   conv => rhs; rw [← he1]
   rw [Int.mul_comm, Int.mul_add_emod_self_left]
  simp [Tryz.f26, go_sem, hk0, hneg, hw1]
  exact he
end
end Go.Proofs.YtahgfnbkkfpcnaaGreat
