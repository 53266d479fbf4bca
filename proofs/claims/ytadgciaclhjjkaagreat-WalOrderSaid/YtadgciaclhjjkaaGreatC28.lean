/- Long division by two digits of 32 bits: plain numbers. -/
import Derived.Test.YtadgciaclhjjkaaGreatC08
import Derived.Lib.Mul64
import Derived.Test.YtadgciaclhjjkaaGreatC10
import Derived.Test.YtadgciaclhjjkaaGreatC16
import Derived.Test.YtadgciaclhjjkaaGreatCTab
import Derived.Test.YtadgciaclhjjkaaGreatC19
import Derived.Test.YtadgciaclhjjkaaGreatC27
set_option linter.unusedVariables false
namespace Go.Proofs.YtadgciaclhjjkaaGreat
/-- A number's length in bits. -/
def lenN (x : Nat) : Nat := if x = 0 then 0 else x.log2 + 1
theorem lenN_div (x k : Nat) (h : 2 ^ k ≤ x) : lenN x = k + lenN (x / 2 ^ k) := by
  have hx : x ≠ 0 := by have := Nat.two_pow_pos k; omega
  have hq : x / 2 ^ k ≠ 0 := by
    have := Nat.div_pos h (Nat.two_pow_pos k)
    omega
  unfold lenN
  rw [if_neg hx, if_neg hq]
  have h1 : k ≤ x.log2 := (Nat.le_log2 hx).2 h
  have h2 : (x / 2 ^ k).log2 = x.log2 - k := by
    apply Nat.le_antisymm
    · have : x < 2 ^ (x.log2 + 1) := Nat.lt_log2_self
      have h3 : x / 2 ^ k < 2 ^ (x.log2 - k + 1) := by
        rw [Nat.div_lt_iff_lt_mul (Nat.two_pow_pos k), ← Nat.pow_add]
        rw [show x.log2 - k + 1 + k = x.log2 + 1 by omega]
        exact this
      have := (Nat.log2_lt hq).2 h3
      omega
    · rw [Nat.le_log2 hq, Nat.le_div_iff_mul_le (Nat.two_pow_pos k), ← Nat.pow_add]
      rw [show x.log2 - k + k = x.log2 by omega]
      exact Nat.log2_self_le hx
  omega
theorem lenN_bounds {x : Nat} (hx : x ≠ 0) : 2 ^ (lenN x - 1) ≤ x ∧ x < 2 ^ lenN x ∧ 1 ≤ lenN x := by
  unfold lenN
  rw [if_neg hx]
  exact ⟨by simpa using Nat.log2_self_le hx, Nat.lt_log2_self, by omega⟩
theorem lenN_le {x k : Nat} (h : x < 2 ^ k) : lenN x ≤ k := by
  unfold lenN
  split
  · omega
  · rename_i hx
    have := (Nat.log2_lt hx).2 h
    omega
end Go.Proofs.YtadgciaclhjjkaaGreat
set_option linter.unusedVariables false
set_option linter.unusedSimpArgs false
set_option maxRecDepth 100000
set_option maxHeartbeats 400000
namespace Go.Proofs.YtadgciaclhjjkaaGreat
open Go.RowKit (Below)
theorem wrapU {x : Int} {n : Nat} (h : x = n) (hn : n < 2 ^ 64) : IntKind.u64.wrap x = n := by rw [h]; exact wraps_u64 _ (by omega) (by omega)
section
variable {W0 : World} {st : Heap}
theorem Len64_spec {x : Nat} (hx : x < 2 ^ 64) : ICalls Tryz.prog W0 205 #[.int .u64 (x : Int)] st fun e st' => e = .returned (Val.i (lenN x : Nat)) ∧ st' = st := by
  refine enter (args := [_]) Tryz.func205 rfl ?_
  refine IW_cut (fun E' st' => st' = st ∧ ∃ (a n : Nat), E' 0 = .int .u64 (a : Int) ∧ E' 2 = Val.i (n : Int) ∧ a < 2 ^ 64 ∧ n ≤ 0 ∧ lenN x = n + lenN a) ?_ ?_
  · simp [go_sem]
    exact ⟨x, rfl, 0, by simp, hx, by omega, by omega⟩
  rintro E0 st0 ⟨rfl, a, n, e0, e2, ha, hn, hx2⟩
  refine IW_cut (fun E' st' => st' = st0 ∧ ∃ (a n : Nat), E' 0 = .int .u64 (a : Int) ∧ E' 2 = Val.i (n : Int) ∧ a < 2 ^ 32 ∧ n ≤ 32 ∧ lenN x = n + lenN a) ?_ ?_
  · have a3 : (a : Int).fdiv 4294967296 = ((a / 4294967296 : Nat) : Int) := by rw [Int.fdiv_eq_ediv_of_nonneg _ (by omega)]; omega
    obtain ⟨q, hq⟩ : ∃ q, a / 4294967296 = q := ⟨_, rfl⟩
    rw [hq] at a3
    by_cases c : 4294967296 ≤ a
    · have q1 : ((4294967296 : Int) ≤ (a : Int)) = True := eq_true (by omega)
      have hl : lenN a = 32 + lenN (a / 4294967296) := lenN_div a 32 c
      have hw : ((32 : Int)) = ((n + 32 : Nat) : Int) := by omega
      simp [go_sem, shiftBin, e0, e2, q1, a3]
      refine ⟨q, rfl, n + 32, hw, by omega, by omega, ?_⟩
      rw [← hq]
      omega
    · have q1 : ((4294967296 : Int) ≤ (a : Int)) = False := eq_false (by omega)
      simp [go_sem, shiftBin, e0, e2, q1]
      exact ⟨a, rfl, n, rfl, by omega, by omega, hx2⟩
  clear e0 e2 ha hn hx2 a n
  rintro E1 st1 ⟨rfl, a, n, e0, e2, ha, hn, hx2⟩
  refine IW_cut (fun E' st' => st' = st1 ∧ ∃ (a n : Nat), E' 0 = .int .u64 (a : Int) ∧ E' 2 = Val.i (n : Int) ∧ a < 2 ^ 16 ∧ n ≤ 48 ∧ lenN x = n + lenN a) ?_ ?_
  · have a3 : (a : Int).fdiv 65536 = ((a / 65536 : Nat) : Int) := by rw [Int.fdiv_eq_ediv_of_nonneg _ (by omega)]; omega
    obtain ⟨q, hq⟩ : ∃ q, a / 65536 = q := ⟨_, rfl⟩
    rw [hq] at a3
    by_cases c : 65536 ≤ a
    · have q1 : ((65536 : Int) ≤ (a : Int)) = True := eq_true (by omega)
      have hl : lenN a = 16 + lenN (a / 65536) := lenN_div a 16 c
      have hw : IntKind.i64.wrap ((n : Int) + 16) = ((n + 16 : Nat) : Int) := wrap_id (by omega) (by omega)
      simp [go_sem, shiftBin, e0, e2, q1, a3, hw]
      refine ⟨q, rfl, n + 16, by simp, by omega, by omega, ?_⟩
      rw [← hq]
      omega
    · have q1 : ((65536 : Int) ≤ (a : Int)) = False := eq_false (by omega)
      simp [go_sem, shiftBin, e0, e2, q1]
      exact ⟨a, rfl, n, rfl, by omega, by omega, hx2⟩
  clear e0 e2 ha hn hx2 a n
  rintro E2 st2 ⟨rfl, a, n, e0, e2, ha, hn, hx2⟩
  refine IW_cut (fun E' st' => st' = st2 ∧ ∃ (a n : Nat), E' 0 = .int .u64 (a : Int) ∧ E' 2 = Val.i (n : Int) ∧ a < 2 ^ 8 ∧ n ≤ 56 ∧ lenN x = n + lenN a) ?_ ?_
  · have a3 : (a : Int).fdiv 256 = ((a / 256 : Nat) : Int) := by rw [Int.fdiv_eq_ediv_of_nonneg _ (by omega)]; omega
    obtain ⟨q, hq⟩ : ∃ q, a / 256 = q := ⟨_, rfl⟩
    rw [hq] at a3
    by_cases c : 256 ≤ a
    · have q1 : ((256 : Int) ≤ (a : Int)) = True := eq_true (by omega)
      have hl : lenN a = 8 + lenN (a / 256) := lenN_div a 8 c
      have hw : IntKind.i64.wrap ((n : Int) + 8) = ((n + 8 : Nat) : Int) := wrap_id (by omega) (by omega)
      simp [go_sem, shiftBin, e0, e2, q1, a3, hw]
      refine ⟨q, rfl, n + 8, by simp, by omega, by omega, ?_⟩
      rw [← hq]
      omega
    · have q1 : ((256 : Int) ≤ (a : Int)) = False := eq_false (by omega)
      simp [go_sem, shiftBin, e0, e2, q1]
      exact ⟨a, rfl, n, rfl, by omega, by omega, hx2⟩
  clear e0 e2 ha hn hx2 a n
  rintro E3 st3 ⟨rfl, a, n, e0, e2, ha, hn, hx2⟩
  have hl8 : lenN a ≤ 8 := lenN_le ha
  have hw1 : IntKind.u8.wrap (a : Int) = (a : Int) := by rw [IntKind.wrap_u8]; omega
  have hw2 : IntKind.i64.wrap ((lenN a : Nat) : Int) = (lenN a : Int) := wrap_id (by omega) (by omega)
  have hw3 : IntKind.i64.wrap ((n : Int) + (lenN a : Nat)) = ((lenN x : Nat) : Int) := by rw [wrap_id (by omega) (by omega)]; omega
  simp [go_sem, e0, e2, hw1]
  refine ⟨by omega, ?_⟩
  have key : ∀ (s : ByteArray), (∀ k : Fin 256, btOf s (k.1 : Int) = (lenN k.1 : Int)) → IntKind.i64.wrap ((n : Int) + IntKind.i64.wrap (btOf s (a : Int))) = (lenN x : Int) := fun s hs => by
    rw [hs ⟨a, ha⟩, hw2, hw3]
  exact key _ (by decide +kernel)
end
end Go.Proofs.YtadgciaclhjjkaaGreat
set_option linter.unusedVariables false
set_option linter.unusedSimpArgs false
set_option maxRecDepth 100000
set_option maxHeartbeats 1000000
namespace Go.Proofs.YtadgciaclhjjkaaGreat
open Go.RowKit (Below)
section
variable {W0 : World} {st : Heap}
end
end Go.Proofs.YtadgciaclhjjkaaGreat
set_option linter.unusedVariables false
set_option linter.unusedSimpArgs false
set_option maxRecDepth 100000
set_option maxHeartbeats 400000
namespace Go.Proofs.YtadgciaclhjjkaaGreat
open Go.RowKit (Below)
section
variable {W0 : World} {st : Heap}
end
end Go.Proofs.YtadgciaclhjjkaaGreat
set_option linter.unusedVariables false
set_option linter.unusedSimpArgs false
set_option maxRecDepth 100000
set_option maxHeartbeats 400000
namespace Go.Proofs.YtadgciaclhjjkaaGreat
open Go.RowKit (Below)
section
variable {W0 : World} {st : Heap}
end
end Go.Proofs.YtadgciaclhjjkaaGreat
set_option linter.unusedVariables false
set_option linter.unusedSimpArgs false
set_option maxRecDepth 100000
set_option maxHeartbeats 400000
namespace Go.Proofs.YtadgciaclhjjkaaGreat
open Go.RowKit (Below)
section
variable {W0 : World} {st : Heap}
end
end Go.Proofs.YtadgciaclhjjkaaGreat
