/- Long division by two digits of 32 bits: plain numbers. -/
import Derived.Test.YtflbapmjdfnhhaaGreatC09
import Derived.Lib.Mul64
import Derived.Test.YtflbapmjdfnhhaaGreatC14
import Derived.Test.YtflbapmjdfnhhaaGreatC11
import Derived.Test.YtflbapmjdfnhhaaGreatCTab
import Derived.Test.YtflbapmjdfnhhaaGreatC18
set_option linter.unusedVariables false
namespace Go.Proofs.YtflbapmjdfnhhaaGreat
/-- A number's length in bits. -/
def lenN (x : Nat) : Nat := if x = 0 then 0 else x.log2 + 1
theorem lenN_div (x k : Nat) (h : 2 ^ k ≤ x) : lenN x = k + lenN (x / 2 ^ k) := by
  have hx : x ≠ 0 := by have := Nat.two_pow_pos k; omega
  have hq : x / 2 ^ k ≠ 0 := by
    have := Nat.div_pos h (Nat.two_pow_pos k)
    omega
  unfold lenN
  rw [if_neg hx, if_neg hq]
  have h1 : k ≤ x.log2 := (Nat.le_log2 hx).2 h
  have h2 : (x / 2 ^ k).log2 = x.log2 - k := by
    apply Nat.le_antisymm
    · have : x < 2 ^ (x.log2 + 1) := Nat.lt_log2_self
      have h3 : x / 2 ^ k < 2 ^ (x.log2 - k + 1) := by
        rw [Nat.div_lt_iff_lt_mul (Nat.two_pow_pos k), ← Nat.pow_add]
        rw [show x.log2 - k + 1 + k = x.log2 + 1 by omega]
        exact this
      have := (Nat.log2_lt hq).2 h3
      omega
    · rw [Nat.le_log2 hq, Nat.le_div_iff_mul_le (Nat.two_pow_pos k), ← Nat.pow_add]
      rw [show x.log2 - k + k = x.log2 by omega]
      exact Nat.log2_self_le hx
  omega
theorem lenN_bounds {x : Nat} (hx : x ≠ 0) : 2 ^ (lenN x - 1) ≤ x ∧ x < 2 ^ lenN x ∧ 1 ≤ lenN x := by
  unfold lenN
  rw [if_neg hx]
  exact ⟨by simpa using Nat.log2_self_le hx, Nat.lt_log2_self, by omega⟩
theorem lenN_le {x k : Nat} (h : x < 2 ^ k) : lenN x ≤ k := by
  unfold lenN
  split
  · omega
  · rename_i hx
    have := (Nat.log2_lt hx).2 h
    omega
/-- The test of a guessed digit: is it too great? -/
theorem guess_test {u d y1 y0 q r : Nat} (hu : u = q * y1 + r) : q * y0 > 2 ^ 32 * r + d ↔ q * (y1 * 2 ^ 32 + y0) > u * 2 ^ 32 + d := by
  have e : q * (y1 * 2 ^ 32 + y0) = q * y1 * 2 ^ 32 + q * y0 := by rw [Nat.mul_add, Nat.mul_assoc]
  rw [e, hu, Nat.add_mul]
  omega
theorem guess_big {n y q : Nat} (hy : 0 < y) : q * y > n ↔ n / y < q := by
  rw [Nat.div_lt_iff_lt_mul hy]
theorem digit_lt {u d y : Nat} (hu : u < y) (hd : d < 2 ^ 32) : (u * 2 ^ 32 + d) / y < 2 ^ 32 := by
  rw [Nat.div_lt_iff_lt_mul (by omega)]
  have : (u + 1) * 2 ^ 32 ≤ y * 2 ^ 32 := Nat.mul_le_mul_right _ hu
  rw [Nat.add_mul] at this
  rw [Nat.mul_comm (2 ^ 32) y]
  omega
/-- The last step: what is left has grown past a digit. -/
theorem guess_last {u d y1 y0 q r : Nat} (hu : u = q * y1 + r) (hr : 2 ^ 32 ≤ r) (h1 : 0 < y1) (h0 : y0 < 2 ^ 32) (huy : u < y1 * 2 ^ 32 + y0) : ¬ q * y0 > 2 ^ 32 * r + d := by
  intro h
  have hq : q < 2 ^ 32 := by
    apply Classical.byContradiction
    intro hq
    have : 2 ^ 32 * y1 ≤ q * y1 := Nat.mul_le_mul_right _ (by omega)
    rw [Nat.mul_comm y1] at huy
    omega
  have : q * y0 ≤ 2 ^ 32 * 2 ^ 32 := Nat.mul_le_mul (by omega) (by omega)
  have : 2 ^ 32 * 2 ^ 32 ≤ 2 ^ 32 * r := Nat.mul_le_mul_left _ hr
  omega
/-- Two digits are the quotient. -/
theorem two_digits' {a d0 y K : Nat} (hy : 0 < y) : (a * K + d0) / y = a / y * K + (a % y * K + d0) / y ∧ (a * K + d0) % y = (a % y * K + d0) % y := by
  have e : a * K + d0 = y * (a / y * K) + (a % y * K + d0) := by
    have h := Nat.div_add_mod a y
    have : a * K = y * (a / y) * K + a % y * K := by rw [← Nat.add_mul, h]
    rw [this, Nat.mul_assoc, Nat.add_assoc]
  rw [e]
  exact ⟨Nat.mul_add_div hy _ _, Nat.mul_add_mod _ _ _⟩
theorem two_digits {u d1 d0 y : Nat} (hy : 0 < y) :
    ((u * 2 ^ 32 + d1) * 2 ^ 32 + d0) / y = (u * 2 ^ 32 + d1) / y * 2 ^ 32 + ((u * 2 ^ 32 + d1) % y * 2 ^ 32 + d0) / y ∧ ((u * 2 ^ 32 + d1) * 2 ^ 32 + d0) % y = ((u * 2 ^ 32 + d1) % y * 2 ^ 32 + d0) % y := two_digits' hy
/-- The shift ahead and back. -/
theorem shift_div {n y s : Nat} (hy : 0 < y) : n * 2 ^ s / (y * 2 ^ s) = n / y ∧ n * 2 ^ s % (y * 2 ^ s) / 2 ^ s = n % y := by
  refine ⟨Nat.mul_div_mul_right _ _ (Nat.two_pow_pos s), ?_⟩
  rw [Nat.mul_mod_mul_right, Nat.mul_div_cancel _ (Nat.two_pow_pos s)]
theorem shift_parts {hi lo s : Nat} (hlo : lo < 2 ^ 64) (hs : s ≤ 64) : (hi * 2 ^ 64 + lo) * 2 ^ s = (hi * 2 ^ s + lo / 2 ^ (64 - s)) * 2 ^ 64 + lo * 2 ^ s % 2 ^ 64 ∧ lo / 2 ^ (64 - s) < 2 ^ s := by
  have h64 : 2 ^ (64 - s) * 2 ^ s = 2 ^ 64 := by rw [← Nat.pow_add]; congr 1; omega
  have h1 : lo * 2 ^ s / 2 ^ 64 = lo / 2 ^ (64 - s) := by
    rw [← h64]
    exact Nat.mul_div_mul_right _ _ (Nat.two_pow_pos s)
  have h2 := Nat.div_add_mod (lo * 2 ^ s) (2 ^ 64)
  rw [h1] at h2
  refine ⟨?_, ?_⟩
  · have e1 : (hi * 2 ^ 64 + lo) * 2 ^ s = hi * 2 ^ s * 2 ^ 64 + lo * 2 ^ s := by rw [Nat.add_mul, Nat.mul_right_comm]
    rw [e1, Nat.add_mul]
    generalize hi * 2 ^ s = A
    generalize lo / 2 ^ (64 - s) = B at *
    generalize lo * 2 ^ s = C at *
    omega
  · rw [Nat.div_lt_iff_lt_mul (Nat.two_pow_pos _), Nat.mul_comm, h64]
    exact hlo
end Go.Proofs.YtflbapmjdfnhhaaGreat
set_option linter.unusedVariables false
set_option linter.unusedSimpArgs false
set_option maxRecDepth 100000
set_option maxHeartbeats 400000
namespace Go.Proofs.YtflbapmjdfnhhaaGreat
open Go.RowKit (Below)
theorem and32 (x : Nat) (h : x < 2 ^ 64) : bits .and .u64 (x : Int) 4294967295 = ((x % 2 ^ 32 : Nat) : Int) := by
  have := bits_mask .u64 64 (by decide) wraps_u64 32 (by decide) (x : Int) (by omega) (by omega)
  simpa using this
theorem wrapU {x : Int} {n : Nat} (h : x = n) (hn : n < 2 ^ 64) : IntKind.u64.wrap x = n := by rw [h]; exact wraps_u64 _ (by omega) (by omega)
section
variable {W0 : World} {st : Heap}
theorem Mul64_spec {x y : Nat} (hx : x < 2 ^ 64) (hy : y < 2 ^ 64) : ICalls Tryz.prog W0 139 #[.int .u64 (x : Int), .int .u64 (y : Int)] st fun e st' => e = .returned (.tuple #[.int .u64 ((x * y / 2 ^ 64 : Nat) : Int), .int .u64 ((x * y % 2 ^ 64 : Nat) : Int)]) ∧ st' = st := by
  obtain ⟨m1, m2, m3, m4⟩ := Go.Lib.mul64_hi x y hx hy
  have n1 := Go.Lib.half_mul_le (a := x / 4294967296) (b := y / 4294967296) (by omega) (by omega)
  have n2 := Go.Lib.half_mul_le (a := x / 4294967296) (b := y % 4294967296) (by omega) (by omega)
  have n3 := Go.Lib.half_mul_le (a := x % 4294967296) (b := y / 4294967296) (by omega) (by omega)
  have a1 := and32 x hx
  have a2 := and32 y hy
  have a3 : (x : Int).fdiv 4294967296 = ((x / 4294967296 : Nat) : Int) := by rw [Int.fdiv_eq_ediv_of_nonneg _ (by omega)]; omega
  have a4 : (y : Int).fdiv 4294967296 = ((y / 4294967296 : Nat) : Int) := by rw [Int.fdiv_eq_ediv_of_nonneg _ (by omega)]; omega
  have a5 : IntKind.u64.wrap ((x : Int) * (y : Int)) = ((x * y % 18446744073709551616 : Nat) : Int) := by
    rw [IntKind.wrap_u64, ← Int.natCast_mul]; omega
  rw [show (2 : Nat) ^ 32 = 4294967296 from rfl] at a1 a2
  rw [show (2 : Nat) ^ 64 = 18446744073709551616 from rfl]
  obtain ⟨hi, hhi⟩ : ∃ hi, x * y / 18446744073709551616 = hi := ⟨_, rfl⟩
  obtain ⟨lo, hlo⟩ : ∃ lo, x * y % 18446744073709551616 = lo := ⟨_, rfl⟩
  rw [hhi] at m4 ⊢
  rw [hlo] at a5 ⊢
  have hib : hi < 18446744073709551616 := by
    rw [← hhi]
    exact Nat.div_lt_of_lt_mul (Nat.mul_lt_mul'' hx hy)
  clear hlo hhi
  generalize x % 4294967296 = x0 at *
  generalize x / 4294967296 = x1 at *
  generalize y % 4294967296 = y0 at *
  generalize y / 4294967296 = y1 at *
  obtain ⟨w0, hw0⟩ : ∃ w0, x0 * y0 = w0 := ⟨_, rfl⟩
  obtain ⟨b1, hb1⟩ : ∃ b, x1 * y0 = b := ⟨_, rfl⟩
  obtain ⟨b2, hb2⟩ : ∃ b, x0 * y1 = b := ⟨_, rfl⟩
  obtain ⟨b3, hb3⟩ : ∃ b, x1 * y1 = b := ⟨_, rfl⟩
  rw [hw0] at m1 m2 m3 m4
  rw [hb1] at m2 m3 m4 n2
  rw [hb2] at m3 m4 n3
  rw [hb3] at m4 n1
  have c0 : IntKind.u64.wrap ((x0 : Int) * (y0 : Int)) = (w0 : Int) := wrapU (by rw [← hw0]; simp) m1
  have c1 : IntKind.u64.wrap ((x1 : Int) * (y0 : Int)) = (b1 : Int) := wrapU (by rw [← hb1]; simp) (by omega)
  have c2 : IntKind.u64.wrap ((x0 : Int) * (y1 : Int)) = (b2 : Int) := wrapU (by rw [← hb2]; simp) (by omega)
  have c3 : IntKind.u64.wrap ((x1 : Int) * (y1 : Int)) = (b3 : Int) := wrapU (by rw [← hb3]; simp) (by omega)
  obtain ⟨w0h, hw0h⟩ : ∃ b, w0 / 4294967296 = b := ⟨_, rfl⟩
  have c4 : (w0 : Int).fdiv 4294967296 = (w0h : Int) := by rw [Int.fdiv_eq_ediv_of_nonneg _ (by omega)]; omega
  rw [hw0h] at m2 m3 m4
  obtain ⟨t, ht⟩ : ∃ t, b1 + w0h = t := ⟨_, rfl⟩
  have c5 : IntKind.u64.wrap ((b1 : Int) + (w0h : Int)) = (t : Int) := wrapU (by omega) (by omega)
  rw [ht] at m2 m3 m4
  have c6 := and32 t m2
  rw [show (2 : Nat) ^ 32 = 4294967296 from rfl] at c6
  obtain ⟨w1, hw1⟩ : ∃ b, t % 4294967296 = b := ⟨_, rfl⟩
  obtain ⟨w2, hw2⟩ : ∃ b, t / 4294967296 = b := ⟨_, rfl⟩
  rw [hw1] at m3 m4 c6
  rw [hw2] at m4
  have c7 : (t : Int).fdiv 4294967296 = (w2 : Int) := by rw [Int.fdiv_eq_ediv_of_nonneg _ (by omega)]; omega
  obtain ⟨w3, hw3⟩ : ∃ t, w1 + b2 = t := ⟨_, rfl⟩
  have c8 : IntKind.u64.wrap ((w1 : Int) + (b2 : Int)) = (w3 : Int) := wrapU (by omega) (by omega)
  rw [hw3] at m3 m4
  obtain ⟨w3h, hw3h⟩ : ∃ b, w3 / 4294967296 = b := ⟨_, rfl⟩
  have c9 : (w3 : Int).fdiv 4294967296 = (w3h : Int) := by rw [Int.fdiv_eq_ediv_of_nonneg _ (by omega)]; omega
  rw [hw3h] at m4
  obtain ⟨w4, hw4⟩ : ∃ t, b3 + w2 = t := ⟨_, rfl⟩
  have c10 : IntKind.u64.wrap ((b3 : Int) + (w2 : Int)) = (w4 : Int) := wrapU (by omega) (by omega)
  have c11 : IntKind.u64.wrap ((w4 : Int) + (w3h : Int)) = (hi : Int) := wrapU (by omega) (by omega)
  refine enter (args := [_, _]) Tryz.func139 rfl ?_
  simp [Tryz.f139, go_sem, shiftBin, a1, a2, a3, a4, a5, c0, c1, c2, c3, c4, c5, c6, c7, c8, c9, c10, c11]
theorem Len64_spec {x : Nat} (hx : x < 2 ^ 64) : ICalls Tryz.prog W0 137 #[.int .u64 (x : Int)] st fun e st' => e = .returned (Val.i (lenN x : Nat)) ∧ st' = st := by
  refine enter (args := [_]) Tryz.func137 rfl ?_
  refine IW_cut (fun E' st' => st' = st ∧ ∃ (a n : Nat), E' 0 = .int .u64 (a : Int) ∧ E' 2 = Val.i (n : Int) ∧ a < 2 ^ 64 ∧ n ≤ 0 ∧ lenN x = n + lenN a) ?_ ?_
  · simp [go_sem]
    exact ⟨x, rfl, 0, by simp, hx, by omega, by omega⟩
  rintro E0 st0 ⟨rfl, a, n, e0, e2, ha, hn, hx2⟩
  refine IW_cut (fun E' st' => st' = st0 ∧ ∃ (a n : Nat), E' 0 = .int .u64 (a : Int) ∧ E' 2 = Val.i (n : Int) ∧ a < 2 ^ 32 ∧ n ≤ 32 ∧ lenN x = n + lenN a) ?_ ?_
  · have a3 : (a : Int).fdiv 4294967296 = ((a / 4294967296 : Nat) : Int) := by rw [Int.fdiv_eq_ediv_of_nonneg _ (by omega)]; omega
    obtain ⟨q, hq⟩ : ∃ q, a / 4294967296 = q := ⟨_, rfl⟩
    rw [hq] at a3
    by_cases c : 4294967296 ≤ a
    · have q1 : ((4294967296 : Int) ≤ (a : Int)) = True := eq_true (by omega)
      have hl : lenN a = 32 + lenN (a / 4294967296) := lenN_div a 32 c
      have hw : ((32 : Int)) = ((n + 32 : Nat) : Int) := by omega
      simp [go_sem, shiftBin, e0, e2, q1, a3]
      refine ⟨q, rfl, n + 32, hw, by omega, by omega, ?_⟩
      rw [← hq]
      omega
    · have q1 : ((4294967296 : Int) ≤ (a : Int)) = False := eq_false (by omega)
      simp [go_sem, shiftBin, e0, e2, q1]
      exact ⟨a, rfl, n, rfl, by omega, by omega, hx2⟩
  clear e0 e2 ha hn hx2 a n
  rintro E1 st1 ⟨rfl, a, n, e0, e2, ha, hn, hx2⟩
  refine IW_cut (fun E' st' => st' = st1 ∧ ∃ (a n : Nat), E' 0 = .int .u64 (a : Int) ∧ E' 2 = Val.i (n : Int) ∧ a < 2 ^ 16 ∧ n ≤ 48 ∧ lenN x = n + lenN a) ?_ ?_
  · have a3 : (a : Int).fdiv 65536 = ((a / 65536 : Nat) : Int) := by rw [Int.fdiv_eq_ediv_of_nonneg _ (by omega)]; omega
    obtain ⟨q, hq⟩ : ∃ q, a / 65536 = q := ⟨_, rfl⟩
    rw [hq] at a3
    by_cases c : 65536 ≤ a
    · have q1 : ((65536 : Int) ≤ (a : Int)) = True := eq_true (by omega)
      have hl : lenN a = 16 + lenN (a / 65536) := lenN_div a 16 c
      have hw : IntKind.i64.wrap ((n : Int) + 16) = ((n + 16 : Nat) : Int) := wrap_id (by omega) (by omega)
      simp [go_sem, shiftBin, e0, e2, q1, a3, hw]
      refine ⟨q, rfl, n + 16, by simp, by omega, by omega, ?_⟩
      rw [← hq]
      omega
    · have q1 : ((65536 : Int) ≤ (a : Int)) = False := eq_false (by omega)
      simp [go_sem, shiftBin, e0, e2, q1]
      exact ⟨a, rfl, n, rfl, by omega, by omega, hx2⟩
  clear e0 e2 ha hn hx2 a n
  rintro E2 st2 ⟨rfl, a, n, e0, e2, ha, hn, hx2⟩
  refine IW_cut (fun E' st' => st' = st2 ∧ ∃ (a n : Nat), E' 0 = .int .u64 (a : Int) ∧ E' 2 = Val.i (n : Int) ∧ a < 2 ^ 8 ∧ n ≤ 56 ∧ lenN x = n + lenN a) ?_ ?_
  · have a3 : (a : Int).fdiv 256 = ((a / 256 : Nat) : Int) := by rw [Int.fdiv_eq_ediv_of_nonneg _ (by omega)]; omega
    obtain ⟨q, hq⟩ : ∃ q, a / 256 = q := ⟨_, rfl⟩
    rw [hq] at a3
    by_cases c : 256 ≤ a
    · have q1 : ((256 : Int) ≤ (a : Int)) = True := eq_true (by omega)
      have hl : lenN a = 8 + lenN (a / 256) := lenN_div a 8 c
      have hw : IntKind.i64.wrap ((n : Int) + 8) = ((n + 8 : Nat) : Int) := wrap_id (by omega) (by omega)
      simp [go_sem, shiftBin, e0, e2, q1, a3, hw]
      refine ⟨q, rfl, n + 8, by simp, by omega, by omega, ?_⟩
      rw [← hq]
      omega
    · have q1 : ((256 : Int) ≤ (a : Int)) = False := eq_false (by omega)
      simp [go_sem, shiftBin, e0, e2, q1]
      exact ⟨a, rfl, n, rfl, by omega, by omega, hx2⟩
  clear e0 e2 ha hn hx2 a n
  rintro E3 st3 ⟨rfl, a, n, e0, e2, ha, hn, hx2⟩
  have hl8 : lenN a ≤ 8 := lenN_le ha
  have hw1 : IntKind.u8.wrap (a : Int) = (a : Int) := by rw [IntKind.wrap_u8]; omega
  have hw2 : IntKind.i64.wrap ((lenN a : Nat) : Int) = (lenN a : Int) := wrap_id (by omega) (by omega)
  have hw3 : IntKind.i64.wrap ((n : Int) + (lenN a : Nat)) = ((lenN x : Nat) : Int) := by rw [wrap_id (by omega) (by omega)]; omega
  simp [go_sem, e0, e2, hw1]
  refine ⟨by omega, ?_⟩
  have key : ∀ (s : ByteArray), (∀ k : Fin 256, btOf s (k.1 : Int) = (lenN k.1 : Int)) → IntKind.i64.wrap ((n : Int) + IntKind.i64.wrap (btOf s (a : Int))) = (lenN x : Int) := fun s hs => by
    rw [hs ⟨a, ha⟩, hw2, hw3]
  exact key _ (by decide +kernel)
end
end Go.Proofs.YtflbapmjdfnhhaaGreat
set_option linter.unusedVariables false
set_option linter.unusedSimpArgs false
set_option maxRecDepth 100000
set_option maxHeartbeats 1000000
namespace Go.Proofs.YtflbapmjdfnhhaaGreat
open Go.RowKit (Below)
section
variable {W0 : World} {st : Heap}
theorem LeadingZeros64_spec {x : Nat} (hx : x < 2 ^ 64) : ICalls Tryz.prog W0 146 #[.int .u64 (x : Int)] st fun e st' => e = .returned (Val.i ((64 - lenN x : Nat) : Int)) ∧ st' = st := by
  have h1 := lenN_le hx
  have h2 : IntKind.i64.wrap (64 - (lenN x : Int)) = ((64 - lenN x : Nat) : Int) := by rw [wrap_id (by omega) (by omega)]; omega
  refine enter (args := [_]) Tryz.func146 rfl ?_
  simp [Tryz.f146, go_sem]
  refine (Len64_spec hx).mono ?_
  rintro e st1 ⟨rfl, rfl⟩
  simp [go_sem, h2]
theorem Div64_zero {lo y : Nat} (hy : y < 2 ^ 64) (hlo : lo < 2 ^ 64) (hhi : 0 < y) : ICalls Tryz.prog W0 138 #[.int .u64 0, .int .u64 (lo : Int), .int .u64 (y : Int)] st fun e st' => e = .returned (.tuple #[.int .u64 ((lo / y : Nat) : Int), .int .u64 ((lo % y : Nat) : Int)]) ∧ st' = st := by
  refine enter (args := [_, _, _]) Tryz.func138 rfl ?_
  have q1 : ((y : Int) = 0) = False := eq_false (by omega)
  have q2 : ((y : Int) ≤ 0) = False := eq_false (by omega)
  have q3 : y ≠ 0 := by omega
  have hd : lo / y ≤ lo := Nat.div_le_self _ _
  obtain ⟨q, hq⟩ : ∃ q, lo / y = q := ⟨_, rfl⟩
  obtain ⟨r, hr⟩ : ∃ r, lo % y = r := ⟨_, rfl⟩
  have hw : IntKind.u64.wrap ((lo : Int) / (y : Int)) = (q : Int) := wrapU (by rw [← hq]; simp) (by omega)
  have hm : (lo : Int).tmod (y : Int) = (r : Int) := by rw [← hr, Int.tmod_eq_emod_of_nonneg (by omega)]; simp
  rw [hq, hr]
  simp [Tryz.f138, go_sem, q1, q2, q3]
  refine draw [0, 1, 2, 3, 4, 5, 6, 7] (by kernel_rfl) ?_
  simp [go_sem, q1, q2, q3, hw, hm]
theorem digit_more {u d Y y1 y0 q r Q : Nat} (hY : Y = y1 * 2 ^ 32 + y0) (hY0 : 0 < Y) (hQ : (u * 2 ^ 32 + d) / Y = Q) (hQb : Q < 2 ^ 32) (hqr : u = q * y1 + r) (h : 2 ^ 32 ≤ q ∨ q * y0 > 2 ^ 32 * r + d) : Q < q := by
  rcases h with h | h
  · omega
  · have := (guess_test hqr).1 h
    rw [← hY] at this
    rw [← hQ]
    exact (guess_big hY0).1 this
theorem digit_done {u d Y y1 y0 q r Q : Nat} (hY : Y = y1 * 2 ^ 32 + y0) (hY0 : 0 < Y) (hQ : (u * 2 ^ 32 + d) / Y = Q) (hqr : u = q * y1 + r) (h : ¬ q * y0 > 2 ^ 32 * r + d) : q ≤ Q := by
  apply Classical.byContradiction
  intro hn
  refine h ((guess_test hqr).2 ?_)
  rw [← hY]
  exact (guess_big hY0).2 (by omega)
theorem digit_back {u y1 q r : Nat} (hqr : u = q * y1 + r) (h : 1 ≤ q) : u = (q - 1) * y1 + (r + y1) := by
  obtain ⟨k, rfl⟩ : ∃ k, q = k + 1 := ⟨q - 1, by omega⟩
  rw [hqr, Nat.add_mul]
  simp only [Nat.add_sub_cancel]
  omega
theorem Div64_pos {hi lo y : Nat} (hy : y < 2 ^ 64) (hlo : lo < 2 ^ 64) (hhi : hi < y) (h0 : 0 < hi) : ICalls Tryz.prog W0 138 #[.int .u64 (hi : Int), .int .u64 (lo : Int), .int .u64 (y : Int)] st fun e st' => e = .returned (.tuple #[.int .u64 (((hi * 2 ^ 64 + lo) / y : Nat) : Int), .int .u64 (((hi * 2 ^ 64 + lo) % y : Nat) : Int)]) ∧ st' = st := by
  obtain ⟨hl1, hl2, hl3⟩ := lenN_bounds (x := y) (by omega)
  have hl4 := lenN_le hy
  obtain ⟨s, hs⟩ : ∃ s, 64 - lenN y = s := ⟨_, rfl⟩
  have hsl : s ≤ 63 := by omega
  have e64 : 2 ^ lenN y * 2 ^ s = 2 ^ 64 := by rw [← Nat.pow_add]; congr 1; omega
  have e63 : 2 ^ (lenN y - 1) * 2 ^ s = 2 ^ 63 := by rw [← Nat.pow_add]; congr 1; omega
  obtain ⟨p, hp⟩ : ∃ p, 2 ^ s = p := ⟨_, rfl⟩
  have hp0 : 0 < p := by rw [← hp]; exact Nat.two_pow_pos s
  obtain ⟨Y, hY⟩ : ∃ Y, y * p = Y := ⟨_, rfl⟩
  have hY1 : Y < 2 ^ 64 := by
    rw [← hY, ← e64, hp]
    exact Nat.mul_lt_mul_of_pos_right hl2 hp0
  have hY2 : 2 ^ 63 ≤ Y := by
    rw [← hY, ← e63, hp]
    exact Nat.mul_le_mul_right _ hl1
  obtain ⟨hN, hlp⟩ := shift_parts (hi := hi) (lo := lo) (s := s) hlo (by omega)
  obtain ⟨hd1, hd2⟩ := shift_div (n := hi * 2 ^ 64 + lo) (y := y) (s := s) (by omega)
  rw [hp, hY] at hd1 hd2
  rw [hp] at hN hlp
  obtain ⟨l1, hl1'⟩ : ∃ l, lo / 2 ^ (64 - s) = l := ⟨_, rfl⟩
  obtain ⟨h1, hh1⟩ : ∃ h, hi * p = h := ⟨_, rfl⟩
  obtain ⟨u10, hu10⟩ : ∃ u, lo * p % 2 ^ 64 = u := ⟨_, rfl⟩
  rw [hl1'] at hN hlp
  rw [hh1, hu10] at hN
  rw [hN] at hd1 hd2
  have hu10b : u10 < 2 ^ 64 := by omega
  obtain ⟨u, hu⟩ : ∃ u, h1 + l1 = u := ⟨_, rfl⟩
  rw [hu] at hd1 hd2
  have huY : u < Y := by
    have : (hi + 1) * p ≤ y * p := Nat.mul_le_mul_right _ hhi
    rw [Nat.add_mul, hh1, hY] at this
    omega
  obtain ⟨y1, hy1⟩ : ∃ a, Y / 4294967296 = a := ⟨_, rfl⟩
  obtain ⟨y0, hy0⟩ : ∃ a, Y % 4294967296 = a := ⟨_, rfl⟩
  obtain ⟨d1, hd1'⟩ : ∃ a, u10 / 4294967296 = a := ⟨_, rfl⟩
  obtain ⟨d0, hd0'⟩ : ∃ a, u10 % 4294967296 = a := ⟨_, rfl⟩
  have hYe : Y = y1 * 2 ^ 32 + y0 := by omega
  have hue : u10 = d1 * 2 ^ 32 + d0 := by omega
  have hy1b : 2 ^ 31 ≤ y1 ∧ y1 < 2 ^ 32 := by omega
  have hy0b : y0 < 2 ^ 32 := by omega
  have hd1b : d1 < 2 ^ 32 := by omega
  have hd0b : d0 < 2 ^ 32 := by omega
  have hNe : u * 2 ^ 64 + u10 = (u * 2 ^ 32 + d1) * 2 ^ 32 + d0 := by omega
  rw [hNe] at hd1 hd2
  obtain ⟨ht1, ht2⟩ := two_digits (u := u) (d1 := d1) (d0 := d0) (y := Y) (by omega)
  rw [ht1] at hd1
  rw [ht2] at hd2
  rw [← hd1, ← hd2]
  obtain ⟨Q1, hQ1⟩ : ∃ a, (u * 2 ^ 32 + d1) / Y = a := ⟨_, rfl⟩
  obtain ⟨R1, hR1⟩ : ∃ a, (u * 2 ^ 32 + d1) % Y = a := ⟨_, rfl⟩
  have hR1b : R1 < Y := by rw [← hR1]; exact Nat.mod_lt _ (by omega)
  have hQ1b : Q1 < 2 ^ 32 := by rw [← hQ1]; exact digit_lt huY hd1b
  have hE1 : Y * Q1 + R1 = u * 2 ^ 32 + d1 := by rw [← hQ1, ← hR1]; exact Nat.div_add_mod _ _
  rw [hQ1, hR1]
  obtain ⟨Q0, hQ0⟩ : ∃ a, (R1 * 2 ^ 32 + d0) / Y = a := ⟨_, rfl⟩
  obtain ⟨R0, hR0⟩ : ∃ a, (R1 * 2 ^ 32 + d0) % Y = a := ⟨_, rfl⟩
  have hR0b : R0 < Y := by rw [← hR0]; exact Nat.mod_lt _ (by omega)
  have hQ0b : Q0 < 2 ^ 32 := by rw [← hQ0]; exact digit_lt hR1b hd0b
  have hE0 : Y * Q0 + R0 = R1 * 2 ^ 32 + d0 := by rw [← hQ0, ← hR0]; exact Nat.div_add_mod _ _
  rw [hQ0, hR0]
  -- the machine's numbers
  have f1 : IntKind.u64.wrap ((y : Int) * 2 ^ s) = (Y : Int) := wrapU (by rw [← hY, ← hp]; simp) hY1
  have f2 : (Y : Int).fdiv 4294967296 = (y1 : Int) := by rw [Int.fdiv_eq_ediv_of_nonneg _ (by omega)]; omega
  have f3 : bits .and .u64 (Y : Int) 4294967295 = (y0 : Int) := by rw [and32 Y hY1, ← hy0]
  have f4 : IntKind.u64.wrap ((hi : Int) * 2 ^ s) = (h1 : Int) := wrapU (by rw [← hh1, ← hp]; simp) (by omega)
  have f5 : IntKind.u64.wrap (64 - (s : Int)) = ((64 - s : Nat) : Int) := wrapU (by omega) (by omega)
  have f6 : (lo : Int).fdiv (2 ^ (64 - s)) = (l1 : Int) := by
    rw [Int.fdiv_eq_ediv_of_nonneg _ (by exact_mod_cast Nat.zero_le _), ← hl1']
    simp
  have f7 : bits .or .u64 (h1 : Int) (l1 : Int) = (u : Int) := by
    have := bits_join64 s (l1 : Int) (h1 : Int) (by omega) (by rw [show (2 : Int) ^ s = ((2 ^ s : Nat) : Int) by simp, hp]; omega) (by omega) (by rw [show (2 : Int) ^ s = ((2 ^ s : Nat) : Int) by simp, hp, ← hh1]; simp) (by omega) (by omega)
    have hc : bits .or .u64 (h1 : Int) (l1 : Int) = bits .or .u64 (l1 : Int) (h1 : Int) := by
      unfold bits
      simp only [BitVec.or_comm]
    rw [hc, this]
    omega
  have f8 : IntKind.u64.wrap ((lo : Int) * 2 ^ s) = (u10 : Int) := by
    rw [show (lo : Int) * 2 ^ s = ((lo * p : Nat) : Int) by rw [← hp]; simp, IntKind.wrap_u64, ← hu10]
    omega
  have f9 : (u10 : Int).fdiv 4294967296 = (d1 : Int) := by rw [Int.fdiv_eq_ediv_of_nonneg _ (by omega)]; omega
  have f10 : bits .and .u64 (u10 : Int) 4294967295 = (d0 : Int) := by rw [and32 u10 hu10b, ← hd0']
  obtain ⟨g1, hg1⟩ : ∃ a, u / y1 = a := ⟨_, rfl⟩
  obtain ⟨r1, hr1⟩ : ∃ a, u % y1 = a := ⟨_, rfl⟩
  have hg1e : u = g1 * y1 + r1 := by rw [← hg1, ← hr1, Nat.mul_comm]; exact (Nat.div_add_mod _ _).symm
  have hr1b : r1 < y1 := by rw [← hr1]; exact Nat.mod_lt _ (by omega)
  have f11 : IntKind.u64.wrap ((u : Int) / (y1 : Int)) = (g1 : Int) := wrapU (by rw [← hg1]; simp) (by have := Nat.div_le_self u y1; omega)
  obtain ⟨p1, hp1⟩ : ∃ a, g1 * y1 = a := ⟨_, rfl⟩
  rw [hp1] at hg1e
  have f12 : IntKind.u64.wrap ((g1 : Int) * (y1 : Int)) = (p1 : Int) := wrapU (by rw [← hp1]; simp) (by omega)
  have f13 : IntKind.u64.wrap ((u : Int) - (p1 : Int)) = (r1 : Int) := wrapU (by omega) (by omega)
  have q1 : ((y : Int) = 0) = False := eq_false (by omega)
  have q2 : ((y : Int) ≤ (hi : Int)) = False := eq_false (by omega)
  have q2' : (y ≤ hi) = False := eq_false (by omega)
  have q3 : ((hi : Int) = 0) = False := eq_false (by omega)
  have q4 : hi ≠ 0 := by omega
  have q5 : y ≠ 0 := by omega
  have q6 : y1 ≠ 0 := by omega
  have hmin : min s 64 = s := by omega
  have hmin' : min (64 - s) 64 = 64 - s := by omega
  have qs : ((s : Int) < 0) = False := eq_false (by omega)
  have qs2 : (((64 - s : Nat) : Int) < 0) = False := eq_false (by omega)
  have hsw : IntKind.u64.wrap (s : Int) = (s : Int) := wrapU rfl (by omega)
  refine enter (args := [_, _, _]) Tryz.func138 rfl ?_
  iterate 13 refine IW_assoc ?_
  refine IW_cut (fun E' st' => st' = st ∧ E' 2 = .int .u64 (Y : Int) ∧ E' 8 = .int .u64 (s : Int) ∧ E' 9 = .int .u64 (y1 : Int) ∧ E' 10 = .int .u64 (y0 : Int) ∧ E' 11 = .int .u64 (u : Int) ∧ E' 13 = .int .u64 (d1 : Int) ∧ E' 14 = .int .u64 (d0 : Int) ∧ E' 15 = .int .u64 (g1 : Int) ∧ E' 16 = .int .u64 (r1 : Int)) ?_ ?_
  · simp [go_sem, q1, q2, q2', q3, q4, q5]
    refine (LeadingZeros64_spec hy).mono ?_
    rintro e st1 ⟨rfl, rfl⟩
    rw [hs]
    simp [go_sem, shiftBin, hsw, qs, qs2, hmin, hmin', f1, f2, f3, f4, f5, f6, f7, f8, f9, f10, f11, f12, f13, q6]
  rintro E1 st1 ⟨rfl, e2, e8, e9, e10, e11, e13, e14, e15, e16⟩
  rw [← hp1] at hg1e
  refine IW_cut (fun E' st' => st' = st1 ∧ E' 2 = .int .u64 (Y : Int) ∧ E' 8 = .int .u64 (s : Int) ∧ E' 9 = .int .u64 (y1 : Int) ∧ E' 10 = .int .u64 (y0 : Int) ∧ E' 11 = .int .u64 (u : Int) ∧ E' 13 = .int .u64 (d1 : Int) ∧ E' 14 = .int .u64 (d0 : Int) ∧ E' 15 = .int .u64 (Q1 : Int)) ?_ ?_
  · simp [go_sem]
    refine ⟨fun E st' => st' = st1 ∧ E 2 = .int .u64 (Y : Int) ∧ E 8 = .int .u64 (s : Int) ∧ E 9 = .int .u64 (y1 : Int) ∧ E 10 = .int .u64 (y0 : Int) ∧ E 11 = .int .u64 (u : Int) ∧ E 13 = .int .u64 (d1 : Int) ∧ E 14 = .int .u64 (d0 : Int) ∧ ∃ q r : Nat, E 15 = .int .u64 (q : Int) ∧ E 16 = .int .u64 (r : Int) ∧ u = q * y1 + r ∧ r < 2 ^ 32 ∧ Q1 ≤ q ∧ q < 2 ^ 34, fun E _ => match E 15 with | .int _ z => z.toNat | _ => 0, ⟨_, .rfl' _, rfl, e2, e8, e9, e10, e11, e13, e14, g1, r1, e15, e16, hg1e, by omega, ?_, ?_⟩, ?_⟩
    · apply Classical.byContradiction
      intro hn
      have h3 : g1 + 1 ≤ Q1 := by omega
      have h4 : (g1 + 1) * y1 ≤ Q1 * y1 := Nat.mul_le_mul_right _ h3
      have h5 : Q1 * Y ≤ u * 2 ^ 32 + d1 := by rw [Nat.mul_comm]; omega
      rw [hYe, Nat.mul_add, ← Nat.mul_assoc] at h5
      rw [Nat.add_mul] at h4
      generalize Q1 * y1 = AA at *
      generalize Q1 * y0 = BB at *
      generalize g1 * y1 = CC at *
      omega
    · have : g1 * 2 ^ 31 ≤ g1 * y1 := Nat.mul_le_mul_left _ hy1b.1
      omega
    clear e2 e8 e9 e10 e11 e13 e14 e15 e16
    rintro E st' ⟨rfl, e2, e8, e9, e10, e11, e13, e14, q, r, e15, e16, hqr, hr, hq, hqb⟩
    have more := digit_more (q := q) (r := r) (d := d1) hYe (by omega) hQ1 hQ1b hqr
    have done := digit_done (q := q) (r := r) (d := d1) hYe (by omega) hQ1 hqr
    obtain ⟨w1, hw1⟩ : ∃ w, q * y0 = w := ⟨_, rfl⟩
    obtain ⟨w2, hw2⟩ : ∃ w, 2 ^ 32 * r = w := ⟨_, rfl⟩
    have z2 : IntKind.u64.wrap (4294967296 * (r : Int)) = (w2 : Int) := wrapU (by omega) (by omega)
    have z3 : IntKind.u64.wrap ((w2 : Int) + (d1 : Int)) = ((w2 + d1 : Nat) : Int) := wrapU (by omega) (by omega)
    rw [hw1, hw2] at more done
    have step : Q1 < q → (1 ≤ q ∧ IntKind.u64.wrap ((q : Int) - 1) = ((q - 1 : Nat) : Int) ∧ IntKind.u64.wrap ((r : Int) + (y1 : Int)) = ((r + y1 : Nat) : Int) ∧ u = (q - 1) * y1 + (r + y1)) := fun h => ⟨by omega, wrapU (by omega) (by omega), wrapU (by omega) (by omega), digit_back hqr (by omega)⟩
    have last : 2 ^ 32 ≤ r + y1 → Q1 < q → q - 1 = Q1 := fun h h' => by
      have h1 := (step h').2.2.2
      have h2 := guess_last (d := d1) h1 h (by omega) hy0b (by omega)
      have h3 := digit_done (d := d1) hYe (by omega) hQ1 h1 h2
      omega
    have body : Q1 < q → ((4294967296 : Int) ≤ (q : Int)) = True ∨ (((4294967296 : Int) ≤ (q : Int)) = False ∧ IntKind.u64.wrap ((q : Int) * (y0 : Int)) = (w1 : Int) ∧ (((w2 + d1 : Nat) : Int) < (w1 : Int)) = True) := fun h => by
      by_cases c : 2 ^ 32 ≤ q
      · exact .inl (eq_true (by omega))
      · have hb : w1 < 2 ^ 64 := by
          have h : q * y0 < 2 ^ 32 * 2 ^ 32 := Nat.mul_lt_mul'' (by omega) hy0b
          omega
        refine .inr ⟨eq_false (by omega), wrapU (by rw [← hw1]; simp) hb, eq_true ?_⟩
        have : ¬ ¬ w1 > w2 + d1 := fun hn => by have := done hn; omega
        omega
    by_cases c : Q1 < q
    · obtain ⟨s1, s2, s3, s4⟩ := step c
      have hfin : ∀ (X : Prop), (2 ^ 32 ≤ r + y1 → ((4294967296 : Int) ≤ ((r + y1 : Nat) : Int)) = True → q - 1 = Q1 → X) → (¬ 2 ^ 32 ≤ r + y1 → ((4294967296 : Int) ≤ ((r + y1 : Nat) : Int)) = False → X) → X := fun X h1 h2 => by
        by_cases c3 : 2 ^ 32 ≤ r + y1
        · exact h1 c3 (eq_true (by omega)) (last c3 c)
        · exact h2 c3 (eq_false (by omega))
      rcases body c with b1 | ⟨b1, b2, b3⟩
      · refine hfin _ ?_ ?_
        · intro c3 b4 c4
          rw [c4] at s2
          rw [Int.natCast_add] at b4 s3
          simp [go_sem, e2, e8, e9, e10, e11, e13, e14, e15, e16, b1, s2, s3, b4]
        · intro c3 b4
          rw [Int.natCast_add] at b4 s3
          simp [go_sem, e2, e8, e9, e10, e11, e13, e14, e15, e16, b1, s2, s3, b4]
          exact ⟨_, .rfl' _, ⟨rfl, q - 1, rfl, r + y1, by omega, s4, by omega, by omega, by omega⟩, by omega⟩
      · refine hfin _ ?_ ?_
        · intro c3 b4 c4
          rw [c4] at s2
          rw [Int.natCast_add] at b4 s3 z3 b3
          simp [go_sem, e2, e8, e9, e10, e11, e13, e14, e15, e16, b1, b2, b3, z2, z3, s2, s3, b4]
        · intro c3 b4
          rw [Int.natCast_add] at b4 s3 z3 b3
          simp [go_sem, e2, e8, e9, e10, e11, e13, e14, e15, e16, b1, b2, b3, z2, z3, s2, s3, b4]
          exact ⟨_, .rfl' _, ⟨rfl, q - 1, rfl, r + y1, by omega, s4, by omega, by omega, by omega⟩, by omega⟩
    · have hqQ : q = Q1 := by omega
      subst hqQ
      have b1 : ((4294967296 : Int) ≤ (q : Int)) = False := eq_false (by omega)
      have hb : w1 < 2 ^ 64 := by
          have h : q * y0 < 2 ^ 32 * 2 ^ 32 := Nat.mul_lt_mul'' (by omega) hy0b
          omega
      have b2 : IntKind.u64.wrap ((q : Int) * (y0 : Int)) = (w1 : Int) := wrapU (by rw [← hw1]; simp) hb
      have b3 : (((w2 + d1 : Nat) : Int) < (w1 : Int)) = False := eq_false (fun h => c (more (.inr (by omega))))
      rw [Int.natCast_add] at z3 b3
      simp [go_sem, e2, e8, e9, e10, e11, e13, e14, e15, e16, b1, b2, b3, z2, z3]
  clear e2 e8 e9 e10 e11 e13 e14 e15 e16
  rintro E2 st2 ⟨rfl, e2, e8, e9, e10, e11, e13, e14, e15⟩
  obtain ⟨P1, hP1⟩ : ∃ a, Q1 * Y = a := ⟨_, rfl⟩
  have hE1' : P1 + R1 = u * 2 ^ 32 + d1 := by rw [← hP1, Nat.mul_comm]; exact hE1
  have i1 : IntKind.u64.wrap (IntKind.u64.wrap (IntKind.u64.wrap ((u : Int) * 4294967296) + (d1 : Int)) - IntKind.u64.wrap ((Q1 : Int) * (Y : Int))) = (R1 : Int) := by
    rw [show (Q1 : Int) * (Y : Int) = ((P1 : Nat) : Int) by rw [← hP1]; simp]
    simp only [IntKind.wrap_u64]
    omega
  obtain ⟨g0, hg0⟩ : ∃ a, R1 / y1 = a := ⟨_, rfl⟩
  obtain ⟨r0, hr0⟩ : ∃ a, R1 % y1 = a := ⟨_, rfl⟩
  have hg0e : R1 = g0 * y1 + r0 := by rw [← hg0, ← hr0, Nat.mul_comm]; exact (Nat.div_add_mod _ _).symm
  have hr0b : r0 < y1 := by rw [← hr0]; exact Nat.mod_lt _ (by omega)
  have i2 : IntKind.u64.wrap ((R1 : Int) / (y1 : Int)) = (g0 : Int) := wrapU (by rw [← hg0]; simp) (by have := Nat.div_le_self R1 y1; omega)
  obtain ⟨p0, hp0'⟩ : ∃ a, g0 * y1 = a := ⟨_, rfl⟩
  have hg0e' : R1 = p0 + r0 := by rw [← hp0']; exact hg0e
  have i3 : IntKind.u64.wrap ((g0 : Int) * (y1 : Int)) = (p0 : Int) := wrapU (by rw [← hp0']; simp) (by omega)
  have i4 : IntKind.u64.wrap ((R1 : Int) - (p0 : Int)) = (r0 : Int) := wrapU (by omega) (by omega)
  iterate 2 refine IW_assoc ?_
  refine IW_cut (fun E' st' => st' = st2 ∧ E' 2 = .int .u64 (Y : Int) ∧ E' 8 = .int .u64 (s : Int) ∧ E' 9 = .int .u64 (y1 : Int) ∧ E' 10 = .int .u64 (y0 : Int) ∧ E' 14 = .int .u64 (d0 : Int) ∧ E' 15 = .int .u64 (Q1 : Int) ∧ E' 17 = .int .u64 (R1 : Int) ∧ E' 18 = .int .u64 (g0 : Int) ∧ E' 16 = .int .u64 (r0 : Int)) ?_ ?_
  · simp [go_sem, e2, e8, e9, e10, e11, e13, e14, e15, i1, i2, i3, i4, q6]
  clear e2 e8 e9 e10 e11 e13 e14 e15
  rintro E3 st3 ⟨rfl, e2, e8, e9, e10, e14, e15, e17, e18, e16⟩
  refine IW_cut (fun E' st' => st' = st3 ∧ E' 2 = .int .u64 (Y : Int) ∧ E' 8 = .int .u64 (s : Int) ∧ E' 9 = .int .u64 (y1 : Int) ∧ E' 10 = .int .u64 (y0 : Int) ∧ E' 14 = .int .u64 (d0 : Int) ∧ E' 15 = .int .u64 (Q1 : Int) ∧ E' 17 = .int .u64 (R1 : Int) ∧ E' 18 = .int .u64 (Q0 : Int)) ?_ ?_
  · simp [go_sem]
    refine ⟨fun E st' => st' = st3 ∧ E 2 = .int .u64 (Y : Int) ∧ E 8 = .int .u64 (s : Int) ∧ E 9 = .int .u64 (y1 : Int) ∧ E 10 = .int .u64 (y0 : Int) ∧ E 14 = .int .u64 (d0 : Int) ∧ E 15 = .int .u64 (Q1 : Int) ∧ E 17 = .int .u64 (R1 : Int) ∧ ∃ q r : Nat, E 18 = .int .u64 (q : Int) ∧ E 16 = .int .u64 (r : Int) ∧ R1 = q * y1 + r ∧ r < 2 ^ 32 ∧ Q0 ≤ q ∧ q < 2 ^ 34, fun E _ => match E 18 with | .int _ z => z.toNat | _ => 0, ⟨_, .rfl' _, rfl, e2, e8, e9, e10, e14, e15, e17, g0, r0, e18, e16, hg0e, by omega, ?_, ?_⟩, ?_⟩
    · apply Classical.byContradiction
      intro hn
      have h3 : g0 + 1 ≤ Q0 := by omega
      have h4 : (g0 + 1) * y1 ≤ Q0 * y1 := Nat.mul_le_mul_right _ h3
      have h5 : Q0 * Y ≤ R1 * 2 ^ 32 + d0 := by rw [Nat.mul_comm]; omega
      rw [hYe, Nat.mul_add, ← Nat.mul_assoc] at h5
      rw [Nat.add_mul] at h4
      generalize Q0 * y1 = AA at *
      generalize Q0 * y0 = BB at *
      generalize g0 * y1 = CC at *
      omega
    · have : g0 * 2 ^ 31 ≤ g0 * y1 := Nat.mul_le_mul_left _ hy1b.1
      omega
    clear e2 e8 e9 e10 e14 e15 e17 e18 e16
    rintro E st' ⟨rfl, e2, e8, e9, e10, e14, e15, e17, q, r, e18, e16, hqr, hr, hq, hqb⟩
    have more := digit_more (q := q) (r := r) (d := d0) hYe (by omega) hQ0 hQ0b hqr
    have done := digit_done (q := q) (r := r) (d := d0) hYe (by omega) hQ0 hqr
    obtain ⟨w1, hw1⟩ : ∃ w, q * y0 = w := ⟨_, rfl⟩
    obtain ⟨w2, hw2⟩ : ∃ w, 2 ^ 32 * r = w := ⟨_, rfl⟩
    have z2 : IntKind.u64.wrap (4294967296 * (r : Int)) = (w2 : Int) := wrapU (by omega) (by omega)
    have z3 : IntKind.u64.wrap ((w2 : Int) + (d0 : Int)) = ((w2 + d0 : Nat) : Int) := wrapU (by omega) (by omega)
    rw [hw1, hw2] at more done
    have step : Q0 < q → (1 ≤ q ∧ IntKind.u64.wrap ((q : Int) - 1) = ((q - 1 : Nat) : Int) ∧ IntKind.u64.wrap ((r : Int) + (y1 : Int)) = ((r + y1 : Nat) : Int) ∧ R1 = (q - 1) * y1 + (r + y1)) := fun h => ⟨by omega, wrapU (by omega) (by omega), wrapU (by omega) (by omega), digit_back hqr (by omega)⟩
    have last : 2 ^ 32 ≤ r + y1 → Q0 < q → q - 1 = Q0 := fun h h' => by
      have h1 := (step h').2.2.2
      have h2 := guess_last (d := d0) h1 h (by omega) hy0b (by omega)
      have h3 := digit_done (d := d0) hYe (by omega) hQ0 h1 h2
      omega
    have body : Q0 < q → ((4294967296 : Int) ≤ (q : Int)) = True ∨ (((4294967296 : Int) ≤ (q : Int)) = False ∧ IntKind.u64.wrap ((q : Int) * (y0 : Int)) = (w1 : Int) ∧ (((w2 + d0 : Nat) : Int) < (w1 : Int)) = True) := fun h => by
      by_cases c : 2 ^ 32 ≤ q
      · exact .inl (eq_true (by omega))
      · have hb : w1 < 2 ^ 64 := by
          have h : q * y0 < 2 ^ 32 * 2 ^ 32 := Nat.mul_lt_mul'' (by omega) hy0b
          omega
        refine .inr ⟨eq_false (by omega), wrapU (by rw [← hw1]; simp) hb, eq_true ?_⟩
        have : ¬ ¬ w1 > w2 + d0 := fun hn => by have := done hn; omega
        omega
    by_cases c : Q0 < q
    · obtain ⟨s1, s2, s3, s4⟩ := step c
      have hfin : ∀ (X : Prop), (2 ^ 32 ≤ r + y1 → ((4294967296 : Int) ≤ ((r + y1 : Nat) : Int)) = True → q - 1 = Q0 → X) → (¬ 2 ^ 32 ≤ r + y1 → ((4294967296 : Int) ≤ ((r + y1 : Nat) : Int)) = False → X) → X := fun X h1 h2 => by
        by_cases c3 : 2 ^ 32 ≤ r + y1
        · exact h1 c3 (eq_true (by omega)) (last c3 c)
        · exact h2 c3 (eq_false (by omega))
      rcases body c with b1 | ⟨b1, b2, b3⟩
      · refine hfin _ ?_ ?_
        · intro c3 b4 c4
          rw [c4] at s2
          rw [Int.natCast_add] at b4 s3
          simp [go_sem, e2, e8, e9, e10, e14, e15, e17, e18, e16, b1, s2, s3, b4]
        · intro c3 b4
          rw [Int.natCast_add] at b4 s3
          simp [go_sem, e2, e8, e9, e10, e14, e15, e17, e18, e16, b1, s2, s3, b4]
          exact ⟨_, .rfl' _, ⟨rfl, q - 1, rfl, r + y1, by omega, s4, by omega, by omega, by omega⟩, by omega⟩
      · refine hfin _ ?_ ?_
        · intro c3 b4 c4
          rw [c4] at s2
          rw [Int.natCast_add] at b4 s3 z3 b3
          simp [go_sem, e2, e8, e9, e10, e14, e15, e17, e18, e16, b1, b2, b3, z2, z3, s2, s3, b4]
        · intro c3 b4
          rw [Int.natCast_add] at b4 s3 z3 b3
          simp [go_sem, e2, e8, e9, e10, e14, e15, e17, e18, e16, b1, b2, b3, z2, z3, s2, s3, b4]
          exact ⟨_, .rfl' _, ⟨rfl, q - 1, rfl, r + y1, by omega, s4, by omega, by omega, by omega⟩, by omega⟩
    · have hqQ : q = Q0 := by omega
      subst hqQ
      have b1 : ((4294967296 : Int) ≤ (q : Int)) = False := eq_false (by omega)
      have hb : w1 < 2 ^ 64 := by
          have h : q * y0 < 2 ^ 32 * 2 ^ 32 := Nat.mul_lt_mul'' (by omega) hy0b
          omega
      have b2 : IntKind.u64.wrap ((q : Int) * (y0 : Int)) = (w1 : Int) := wrapU (by rw [← hw1]; simp) hb
      have b3 : (((w2 + d0 : Nat) : Int) < (w1 : Int)) = False := eq_false (fun h => c (more (.inr (by omega))))
      rw [Int.natCast_add] at z3 b3
      simp [go_sem, e2, e8, e9, e10, e14, e15, e17, e18, e16, b1, b2, b3, z2, z3]
  clear e2 e8 e9 e10 e14 e15 e17 e18 e16
  rintro E4 st4 ⟨rfl, e2, e8, e9, e10, e14, e15, e17, e18⟩
  obtain ⟨P0, hP0⟩ : ∃ a, Q0 * Y = a := ⟨_, rfl⟩
  have hE0' : P0 + R0 = R1 * 2 ^ 32 + d0 := by rw [← hP0, Nat.mul_comm]; exact hE0
  have k1 : IntKind.u64.wrap (IntKind.u64.wrap (IntKind.u64.wrap ((R1 : Int) * 4294967296) + (d0 : Int)) - IntKind.u64.wrap ((Q0 : Int) * (Y : Int))) = (R0 : Int) := by
    rw [show (Q0 : Int) * (Y : Int) = ((P0 : Nat) : Int) by rw [← hP0]; simp]
    simp only [IntKind.wrap_u64]
    omega
  have k2 : IntKind.u64.wrap (IntKind.u64.wrap ((Q1 : Int) * 4294967296) + (Q0 : Int)) = ((Q1 * 2 ^ 32 + Q0 : Nat) : Int) := by
    simp only [IntKind.wrap_u64]
    omega
  obtain ⟨rr, hrr⟩ : ∃ a, R0 / p = a := ⟨_, rfl⟩
  have k3 : (R0 : Int).fdiv (2 ^ s) = (rr : Int) := by
    rw [Int.fdiv_eq_ediv_of_nonneg _ (by exact_mod_cast Nat.zero_le _), ← hrr, ← hp]
    simp
  rw [hrr]
  obtain ⟨qq, hqq⟩ : ∃ a, Q1 * 2 ^ 32 + Q0 = a := ⟨_, rfl⟩
  rw [hqq] at k2 ⊢
  simp [go_sem, shiftBin, e2, e8, e9, e10, e14, e15, e17, e18, k1, k2, k3, qs, hmin]
end
end Go.Proofs.YtflbapmjdfnhhaaGreat
set_option linter.unusedVariables false
set_option linter.unusedSimpArgs false
set_option maxRecDepth 100000
set_option maxHeartbeats 400000
namespace Go.Proofs.YtflbapmjdfnhhaaGreat
open Go.RowKit (Below)
/-- A product by a number, rounded up; whether it fits. -/
def ceilM (a b d : Nat) : Nat × Bool := if d ≤ a * b / 2 ^ 64 then (0, false) else if 0 < a * b % d ∧ a * b / d = 2 ^ 64 - 1 then (0, false) else if 0 < a * b % d then (a * b / d + 1, true) else (a * b / d, true)
theorem div_fits {n d : Nat} (h : n / 2 ^ 64 < d) : n / d < 2 ^ 64 := by
  have hd : 0 < d := by omega
  rw [Nat.div_lt_iff_lt_mul hd]
  rw [Nat.div_lt_iff_lt_mul (by omega)] at h
  rw [Nat.mul_comm]
  exact h
section
variable {W0 : World} {st : Heap}
theorem Div64_spec {hi lo y : Nat} (hy : y < 2 ^ 64) (hlo : lo < 2 ^ 64) (hhi : hi < y) : ICalls Tryz.prog W0 138 #[.int .u64 (hi : Int), .int .u64 (lo : Int), .int .u64 (y : Int)] st fun e st' => e = .returned (.tuple #[.int .u64 (((hi * 2 ^ 64 + lo) / y : Nat) : Int), .int .u64 (((hi * 2 ^ 64 + lo) % y : Nat) : Int)]) ∧ st' = st := by
  by_cases h0 : hi = 0
  · subst h0
    have := Div64_zero (W0 := W0) (st := st) (lo := lo) hy hlo hhi
    simpa using this
  · exact Div64_pos hy hlo hhi (by omega)
theorem full_spec {x y : Nat} (hx : x < 2 ^ 64) (hy : y < 2 ^ 64) : ICalls Tryz.prog W0 124 #[.int .u64 (x : Int), .int .u64 (y : Int)] st fun e st' => e = .returned (.agg #[.int .u64 ((x * y / 2 ^ 64 : Nat) : Int), .int .u64 ((x * y % 2 ^ 64 : Nat) : Int)]) ∧ New st st' := by
  obtain ⟨p, hp⟩ : ∃ p, x * y / 2 ^ 64 = p := ⟨_, rfl⟩
  obtain ⟨q, hq⟩ : ∃ p, x * y % 2 ^ 64 = p := ⟨_, rfl⟩
  rw [hp, hq]
  refine enter (args := [_, _]) Tryz.func124 rfl ?_
  simp [Tryz.f124, go_sem]
  unfold NewP
  intro a ha
  refine ⟨.ty 1, ?_⟩
  simp [go_sem]
  refine (Mul64_spec hx hy).mono ?_
  rintro e st1 ⟨rfl, rfl⟩
  rw [hp, hq]
  simp [go_sem]
  refine RetI_cell ?_
  simp [go_sem]
  exact (New.refl _).put ha
theorem divide_spec {hi lo y : Nat} (hy : y < 2 ^ 64) (hlo : lo < 2 ^ 64) (hhb : hi < 2 ^ 64) : ICalls Tryz.prog W0 123 #[.agg #[.int .u64 (hi : Int), .int .u64 (lo : Int)], .int .u64 (y : Int)] st fun e st' => e = .returned (.agg (if y ≤ hi then #[.int .u64 0, .int .u64 0, .bool false] else #[.int .u64 (((hi * 2 ^ 64 + lo) / y : Nat) : Int), .int .u64 (((hi * 2 ^ 64 + lo) % y : Nat) : Int), .bool true])) ∧ New st st' := by
  obtain ⟨p, hp⟩ : ∃ p, (hi * 2 ^ 64 + lo) / y = p := ⟨_, rfl⟩
  obtain ⟨q, hq⟩ : ∃ p, (hi * 2 ^ 64 + lo) % y = p := ⟨_, rfl⟩
  rw [hp, hq]
  refine enter (args := [_, _]) Tryz.func123 rfl ?_
  simp [Tryz.f123, go_sem]
  unfold NewP
  intro a ha
  refine ⟨.ty 1, ?_⟩
  have k1 := (New.refl st).add (b := a) (o := .cells true [.int .u64 (hi : Int), .int .u64 (lo : Int)] 2 (.ty 1)) ha
  have g1 := upd_same st a (.cells true [.int .u64 (hi : Int), .int .u64 (lo : Int)] 2 (.ty 1))
  simp [go_sem]
  generalize upd st a (.cells true [.int .u64 (hi : Int), .int .u64 (lo : Int)] 2 (.ty 1)) = st1 at *
  unfold NewP
  intro b hb
  refine ⟨.ty 1, ?_⟩
  have hne : a ≠ b := by rintro rfl; rw [g1] at hb; cases hb
  have hbn : st b = none := k1.none hb
  by_cases c : y ≤ hi
  · rw [if_pos c]
    have q1 : ((y : Int) ≤ (hi : Int)) = True := eq_true (by omega)
    simp [go_sem, hne, upd_ne, g1, q1, c]
    refine RetI_cell ?_
    simp [go_sem]
    exact k1.put hbn
  · rw [if_neg c]
    have q1 : ((y : Int) ≤ (hi : Int)) = False := eq_false (by omega)
    simp [go_sem, hne, upd_ne, g1, q1, c]
    refine (Div64_spec hy hlo (by omega)).mono ?_
    rintro e st2 ⟨rfl, rfl⟩
    rw [hp, hq]
    simp [go_sem]
    refine RetI_cell ?_
    simp [go_sem]
    exact k1.put hbn
theorem wideDiv_spec {hi lo y : Nat} (hy : y < 2 ^ 64) (hlo : lo < 2 ^ 64) (hhb : hi < 2 ^ 64) : ICalls Tryz.prog W0 108 #[.int .u64 (hi : Int), .int .u64 (lo : Int), .int .u64 (y : Int)] st fun e st' => e = .returned (.tuple (if y ≤ hi then #[.int .u64 0, .int .u64 0, .bool false] else #[.int .u64 (((hi * 2 ^ 64 + lo) / y : Nat) : Int), .int .u64 (((hi * 2 ^ 64 + lo) % y : Nat) : Int), .bool true])) ∧ New st st' := by
  obtain ⟨u, v, w, huvw⟩ : ∃ (u v : Int) (w : Bool), (if y ≤ hi then #[Value.int .u64 0, .int .u64 0, .bool false] else #[.int .u64 (((hi * 2 ^ 64 + lo) / y : Nat) : Int), .int .u64 (((hi * 2 ^ 64 + lo) % y : Nat) : Int), .bool true]) = #[.int .u64 u, .int .u64 v, .bool w] := by
    split
    · exact ⟨_, _, _, rfl⟩
    · exact ⟨_, _, _, rfl⟩
  rw [huvw]
  refine enter (args := [_, _, _]) Tryz.func108 rfl ?_
  simp [Tryz.f108, go_sem]
  refine (divide_spec hy hlo hhb).mono ?_
  rintro e st1 ⟨rfl, k1⟩
  rw [huvw]
  simp [go_sem]
  unfold NewP
  intro a ha
  refine ⟨.ty 1, ?_⟩
  simp [go_sem]
  refine draw [0, 2, 4, 1, 6, 3, 7, 5, 8] (by kernel_rfl) ?_
  simp [go_sem]
  exact k1.add ha
theorem Ceil_spec {x y d : Nat} (hx : x < 2 ^ 64) (hy : y < 2 ^ 64) (hd : d < 2 ^ 64) : ICalls Tryz.prog W0 106 #[.int .u64 (x : Int), .int .u64 (y : Int), .int .u64 (d : Int)] st fun e st' => e = .returned (.tuple #[.int .u64 ((ceilM x y d).1 : Int), .bool (ceilM x y d).2]) ∧ New st st' := by
  have hs : Tryz.prog.stoodInHeld 163 = false := by kernel_rfl
  have hg : Tryz.prog.eqGuardType Tryz.prog.depth 163 = false := by kernel_rfl
  have heq : ∀ (u v : Int) (w : Bool), binV Tryz.prog .eql 163 (.agg #[.int .u64 u, .int .u64 v, .bool w]) (.agg #[.int .u64 0, .int .u64 0, .bool false]) = some (.bool (decide (u = 0) && (decide (v = 0) && !w))) := fun u v w => by
    unfold binV eqBin aggEqB
    simp only [Tryz.underlying163, hs, hg]
    simp [fieldsEq, Tryz.underlying26, Tryz.underlying4]
    by_cases h1 : u = 0 <;> by_cases h2 : v = 0 <;> cases w <;> simp [h1, h2]
  generalize hres : ceilM x y d = res
  obtain ⟨rv, rb⟩ := res
  unfold ceilM at hres
  refine enter (args := [_, _, _]) Tryz.func106 rfl ?_
  simp [Tryz.f106, go_sem]
  refine (full_spec hx hy).mono ?_
  rintro e st1 ⟨rfl, k1⟩
  have hpb : x * y / 2 ^ 64 < 2 ^ 64 := Nat.div_lt_of_lt_mul (Nat.mul_lt_mul'' hx hy)
  have hqb : x * y % 2 ^ 64 < 2 ^ 64 := Nat.mod_lt _ (by omega)
  have hpq : x * y / 2 ^ 64 * 2 ^ 64 + x * y % 2 ^ 64 = x * y := by rw [Nat.mul_comm]; exact Nat.div_add_mod _ _
  have hfit : x * y / 2 ^ 64 < d → x * y / d < 2 ^ 64 := div_fits
  generalize x * y / 2 ^ 64 = p at *
  generalize x * y % 2 ^ 64 = q at *
  simp [go_sem]
  refine (divide_spec hd hqb hpb).mono ?_
  rintro e st2 ⟨rfl, k2⟩
  rw [hpq]
  have kk := k1.trans k2
  by_cases c1 : d ≤ p
  · rw [if_pos c1] at hres ⊢
    injection hres with h1 h2
    subst h1; subst h2
    simp [go_sem]
    unfold NewP
    intro a ha
    refine ⟨.ty 1, ?_⟩
    simp [go_sem, heq]
    exact kk.add ha
  · rw [if_neg c1] at hres ⊢
    have hf := hfit (by omega)
    generalize x * y / d = u at *
    generalize x * y % d = v at *
    simp [go_sem]
    unfold NewP
    intro a ha
    refine ⟨.ty 1, ?_⟩
    by_cases c2 : 0 < v
    · have q2 : ((0 : Int) < (v : Int)) = True := eq_true (by omega)
      by_cases c3 : u = 2 ^ 64 - 1
      · rw [if_pos ⟨c2, c3⟩] at hres
        injection hres with h1 h2
        subst h1; subst h2
        have q3 : ((u : Int) = 18446744073709551615) = True := eq_true (by omega)
        simp [go_sem, heq, q2, q3, c2]
        exact kk.add ha
      · rw [if_neg (fun h => c3 h.2), if_pos c2] at hres
        injection hres with h1 h2
        subst h1; subst h2
        have q3 : ((u : Int) = 18446744073709551615) = False := eq_false (by omega)
        have hw : IntKind.u64.wrap ((u : Int) + 1) = (u : Int) + 1 := wraps_u64 _ (by omega) (by omega)
        simp [go_sem, heq, q2, q3, c2, hw]
        exact kk.add ha
    · have q2 : ((0 : Int) < (v : Int)) = False := eq_false (by omega)
      rw [if_neg (fun h => c2 h.1), if_neg c2] at hres
      injection hres with h1 h2
      subst h1; subst h2
      simp [go_sem, heq, q2, c2]
      exact kk.add ha
end
end Go.Proofs.YtflbapmjdfnhhaaGreat
