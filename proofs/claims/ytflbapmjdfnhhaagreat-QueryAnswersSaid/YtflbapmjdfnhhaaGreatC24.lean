/- Products and quotients, bit by bit: the document's way. -/
import Derived.Test.YtflbapmjdfnhhaaGreatC23
import Derived.Test.YtflbapmjdfnhhaaGreatC22
set_option linter.unusedVariables false
set_option linter.unusedSimpArgs false
set_option maxRecDepth 100000
set_option maxHeartbeats 400000
namespace Go.Proofs.YtflbapmjdfnhhaaGreat
open Go.RowKit (Below)
theorem bit_step (b m : Nat) : b / 2 ^ m = 2 * (b / 2 ^ (m + 1)) + b / 2 ^ m % 2 := by
  rw [Nat.pow_succ, ← Nat.div_div_eq_div_mul]
  omega
theorem bits_and1n (x : Nat) (h : x < 2 ^ 64) : bits .and .u64 (x : Int) 1 = ((x % 2 : Nat) : Int) := by
  rw [bits_and1 _ (by omega) (by omega)]
  simp
theorem bits_oreven (x b : Nat) (hx : x < 2 ^ 64) (h : x % 2 = 0) (hb : b < 2) : bits .or .u64 (x : Int) (b : Int) = ((x + b : Nat) : Int) := by
  have := bits_join64 1 (b : Int) (x : Int) (by omega) (by omega) (by omega) (by omega) (by omega) (by omega)
  have hc : bits .or .u64 (x : Int) (b : Int) = bits .or .u64 (b : Int) (x : Int) := by
    unfold bits
    simp only [BitVec.or_comm]
  rw [hc, this]
  omega
theorem fdiv_two (x m : Nat) : (x : Int).fdiv (2 ^ m) = ((x / 2 ^ m : Nat) : Int) := by
  rw [Int.fdiv_eq_ediv_of_nonneg _ (by exact_mod_cast Nat.zero_le _)]
  simp
section
variable {W0 : World} {st : Heap}
theorem refFull_spec {a b : Nat} (ha : a < 2 ^ 64) (hb : b < 2 ^ 64) : ICalls Tryz.prog W0 112 #[.int .u64 (a : Int), .int .u64 (b : Int)] st fun e st' => e = .returned (.tuple #[.int .u64 ((a * b / 2 ^ 64 : Nat) : Int), .int .u64 ((a * b % 2 ^ 64 : Nat) : Int)]) ∧ st' = st := by
  obtain ⟨p, hp⟩ : ∃ p, a * b / 2 ^ 64 = p := ⟨_, rfl⟩
  obtain ⟨q, hq⟩ : ∃ p, a * b % 2 ^ 64 = p := ⟨_, rfl⟩
  rw [hp, hq]
  refine enter (args := [_, _]) Tryz.func112 rfl ?_
  simp [Tryz.f112, go_sem]
  refine ⟨fun E st' => st' = st ∧ E 0 = .int .u64 (a : Int) ∧ E 1 = .int .u64 (b : Int) ∧ ∃ k hi lo : Nat, E 8 = Val.i ((k : Int) - 1) ∧ k ≤ 64 ∧ E 6 = .int .u64 (hi : Int) ∧ E 7 = .int .u64 (lo : Int) ∧ hi < 2 ^ 64 ∧ lo < 2 ^ 64 ∧ hi * 2 ^ 64 + lo = a * (b / 2 ^ k), fun E _ => match E 8 with | .int _ z => (z + 1).toNat | _ => 0,
    ⟨st, .rfl' _, rfl, by simp [go_sem], by simp [go_sem], 64, 0, 0, by simp [go_sem], by omega, by simp [go_sem], by simp [go_sem], by omega, by omega, by rw [Nat.div_eq_of_lt hb, Nat.mul_zero]⟩, ?_⟩
  rintro E st' ⟨rfl, e0, e1, k, hi, lo, e8, hk, e6, e7, hh, hl, hN⟩
  match k with
  | 0 =>
    simp only [Nat.pow_zero, Nat.div_one] at hN
    have h1 : hi = p := by omega
    have h2 : lo = q := by omega
    subst h1; subst h2
    simp [go_sem, e0, e1, e6, e7, e8]
  | m + 1 =>
    have e8' : E 8 = Val.i (m : Int) := by rw [e8]; congr 1; omega
    have hs := bit_step b m
    have hbit : b / 2 ^ m % 2 < 2 := Nat.mod_lt _ (by omega)
    have hle : a * (b / 2 ^ m) < 2 ^ 64 * 2 ^ 64 := Nat.mul_lt_mul'' ha (Nat.lt_of_le_of_lt (Nat.div_le_self _ _) hb)
    have hbm : b / 2 ^ m < 2 ^ 64 := Nat.lt_of_le_of_lt (Nat.div_le_self _ _) hb
    have hN' : a * (b / 2 ^ m) = 2 * (hi * 2 ^ 64 + lo) + a * (b / 2 ^ m % 2) := by
      rw [hN]
      conv => lhs; rw [hs]
      rw [Nat.mul_add, Nat.mul_left_comm]
    obtain ⟨hl1, hhl1⟩ : ∃ x, lo / 2 ^ 63 = x := ⟨_, rfl⟩
    obtain ⟨h2, hh2⟩ : ∃ x, hi * 2 = x := ⟨_, rfl⟩
    obtain ⟨lo1, hlo1⟩ : ∃ x, lo * 2 % 2 ^ 64 = x := ⟨_, rfl⟩
    have hh2b : h2 < 2 ^ 64 := by omega
    have f1 : IntKind.u64.wrap ((hi : Int) * 2) = (h2 : Int) := wrapU (by omega) hh2b
    have f2 : (lo : Int).fdiv 9223372036854775808 = (hl1 : Int) := by rw [Int.fdiv_eq_ediv_of_nonneg _ (by omega)]; omega
    have f3 := bits_oreven h2 hl1 hh2b (by omega) (by omega)
    have f4 : IntKind.u64.wrap ((lo : Int) * 2) = (lo1 : Int) := by rw [IntKind.wrap_u64]; omega
    have f5 := fdiv_two b m
    have hmw : IntKind.u64.wrap (m : Int) = (m : Int) := wrapU rfl (by omega)
    have hmin : min m 64 = m := by omega
    have qm : ((m : Int) < 0) = False := eq_false (by omega)
    have qm' : ((0 : Int) ≤ (m : Int)) = True := eq_true (by omega)
    have f6 := bits_and1n (b / 2 ^ m) hbm
    have f7 : IntKind.i64.wrap ((m : Int) - 1) = (m : Int) - 1 := wrap_id (by omega) (by omega)
    obtain ⟨h3, hh3⟩ : ∃ x, h2 + hl1 = x := ⟨_, rfl⟩
    rw [hh3] at f3
    obtain ⟨bm, hbm'⟩ : ∃ x, b / 2 ^ m = x := ⟨_, rfl⟩
    rw [hbm'] at f5 f6 hN' hle hbit
    obtain ⟨bt, hbt⟩ : ∃ x, bm % 2 = x := ⟨_, rfl⟩
    rw [hbt] at f6 hN' hbit
    by_cases c : bt = 1
    · subst c
      rw [Nat.mul_one] at hN'
      have g1 : IntKind.u64.wrap (18446744073709551615 - (a : Int)) = ((2 ^ 64 - 1 - a : Nat) : Int) := wrapU (by omega) (by omega)
      obtain ⟨na, hna⟩ : ∃ x, 2 ^ 64 - 1 - a = x := ⟨_, rfl⟩
      rw [hna] at g1
      by_cases c2 : na < lo1
      · have q2 : ((na : Int) < (lo1 : Int)) = True := eq_true (by omega)
        have g2 : IntKind.u64.wrap ((h3 : Int) + 1) = ((h3 + 1 : Nat) : Int) := wrapU (by omega) (by omega)
        have g3 : IntKind.u64.wrap ((lo1 : Int) + (a : Int)) = ((lo1 + a - 2 ^ 64 : Nat) : Int) := by rw [IntKind.wrap_u64]; omega
        obtain ⟨h4, hh4⟩ : ∃ x, h3 + 1 = x := ⟨_, rfl⟩
        obtain ⟨l4, hl4⟩ : ∃ x, lo1 + a - 2 ^ 64 = x := ⟨_, rfl⟩
        rw [hh4] at g2
        rw [hl4] at g3
        simp [go_sem, shiftBin, e0, e1, e6, e7, e8', f1, f2, f3, f4, f5, f6, f7, hmw, hmin, qm, qm', g1, g2, g3, q2, c2]
        exact ⟨_, .rfl' _, rfl, m, rfl, by omega, h4, rfl, l4, rfl, by omega, by omega, by rw [hbm', hN']; clear hN hle hN' hs hbm'; omega⟩
      · have q2 : ((na : Int) < (lo1 : Int)) = False := eq_false (by omega)
        have g3 : IntKind.u64.wrap ((lo1 : Int) + (a : Int)) = ((lo1 + a : Nat) : Int) := wrapU (by omega) (by omega)
        obtain ⟨l4, hl4⟩ : ∃ x, lo1 + a = x := ⟨_, rfl⟩
        rw [hl4] at g3
        simp [go_sem, shiftBin, e0, e1, e6, e7, e8', f1, f2, f3, f4, f5, f6, f7, hmw, hmin, qm, qm', g1, g3, q2, c2]
        exact ⟨_, .rfl' _, rfl, m, rfl, by omega, h3, rfl, l4, rfl, by omega, by omega, by rw [hbm', hN']; clear hN hle hN' hs hbm'; omega⟩
    · have hb0 : bt = 0 := by omega
      subst hb0
      rw [Nat.mul_zero, Nat.add_zero] at hN'
      simp [go_sem, shiftBin, e0, e1, e6, e7, e8', f1, f2, f3, f4, f5, f6, f7, hmw, hmin, qm, qm']
      exact ⟨_, .rfl' _, rfl, m, rfl, by omega, h3, rfl, lo1, rfl, by omega, by omega, by rw [hbm', hN']; clear hN hle hN' hs hbm'; omega⟩
theorem refDiv_spec {hi lo d : Nat} (hh : hi < 2 ^ 64) (hl : lo < 2 ^ 64) (hd : d < 2 ^ 64) : ICalls Tryz.prog W0 94 #[.int .u64 (hi : Int), .int .u64 (lo : Int), .int .u64 (d : Int)] st fun e st' => e = .returned (.tuple (if d ≤ hi then #[.int .u64 0, .int .u64 0, .bool false] else #[.int .u64 (((hi * 2 ^ 64 + lo) / d : Nat) : Int), .int .u64 (((hi * 2 ^ 64 + lo) % d : Nat) : Int), .bool true])) ∧ st' = st := by
  by_cases c0 : d ≤ hi
  · rw [if_pos c0]
    refine enter (args := [_, _, _]) Tryz.func94 rfl ?_
    by_cases c1 : d = 0
    · subst c1
      simp [Tryz.f94, go_sem]
    · have q1 : ((d : Int) = 0) = False := eq_false (by omega)
      have q2 : ((d : Int) ≤ (hi : Int)) = True := eq_true (by omega)
      simp [Tryz.f94, go_sem, q1, q2, c1, c0]
  rw [if_neg c0]
  obtain ⟨P, hP⟩ : ∃ p, (hi * 2 ^ 64 + lo) / d = p := ⟨_, rfl⟩
  obtain ⟨R, hR⟩ : ∃ p, (hi * 2 ^ 64 + lo) % d = p := ⟨_, rfl⟩
  rw [hP, hR]
  refine enter (args := [_, _, _]) Tryz.func94 rfl ?_
  have q1 : ((d : Int) = 0) = False := eq_false (by omega)
  have q1' : d ≠ 0 := by omega
  have q2 : ((d : Int) ≤ (hi : Int)) = False := eq_false (by omega)
  simp [Tryz.f94, go_sem, q1, q2, q1', c0]
  refine ⟨fun E st' => st' = st ∧ E 1 = .int .u64 (lo : Int) ∧ E 2 = .int .u64 (d : Int) ∧ ∃ k q r : Nat, E 11 = Val.i ((k : Int) - 1) ∧ k ≤ 64 ∧ E 10 = .int .u64 (q : Int) ∧ E 9 = .int .u64 (r : Int) ∧ r < d ∧ q * 2 ^ k < 2 ^ 64 ∧ q * d + r = hi * 2 ^ (64 - k) + lo / 2 ^ k, fun E _ => match E 11 with | .int _ z => (z + 1).toNat | _ => 0,
    ⟨st, .rfl' _, rfl, by simp [go_sem], by simp [go_sem], 64, 0, hi, by simp [go_sem], by omega, by simp [go_sem], by simp [go_sem], by omega, by rw [Nat.zero_mul]; exact Nat.two_pow_pos 64, by rw [Nat.div_eq_of_lt hl, Nat.sub_self, Nat.pow_zero, Nat.zero_mul, Nat.mul_one, Nat.zero_add, Nat.add_zero]⟩, ?_⟩
  rintro E st' ⟨rfl, e1, e2, k, q, r, e11, hk, e10, e9, hr, hq, hN⟩
  match k with
  | 0 =>
    simp only [Nat.pow_zero, Nat.div_one] at hN
    have hN2 : hi * 2 ^ 64 + lo = r + d * q := by rw [← hN, Nat.mul_comm d q, Nat.add_comm]
    have h1 : q = P := by rw [← hP, hN2, Nat.add_mul_div_left _ _ (by omega), Nat.div_eq_of_lt hr]; omega
    have h2 : r = R := by rw [← hR, hN2, Nat.add_mul_mod_self_left, Nat.mod_eq_of_lt hr]
    subst h1; subst h2
    simp [go_sem, e1, e2, e9, e10, e11]
  | m + 1 =>
    have e11' : E 11 = Val.i (m : Int) := by rw [e11]; congr 1; omega
    have hs := bit_step lo m
    have hbm : lo / 2 ^ m < 2 ^ 64 := Nat.lt_of_le_of_lt (Nat.div_le_self _ _) hl
    have f6 := bits_and1n (lo / 2 ^ m) hbm
    have f5 := fdiv_two lo m
    have hpow : hi * 2 ^ (64 - m) = 2 * (hi * 2 ^ (64 - (m + 1))) := by
      rw [show 64 - m = 64 - (m + 1) + 1 by omega, Nat.pow_succ]
      rw [← Nat.mul_assoc, Nat.mul_comm]
    obtain ⟨bm, hbm'⟩ : ∃ x, lo / 2 ^ m = x := ⟨_, rfl⟩
    rw [hbm'] at f5 f6 hs hbm
    have hbit : bm % 2 < 2 := Nat.mod_lt _ (by omega)
    obtain ⟨bt, hbt⟩ : ∃ x, bm % 2 = x := ⟨_, rfl⟩
    rw [hbt] at f6 hs hbit
    have hN' : 2 * (q * d) + (2 * r + bt) = hi * 2 ^ (64 - m) + bm := by
      rw [hpow, hs]
      omega
    have hq2 : q * 2 * 2 ^ m < 2 ^ 64 := by
      have : q * 2 ^ (m + 1) = q * 2 * 2 ^ m := by rw [Nat.pow_succ, Nat.mul_comm (2 ^ m), Nat.mul_assoc]
      omega
    have hq3 : q * 2 < 2 ^ 64 := Nat.lt_of_le_of_lt (Nat.le_mul_of_pos_right _ (Nat.two_pow_pos m)) hq2
    obtain ⟨tp, htp⟩ : ∃ x, r / 2 ^ 63 = x := ⟨_, rfl⟩
    have g1 : (r : Int).fdiv 9223372036854775808 = (tp : Int) := by rw [Int.fdiv_eq_ediv_of_nonneg _ (by omega)]; omega
    obtain ⟨r2, hr2⟩ : ∃ x, r * 2 % 2 ^ 64 = x := ⟨_, rfl⟩
    have g2 : IntKind.u64.wrap ((r : Int) * 2) = (r2 : Int) := by rw [IntKind.wrap_u64]; omega
    have g3 := bits_oreven r2 bt (by omega) (by omega) hbit
    obtain ⟨q2', hq2'⟩ : ∃ x, q * 2 = x := ⟨_, rfl⟩
    have g4 : IntKind.u64.wrap ((q : Int) * 2) = (q2' : Int) := wrapU (by omega) (by omega)
    have g5 : bits .or .u64 (q2' : Int) 1 = ((q2' + 1 : Nat) : Int) := bits_oreven q2' 1 (by omega) (by omega) (by omega)
    have hmw : IntKind.u64.wrap (m : Int) = (m : Int) := wrapU rfl (by omega)
    have hmin : min m 64 = m := by omega
    have qm : ((m : Int) < 0) = False := eq_false (by omega)
    have qm' : ((0 : Int) ≤ (m : Int)) = True := eq_true (by omega)
    have f7 : IntKind.i64.wrap ((m : Int) - 1) = (m : Int) - 1 := wrap_id (by omega) (by omega)
    obtain ⟨r3, hr3⟩ : ∃ x, r2 + bt = x := ⟨_, rfl⟩
    rw [hr3] at g3
    have hqd : q2' * d = 2 * (q * d) := by rw [← hq2', Nat.mul_comm q 2, Nat.mul_assoc]
    obtain ⟨QD, hQD⟩ : ∃ x, q * d = x := ⟨_, rfl⟩
    rw [hQD] at hqd hN'
    obtain ⟨q4, hq4⟩ : ∃ x, q2' + 1 = x := ⟨_, rfl⟩
    have hq4d : q4 * d = 2 * QD + d := by rw [← hq4, Nat.add_mul, hqd]; omega
    rw [hq4] at g5
    have hq4b : d ≤ 2 * r + bt → q4 * 2 ^ m < 2 ^ 64 := fun h => by
      have h1 : q4 * d ≤ hi * 2 ^ (64 - m) + bm := by omega
      have h2 : bm < 2 ^ (64 - m) := by
        rw [← hbm', Nat.div_lt_iff_lt_mul (Nat.two_pow_pos m), ← Nat.pow_add, show 64 - m + m = 64 by omega]
        exact hl
      have h3 : q4 * d < d * 2 ^ (64 - m) := by
        have : (hi + 1) * 2 ^ (64 - m) ≤ d * 2 ^ (64 - m) := Nat.mul_le_mul_right _ (by omega)
        rw [Nat.add_mul] at this
        omega
      rw [Nat.mul_comm d] at h3
      have h4 : q4 < 2 ^ (64 - m) := Nat.lt_of_mul_lt_mul_right h3
      have h5 : q4 * 2 ^ m < 2 ^ (64 - m) * 2 ^ m := Nat.mul_lt_mul_of_pos_right h4 (Nat.two_pow_pos m)
      rw [← Nat.pow_add, show 64 - m + m = 64 by omega] at h5
      exact h5
    rw [hq2'] at hq2
    by_cases c : d ≤ 2 * r + bt
    · have hq4b' := hq4b c
      obtain ⟨r4, hr4⟩ : ∃ x, 2 * r + bt - d = x := ⟨_, rfl⟩
      have g6 : IntKind.u64.wrap ((r3 : Int) - (d : Int)) = (r4 : Int) := by rw [IntKind.wrap_u64]; omega
      by_cases c2 : tp = 1
      · subst c2
        simp [go_sem, shiftBin, e1, e2, e9, e10, e11', f5, f6, f7, g1, g2, g3, g4, g5, g6, hmw, hmin, qm, qm']
        exact ⟨_, .rfl' _, rfl, m, rfl, by omega, q4, rfl, r4, rfl, by omega, hq4b', by rw [hbm', hq4d]; omega⟩
      · have t1 : ((tp : Int) = 1) = False := eq_false (by omega)
        have t2 : ((d : Int) ≤ (r3 : Int)) = True := eq_true (by omega)
        have t3 : d ≤ r3 := by omega
        simp [go_sem, shiftBin, e1, e2, e9, e10, e11', f5, f6, f7, g1, g2, g3, g4, g5, g6, hmw, hmin, qm, qm', t1, t2, t3, c2]
        exact ⟨_, .rfl' _, rfl, m, rfl, by omega, q4, rfl, r4, rfl, by omega, hq4b', by rw [hbm', hq4d]; omega⟩
    · have c2 : tp ≠ 1 := by omega
      have t1 : ((tp : Int) = 1) = False := eq_false (by omega)
      have t2 : ((d : Int) ≤ (r3 : Int)) = False := eq_false (by omega)
      have t3 : ¬ d ≤ r3 := by omega
      simp [go_sem, shiftBin, e1, e2, e9, e10, e11', f5, f6, f7, g1, g2, g3, g4, hmw, hmin, qm, qm', t1, t2, t3, c2]
      exact ⟨_, .rfl' _, rfl, m, rfl, by omega, q2', rfl, r3, rfl, by omega, hq2, by rw [hbm', hqd]; omega⟩
theorem refCeil_spec {x y d : Nat} (hx : x < 2 ^ 64) (hy : y < 2 ^ 64) (hd : d < 2 ^ 64) : ICalls Tryz.prog W0 92 #[.int .u64 (x : Int), .int .u64 (y : Int), .int .u64 (d : Int)] st fun e st' => e = .returned (.tuple #[.int .u64 ((ceilM x y d).1 : Int), .bool (ceilM x y d).2]) ∧ st' = st := by
  generalize hres : ceilM x y d = res
  obtain ⟨rv, rb⟩ := res
  unfold ceilM at hres
  have hpb : x * y / 2 ^ 64 < 2 ^ 64 := Nat.div_lt_of_lt_mul (Nat.mul_lt_mul'' hx hy)
  have hqb : x * y % 2 ^ 64 < 2 ^ 64 := Nat.mod_lt _ (by omega)
  have hpq : x * y / 2 ^ 64 * 2 ^ 64 + x * y % 2 ^ 64 = x * y := by rw [Nat.mul_comm]; exact Nat.div_add_mod _ _
  have hfit : x * y / 2 ^ 64 < d → x * y / d < 2 ^ 64 := div_fits
  have hF := refFull_spec (W0 := W0) (st := st) hx hy
  generalize x * y / 2 ^ 64 = p at *
  generalize x * y % 2 ^ 64 = q at *
  refine enter (args := [_, _, _]) Tryz.func92 rfl ?_
  simp [Tryz.f92, go_sem]
  refine hF.mono ?_
  rintro e st1 ⟨rfl, rfl⟩
  simp [go_sem]
  refine (refDiv_spec hpb hqb hd).mono ?_
  rintro e st2 ⟨rfl, rfl⟩
  rw [hpq]
  by_cases c1 : d ≤ p
  · rw [if_pos c1] at hres ⊢
    injection hres with h1 h2
    subst h1; subst h2
    simp [go_sem]
  · rw [if_neg c1] at hres ⊢
    have hf := hfit (by omega)
    generalize x * y / d = u at *
    generalize x * y % d = v at *
    simp [go_sem]
    by_cases c2 : 0 < v
    · have q2 : ((0 : Int) < (v : Int)) = True := eq_true (by omega)
      by_cases c3 : u = 2 ^ 64 - 1
      · rw [if_pos ⟨c2, c3⟩] at hres
        injection hres with h1 h2
        subst h1; subst h2
        have q3 : ((u : Int) = 18446744073709551615) = True := eq_true (by omega)
        simp [go_sem, q2, q3, c2]
      · rw [if_neg (fun h => c3 h.2), if_pos c2] at hres
        injection hres with h1 h2
        subst h1; subst h2
        have q3 : ((u : Int) = 18446744073709551615) = False := eq_false (by omega)
        have hw : IntKind.u64.wrap ((u : Int) + 1) = (u : Int) + 1 := wraps_u64 _ (by omega) (by omega)
        simp [go_sem, q2, q3, c2, hw]
    · have q2 : ((0 : Int) < (v : Int)) = False := eq_false (by omega)
      rw [if_neg (fun h => c2 h.1), if_neg c2] at hres
      injection hres with h1 h2
      subst h1; subst h2
      simp [go_sem, q2, c2]
end
end Go.Proofs.YtflbapmjdfnhhaaGreat
set_option linter.unusedVariables false
set_option linter.unusedSimpArgs false
set_option maxRecDepth 100000
set_option maxHeartbeats 400000
namespace Go.Proofs.YtflbapmjdfnhhaaGreat
open Go.RowKit (Below)
/-- How many unlike things, as far as hashes tell. -/
def distinctM (l : List Nat) : Nat := if l.length < 1024 then l.length else if l.getD (l.length - 1) 0 = 2 ^ 64 - 1 then 1023 else if l.getD (l.length - 1) 0 + 1 ≤ 1023 then 0 else 1023 * 2 ^ 64 / (l.getD (l.length - 1) 0 + 1)
theorem cellsU_get (l : List Nat) (i : Nat) (h : i < l.length) : (cellsU l)[i]? = some (.int .u64 ((l.getD i 0 : Nat) : Int)) := by
  simp [cellsU, List.getElem?_eq_getElem h]
section
variable {W0 : World} {st : Heap}
theorem Distinct_spec {v : Value} {l : List Nat} (h : RegF st 1 v (cellsU l) l.length) (hc : checkK l = true) (hb : ∀ x ∈ l, x < 2 ^ 64) : ICalls Tryz.prog W0 88 #[v] st fun e st' => e = .returned (.int .u64 (distinctM l : Nat)) ∧ New st st' := by
  have hlen : l.length ≤ 1024 := by simp [checkK] at hc; exact hc.1
  obtain ⟨tb, tc, rfl⟩ := h.slice
  refine enter (args := [_]) Tryz.func88 rfl ?_
  simp [Tryz.f88, go_sem]
  refine (kmvCheck_spec h (by omega)).mono ?_
  rintro e st1 ⟨rfl, rfl⟩
  rw [hc]
  unfold distinctM
  by_cases c1 : l.length < 1024
  · have q1 : ((l.length : Int) < 1024) = True := eq_true (by omega)
    have hw : IntKind.u64.wrap (l.length : Int) = (l.length : Int) := wraps_u64 _ (by omega) (by omega)
    rw [if_pos c1]
    simp [go_sem, q1, c1, hw]
    exact New.refl _
  have hl : l.length = 1024 := by omega
  have q1 : ((l.length : Int) < 1024) = False := eq_false (by omega)
  rw [if_neg c1]
  obtain ⟨blk, off, rfl, hg⟩ := src_get h.src (by omega)
  have hg1 := hg 1023 (by omega)
  rw [cellsU_get l 1023 (by omega)] at hg1
  rw [show l.length - 1 = 1023 by omega]
  have hm : l.getD 1023 0 < 2 ^ 64 := by
    rw [List.getD_eq_getElem?_getD, List.getElem?_eq_getElem (by omega)]
    exact hb _ (List.getElem_mem _)
  generalize l.getD 1023 0 = m at *
  have q2 : (1023 : Nat) < l.length := by omega
  have q2' : ((1023 : Int) < (l.length : Int)) = True := eq_true (by omega)
  by_cases c2 : m = 2 ^ 64 - 1
  · have q3 : ((m : Int) = 18446744073709551615) = True := eq_true (by omega)
    rw [if_pos c2]
    simp [go_sem, q1, c1, q2, q2', hg1, q3]
    exact New.refl _
  have q3 : ((m : Int) = 18446744073709551615) = False := eq_false (by omega)
  have hw : IntKind.u64.wrap ((m : Int) + 1) = ((m + 1 : Nat) : Int) := wrapU (by omega) (by omega)
  obtain ⟨m1, hm1⟩ : ∃ x, m + 1 = x := ⟨_, rfl⟩
  rw [hm1] at hw ⊢
  rw [if_neg c2]
  simp [go_sem, q1, c1, q2, q2', hg1, q3, hw]
  refine ICalls.mono (by simpa using wideDiv_spec (hi := 1023) (lo := 0) (y := m1) (by omega) (by omega) (by omega)) ?_
  rintro e st2 ⟨rfl, hk⟩
  by_cases c3 : m1 ≤ 1023
  · rw [if_pos c3, if_pos c3]
    simp [go_sem]
    exact hk
  · rw [if_neg c3, if_neg c3]
    obtain ⟨r, hr⟩ : ∃ r, 1023 * 2 ^ 64 / m1 = r := ⟨_, rfl⟩
    rw [hr]
    have hr' : (1023 * 18446744073709551616 : Int) / (m1 : Int) = (r : Int) := by rw [← hr]; simp
    simp [go_sem]
    refine ⟨?_, hk⟩
    first | exact hr' | (rw [← hr]; simp)
theorem refKmvCheck_spec {v : Value} {l : List Nat} (h : RegF st 1 v (cellsU l) l.length) (hll : l.length < 2 ^ 50) : ICalls Tryz.prog W0 53 #[v] st fun e st' => e = .returned (.bool (checkK l)) ∧ st' = st := by
  obtain ⟨tb, tc, rfl⟩ := h.slice
  generalize hres : checkK l = res
  refine enter (args := [_]) Tryz.func53 rfl ?_
  simp [Tryz.f53, go_sem]
  refine ⟨fun E st' => st' = st ∧ E 0 = .slice tb l.length tc ∧ ∃ i : Nat, E 3 = Val.i i ∧ 1 ≤ i ∧ i ≤ l.length + 1 ∧ (decide (l.length ≤ 1024) && ascK (l.drop (i - 1))) = res,
    fun E _ => match E 3 with | .int _ i => l.length + 1 - i.toNat | _ => 0, ⟨st, .rfl' _, rfl, by simp [go_sem], 1, by simp [go_sem], by omega, by omega, by simpa [checkK] using hres⟩, ?_⟩
  rintro E st2 ⟨rfl, e0, i, e3, hi1, hi, hc⟩
  by_cases hlt : i < l.length
  · have hlt' : ((i : Int) < l.length) = True := eq_true (by omega)
    obtain ⟨k, rfl⟩ : ∃ k, i = k + 1 := ⟨i - 1, by omega⟩
    have q4 : ((k : Int) + 1 < l.length) = True := eq_true (by omega)
    have q5 : ((0 : Int) ≤ (k : Int) + 1) = True := eq_true (by omega)
    have q6 : ((k : Int) + 1).toNat = k + 1 := by omega
    have hwi : IntKind.i64.wrap ((k : Int) + 1 + 1) = (k : Int) + 1 + 1 := wrap_id (by omega) (by omega)
    have hwk' : IntKind.i64.wrap (k : Int) = (k : Int) := wrap_id (by omega) (by omega)
    obtain ⟨blk, off, rfl, hg⟩ := src_get h.src (by omega)
    have hg1 := hg (k + 1) (by omega)
    have hg0 := hg k (by omega)
    have hkl : k < l.length := by omega
    have hv1 : (cellsU l)[k + 1]? = some (.int .u64 (l[k + 1] : Int)) := by simp [cellsU, List.getElem?_eq_getElem hlt]
    have hv0 : (cellsU l)[k]? = some (.int .u64 (l[k] : Int)) := by simp [cellsU, List.getElem?_eq_getElem hkl]
    rw [hv1] at hg1
    rw [hv0] at hg0
    have hd0 : l.drop k = l[k] :: l[k + 1] :: l.drop (k + 2) := by
      rw [List.drop_eq_getElem_cons hkl, List.drop_eq_getElem_cons hlt]
    have hd1 : l.drop (k + 1) = l[k + 1] :: l.drop (k + 2) := List.drop_eq_getElem_cons hlt
    have hk1 : k + 1 - 1 = k := by omega
    rw [hk1, hd0] at hc
    simp only [ascK] at hc
    rw [← hd1] at hc
    generalize l[k + 1] = y at *
    generalize l[k] = x at *
    simp [go_sem, e0, e3, hlt, q4]
    refine draw [0, 1, 2, 4, 5, 6, 7, 3, 8, 9] (by kernel_rfl) ?_
    by_cases hyx : y ≤ x
    · have hf : decide (x < y) = false := by simp; omega
      rw [hf, Bool.false_and, Bool.and_false] at hc
      subst hc
      simp [go_sem, e0, e3, hlt, q4, q5, q6, hkl, hwk', hg1, hg0, hyx]
    · have hf : decide (x < y) = true := by simp; omega
      rw [hf, Bool.true_and] at hc
      simp [go_sem, e0, e3, hlt, q4, q5, q6, hkl, hwk', hg1, hg0, hyx, hwi]
      exact ⟨_, .rfl' _, ⟨rfl, k + 2, by simp; omega, by omega, by omega, hc⟩, by omega⟩
  · have hlt' : ((i : Int) < l.length) = False := eq_false (by omega)
    have : ascK (l.drop (i - 1)) = true := ascK_short (by simp; omega)
    rw [this, Bool.and_true] at hc
    subst hc
    simp [go_sem, e0, e3, hlt, hlt']
    omega
theorem refDistinct_spec {v : Value} {l : List Nat} (h : RegF st 1 v (cellsU l) l.length) (hc : checkK l = true) (hb : ∀ x ∈ l, x < 2 ^ 64) : ICalls Tryz.prog W0 61 #[v] st fun e st' => e = .returned (.int .u64 (distinctM l : Nat)) ∧ st' = st := by
  have hlen : l.length ≤ 1024 := by simp [checkK] at hc; exact hc.1
  obtain ⟨tb, tc, rfl⟩ := h.slice
  refine enter (args := [_]) Tryz.func61 rfl ?_
  simp [Tryz.f61, go_sem]
  refine (refKmvCheck_spec h (by omega)).mono ?_
  rintro e st1 ⟨rfl, rfl⟩
  rw [hc]
  unfold distinctM
  by_cases c1 : l.length < 1024
  · have q1 : ((l.length : Int) < 1024) = True := eq_true (by omega)
    have hw : IntKind.u64.wrap (l.length : Int) = (l.length : Int) := wraps_u64 _ (by omega) (by omega)
    rw [if_pos c1]
    simp [go_sem, q1, c1, hw]
  have hl : l.length = 1024 := by omega
  have q1 : ((l.length : Int) < 1024) = False := eq_false (by omega)
  rw [if_neg c1]
  obtain ⟨blk, off, rfl, hg⟩ := src_get h.src (by omega)
  have hg1 := hg 1023 (by omega)
  rw [cellsU_get l 1023 (by omega)] at hg1
  rw [show l.length - 1 = 1023 by omega]
  have hm : l.getD 1023 0 < 2 ^ 64 := by
    rw [List.getD_eq_getElem?_getD, List.getElem?_eq_getElem (by omega)]
    exact hb _ (List.getElem_mem _)
  generalize l.getD 1023 0 = m at *
  have q2 : (1023 : Nat) < l.length := by omega
  have q2' : ((1023 : Int) < (l.length : Int)) = True := eq_true (by omega)
  have hwl : IntKind.i64.wrap ((l.length : Int) - 1) = 1023 := by rw [wrap_id (by omega) (by omega)]; omega
  by_cases c2 : m = 2 ^ 64 - 1
  · have q3 : ((m : Int) = 18446744073709551615) = True := eq_true (by omega)
    rw [if_pos c2]
    simp [go_sem, q1, c1, q2, q2', hg1, q3, hwl]
  have q3 : ((m : Int) = 18446744073709551615) = False := eq_false (by omega)
  have hw : IntKind.u64.wrap ((m : Int) + 1) = ((m + 1 : Nat) : Int) := wrapU (by omega) (by omega)
  obtain ⟨m1, hm1⟩ : ∃ x, m + 1 = x := ⟨_, rfl⟩
  rw [hm1] at hw ⊢
  rw [if_neg c2]
  simp [go_sem, q1, c1, q2, q2', hg1, q3, hw, hwl]
  refine ICalls.mono (by simpa using refDiv_spec (hi := 1023) (lo := 0) (d := m1) (by omega) (by omega) (by omega)) ?_
  rintro e st2 ⟨rfl, rfl⟩
  by_cases c3 : m1 ≤ 1023
  · rw [if_pos c3, if_pos c3]
    simp [go_sem]
  · rw [if_neg c3, if_neg c3]
    obtain ⟨r, hr⟩ : ∃ r, 1023 * 2 ^ 64 / m1 = r := ⟨_, rfl⟩
    rw [hr]
    have hr' : (1023 * 18446744073709551616 : Int) / (m1 : Int) = (r : Int) := by rw [← hr]; simp
    simp [go_sem]
    first | exact hr' | (rw [← hr]; simp)
end
end Go.Proofs.YtflbapmjdfnhhaaGreat
