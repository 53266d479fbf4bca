/- Floats by their bits: the program's way. -/
import Derived.Test.YtadgciaclhjjkaaGreatC15
import Derived.Test.YtadgciaclhjjkaaGreatCTab
set_option linter.unusedVariables false
set_option linter.unusedSimpArgs false
set_option maxRecDepth 100000
set_option maxHeartbeats 400000
namespace Go.Proofs.YtadgciaclhjjkaaGreat
open Go.RowKit (Below)
/-! ### Plain -/
def expN (b : Nat) : Nat := b / 2 ^ 52 % 2048
def fracN (b : Nat) : Nat := b % 2 ^ 52
def kindN (b : Nat) : Nat := if expN b = 2047 then (if 0 < fracN b then 4 else 3) else if 0 < expN b then 1 else if 0 < fracN b then 2 else 0
def keyN (b : Nat) : Nat := if 2 ^ 63 ≤ b then 2 ^ 64 - 1 - b else b + 2 ^ 63
def lessN (a b : Nat) : Bool := decide (kindN a ≠ 4) && (decide (kindN b ≠ 4) && decide (keyN a < keyN b))
theorem compare_self {α : Type} [Ord α] [Std.ReflOrd α] (x : α) : compare x x = .eq := Std.ReflOrd.compare_self
theorem nan_order {b : Nat} (hb : b < 2 ^ 64) : (FloatKind.f64.format.order b b != some .eq) = decide (kindN b = 4) := by
  have hs : FloatKind.f64.format = Ieee.double := rfl
  rw [hs]
  unfold Ieee.Format.order Ieee.Format.read
  have h1 : Ieee.double.signWeight = 2 ^ 63 := rfl
  have h2 : Ieee.double.binade = 2 ^ 52 := rfl
  have h3 : Ieee.double.infRung = 2047 * 2 ^ 52 := rfl
  simp only [h1, h2, h3]
  unfold kindN expN fracN
  split
  · rename_i c1
    have : ¬ (b / 2 ^ 52 % 2048 = 2047) := by omega
    rw [if_neg this]
    simp [Ieee.Datum.order, compare_self]
    split <;> (try split) <;> decide
  · split
    · rename_i c1 c2
      have : ¬ (b / 2 ^ 52 % 2048 = 2047) := by omega
      rw [if_neg this]
      simp [Ieee.Datum.order, compare_self]
      split <;> (try split) <;> decide
    · split
      · rename_i c1 c2 c3
        have e1 : b / 2 ^ 52 % 2048 = 2047 := by omega
        have e2 : ¬ 0 < b % 2 ^ 52 := by omega
        rw [if_pos e1, if_neg e2]
        simp [Ieee.Datum.order, compare_self]
      · rename_i c1 c2 c3
        have e1 : b / 2 ^ 52 % 2048 = 2047 := by omega
        have e2 : 0 < b % 2 ^ 52 := by omega
        rw [if_pos e1, if_pos e2]
        simp [Ieee.Datum.order]
theorem bits_and11 (x : Nat) (h : x < 2 ^ 64) : bits .and .u64 (x : Int) 2047 = ((x % 2048 : Nat) : Int) := by
  have := bits_mask .u64 64 (by decide) wraps_u64 11 (by decide) (x : Int) (by omega) (by omega)
  simpa using this
theorem bits_and52 (x : Nat) (h : x < 2 ^ 64) : bits .and .u64 (x : Int) 4503599627370495 = ((x % 2 ^ 52 : Nat) : Int) := by
  have := bits_mask .u64 64 (by decide) wraps_u64 52 (by decide) (x : Int) (by omega) (by omega)
  simpa using this
theorem and_top (x : Nat) (h : x < 2 ^ 64) : x &&& 2 ^ 63 = if 2 ^ 63 ≤ x then 2 ^ 63 else 0 := by
  have h1 : (x &&& 2 ^ 63) / 2 ^ 63 = x / 2 ^ 63 % 2 := by
    rw [Nat.and_div_two_pow, Nat.div_self (by omega), Nat.and_one_is_mod]
  have h2 : (x &&& 2 ^ 63) % 2 ^ 63 = 0 := by
    rw [Nat.and_mod_two_pow, Nat.mod_self, Nat.and_zero]
  generalize x &&& 2 ^ 63 = y at *
  split <;> omega
theorem bits_and63 (x : Nat) (h : x < 2 ^ 64) : bits .and .u64 (x : Int) 9223372036854775808 = if 2 ^ 63 ≤ x then 9223372036854775808 else 0 := by
  have := (bits_nat .u64 64 (by decide) wraps_u64 x (2 ^ 63) (by omega) (by omega)).1
  rw [and_top x h] at this
  have e : ((2 ^ 63 : Nat) : Int) = 9223372036854775808 := by decide
  rw [e] at this
  rw [this]
  split <;> rfl
theorem xor_top (x : Nat) (h : x < 2 ^ 63) : x ^^^ 2 ^ 63 = x + 2 ^ 63 := by
  apply Nat.eq_of_testBit_eq
  intro i
  rw [Nat.testBit_xor, Nat.testBit_two_pow, Nat.add_comm x]
  rcases Nat.lt_trichotomy i 63 with h1 | h1 | h1
  · rw [Nat.testBit_two_pow_add_gt h1]
    have : ¬ (63 = i) := by omega
    simp [this]
  · subst h1
    rw [Nat.testBit_two_pow_add_eq]
    simp
  · have e1 : x.testBit i = false := Nat.testBit_lt_two_pow (Nat.lt_of_lt_of_le h (Nat.pow_le_pow_right (by decide) (by omega)))
    have e2 : (2 ^ 63 + x).testBit i = false := Nat.testBit_lt_two_pow (Nat.lt_of_lt_of_le (by omega : 2 ^ 63 + x < 2 ^ 64) (Nat.pow_le_pow_right (by decide) (by omega)))
    have : ¬ (63 = i) := by omega
    simp [e1, e2, this]
theorem bits_xor63 (x : Nat) (h : x < 2 ^ 63) : bits .xor .u64 (x : Int) 9223372036854775808 = (x : Int) + 9223372036854775808 := by
  unfold bits
  have e : BitVec.ofInt IntKind.u64.bits 9223372036854775808 = BitVec.ofNat 64 (2 ^ 63) := by rfl
  simp only [BitVec.ofInt_natCast]
  rw [e]
  have ha : (BitVec.ofNat 64 x ^^^ BitVec.ofNat 64 (2 ^ 63)).toNat = x + 2 ^ 63 := by
    rw [BitVec.toNat_xor, BitVec.toNat_ofNat, BitVec.toNat_ofNat, Nat.mod_eq_of_lt (by omega), Nat.mod_eq_of_lt (by decide), xor_top x h]
  show IntKind.u64.wrap ((BitVec.ofNat 64 x ^^^ BitVec.ofNat 64 (2 ^ 63)).toNat : Int) = _
  rw [ha, wraps_u64 _ (by omega) (by omega)]
  omega
theorem bits_not64 (x : Nat) (h : x < 2 ^ 64) : bits .xor .u64 18446744073709551615 (x : Int) = 18446744073709551615 - (x : Int) := by
  have hc : bits .xor .u64 18446744073709551615 (x : Int) = bits .xor .u64 (x : Int) 18446744073709551615 := by
    unfold bits
    simp only [BitVec.xor_comm]
  rw [hc]
  exact xor_ones64 _ (by omega) (by omega)
theorem extFrom : ExtF Tryz.prog 247 Extern.MathFloatBits.float64frombits := ⟨_, rfl, by kernel_rfl, by kernel_rfl, by kernel_rfl, by kernel_rfl⟩
section
variable {W0 : World} {st : Heap}
theorem call_from {K : Value → Heap → Prop} {Kp : List PanicEntry → Heap → Prop} {b : Nat} : callY Tryz.prog W0 (.func (.func 247) #[] #[]) [.int .u64 (b : Int)] K Kp st = K (.float .f64 b) st := by
  rw [callY_ext _ _ extFrom]
  have h1 : Extern.MathFloatBits.float64frombits #[.int .u64 (b : Int)] = pure (.float .f64 (b : Int).toNat) := rfl
  show wpS _ (Extern.MathFloatBits.float64frombits #[.int .u64 (b : Int)]) _ _ _ = _
  rw [h1, wpS_pure, Int.toNat_natCast]
theorem isNaN_spec {b : Nat} (hb : b < 2 ^ 64) : ICalls Tryz.prog W0 246 #[.float .f64 b] st fun e st' => e = .returned (.bool (decide (kindN b = 4))) ∧ st' = st := by
  refine enter (args := [_]) Tryz.func246 rfl ?_
  have h := nan_order hb
  simp [Tryz.f246, go_sem, h]
theorem parts_spec {b : Nat} (hb : b < 2 ^ 64) : ICalls Tryz.prog W0 250 #[.int .u64 (b : Int)] st fun e st' => e = .returned (.tuple #[Val.i (expN b : Nat), .int .u64 (fracN b : Nat)]) ∧ st' = st := by
  refine enter (args := [_]) Tryz.func250 rfl ?_
  have h1 : ((b : Int).fdiv 4503599627370496) = ((b / 2 ^ 52 : Nat) : Int) := by
    rw [Int.fdiv_eq_ediv_of_nonneg _ (by omega)]
    omega
  have h2 := bits_and11 (b / 2 ^ 52) (by omega)
  have h3 := bits_and52 b hb
  have hw : IntKind.i64.wrap ((b / 2 ^ 52 % 2048 : Nat) : Int) = ((b / 2 ^ 52 % 2048 : Nat) : Int) := wrap_id (by omega) (by omega)
  have h2' : bits .and .u64 ((b : Int) / 4503599627370496) 2047 = (b : Int) / 4503599627370496 % 2048 := by
    have e : (b : Int) / 4503599627370496 = ((b / 2 ^ 52 : Nat) : Int) := by omega
    rw [e, h2]
    omega
  have hw' : IntKind.i64.wrap ((b : Int) / 4503599627370496 % 2048) = (b : Int) / 4503599627370496 % 2048 := wrap_id (by omega) (by omega)
  simp [Tryz.f250, go_sem, shiftBin, h1, h2', hw', h3, expN, fracN]
theorem Kind_spec {b : Nat} (hb : b < 2 ^ 64) : ICalls Tryz.prog W0 248 #[.int .u64 (b : Int)] st fun e st' => e = .returned (Val.i (kindN b : Nat)) ∧ st' = st := by
  refine enter (args := [_]) Tryz.func248 rfl ?_
  simp [Tryz.f248, go_sem]
  refine (parts_spec hb).mono ?_
  rintro e st1 ⟨rfl, rfl⟩
  simp [go_sem, call_from]
  refine (isNaN_spec hb).mono ?_
  rintro e st2 ⟨rfl, rfl⟩
  have hk : kindN b = if expN b = 2047 then (if 0 < fracN b then 4 else 3) else if 0 < expN b then 1 else if 0 < fracN b then 2 else 0 := rfl
  by_cases c0 : kindN b = 4
  · rw [c0]
    simp [go_sem]
  by_cases c1 : expN b = 2047
  · rw [if_pos c1] at hk
    have c2 : ¬ 0 < fracN b := by intro h; rw [if_pos h] at hk; exact c0 hk
    rw [if_neg c2] at hk
    rw [hk]
    have q1 : ((expN b : Int) = 2047) = True := eq_true (by omega)
    simp [go_sem, q1]
  rw [if_neg c1] at hk
  have q1 : ((expN b : Int) = 2047) = False := eq_false (by omega)
  by_cases c2 : 0 < expN b
  · rw [if_pos c2] at hk
    have q2 : ((0 : Int) < expN b) = True := eq_true (by omega)
    rw [hk]
    simp [go_sem, q1, q2, c2]
  rw [if_neg c2] at hk
  have q2 : ((0 : Int) < expN b) = False := eq_false (by omega)
  by_cases c3 : 0 < fracN b
  · rw [if_pos c3] at hk
    have q3 : ((0 : Int) < fracN b) = True := eq_true (by omega)
    rw [hk]
    simp [go_sem, q1, q2, q3, c2, c3]
  · rw [if_neg c3] at hk
    have q3 : ((0 : Int) < fracN b) = False := eq_false (by omega)
    rw [hk]
    simp [go_sem, q1, q2, q3, c2, c3]
theorem Key_spec {b : Nat} (hb : b < 2 ^ 64) : ICalls Tryz.prog W0 249 #[.int .u64 (b : Int)] st fun e st' => e = .returned (.int .u64 (keyN b : Nat)) ∧ st' = st := by
  refine enter (args := [_]) Tryz.func249 rfl ?_
  have h1 := bits_and63 b hb
  have h2 := bits_not64 b hb
  by_cases c : 2 ^ 63 ≤ b
  · rw [if_pos c] at h1
    have e : ((keyN b : Nat) : Int) = 18446744073709551615 - (b : Int) := by unfold keyN; rw [if_pos c]; omega
    rw [e]
    simp [Tryz.f249, go_sem, unV, h1, IntKind.signed, IntKind.max, IntKind.bits]
    simpa using h2
  · rw [if_neg c] at h1
    have h3 := bits_xor63 b (by omega)
    have e : ((keyN b : Nat) : Int) = (b : Int) + 9223372036854775808 := by unfold keyN; rw [if_neg c]; omega
    rw [e]
    simp [Tryz.f249, go_sem, h1, h3]
theorem Less_spec {a b : Nat} (ha : a < 2 ^ 64) (hb : b < 2 ^ 64) : ICalls Tryz.prog W0 243 #[.int .u64 (a : Int), .int .u64 (b : Int)] st fun e st' => e = .returned (.bool (lessN a b)) ∧ st' = st := by
  refine enter (args := [_, _]) Tryz.func243 rfl ?_
  simp [Tryz.f243, go_sem]
  refine (Kind_spec ha).mono ?_
  rintro e st1 ⟨rfl, rfl⟩
  generalize hres : lessN a b = res
  unfold lessN at hres
  by_cases c1 : kindN a = 4
  · have q1 : ((kindN a : Int) = 4) = True := eq_true (by omega)
    have : res = false := by rw [← hres]; simp [c1]
    simp [go_sem, q1, c1, this]
  have q1 : ((kindN a : Int) = 4) = False := eq_false (by omega)
  simp [go_sem, q1, c1]
  refine (Kind_spec hb).mono ?_
  rintro e st2 ⟨rfl, rfl⟩
  by_cases c2 : kindN b = 4
  · have q2 : ((kindN b : Int) = 4) = True := eq_true (by omega)
    have : res = false := by rw [← hres]; simp [c2]
    simp [go_sem, q2, c2, this]
  have q2 : ((kindN b : Int) = 4) = False := eq_false (by omega)
  simp [go_sem, q2, c2]
  refine (Key_spec ha).mono ?_
  rintro e st3 ⟨rfl, rfl⟩
  simp [go_sem]
  refine (Key_spec hb).mono ?_
  rintro e st4 ⟨rfl, rfl⟩
  have : res = decide (keyN a < keyN b) := by rw [← hres]; simp [c1, c2]
  simp [go_sem, this]
theorem none_spec {b : Nat} (hb : b < 2 ^ 64) : ICalls Tryz.prog W0 242 #[.int .u64 (b : Int)] st fun e st' => e = .returned (.bool (decide (kindN b = 4))) ∧ st' = st := by
  refine enter (args := [_]) Tryz.func242 rfl ?_
  simp [Tryz.f242, go_sem, call_from]
  refine (isNaN_spec hb).mono ?_
  rintro e st2 ⟨rfl, rfl⟩
  simp [go_sem]
end
end Go.Proofs.YtadgciaclhjjkaaGreat
set_option linter.unusedVariables false
set_option linter.unusedSimpArgs false
set_option maxRecDepth 100000
set_option maxHeartbeats 400000
namespace Go.Proofs.YtadgciaclhjjkaaGreat
open Go.RowKit (Below)
section
variable {W0 : World} {st : Heap}
theorem refExp_spec {b : Nat} (hb : b < 2 ^ 64) : ICalls Tryz.prog W0 217 #[.int .u64 (b : Int)] st fun e st' => e = .returned (Val.i (expN b : Nat)) ∧ st' = st := by
  refine enter (args := [_]) Tryz.func217 rfl ?_
  have h1 : ((b : Int).fdiv 4503599627370496) = ((b / 2 ^ 52 : Nat) : Int) := by
    rw [Int.fdiv_eq_ediv_of_nonneg _ (by omega)]
    omega
  have h2 := bits_and11 (b / 2 ^ 52) (by omega)
  have hw : IntKind.i64.wrap ((b / 2 ^ 52 % 2048 : Nat) : Int) = ((b / 2 ^ 52 % 2048 : Nat) : Int) := wrap_id (by omega) (by omega)
  have h2' : bits .and .u64 ((b : Int) / 4503599627370496) 2047 = (b : Int) / 4503599627370496 % 2048 := by
    have e : (b : Int) / 4503599627370496 = ((b / 2 ^ 52 : Nat) : Int) := by omega
    rw [e, h2]
    omega
  have hw' : IntKind.i64.wrap ((b : Int) / 4503599627370496 % 2048) = (b : Int) / 4503599627370496 % 2048 := wrap_id (by omega) (by omega)
  simp [Tryz.f217, go_sem, shiftBin, h1, h2', hw', expN]
theorem refFrac_spec {b : Nat} (hb : b < 2 ^ 64) : ICalls Tryz.prog W0 218 #[.int .u64 (b : Int)] st fun e st' => e = .returned (.int .u64 (fracN b : Nat)) ∧ st' = st := by
  refine enter (args := [_]) Tryz.func218 rfl ?_
  have h3 := bits_and52 b hb
  simp [Tryz.f218, go_sem, h3, fracN]
theorem refKind_spec {b : Nat} (hb : b < 2 ^ 64) : ICalls Tryz.prog W0 165 #[.int .u64 (b : Int)] st fun e st' => e = .returned (Val.i (kindN b : Nat)) ∧ st' = st := by
  have exp : ∀ {K : Ending → Heap → Prop}, K (.returned (Val.i (expN b : Nat))) st → ICalls Tryz.prog W0 217 #[.int .u64 (b : Int)] st K := fun hk => (refExp_spec hb).mono fun e st' h => by rw [h.1, h.2]; exact hk
  have frac : ∀ {K : Ending → Heap → Prop}, K (.returned (.int .u64 (fracN b : Nat))) st → ICalls Tryz.prog W0 218 #[.int .u64 (b : Int)] st K := fun hk => (refFrac_spec hb).mono fun e st' h => by rw [h.1, h.2]; exact hk
  refine enter (args := [_]) Tryz.func165 rfl ?_
  simp [Tryz.f165, go_sem]
  refine exp ?_
  have hk : kindN b = if expN b = 2047 then (if 0 < fracN b then 4 else 3) else if 0 < expN b then 1 else if 0 < fracN b then 2 else 0 := rfl
  by_cases c1 : expN b = 2047
  · rw [if_pos c1] at hk
    have q1 : ((expN b : Int) = 2047) = True := eq_true (by omega)
    simp [go_sem, q1]
    refine frac ?_
    by_cases c2 : 0 < fracN b
    · rw [if_pos c2] at hk
      have q2 : ((0 : Int) < fracN b) = True := eq_true (by omega)
      rw [hk]
      simp [go_sem, q2, c2]
    · rw [if_neg c2] at hk
      have q2 : ((0 : Int) < fracN b) = False := eq_false (by omega)
      rw [hk]
      simp [go_sem, q2, c2]
      refine exp ?_
      simp [go_sem, q1]
  rw [if_neg c1] at hk
  have q1 : ((expN b : Int) = 2047) = False := eq_false (by omega)
  simp [go_sem, q1]
  refine exp ?_
  simp [go_sem, q1]
  refine exp ?_
  by_cases c2 : 0 < expN b
  · rw [if_pos c2] at hk
    have q2 : ((0 : Int) < expN b) = True := eq_true (by omega)
    rw [hk]
    simp [go_sem, q2, c2]
  rw [if_neg c2] at hk
  have q2 : ((0 : Int) < expN b) = False := eq_false (by omega)
  simp [go_sem, q2, c2]
  refine frac ?_
  by_cases c3 : 0 < fracN b
  · rw [if_pos c3] at hk
    have q3 : ((0 : Int) < fracN b) = True := eq_true (by omega)
    rw [hk]
    simp [go_sem, q3, c3]
  · rw [if_neg c3] at hk
    have q3 : ((0 : Int) < fracN b) = False := eq_false (by omega)
    rw [hk]
    simp [go_sem, q3, c3]
end
end Go.Proofs.YtadgciaclhjjkaaGreat
set_option linter.unusedVariables false
set_option linter.unusedSimpArgs false
set_option maxRecDepth 100000
set_option maxHeartbeats 400000
namespace Go.Proofs.YtadgciaclhjjkaaGreat
open Go.RowKit (Below)
structure GauD where
  n : Nat
  nans : Nat
  lo : Nat
  hi : Nat
def GauD.cells (g : GauD) : List Value := [Val.u g.n, Val.u g.nans, Val.u g.lo, Val.u g.hi]
structure GauOK (g : GauD) : Prop where
  n : g.n < 2 ^ 64
  nans : g.nans < 2 ^ 64
  lo : g.lo < 2 ^ 64
  hi : g.hi < 2 ^ 64
def checkG (g : GauD) : Bool := if g.n = 0 then decide (g.lo = 0) && decide (g.hi = 0) else decide (kindN g.lo ≠ 4) && (decide (kindN g.hi ≠ 4) && !lessN g.hi g.lo)
theorem eq_gau {a b c d a' b' c' d' : Int} : binV Tryz.prog .eql 27 (.agg #[.int .u64 a, .int .u64 b, .int .u64 c, .int .u64 d]) (.agg #[.int .u64 a', .int .u64 b', .int .u64 c', .int .u64 d']) = some (.bool (decide (a = a') && (decide (b = b') && (decide (c = c') && decide (d = d'))))) := by
  have hs : Tryz.prog.stoodInHeld 27 = false := by kernel_rfl
  have hg : Tryz.prog.eqGuardType Tryz.prog.depth 27 = false := by kernel_rfl
  unfold binV eqBin aggEqB
  simp only [Tryz.underlying27, hs, hg]
  simp [fieldsEq, Tryz.underlying25]
  by_cases h1 : a = a' <;> by_cases h2 : b = b' <;> by_cases h3 : c = c' <;> by_cases h4 : d = d' <;> simp [h1, h2, h3, h4]
section
variable {W0 : World} {st : Heap}
theorem gaugeCheck_spec {g : GauD} (ok : GauOK g) : ICalls Tryz.prog W0 227 #[.agg g.cells.toArray] st fun e st' => e = .returned (.bool (checkG g)) ∧ New st st' := by
  obtain ⟨n, nans, lo, hi⟩ := g
  obtain ⟨o1, o2, o3, o4⟩ := ok
  simp only at o1 o2 o3 o4
  generalize hres : checkG ⟨n, nans, lo, hi⟩ = res
  unfold checkG at hres
  simp only at hres
  refine enter (args := [_]) Tryz.func227 rfl ?_
  simp [Tryz.f227, go_sem, GauD.cells]
  unfold NewP
  intro a ha
  refine ⟨.ty 1, ?_⟩
  have k1 := (New.refl st).add (b := a) (o := .cells true [Val.u n, Val.u nans, Val.u lo, Val.u hi] 4 (.ty 1)) ha
  have g1 := upd_same st a (.cells true [Val.u n, Val.u nans, Val.u lo, Val.u hi] 4 (.ty 1))
  generalize upd st a (.cells true [Val.u n, Val.u nans, Val.u lo, Val.u hi] 4 (.ty 1)) = st1 at *
  by_cases c0 : n = 0
  · subst c0
    rw [if_pos rfl] at hres
    simp [go_sem, g1, eq_gau]
    first | exact ⟨hres, k1⟩ | (refine ⟨?_, k1⟩; rw [← hres]; first | done | simp)
  · rw [if_neg c0] at hres
    have q0 : ((n : Int) = 0) = False := eq_false (by omega)
    simp [go_sem, g1, q0, c0]
    refine (none_spec o3).mono ?_
    rintro e st2 ⟨rfl, rfl⟩
    by_cases c1 : kindN lo = 4
    · have : res = false := by rw [← hres]; simp [c1]
      simp [go_sem, c1, this]
      exact k1
    simp [go_sem, c1, g1]
    refine (none_spec o4).mono ?_
    rintro e st3 ⟨rfl, rfl⟩
    by_cases c2 : kindN hi = 4
    · have : res = false := by rw [← hres]; simp [c2]
      simp [go_sem, c2, this]
      exact k1
    simp [go_sem, c2, g1]
    refine (Less_spec o4 o3).mono ?_
    rintro e st4 ⟨rfl, rfl⟩
    have : res = !lessN hi lo := by rw [← hres]; simp [c1, c2]
    simp [go_sem, this]
    exact k1
end
end Go.Proofs.YtadgciaclhjjkaaGreat
