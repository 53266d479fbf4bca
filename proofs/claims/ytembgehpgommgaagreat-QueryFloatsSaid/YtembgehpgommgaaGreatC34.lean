/- Floats in order, plain. -/
import Derived.Test.YtembgehpgommgaaGreatC28
set_option linter.unusedVariables false
set_option linter.unusedSimpArgs false
set_option maxRecDepth 100000
set_option maxHeartbeats 1000000
namespace Go.Proofs.YtembgehpgommgaaGreat
open Go.RowKit (Below)
/-- The magnitude of a rung, in the least number's units. -/
def magN (r : Nat) : Nat := if r < 2 ^ 52 then r else (2 ^ 52 + r % 2 ^ 52) * 2 ^ (r / 2 ^ 52 - 1)
theorem magN_mono {r s : Nat} (h : r ≤ s) : magN r ≤ magN s := by
  unfold magN
  by_cases c1 : s < 2 ^ 52
  · rw [if_pos c1, if_pos (by omega)]; exact h
  · rw [if_neg c1]
    have hp : 1 ≤ 2 ^ (s / 2 ^ 52 - 1) := Nat.one_le_two_pow
    by_cases c2 : r < 2 ^ 52
    · rw [if_pos c2]
      calc r ≤ (2 ^ 52 + s % 2 ^ 52) * 1 := by omega
        _ ≤ _ := Nat.mul_le_mul (Nat.le_refl _) hp
    · rw [if_neg c2]
      by_cases c3 : r / 2 ^ 52 = s / 2 ^ 52
      · rw [c3]
        exact Nat.mul_le_mul (by omega) (Nat.le_refl _)
      · have hq : r / 2 ^ 52 ≤ s / 2 ^ 52 := Nat.div_le_div_right h
        have e : 2 ^ (r / 2 ^ 52) = 2 ^ (r / 2 ^ 52 - 1) * 2 := by
          rw [← Nat.pow_succ]
          congr 1
          omega
        have h2 : 2 ^ (r / 2 ^ 52) ≤ 2 ^ (s / 2 ^ 52 - 1) := Nat.pow_le_pow_right (by omega) (by omega)
        rw [e] at h2
        generalize 2 ^ (r / 2 ^ 52 - 1) = x at *
        generalize 2 ^ (s / 2 ^ 52 - 1) = y at *
        have hf : r % 2 ^ 52 < 2 ^ 52 := Nat.mod_lt _ (by omega)
        calc (2 ^ 52 + r % 2 ^ 52) * x ≤ (2 ^ 52 * 2) * x := Nat.mul_le_mul (by omega) (Nat.le_refl _)
          _ = 2 ^ 52 * (x * 2) := by rw [Nat.mul_assoc, Nat.mul_comm 2 x]
          _ ≤ 2 ^ 52 * y := Nat.mul_le_mul (Nat.le_refl _) h2
          _ ≤ _ := Nat.mul_le_mul (by omega) (Nat.le_refl _)
def topN : Nat := magN (2047 * 2 ^ 52)
theorem magN_lt {r : Nat} (h : r < 2047 * 2 ^ 52) : magN r < topN := by
  have h1 : magN r ≤ magN (2047 * 2 ^ 52 - 1) := magN_mono (by omega)
  have h2 : magN (2047 * 2 ^ 52 - 1) < topN := by decide +kernel
  omega
/-- A float's value, in the least number's units. -/
def valN (b : Nat) : Int := if 2 ^ 63 ≤ b then -(magN (b - 2 ^ 63) : Int) else (magN b : Int)
theorem valN_mono {a b : Nat} (ha : a < 2 ^ 64) (hb : b < 2 ^ 64) (h : keyN a ≤ keyN b) : valN a ≤ valN b := by
  unfold keyN at h
  unfold valN
  split at h
  · rename_i c1
    split at h
    · rename_i c2
      rw [if_pos c1, if_pos c2]
      have := magN_mono (r := b - 2 ^ 63) (s := a - 2 ^ 63) (by omega)
      omega
    · rename_i c2
      rw [if_pos c1, if_neg c2]
      omega
  · rename_i c1
    split at h
    · rename_i c2
      omega
    · rename_i c2
      rw [if_neg c1, if_neg c2]
      have := magN_mono (r := a) (s := b) (by omega)
      omega
theorem cmp_mul (x y : Int) (c : Nat) (hc : 0 < c) : compare (x * c) (y * c) = compare x y := by
  show compareOfLessAndEq _ _ = compareOfLessAndEq _ _
  unfold compareOfLessAndEq
  have h1 : (x * c < y * c) = (x < y) := propext ⟨fun h => Int.lt_of_mul_lt_mul_right h (by omega), fun h => Int.mul_lt_mul_of_pos_right h (by omega)⟩
  have h2 : (x * c = y * c) = (x = y) := propext ⟨fun h => Int.eq_of_mul_eq_mul_right (by omega) h, fun h => by rw [h]⟩
  simp only [h1, h2]
/-- What a word that is no NaN stands for: its sign, whether it is infinite. -/
theorem read_num {b : Nat} (hb : b < 2 ^ 64) (hk : kindN b ≠ 4) : ∃ (m : Nat) (e : Nat), (Ieee.double.read b = .number (decide (2 ^ 63 ≤ b)) m (Ieee.double.leastPlace + (e : Int)) ∧ valN b = (if 2 ^ 63 ≤ b then -((m * 2 ^ e : Nat) : Int) else ((m * 2 ^ e : Nat) : Int)) ∧ -(topN : Int) < valN b ∧ valN b < topN) ∨ (Ieee.double.read b = .infinity (decide (2 ^ 63 ≤ b)) ∧ valN b = if 2 ^ 63 ≤ b then -(topN : Int) else topN) := by
  have h1 : Ieee.double.signWeight = 2 ^ 63 := rfl
  have h2 : Ieee.double.binade = 2 ^ 52 := rfl
  have h3 : Ieee.double.infRung = 2047 * 2 ^ 52 := rfl
  unfold kindN expN fracN at hk
  unfold Ieee.Format.read
  simp only [h1, h2, h3]
  have hn : (b / 2 ^ 63 % 2 == 1) = decide (2 ^ 63 ≤ b) := by
    by_cases c : 2 ^ 63 ≤ b
    · have : b / 2 ^ 63 % 2 = 1 := by omega
      rw [this, decide_eq_true c]; rfl
    · have : b / 2 ^ 63 % 2 = 0 := by omega
      rw [this, decide_eq_false c]; rfl
  rw [hn]
  have hv : valN b = if 2 ^ 63 ≤ b then -(magN (b % 2 ^ 63) : Int) else (magN (b % 2 ^ 63) : Int) := by
    unfold valN
    split
    · rw [show b % 2 ^ 63 = b - 2 ^ 63 by omega]
    · rw [show b % 2 ^ 63 = b by omega]
  by_cases c1 : b % 2 ^ 63 < 2 ^ 52
  · rw [if_pos c1]
    have hm : magN (b % 2 ^ 63) = b % 2 ^ 63 := if_pos c1
    have ht := magN_lt (r := b % 2 ^ 63) (by omega)
    refine ⟨b % 2 ^ 63, 0, .inl ⟨by simp, ?_, ?_, ?_⟩⟩
    · rw [hv, hm]; simp
    · rw [hv]; split <;> omega
    · rw [hv]; split <;> omega
  · rw [if_neg c1]
    by_cases c2 : b % 2 ^ 63 < 2047 * 2 ^ 52
    · rw [if_pos c2]
      have hm : magN (b % 2 ^ 63) = (2 ^ 52 + b % 2 ^ 63 % 2 ^ 52) * 2 ^ (b % 2 ^ 63 / 2 ^ 52 - 1) := if_neg c1
      have ht := magN_lt c2
      refine ⟨2 ^ 52 + b % 2 ^ 63 % 2 ^ 52, b % 2 ^ 63 / 2 ^ 52 - 1, .inl ⟨rfl, ?_, ?_, ?_⟩⟩
      · rw [hv, hm]
      · rw [hv]; split <;> omega
      · rw [hv]; split <;> omega
    · rw [if_neg c2]
      have c3 : b % 2 ^ 63 = 2047 * 2 ^ 52 := by
        by_cases c4 : b / 2 ^ 52 % 2048 = 2047
        · rw [if_pos c4] at hk
          by_cases c5 : 0 < b % 2 ^ 52
          · rw [if_pos c5] at hk; exact absurd rfl hk
          · omega
        · omega
      rw [if_pos c3]
      refine ⟨0, 0, .inr ⟨rfl, ?_⟩⟩
      rw [hv, c3]
      rfl
theorem signed_eq (s : Bool) (m k : Nat) : Ieee.signed s m k = if s = true then -((m * 2 ^ k : Nat) : Int) else ((m * 2 ^ k : Nat) : Int) := by
  unfold Ieee.signed
  rw [Nat.shiftLeft_eq]
theorem order_num {a b : Nat} (ha : a < 2 ^ 64) (hb : b < 2 ^ 64) (ka : kindN a ≠ 4) (kb : kindN b ≠ 4) : FloatKind.f64.format.order a b = some (compare (valN a) (valN b)) := by
  have hs : FloatKind.f64.format = Ieee.double := rfl
  rw [hs]
  unfold Ieee.Format.order
  obtain ⟨m, e, ⟨r1, v1, l1, u1⟩ | ⟨r1, v1⟩⟩ := read_num ha ka
  · obtain ⟨m', e', ⟨r2, v2, l2, u2⟩ | ⟨r2, v2⟩⟩ := read_num hb kb
    · rw [r1, r2]
      unfold Ieee.Datum.order
      simp only [signed_eq]
      generalize Ieee.double.leastPlace = L
      have hmin : min (L + (e : Int)) (L + (e' : Int)) = L + (min e e' : Nat) := by omega
      rw [hmin]
      have e1 : (L + (e : Int) - (L + ((min e e' : Nat) : Int))).toNat = e - min e e' := by omega
      have e2 : (L + (e' : Int) - (L + ((min e e' : Nat) : Int))).toNat = e' - min e e' := by omega
      rw [e1, e2]
      have f1 : valN a = (if decide (2 ^ 63 ≤ a) = true then -((m * 2 ^ (e - min e e') : Nat) : Int) else ((m * 2 ^ (e - min e e') : Nat) : Int)) * ((2 ^ min e e' : Nat) : Int) := by
        have : m * 2 ^ e = m * 2 ^ (e - min e e') * 2 ^ min e e' := by rw [Nat.mul_assoc, ← Nat.pow_add]; congr 2; omega
        rw [v1, this]
        generalize m * 2 ^ (e - min e e') = x
        generalize 2 ^ min e e' = y
        simp only [decide_eq_true_eq]
        split <;> simp [Int.neg_mul]
      have f2 : valN b = (if decide (2 ^ 63 ≤ b) = true then -((m' * 2 ^ (e' - min e e') : Nat) : Int) else ((m' * 2 ^ (e' - min e e') : Nat) : Int)) * ((2 ^ min e e' : Nat) : Int) := by
        have : m' * 2 ^ e' = m' * 2 ^ (e' - min e e') * 2 ^ min e e' := by rw [Nat.mul_assoc, ← Nat.pow_add]; congr 2; omega
        rw [v2, this]
        generalize m' * 2 ^ (e' - min e e') = x
        generalize 2 ^ min e e' = y
        simp only [decide_eq_true_eq]
        split <;> simp [Int.neg_mul]
      rw [f1, f2, cmp_mul _ _ _ (Nat.two_pow_pos _)]
    · rw [r1, r2]
      unfold Ieee.Datum.order
      show some (if decide (2 ^ 63 ≤ b) = true then Ordering.gt else .lt) = some (compareOfLessAndEq _ _)
      unfold compareOfLessAndEq
      by_cases c : 2 ^ 63 ≤ b
      · rw [if_pos c] at v2
        rw [if_pos (decide_eq_true c), if_neg (by omega), if_neg (by omega)]
      · rw [if_neg c] at v2
        rw [if_neg (by simp [c]), if_pos (by omega)]
  · obtain ⟨m', e', ⟨r2, v2, l2, u2⟩ | ⟨r2, v2⟩⟩ := read_num hb kb
    · rw [r1, r2]
      unfold Ieee.Datum.order
      show some (if decide (2 ^ 63 ≤ a) = true then Ordering.lt else .gt) = some (compareOfLessAndEq _ _)
      unfold compareOfLessAndEq
      by_cases c : 2 ^ 63 ≤ a
      · rw [if_pos c] at v1
        rw [if_pos (decide_eq_true c), if_pos (by omega)]
      · rw [if_neg c] at v1
        rw [if_neg (by simp [c]), if_neg (by omega), if_neg (by omega)]
    · rw [r1, r2]
      have ht : 0 < topN := by decide +kernel
      unfold Ieee.Datum.order
      show some (compare (decide (2 ^ 63 ≤ b)).toNat (decide (2 ^ 63 ≤ a)).toNat) = some (compareOfLessAndEq _ _)
      unfold compareOfLessAndEq
      by_cases c : 2 ^ 63 ≤ a
      · rw [if_pos c] at v1
        rw [decide_eq_true c]
        by_cases d : 2 ^ 63 ≤ b
        · rw [if_pos d] at v2
          rw [decide_eq_true d, if_neg (by omega), if_pos (by omega)]; rfl
        · rw [if_neg d] at v2
          rw [decide_eq_false d, if_pos (by omega)]; rfl
      · rw [if_neg c] at v1
        rw [decide_eq_false c]
        by_cases d : 2 ^ 63 ≤ b
        · rw [if_pos d] at v2
          rw [decide_eq_true d, if_neg (by omega), if_neg (by omega)]; rfl
        · rw [if_neg d] at v2
          rw [decide_eq_false d, if_neg (by omega), if_pos (by omega)]; rfl
theorem order_lt {a b : Nat} (ha : a < 2 ^ 64) (hb : b < 2 ^ 64) (ka : kindN a ≠ 4) (kb : kindN b ≠ 4) : (FloatKind.f64.format.order a b == some .lt) = decide (valN a < valN b) := by
  rw [order_num ha hb ka kb]
  show (some (compareOfLessAndEq (valN a) (valN b)) == some Ordering.lt) = _
  unfold compareOfLessAndEq
  by_cases c : valN a < valN b
  · rw [if_pos c, decide_eq_true c]; rfl
  · rw [if_neg c, decide_eq_false c]
    split <;> rfl
theorem order_gt {a b : Nat} (ha : a < 2 ^ 64) (hb : b < 2 ^ 64) (ka : kindN a ≠ 4) (kb : kindN b ≠ 4) : (FloatKind.f64.format.order a b == some .gt) = decide (valN b < valN a) := by
  rw [order_num ha hb ka kb]
  show (some (compareOfLessAndEq (valN a) (valN b)) == some Ordering.gt) = _
  unfold compareOfLessAndEq
  by_cases c : valN a < valN b
  · rw [if_pos c, decide_eq_false (by omega)]; rfl
  · rw [if_neg c]
    by_cases d : valN a = valN b
    · rw [if_pos d, decide_eq_false (by omega)]; rfl
    · rw [if_neg d, decide_eq_true (by omega)]; rfl
theorem order_ne {a b : Nat} (ha : a < 2 ^ 64) (hb : b < 2 ^ 64) (ka : kindN a ≠ 4) (kb : kindN b ≠ 4) (h : valN a = valN b) : (FloatKind.f64.format.order a b != some .eq) = false := by
  rw [order_num ha hb ka kb]
  show (some (compareOfLessAndEq (valN a) (valN b)) != some Ordering.eq) = _
  unfold compareOfLessAndEq
  rw [if_neg (by omega), if_pos h]
  rfl
/-! ### The least, the greatest, how many are none -/
structure FlD where
  n : Nat
  nans : Nat
  lo : Nat
  hi : Nat
/-- What the law does with one float. -/
def stepF (x : FlD) (b : Nat) : FlD :=
  if kindN b = 4 then { x with nans := x.nans + 1 }
  else ⟨x.n + 1, x.nans, if x.n = 0 ∨ valN b < valN x.lo then b else x.lo, if x.n = 0 ∨ valN x.hi < valN b then b else x.hi⟩
def gOf (b : Nat) : GauD := if kindN b = 4 then ⟨0, 1, 0, 0⟩ else ⟨1, 0, b, b⟩
structure FlRel (x : FlD) (g : GauD) : Prop where
  n : g.n = x.n
  nans : g.nans = x.nans
  ok : GauOK g
  lob : x.lo < 2 ^ 64
  hib : x.hi < 2 ^ 64
  lo : 0 < x.n → kindN x.lo ≠ 4 ∧ kindN g.lo ≠ 4 ∧ valN g.lo = valN x.lo
  hi : 0 < x.n → kindN x.hi ≠ 4 ∧ kindN g.hi ≠ 4 ∧ valN g.hi = valN x.hi
theorem gOf_ok {b : Nat} (hb : b < 2 ^ 64) : GauOK (gOf b) := by
  unfold gOf
  split
  · exact ⟨by simp, by simp, by simp, by simp⟩
  · exact ⟨by simp, by simp, hb, hb⟩
theorem gOf_check (b : Nat) : checkG (gOf b) = true := by
  unfold gOf
  split
  · rfl
  · rename_i h
    unfold checkG lessN
    simp [h]
theorem satAdd_small {a b : Nat} (h : a + b < 2 ^ 64) : satAdd a b = a + b := by
  unfold satAdd
  split <;> omega
theorem FlRel.step {x : FlD} {g : GauD} {b : Nat} (h : FlRel x g) (hb : b < 2 ^ 64) (hn : x.n + x.nans < 2 ^ 32) : FlRel (stepF x b) (mergeG g (gOf b)) := by
  have hmo := mergeG_ok h.ok (gOf_ok hb)
  obtain ⟨h1, h2, h3, h4, h5, h6, h7⟩ := h
  unfold stepF
  by_cases c : kindN b = 4
  · have hg : gOf b = ⟨0, 1, 0, 0⟩ := if_pos c
    rw [if_pos c]
    rw [hg] at hmo ⊢
    have e : mergeG g ⟨0, 1, 0, 0⟩ = ⟨g.n, g.nans + 1, (if g.n = 0 then (⟨0, 1, 0, 0⟩ : GauD) else g).lo, (if g.n = 0 then (⟨0, 1, 0, 0⟩ : GauD) else g).hi⟩ := by
      unfold mergeG
      rw [if_pos (.inr rfl), satAdd_small (by simp only; omega), satAdd_small (by simp only; omega)]
      rfl
    rw [e] at hmo ⊢
    refine ⟨h1, by simp only; omega, hmo, h4, h5, fun hp => ?_, fun hp => ?_⟩
    · simp only at hp ⊢
      rw [if_neg (by omega)]
      exact h6 hp
    · simp only at hp ⊢
      rw [if_neg (by omega)]
      exact h7 hp
  · have hg : gOf b = ⟨1, 0, b, b⟩ := if_neg c
    rw [if_neg c]
    rw [hg] at hmo ⊢
    by_cases hz : x.n = 0
    · have hgz : g.n = 0 := by omega
      have e : mergeG g ⟨1, 0, b, b⟩ = ⟨1, g.nans, b, b⟩ := by
        unfold mergeG
        rw [if_pos (.inl hgz), satAdd_small (by simp only; omega), satAdd_small (by simp only; omega), if_pos hgz, hgz]
        simp
      rw [e] at hmo ⊢
      rw [if_pos (.inl hz), if_pos (.inl hz)]
      exact ⟨by simp only; omega, h2, hmo, hb, hb, fun _ => ⟨c, c, rfl⟩, fun _ => ⟨c, c, rfl⟩⟩
    · have hgz : g.n ≠ 0 := by omega
      obtain ⟨k1, k2, k3⟩ := h6 (by omega)
      obtain ⟨k4, k5, k6⟩ := h7 (by omega)
      have e : mergeG g ⟨1, 0, b, b⟩ = ⟨g.n + 1, g.nans, if lessN b g.lo then b else g.lo, if lessN g.hi b then b else g.hi⟩ := by
        unfold mergeG
        rw [if_neg (by simp [hgz]), satAdd_small (by simp only; omega), satAdd_small (by simp only; omega)]
        rfl
      rw [e] at hmo ⊢
      refine ⟨by simp only; omega, h2, hmo, by simp only; split <;> assumption, by simp only; split <;> assumption, fun _ => ?_, fun _ => ?_⟩
      · simp only [hz, false_or]
        rw [lessN_iff c k2]
        have hlb := h3.lo
        by_cases q : keyN b < keyN g.lo
        · have hm := valN_mono (a := b) (b := g.lo) hb hlb (by omega)
          rw [if_pos (decide_eq_true q)]
          by_cases r : valN b < valN x.lo
          · rw [if_pos r]; exact ⟨c, c, rfl⟩
          · rw [if_neg r]; exact ⟨k1, c, by omega⟩
        · have hm := valN_mono (a := g.lo) (b := b) hlb hb (by omega)
          rw [if_neg (show ¬ (decide (keyN b < keyN g.lo) = true) by simp [q])]
          by_cases r : valN b < valN x.lo
          · omega
          · rw [if_neg r]; exact ⟨k1, k2, k3⟩
      · simp only [hz, false_or]
        rw [lessN_iff k5 c]
        have hhb := h3.hi
        by_cases q : keyN g.hi < keyN b
        · have hm := valN_mono (a := g.hi) (b := b) hhb hb (by omega)
          rw [if_pos (decide_eq_true q)]
          by_cases r : valN x.hi < valN b
          · rw [if_pos r]; exact ⟨c, c, rfl⟩
          · rw [if_neg r]; exact ⟨k4, c, by omega⟩
        · have hm := valN_mono (a := b) (b := g.hi) hb hhb (by omega)
          rw [if_neg (show ¬ (decide (keyN g.hi < keyN b) = true) by simp [q])]
          by_cases r : valN x.hi < valN b
          · omega
          · rw [if_neg r]; exact ⟨k4, k5, k6⟩
def fl0 : FlD := ⟨0, 0, 0, 0⟩
theorem FlRel.zero : FlRel fl0 ⟨0, 0, 0, 0⟩ := ⟨rfl, rfl, ⟨by simp, by simp, by simp, by simp⟩, by simp [fl0], by simp [fl0], fun h => absurd h (by simp [fl0]), fun h => absurd h (by simp [fl0])⟩
theorem stepF_count (x : FlD) (b : Nat) : (stepF x b).n + (stepF x b).nans = x.n + x.nans + 1 := by
  unfold stepF
  split
  · simp only; omega
  · simp only; omega
theorem FlRel.fold : ∀ (l : List Nat) {x : FlD} {g : GauD}, FlRel x g → (∀ b ∈ l, b < 2 ^ 64) → x.n + x.nans + l.length < 2 ^ 32 → FlRel (l.foldl stepF x) ((l.map gOf).foldl mergeG g)
  | [], x, g, h, _, _ => h
  | b :: l, x, g, h, hb, hn => by
    simp only [List.foldl_cons, List.map_cons]
    have := stepF_count x b
    simp only [List.length_cons] at hn
    exact FlRel.fold l (h.step (hb b (by simp)) (by omega)) (fun y hy => hb y (List.mem_cons_of_mem _ hy)) (by omega)
theorem foldl_addS_g : ∀ (l : List GauD) (x : SumD), x.S = [] → ((l.map fun g => (⟨[], [], g⟩ : SkD)).foldl addS x).g = l.foldl mergeG x.g ∧ ((l.map fun g => (⟨[], [], g⟩ : SkD)).foldl addS x).S = []
  | [], x, h => ⟨rfl, h⟩
  | g :: l, x, h => by
    simp only [List.map_cons, List.foldl_cons]
    exact foldl_addS_g l _ (by show mergeK x.S [] = []; rw [h]; rfl)
end Go.Proofs.YtembgehpgommgaaGreat
