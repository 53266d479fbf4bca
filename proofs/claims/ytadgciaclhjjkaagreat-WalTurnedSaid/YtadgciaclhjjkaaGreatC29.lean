/- The histogram: its buckets are what was added; counts and places by either. Plain. -/
import Derived.Test.YtadgciaclhjjkaaGreatC27
import Derived.Test.YtadgciaclhjjkaaGreatC28
import Derived.Test.YtadgciaclhjjkaaGreatC26
import Derived.Test.YtadgciaclhjjkaaGreatC09
import Derived.Test.YtadgciaclhjjkaaGreatC23
set_option linter.unusedVariables false
set_option linter.unusedSimpArgs false
namespace Go.Proofs.YtadgciaclhjjkaaGreat
/-! Sums. -/
/-! Where a sum is reached. -/
end Go.Proofs.YtadgciaclhjjkaaGreat
set_option linter.unusedVariables false
set_option linter.unusedSimpArgs false
set_option maxRecDepth 100000
set_option maxHeartbeats 400000
namespace Go.Proofs.YtadgciaclhjjkaaGreat
open Go.RowKit (Below)
section
variable {W0 : World} {st : Heap}
end
end Go.Proofs.YtadgciaclhjjkaaGreat
set_option linter.unusedVariables false
set_option linter.unusedSimpArgs false
set_option maxRecDepth 100000
set_option maxHeartbeats 400000
namespace Go.Proofs.YtadgciaclhjjkaaGreat
open Go.RowKit (Below)
section
variable {W0 : World} {st : Heap}
theorem refAdd_spec {x y : Nat} (hx : x < 2 ^ 64) (hy : y < 2 ^ 64) : ICalls Tryz.prog W0 190 #[.int .u64 (x : Int), .int .u64 (y : Int)] st fun e st' => e = .returned (.int .u64 (satAdd x y : Nat)) ∧ st' = st := by
  refine enter (args := [_, _]) Tryz.func190 rfl ?_
  obtain ⟨ny, hny⟩ : ∃ z, 2 ^ 64 - 1 - y = z := ⟨_, rfl⟩
  have f1 : IntKind.u64.wrap (18446744073709551615 - (y : Int)) = (ny : Int) := wrapU (by omega) (by omega)
  unfold satAdd
  by_cases c : ny < x
  · have q : ((ny : Int) < (x : Int)) = True := eq_true (by omega)
    rw [if_pos (by omega)]
    simp [Tryz.f190, go_sem, f1, q, c]
  · have q : ((ny : Int) < (x : Int)) = False := eq_false (by omega)
    rw [if_neg (by omega)]
    have f2 : IntKind.u64.wrap ((x : Int) + (y : Int)) = ((x + y : Nat) : Int) := wrapU (by omega) (by omega)
    rw [Int.natCast_add] at f2
    simp [Tryz.f190, go_sem, f1, f2, q, c]
end
end Go.Proofs.YtadgciaclhjjkaaGreat
set_option linter.unusedVariables false
set_option linter.unusedSimpArgs false
set_option maxRecDepth 100000
set_option maxHeartbeats 400000
namespace Go.Proofs.YtadgciaclhjjkaaGreat
open Go.RowKit (Below)
section
variable {W0 : World} {st : Heap}
theorem refHistCheck_spec {v : Value} {l : List (Int × Nat)} (h : RegF st 2 v (bkV l) l.length) (hll : l.length < 2 ^ 50) : ICalls Tryz.prog W0 111 #[v] st fun e st' => e = .returned (.bool (checkB (-1) l)) ∧ st' = st := by
  have hv0 := h
  obtain ⟨tb, tc, rfl⟩ := h.slice
  generalize hres : checkB (-1) l = res
  refine enter (args := [_]) Tryz.func111 rfl ?_
  simp [Tryz.f111, go_sem]
  refine ⟨fun E st' => st' = st ∧ E 0 = .slice tb l.length tc ∧ ∃ (i : Nat) (p : Int), E 3 = Val.i (i : Int) ∧ i ≤ l.length ∧ -1 ≤ p ∧ checkB p (l.drop i) = res ∧ (i = 0 → p = -1) ∧ (∀ j, i = j + 1 → ∃ x, l[j]? = some x ∧ x.1 = p ∧ 0 ≤ p), fun E _ => match E 3 with | .int _ z => l.length - z.toNat | _ => 0,
    ⟨st, .rfl' _, rfl, by simp [go_sem], 0, -1, by simp [go_sem], by omega, by omega, hres, fun _ => rfl, fun j hj => by omega⟩, ?_⟩
  rintro E st' ⟨rfl, e0, i, p, e3, hi, hp, hc, hp0, hp1⟩
  by_cases hlt : i < l.length
  · have t1 : ((i : Int) < l.length) = True := eq_true (by omega)
    have hwi : IntKind.i64.wrap ((i : Int) + 1) = (i : Int) + 1 := wrap_id (by omega) (by omega)
    obtain ⟨mb, off, cap, rw_, zs, mm, g', hv', hs, hget⟩ := rows_get hv0 (by omega)
    injection hv' with v1 v2 v3
    subst v1; subst v3
    obtain ⟨hlen, hcell, hcc⟩ := hget i hlt
    have hx : l[i]? = some l[i] := List.getElem?_eq_getElem hlt
    rw [bkV_get l i _ hx] at hcc
    have hd : l.drop i = l[i] :: l.drop (i + 1) := List.drop_eq_getElem_cons hlt
    rw [hd] at hc
    generalize l[i] = x at *
    obtain ⟨xi, xn⟩ := x
    simp only [checkB] at hc
    have hc0 := hcc 0 (by omega)
    have hc1 := hcc 1 (by omega)
    simp only [List.getElem?_cons_succ, List.getElem?_cons_zero, Nat.add_zero] at hc0 hc1
    simp [go_sem, e0, e3, t1, hlt]
    refine draw [0, 1, 2, 3, 4, 5, 6, 7, 8, 9, 10, 11, 12, 13, 14, 15, 16, 17, 18, 19, 20, 21, 22, 23, 24, 25, 26, 27, 28, 29, 31, 32, 33, 34, 35, 30, 36, 37, 38, 39] (by kernel_rfl) ?_
    by_cases h1 : xi < 0
    · have q1 := eq_true h1
      have q0 : (xi ≤ p) = True := eq_true (by omega)
      simp only [q0, decide_true, Bool.true_or, Bool.not_true, Bool.false_and] at hc
      subst hc
      simp [go_sem, e0, e3, hlt, hs, hlen, hc0, q1]
    have q1 := eq_false h1
    by_cases h2 : 7424 ≤ xi
    · have q2 := eq_true h2
      simp only [q2, decide_true, Bool.true_or, Bool.or_true, Bool.not_true, Bool.false_and] at hc
      subst hc
      simp [go_sem, e0, e3, hlt, hs, hlen, hc0, q1, q2]
    have q2 := eq_false h2
    by_cases h3 : xn = 0
    · simp only [h3, decide_true, Bool.or_true, Bool.not_true, Bool.false_and] at hc
      subst hc
      subst h3
      simp [go_sem, e0, e3, hlt, hs, hlen, hc0, hc1, q1, q2]
    match i, hi, e3, hlt, t1, hwi, hlen, hcell, hcc, hx, hd, hc0, hc1, hp0, hp1 with
    | 0, hi, e3, hlt, t1, hwi, hlen, hcell, hcc, hx, hd, hc0, hc1, hp0, hp1 =>
      have hp' := hp0 rfl
      subst hp'
      have q4 : (xi ≤ -1) = False := eq_false (by omega)
      simp only [q2, q4, h3, decide_false, Bool.false_or, Bool.not_false, Bool.true_and] at hc
      simp only [Nat.zero_mul, Nat.add_zero, Int.natCast_zero, Nat.zero_add] at hc0 hc1 hlen e3 t1
      have hw1 : IntKind.i64.wrap 1 = 1 := wrap_id (by omega) (by omega)
      have e3' : E 3 = Val.i 0 := e3
      have hlt0 : 0 < l.length := by omega
      have hoff : off + 0 + 2 ≤ zs.length := by omega
      simp [go_sem, e0, e3', hlt0, hs, hlen, hc0, hc1, q1, q2, h3, hw1]
      exact ⟨_, .rfl' _, ⟨rfl, 1, by simp, by omega, xi, by omega, hc, by omega, fun j hj => by rw [show j = 0 by omega]; exact ⟨xi, ⟨xn, hx⟩, rfl, by omega⟩⟩, by omega⟩
    | j + 1, hi, e3, hlt, t1, hwi, hlen, hcell, hcc, hx, hd, hc0, hc1, hp0, hp1 =>
      obtain ⟨x', hx', hxp, hp00⟩ := hp1 j rfl
      obtain ⟨hlen', hcell', hcc'⟩ := hget j (by omega)
      rw [bkV_get l j _ hx', hxp] at hcc'
      have hc0' := hcc' 0 (by omega)
      simp only [List.getElem?_cons_succ, List.getElem?_cons_zero, Nat.add_zero] at hc0'
      have e3' : E 3 = Val.i ((j : Int) + 1) := by rw [e3]; congr 1
      have hwj : IntKind.i64.wrap ((j : Int) + 1 - 1) = (j : Int) := by rw [wrap_id (by omega) (by omega)]; omega
      have hwj' : IntKind.i64.wrap (j : Int) = (j : Int) := wrap_id (by omega) (by omega)
      have hwi' : IntKind.i64.wrap ((j : Int) + 1 + 1) = (j : Int) + 1 + 1 := wrap_id (by omega) (by omega)
      have s1 : (0 ≤ (j : Int) + 1) = True := eq_true (by omega)
      have s2 : ((j : Int) + 1 < l.length) = True := eq_true (by omega)
      have s3 : ((j : Int) + 1).toNat = j + 1 := by omega
      have s4 : (0 < (j : Int) + 1) = True := eq_true (by omega)
      have s5 : j < l.length := by omega
      by_cases h4 : xi ≤ p
      · have q4 := eq_true h4
        simp only [q4, decide_true, Bool.true_or, Bool.or_true, Bool.not_true, Bool.false_and] at hc
        subst hc
        simp [go_sem, e0, e3', s1, s2, s3, s4, s5, hlt, hs, hlen, hlen', hc0, hc1, hc0', q1, q2, q4, h3, hwj, hwj', hwi']
      · have q4 := eq_false h4
        simp only [q2, q4, h3, decide_false, Bool.false_or, Bool.not_false, Bool.true_and] at hc
        simp [go_sem, e0, e3', s1, s2, s3, s4, s5, hlt, hs, hlen, hlen', hc0, hc1, hc0', q1, q2, q4, h3, hwj, hwj', hwi']
        exact ⟨_, .rfl' _, ⟨rfl, j + 2, by simp; omega, by omega, xi, by omega, hc, by omega, fun k hk => by rw [show k = j + 1 by omega]; exact ⟨xi, ⟨xn, hx⟩, rfl, by omega⟩⟩, by omega⟩
  · have : i = l.length := by omega
    subst this
    rw [List.drop_length] at hc
    simp only [checkB] at hc
    subst hc
    simp [go_sem, e0, e3]
end
end Go.Proofs.YtadgciaclhjjkaaGreat
set_option linter.unusedVariables false
set_option linter.unusedSimpArgs false
set_option maxRecDepth 100000
set_option maxHeartbeats 400000
namespace Go.Proofs.YtadgciaclhjjkaaGreat
open Go.RowKit (Below)
structure SkD where
  hist : List (Int × Nat)
  hashes : List Nat
  g : GauD
structure SkOK (s : SkD) : Prop where
  hist : ∀ x ∈ s.hist, x.2 < 2 ^ 64
  hlen : s.hist.length * 16 ≤ 140737488355328
  hashes : ∀ x ∈ s.hashes, x < 2 ^ 64
  klen : s.hashes.length * 8 ≤ 140737488355328
  g : GauOK s.g
def SkAt (st : Heap) (cs : List Value) (s : SkD) : Prop := ∃ hv kv, cs = [hv, kv, Val.u s.g.n, Val.u s.g.nans, Val.u s.g.lo, Val.u s.g.hi] ∧ RegF st 2 hv (bkV s.hist) s.hist.length ∧ RegF st 1 kv (cellsU s.hashes) s.hashes.length
theorem SkAt.new {st st' : Heap} {cs : List Value} {s : SkD} (h : SkAt st cs s) (hk : New st st') : SkAt st' cs s := by
  obtain ⟨hv, kv, e, h1, h2⟩ := h
  exact ⟨hv, kv, e, h1.new hk, h2.new hk⟩
theorem SkAt.length {st : Heap} {cs : List Value} {s : SkD} (h : SkAt st cs s) : cs.length = 6 := by
  obtain ⟨hv, kv, rfl, _⟩ := h
  rfl
def checkS (s : SkD) : Bool := checkB (-1) s.hist && (checkK s.hashes && checkG s.g)
section
variable {W0 : World} {st : Heap}
end
end Go.Proofs.YtadgciaclhjjkaaGreat
set_option linter.unusedVariables false
set_option linter.unusedSimpArgs false
set_option maxRecDepth 100000
set_option maxHeartbeats 400000
namespace Go.Proofs.YtadgciaclhjjkaaGreat
open Go.RowKit (Below)
abbrev Lab := ByteArray × ByteArray
structure RowD where
  labels : List Lab
  at_ : Int
  s : SkD
def labV (l : List Lab) : List Value := l.flatMap fun p => [.string p.1, .string p.2]
theorem labV_get : ∀ (l : List Lab) (i : Nat) (x : Lab), l[i]? = some x → ((labV l).drop (i * 2)).take 2 = [.string x.1, .string x.2]
  | [], i, x, h => by simp at h
  | y :: l, 0, x, h => by
    simp only [List.getElem?_cons_zero, Option.some.injEq] at h
    subst h
    simp [labV]
  | y :: l, i + 1, x, h => by
    have := labV_get l i x (by simpa using h)
    have e : (i + 1) * 2 = 2 + i * 2 := by omega
    rw [e, ← List.drop_drop]
    exact this
def RowAt (st : Heap) (cs : List Value) (r : RowD) : Prop := ∃ lv ss, cs = lv :: Val.i r.at_ :: ss ∧ RegF st 2 lv (labV r.labels) r.labels.length ∧ SkAt st ss r.s
theorem RowAt.new {st st' : Heap} {cs : List Value} {r : RowD} (h : RowAt st cs r) (hk : New st st') : RowAt st' cs r := by
  obtain ⟨lv, ss, e, h1, h2⟩ := h
  exact ⟨lv, ss, e, h1.new hk, h2.new hk⟩
theorem RowAt.length {st : Heap} {cs : List Value} {r : RowD} (h : RowAt st cs r) : cs.length = 8 := by
  obtain ⟨lv, ss, rfl, h1, h2⟩ := h
  simp [h2.length]
structure RowOK (r : RowD) : Prop where
  s : SkOK r.s
  at_ : -2 ^ 63 ≤ r.at_ ∧ r.at_ < 2 ^ 63
  llen : r.labels.length * 32 ≤ 140737488355328
  sizes : ∀ x ∈ r.labels, x.1.size < 2 ^ 60 ∧ x.2.size < 2 ^ 60
/-- Labels, each behind the one of before. -/
def labsM : Option ByteArray → List Lab → Bool
  | _, [] => true
  | p, x :: l => (labelM x.1.data.toList && (decide (1 ≤ x.2.size) && (decide (x.2.size ≤ 64) && (match p with | none => true | some q => ltT q x.1)))) && labsM (some x.1) l
def checkL (l : List Lab) : Bool := decide (1 ≤ l.length) && (decide (l.length ≤ 8) && labsM none l)
section
variable {W0 : World} {st : Heap}
theorem labelCheck_spec {v : Value} {l : List Lab} (h : RegF st 2 v (labV l) l.length) (hll : l.length < 2 ^ 50) : ICalls Tryz.prog W0 179 #[v] st fun e st' => e = .returned (.bool (checkL l)) ∧ New st st' := by
  have hv0 := h
  obtain ⟨tb, tc, rfl⟩ := h.slice
  generalize hres : checkL l = res
  unfold checkL at hres
  refine enter (args := [_]) Tryz.func179 rfl ?_
  by_cases c1 : l.length < 1
  · have q1 : ((l.length : Int) < 1) = True := eq_true (by omega)
    have : decide (1 ≤ l.length) = false := decide_eq_false (by omega)
    rw [this, Bool.false_and] at hres
    subst hres
    simp [Tryz.f179, go_sem, q1]
    exact New.refl _
  have q1 : ((l.length : Int) < 1) = False := eq_false (by omega)
  have d1 : decide (1 ≤ l.length) = true := decide_eq_true (by omega)
  rw [d1, Bool.true_and] at hres
  by_cases c2 : 8 < l.length
  · have q2 : ((8 : Int) < l.length) = True := eq_true (by omega)
    have : decide (l.length ≤ 8) = false := decide_eq_false (by omega)
    rw [this, Bool.false_and] at hres
    subst hres
    simp [Tryz.f179, go_sem, q1, q2]
    exact New.refl _
  have q2 : ((8 : Int) < l.length) = False := eq_false (by omega)
  have d2 : decide (l.length ≤ 8) = true := decide_eq_true (by omega)
  rw [d2, Bool.true_and] at hres
  simp [Tryz.f179, go_sem, q1, q2]
  refine ⟨fun E st' => New st st' ∧ E 0 = .slice tb l.length tc ∧ E 13 = .slice tb l.length tc ∧ E 14 = Val.i l.length ∧ ∃ (i : Nat) (p : Option ByteArray), E 15 = Val.i (i : Int) ∧ i ≤ l.length ∧ labsM p (l.drop i) = res ∧ (i = 0 → p = none) ∧ (∀ j, i = j + 1 → ∃ x, l[j]? = some x ∧ p = some x.1), fun E _ => match E 15 with | .int _ z => l.length - z.toNat | _ => 0,
    ⟨st, .rfl' _, New.refl _, by simp [go_sem], by simp [go_sem], by simp [go_sem], 0, none, by simp [go_sem], by omega, hres, fun _ => rfl, fun j hj => by omega⟩, ?_⟩
  rintro E s0 ⟨k0, e0, e13, e14, i, p, e15, hi, hc, hp0, hp1⟩
  by_cases hlt : i < l.length
  · have t1 : ((i : Int) < l.length) = True := eq_true (by omega)
    obtain ⟨mb, off, cap, rw_, zs, mm, g', hv', hs, hget⟩ := rows_get (hv0.new k0) (by omega)
    injection hv' with v1 v2 v3
    subst v1; subst v3
    obtain ⟨hlen, hcell, hcc⟩ := hget i hlt
    have hx : l[i]? = some l[i] := List.getElem?_eq_getElem hlt
    rw [labV_get l i _ hx] at hcell hcc
    have hd : l.drop i = l[i] :: l.drop (i + 1) := List.drop_eq_getElem_cons hlt
    rw [hd] at hc
    generalize l[i] = x at *
    obtain ⟨xn, xv⟩ := x
    simp only [labsM] at hc
    simp only at hcell hcc
    simp [go_sem, e0, e13, e14, e15, t1, hlt, hs, hlen, hcell]
    unfold NewP
    intro tb4 htb4
    refine ⟨.ty 1, ?_⟩
    have hN := (New.refl s0).add (b := tb4) (o := .cells true [.string xn, .string xv] 2 (.ty 1)) htb4
    have g4 := upd_same s0 tb4 (.cells true [.string xn, .string xv] 2 (.ty 1))
    have hs4 := hN _ _ hs
    simp [go_sem, e0, e13, e14, e15]
    generalize upd s0 tb4 (.cells true [.string xn, .string xv] 2 (.ty 1)) = s1 at *
    have k1 := k0.trans hN
    refine draw [0, 1, 2, 3, 4, 5, 6, 7, 8, 9, 10, 11, 12, 13, 14, 15, 16, 17, 18, 19, 20, 22, 23, 24, 25, 26, 21, 27, 28, 29, 30] (by kernel_rfl) ?_
    simp [go_sem, g4]
    refine labelName_spec.mono ?_
    rintro e s2 ⟨rfl, rfl⟩
    cases c3 : labelM xn.data.toList with
    | false =>
      rw [c3, Bool.false_and, Bool.false_and] at hc
      subst hc
      simp [go_sem, e0, e13, e14, e15]
      exact k1
    | true =>
    rw [c3, Bool.true_and] at hc
    by_cases c4 : xv.size < 1
    · have q4 : ((xv.size : Int) < 1) = True := eq_true (by omega)
      have : decide (1 ≤ xv.size) = false := decide_eq_false (by omega)
      rw [this, Bool.false_and, Bool.false_and] at hc
      subst hc
      simp [go_sem, e0, e13, e14, e15, g4, q4]
      exact k1
    have q4 : ((xv.size : Int) < 1) = False := eq_false (by omega)
    have d4 : decide (1 ≤ xv.size) = true := decide_eq_true (by omega)
    rw [d4, Bool.true_and] at hc
    by_cases c5 : 64 < xv.size
    · have q5 : ((64 : Int) < xv.size) = True := eq_true (by omega)
      have : decide (xv.size ≤ 64) = false := decide_eq_false (by omega)
      rw [this, Bool.false_and, Bool.false_and] at hc
      subst hc
      simp [go_sem, e0, e13, e14, e15, g4, q4, q5]
      exact k1
    have q5 : ((64 : Int) < xv.size) = False := eq_false (by omega)
    have d5 : decide (xv.size ≤ 64) = true := decide_eq_true (by omega)
    rw [d5, Bool.true_and] at hc
    match i, hi, e15, hlt, t1, hlen, hcell, hcc, hx, hd, hp0, hp1 with
    | 0, hi, e15, hlt, t1, hlen, hcell, hcc, hx, hd, hp0, hp1 =>
      have hp' := hp0 rfl
      subst hp'
      simp only [Bool.true_and] at hc
      have e15' : E 15 = Val.i 0 := e15
      have hw1 : IntKind.i64.wrap 1 = 1 := wrap_id (by omega) (by omega)
      simp [go_sem, e0, e13, e14, e15', g4, q4, q5, hw1]
      exact ⟨_, .rfl' _, ⟨k1, 1, by simp, by omega, some xn, hc, by omega, fun j hj => by rw [show j = 0 by omega]; exact ⟨xn, ⟨xv, hx⟩, rfl⟩⟩, by omega⟩
    | j + 1, hi, e15, hlt, t1, hlen, hcell, hcc, hx, hd, hp0, hp1 =>
      obtain ⟨x', hx', hxp⟩ := hp1 j rfl
      subst hxp
      obtain ⟨hlen', hcell', hcc'⟩ := hget j (by omega)
      rw [labV_get l j _ hx'] at hcc'
      have hc0' := hcc' 0 (by omega)
      simp only [List.getElem?_cons_succ, List.getElem?_cons_zero, Nat.add_zero] at hc0'
      have e15' : E 15 = Val.i ((j : Int) + 1) := by rw [e15]; congr 1
      have hwj : IntKind.i64.wrap ((j : Int) + 1 - 1) = (j : Int) := by rw [wrap_id (by omega) (by omega)]; omega
      have hwj' : IntKind.i64.wrap (j : Int) = (j : Int) := wrap_id (by omega) (by omega)
      have hwi' : IntKind.i64.wrap ((j : Int) + 1 + 1) = (j : Int) + 1 + 1 := wrap_id (by omega) (by omega)
      have s2' : ((j : Int) + 1 < l.length) = True := eq_true (by omega)
      have s4 : (0 < (j : Int) + 1) = True := eq_true (by omega)
      have s5 : j < l.length := by omega
      have hle := leT_not xn x'.1
      simp only at hc
      cases c6 : ltT x'.1 xn with
      | false =>
        rw [c6, Bool.false_and] at hc
        rw [c6, Bool.not_false] at hle
        subst hc
        simp [go_sem, e0, e13, e14, e15', g4, q4, q5, s2', s4, s5, hwj, hwj', hs4, hlen', hc0', hle]
        exact k1
      | true =>
        rw [c6, Bool.true_and] at hc
        rw [c6, Bool.not_true] at hle
        simp [go_sem, e0, e13, e14, e15', g4, q4, q5, s2', s4, s5, hwj, hwj', hwi', hs4, hlen', hc0', hle]
        exact ⟨_, .rfl' _, ⟨k1, j + 2, by simp; omega, by omega, some xn, hc, by omega, fun k hk => by rw [show k = j + 1 by omega]; exact ⟨xn, ⟨xv, hx⟩, rfl⟩⟩, by omega⟩
  · have : i = l.length := by omega
    subst this
    rw [List.drop_length] at hc
    simp only [labsM] at hc
    subst hc
    simp [go_sem, e0, e13, e14, e15]
    exact k0
end
end Go.Proofs.YtadgciaclhjjkaaGreat
set_option linter.unusedVariables false
set_option linter.unusedSimpArgs false
set_option maxRecDepth 100000
set_option maxHeartbeats 1000000
namespace Go.Proofs.YtadgciaclhjjkaaGreat
/-! ### Labels -/
def labB (x : Lab) : Bs := textB x.1 ++ textB x.2
def labsB (l : List Lab) : Bs := vputM l.length ++ l.flatMap labB
def labM1 (b : Bs) : Nat → Int → Option (List Lab × Int)
  | 0, a => some ([], a)
  | k + 1, a => (txtM b a 32).bind fun p => (txtM b p.2 64).bind fun q => (labM1 b k q.2).map fun r => ((p.1, q.1) :: r.1, r.2)
def labGetM (b : Bs) (a : Int) : Option (List Lab × Int) := (vgetM b a).bind fun p => if 8 < p.1 then none else (labM1 b p.1 p.2).bind fun r => if checkL r.1 = true then some r else none
theorem labsM_all : ∀ {l : List Lab} {p : Option ByteArray}, labsM p l = true → ∀ x ∈ l, x.1.size ≤ 32 ∧ x.2.size ≤ 64
  | [], p, h, x, hx => by cases hx
  | y :: l, p, h, x, hx => by
    unfold labsM at h
    simp only [Bool.and_eq_true, decide_eq_true_eq] at h
    rcases List.mem_cons.1 hx with rfl | hx
    · obtain ⟨⟨h1, h2, h3, _⟩, _⟩ := h
      unfold labelM at h1
      simp only [Bool.and_eq_true, decide_eq_true_eq] at h1
      have : x.1.data.toList.length = x.1.size := by simp
      exact ⟨by omega, h3⟩
    · exact labsM_all h.2 x hx
theorem checkL_all {l : List Lab} (h : checkL l = true) : 1 ≤ l.length ∧ l.length ≤ 8 ∧ ∀ x ∈ l, x.1.size ≤ 32 ∧ x.2.size ≤ 64 := by
  unfold checkL at h
  simp only [Bool.and_eq_true, decide_eq_true_eq] at h
  exact ⟨h.1, h.2.1, labsM_all h.2.2⟩
theorem lab1_put {b : Bs} : ∀ {l : List Lab} {a : Nat}, (∀ x ∈ l, x.1.size ≤ 32 ∧ x.2.size ≤ 64) → Pre (l.flatMap labB) b a → a ≤ b.length → labM1 b l.length (a : Int) = some (l, ((a + (l.flatMap labB).length : Nat) : Int))
  | [], a, _, _, _ => by simp [labM1]
  | v :: l, a, hb, hp, ha => by
    rw [List.flatMap_cons] at hp
    obtain ⟨h1, h2⟩ := hp.split
    unfold labB at h1
    obtain ⟨h3, h4⟩ := h1.split
    have l3 := h3.len ha
    have l4 := h4.len l3
    have hl : (labB v).length = (textB v.1).length + (textB v.2).length := by simp [labB]
    have ih := lab1_put (l := l) (a := a + (labB v).length) (fun w hw => hb w (by simp [hw])) h2 (by omega)
    rw [List.length_cons]
    unfold labM1
    rw [txt_put (hb v (by simp)).1 (by omega) h3 ha]
    simp only [Option.bind_some]
    rw [txt_put (hb v (by simp)).2 (by omega) h4 l3]
    simp only [Option.bind_some]
    rw [Nat.add_assoc, ← hl, ih]
    simp only [Option.map_some, List.flatMap_cons, List.length_append]
    rw [Nat.add_assoc]
theorem labGet_put {b : Bs} {l : List Lab} {a : Nat} (h : checkL l = true) (hp : Pre (labsB l) b a) (ha : a ≤ b.length) : labGetM b (a : Int) = some (l, ((a + (labsB l).length : Nat) : Int)) := by
  obtain ⟨h0, h1, h2⟩ := checkL_all h
  unfold labsB at hp
  obtain ⟨p1, p2⟩ := hp.split
  unfold labGetM
  rw [vget_put (by omega) p1]
  simp only [Option.bind_some]
  rw [if_neg (by omega), lab1_put h2 p2 (p1.len ha)]
  simp only [Option.bind_some]
  rw [if_pos h]
  unfold labsB
  rw [List.length_append, Nat.add_assoc]
/-! ### Numbers that rise -/
def riseT : Nat → List Nat → Bs
  | _, [] => []
  | next, v :: l => vputM (v - next) ++ riseT (v + 1) l
def riseB (l : List Nat) : Bs := vputM l.length ++ riseT 0 l
def riseM1 (b : Bs) : Option Nat → Nat → Int → Option (List Nat × Int)
  | _, 0, a => some ([], a)
  | none, k + 1, a => (vgetM b a).bind fun p => (riseM1 b (some p.1) k p.2).map fun r => (p.1 :: r.1, r.2)
  | some w, k + 1, a => (vgetM b a).bind fun p => if p.1 + w + 1 < 2 ^ 64 then (riseM1 b (some (p.1 + w + 1)) k p.2).map fun r => ((p.1 + w + 1) :: r.1, r.2) else none
def riseGetM (b : Bs) (a : Int) (most : Nat) : Option (List Nat × Int) := (vgetM b a).bind fun p => if most < p.1 ∨ b.length - p.2 < p.1 then none else riseM1 b none p.1 p.2
theorem riseT_len : ∀ (l : List Nat) (next : Nat), (∀ v ∈ l, v < 2 ^ 64) → l.length ≤ (riseT next l).length ∧ (riseT next l).length ≤ l.length * 10
  | [], _, _ => ⟨Nat.le_refl _, Nat.le_refl _⟩
  | v :: l, next, h => by
    have := riseT_len l (v + 1) (fun w hw => h w (by simp [hw]))
    have h2 := vputM_len (v - next) (by have := h v (by simp); omega)
    unfold riseT
    rw [List.length_append, List.length_cons]
    omega
theorem riseT_cons (next v : Nat) (l : List Nat) : riseT next (v :: l) = vputM (v - next) ++ riseT (v + 1) l := rfl
theorem rise1_put {b : Bs} : ∀ {l : List Nat} {w a : Nat}, (∀ v ∈ l, v < 2 ^ 64) → ascK (w :: l) = true → Pre (riseT (w + 1) l) b a → riseM1 b (some w) l.length (a : Int) = some (l, ((a + (riseT (w + 1) l).length : Nat) : Int))
  | [], w, a, _, _, _ => by simp [riseM1, riseT]
  | v :: l, w, a, hb, hs, hp => by
    unfold ascK at hs
    simp only [Bool.and_eq_true, decide_eq_true_eq] at hs
    unfold riseT at hp
    obtain ⟨h1, h2⟩ := hp.split
    have hv := hb v (by simp)
    have ih := rise1_put (l := l) (w := v) (a := a + (vputM (v - (w + 1))).length) (fun x hx => hb x (by simp [hx])) hs.2 h2
    rw [List.length_cons]
    unfold riseM1
    rw [vget_put (by omega) h1]
    simp only [Option.bind_some]
    have e : v - (w + 1) + w + 1 = v := by omega
    rw [e, if_pos hv, ih, riseT_cons]
    simp only [Option.map_some, List.length_append]
    rw [Nat.add_assoc]
theorem riseGet_put {b : Bs} {l : List Nat} {a most : Nat} (hv : ∀ v ∈ l, v < 2 ^ 64) (hs : ascK l = true) (hm : l.length ≤ most) (hmo : most < 2 ^ 64) (hp : Pre (riseB l) b a) (ha : a ≤ b.length) : riseGetM b (a : Int) most = some (l, ((a + (riseB l).length : Nat) : Int)) := by
  unfold riseB at hp
  obtain ⟨p1, p2⟩ := hp.split
  have l1 := p1.len ha
  have l2 := p2.len l1
  have hl := (riseT_len l 0 hv).1
  unfold riseGetM
  rw [vget_put (by omega) p1]
  simp only [Option.bind_some]
  rw [if_neg (by omega)]
  match l, hv, hs, hl with
  | [], _, _, _ => simp [riseM1, riseB, riseT]
  | v :: l, hv, hs, _ =>
    unfold riseT at p2
    obtain ⟨h1, h2⟩ := p2.split
    have hv0 := hv v (by simp)
    have ih := rise1_put (l := l) (w := v) (fun x hx => hv x (by simp [hx])) hs h2
    rw [Nat.sub_zero] at h1
    rw [List.length_cons]
    unfold riseM1
    rw [List.length_cons] at h1
    rw [vget_put (by omega) h1]
    simp only [Option.bind_some]
    rw [List.length_cons, Nat.sub_zero] at ih
    rw [ih]
    unfold riseB
    rw [riseT_cons]
    simp only [Option.map_some, List.length_append, List.length_cons, Nat.sub_zero]
    simp only [Nat.add_assoc]
/-! ### Gauges -/
def leB : Nat → Nat → Bs
  | 0, _ => []
  | k + 1, v => UInt8.ofNat (v % 256) :: leB k (v / 256)
def leR : Bs → Nat
  | [] => 0
  | x :: l => x.toNat + 256 * leR l
theorem leB_len : ∀ (k v : Nat), (leB k v).length = k
  | 0, _ => rfl
  | k + 1, v => by rw [leB, List.length_cons, leB_len]
theorem leR_leB : ∀ (k v : Nat), v < 256 ^ k → leR (leB k v) = v
  | 0, v, h => by rw [Nat.pow_zero] at h; rw [leB, leR]; omega
  | k + 1, v, h => by
    have hv : v / 256 < 256 ^ k := by rw [Nat.div_lt_iff_lt_mul (by omega), Nat.mul_comm, ← Nat.pow_succ']; exact h
    rw [leB, leR, leR_leB k _ hv]
    have : (UInt8.ofNat (v % 256)).toNat = v % 256 := by simp
    omega
def gauB (g : GauD) : Bs := vputM g.nans ++ (vputM g.n ++ (if g.n = 0 then [] else leB 8 g.lo ++ leB 8 g.hi))
def gauGetM (b : Bs) (a : Int) : Option (GauD × Int) := (vgetM b a).bind fun p => (vgetM b p.2).bind fun q =>
  if q.1 = 0 then some (⟨0, p.1, 0, 0⟩, (q.2 : Int))
  else if b.length - q.2 < 16 then none
  else if checkG ⟨q.1, p.1, leR ((b.drop q.2).take 8), leR ((b.drop (q.2 + 8)).take 8)⟩ = true then some (⟨q.1, p.1, leR ((b.drop q.2).take 8), leR ((b.drop (q.2 + 8)).take 8)⟩, ((q.2 + 16 : Nat) : Int)) else none
theorem Pre.take {s b : Bs} {a : Nat} (h : Pre s b a) {n : Nat} (hn : n = s.length) : (b.drop a).take n = s := by
  obtain ⟨t, ht⟩ := h
  rw [← ht, hn, List.take_left]
theorem gauGet_put {b : Bs} {g : GauD} {a : Nat} (ok : GauOK g) (hc : checkG g = true) (hp : Pre (gauB g) b a) (ha : a ≤ b.length) : gauGetM b (a : Int) = some (g, ((a + (gauB g).length : Nat) : Int)) := by
  obtain ⟨o1, o2, o3, o4⟩ := ok
  obtain ⟨n, nans, lo, hi⟩ := g
  unfold gauB at hp ⊢
  simp only at o1 o2 o3 o4 hp ⊢
  obtain ⟨p1, p2⟩ := hp.split
  obtain ⟨p2, p3⟩ := p2.split
  have l1 := p1.len ha
  have l2 := p2.len l1
  unfold gauGetM
  rw [vget_put o2 p1]
  simp only [Option.bind_some]
  rw [vget_put o1 p2]
  simp only [Option.bind_some]
  by_cases h0 : n = 0
  · subst h0
    unfold checkG at hc
    simp at hc
    obtain ⟨rfl, rfl⟩ := hc
    simp [Nat.add_assoc]
  · rw [if_neg h0] at p3
    rw [if_neg h0, if_neg h0]
    have l3 := p3.len l2
    rw [List.length_append, leB_len, leB_len] at l3
    rw [if_neg (by omega)]
    obtain ⟨p4, p5⟩ := p3.split
    rw [leB_len] at p5
    rw [p4.take (leB_len _ _).symm, p5.take (leB_len _ _).symm, leR_leB 8 lo (by omega), leR_leB 8 hi (by omega), if_pos hc]
    simp only [List.length_append, leB_len]
    refine congrArg some (Prod.ext rfl ?_)
    simp only
    omega
end Go.Proofs.YtadgciaclhjjkaaGreat
set_option linter.unusedVariables false
set_option linter.unusedSimpArgs false
set_option maxRecDepth 100000
set_option maxHeartbeats 1000000
namespace Go.Proofs.YtadgciaclhjjkaaGreat
abbrev Bk := Int × Nat
def sparT : Nat → List Bk → Bs
  | _, [] => []
  | next, x :: l => vputM (x.1.toNat - next) ++ (vputM x.2 ++ sparT (x.1.toNat + 1) l)
def sparB (l : List Bk) : Bs := vputM 0 ++ (vputM l.length ++ sparT 0 l)
def densT : Nat → List Bk → Bs
  | _, [] => []
  | next, x :: l => List.replicate (x.1.toNat - next) 0 ++ (vputM x.2 ++ densT (x.1.toNat + 1) l)
theorem sparT_cons (next : Nat) (x : Bk) (l : List Bk) : sparT next (x :: l) = vputM (x.1.toNat - next) ++ (vputM x.2 ++ sparT (x.1.toNat + 1) l) := rfl
theorem densT_cons (next : Nat) (x : Bk) (l : List Bk) : densT next (x :: l) = List.replicate (x.1.toNat - next) 0 ++ (vputM x.2 ++ densT (x.1.toNat + 1) l) := rfl
def firstB (l : List Bk) : Nat := ((l.head?).map (·.1.toNat)).getD 0
def lastB (l : List Bk) : Nat := ((l.getLast?).map (·.1.toNat)).getD 0
def densB (l : List Bk) : Bs := vputM 1 ++ (vputM (firstB l) ++ (vputM (lastB l - firstB l + 1) ++ densT (firstB l) l))
def formB (l : List Bk) : Bs := if l ≠ [] ∧ (densB l).length < (sparB l).length then densB l else sparB l
/-- Reads buckets; dn: of the dense form; lim: with the program's bound. -/
def bksM (b : Bs) (dn lim : Bool) : Nat → Nat → Int → Option (List Bk × Int)
  | 0, _, a => some ([], a)
  | k + 1, next, a => (if dn = true then some (0, a) else (vgetM b a).map fun p => (p.1, (p.2 : Int))).bind fun s => (vgetM b s.2).bind fun n =>
      if 7424 ≤ s.1 ∨ (lim = true ∧ 7424 ≤ next + s.1) then none
      else (bksM b dn lim k (next + s.1 + 1) n.2).map fun r => (if dn = false ∨ 0 < n.1 then (((next + s.1 : Nat) : Int), n.1) :: r.1 else r.1, r.2)
def histRM (b : Bs) (lim : Bool) (a : Int) : Option (List Bk × Int) := (vgetM b a).bind fun h =>
  if h.1 = 0 then (vgetM b h.2).bind fun n => if 7424 < n.1 ∨ (lim = false ∧ b.length - n.2 < n.1) then none else bksM b false lim n.1 0 n.2
  else if h.1 = 1 then (vgetM b h.2).bind fun f => (vgetM b f.2).bind fun n => if 7424 < n.1 ∨ 7424 ≤ f.1 ∨ (lim = false ∧ b.length - n.2 < n.1) then none else bksM b true lim n.1 f.1 n.2
  else none
def histGetM (b : Bs) (lim : Bool) (a : Int) : Option (List Bk × Int) := (histRM b lim a).bind fun r => if checkB (-1) r.1 = true ∧ (b.drop a.toNat).take (r.2 - a).toNat = formB r.1 then some r else none
theorem rcB_cons {p : Int} {x : Bk} {l : List Bk} (h : checkB p (x :: l) = true) : p < x.1 ∧ x.1 < 7424 ∧ 0 < x.2 ∧ checkB x.1 l = true := by
  unfold checkB at h
  simp at h
  obtain ⟨⟨⟨h1, h2⟩, h3⟩, h4⟩ := h
  exact ⟨by omega, by omega, by omega, h4⟩
theorem bks_spar {b : Bs} {lim : Bool} : ∀ {l : List Bk} {next a : Nat}, checkB ((next : Int) - 1) l = true → (∀ x ∈ l, x.2 < 2 ^ 64) → Pre (sparT next l) b a → bksM b false lim l.length next (a : Int) = some (l, ((a + (sparT next l).length : Nat) : Int))
  | [], next, a, _, _, _ => by simp [bksM, sparT]
  | x :: l, next, a, hc, hb, hp => by
    obtain ⟨c1, c2, c3, c4⟩ := rcB_cons hc
    unfold sparT at hp
    obtain ⟨p1, p2⟩ := hp.split
    obtain ⟨p2, p3⟩ := p2.split
    have hx := hb x (by simp)
    obtain ⟨z, hz⟩ : ∃ z : Nat, x.1 = z := ⟨x.1.toNat, by omega⟩
    have hzt : x.1.toNat = z := by omega
    rw [hzt] at p1 p2 p3
    have ih := bks_spar (lim := lim) (l := l) (next := z + 1) (a := a + (vputM (z - next)).length + (vputM x.2).length) (by rw [show ((z + 1 : Nat) : Int) - 1 = x.1 by omega]; exact c4) (fun y hy => hb y (by simp [hy])) p3
    rw [List.length_cons]
    unfold bksM
    rw [if_neg (by simp), vget_put (by omega) p1]
    simp only [Option.map_some, Option.bind_some]
    rw [vget_put hx p2]
    simp only [Option.bind_some]
    have e : next + (z - next) = z := by omega
    rw [if_neg (by omega), e, ih]
    rw [sparT_cons, hzt]
    simp only [Option.map_some, true_or, if_true, List.length_append]
    refine congrArg some (Prod.ext ?_ ?_)
    · simp only
      rw [← hz]
    · simp only
      omega
theorem vput0 : vputM 0 = [0] := by unfold vputM; rfl
theorem bks_zeros {b : Bs} {lim : Bool} : ∀ {z next k a : Nat}, Pre (List.replicate z 0) b a → next + z ≤ 7424 → bksM b true lim (k + z) next (a : Int) = bksM b true lim k (next + z) ((a + z : Nat) : Int)
  | 0, next, k, a, _, _ => rfl
  | z + 1, next, k, a, hp, hn => by
    rw [List.replicate_succ, ← List.singleton_append] at hp
    obtain ⟨p1, p2⟩ := hp.split
    rw [← vput0] at p1
    have ih := bks_zeros (lim := lim) (k := k) (next := next + 1) p2 (by omega)
    have e : k + (z + 1) = (k + z) + 1 := by omega
    rw [e]
    conv => lhs; unfold bksM
    rw [if_pos rfl]
    simp only [Option.bind_some]
    rw [vget_put (by omega) p1]
    simp only [Option.bind_some]
    rw [if_neg (by omega), vput0]
    simp only [List.length_cons, List.length_nil, Nat.add_zero, Nat.zero_add]
    simp only [List.length_cons, List.length_nil, Nat.zero_add] at ih
    rw [ih]
    have e1 : next + 1 + z = next + (z + 1) := by omega
    have e2 : a + 1 + z = a + (z + 1) := by omega
    rw [e1, e2]
    cases bksM b true lim k (next + (z + 1)) ((a + (z + 1) : Nat) : Int) with
    | none => rfl
    | some r => simp
theorem lastB_cons {x y : Bk} {l : List Bk} : lastB (x :: y :: l) = lastB (y :: l) := by simp [lastB]
theorem rcB_last : ∀ {l : List Bk} {p : Int}, l ≠ [] → checkB p l = true → p < lastB l ∧ lastB l < 7424
  | [], p, h, _ => absurd rfl h
  | [x], p, _, h => by obtain ⟨c1, c2, c3, c4⟩ := rcB_cons h; simp [lastB]; omega
  | x :: y :: l, p, _, h => by
    obtain ⟨c1, c2, c3, c4⟩ := rcB_cons h
    have := rcB_last (by simp) c4
    rw [lastB_cons]
    omega
theorem bks_dens {b : Bs} {lim : Bool} : ∀ {l : List Bk} {next a : Nat}, l ≠ [] → checkB ((next : Int) - 1) l = true → (∀ x ∈ l, x.2 < 2 ^ 64) → Pre (densT next l) b a → bksM b true lim (lastB l + 1 - next) next (a : Int) = some (l, ((a + (densT next l).length : Nat) : Int))
  | [], next, a, h, _, _, _ => absurd rfl h
  | x :: l, next, a, _, hc, hb, hp => by
    obtain ⟨c1, c2, c3, c4⟩ := rcB_cons hc
    unfold densT at hp
    obtain ⟨p1, p2⟩ := hp.split
    obtain ⟨p2, p3⟩ := p2.split
    have hx := hb x (by simp)
    obtain ⟨z, hz⟩ : ∃ z : Nat, x.1 = z := ⟨x.1.toNat, by omega⟩
    have hzt : x.1.toNat = z := by omega
    rw [hzt] at p1 p2 p3
    rw [List.length_replicate] at p2 p3
    have hlast : lastB (x :: l) + 1 - next = (lastB (x :: l) - z) + 1 + (z - next) ∧ z ≤ lastB (x :: l) := by
      cases l with
      | nil => simp [lastB, hzt]; omega
      | cons y l =>
        have := rcB_last (by simp) c4
        rw [lastB_cons]
        omega
    rw [hlast.1, bks_zeros p1 (by omega)]
    have e : next + (z - next) = z := by omega
    rw [e]
    conv => lhs; unfold bksM
    rw [if_pos rfl]
    simp only [Option.bind_some]
    rw [vget_put hx p2]
    simp only [Option.bind_some]
    rw [if_neg (by omega)]
    have ih : bksM b true lim (lastB (x :: l) - z) (z + 1) ((a + (z - next) + (vputM x.2).length : Nat) : Int) = some (l, ((a + (z - next) + (vputM x.2).length + (densT (z + 1) l).length : Nat) : Int)) := by
      cases l with
      | nil => simp [lastB, hzt, bksM, densT]
      | cons y l =>
        have := bks_dens (lim := lim) (l := y :: l) (next := z + 1) (by simp) (by rw [show ((z + 1 : Nat) : Int) - 1 = x.1 by omega]; exact c4) (fun y hy => hb y (by simp [hy])) p3
        rw [lastB_cons, ← this]
        congr 1
        omega
    simp only [Nat.add_zero]
    rw [ih]
    rw [densT_cons, hzt]
    simp only [Option.map_some, List.length_append, List.length_replicate]
    rw [if_pos (.inr c3)]
    refine congrArg some (Prod.ext ?_ ?_)
    · simp only
      rw [← hz]
    · simp only
      omega
theorem sparT_len : ∀ (l : List Bk) (next : Nat), (∀ x ∈ l, x.2 < 2 ^ 64 ∧ x.1 < 7424) → l.length ≤ (sparT next l).length ∧ (sparT next l).length ≤ l.length * 20
  | [], _, _ => ⟨Nat.le_refl _, Nat.le_refl _⟩
  | x :: l, next, h => by
    have h0 := h x (by simp)
    have := sparT_len l (x.1.toNat + 1) (fun w hw => h w (by simp [hw]))
    have h1 := vputM_len (x.1.toNat - next) (by omega)
    have h2 := vputM_len x.2 h0.1
    unfold sparT
    rw [List.length_append, List.length_append, List.length_cons]
    omega
theorem densT_len : ∀ {l : List Bk} {next : Nat}, l ≠ [] → checkB ((next : Int) - 1) l = true → (∀ x ∈ l, x.2 < 2 ^ 64) → lastB l + 1 - next ≤ (densT next l).length ∧ (densT next l).length ≤ 7424 + l.length * 10 - next
  | [], _, h, _, _ => absurd rfl h
  | x :: l, next, _, hc, hb => by
    obtain ⟨c1, c2, c3, c4⟩ := rcB_cons hc
    have h2 := vputM_len x.2 (hb x (by simp))
    unfold densT
    rw [List.length_append, List.length_append, List.length_cons, List.length_replicate]
    obtain ⟨z, hz⟩ : ∃ z : Nat, x.1 = z := ⟨x.1.toNat, by omega⟩
    have hzt : x.1.toNat = z := by omega
    rw [hzt]
    cases l with
    | nil => simp [lastB, hzt, densT]; omega
    | cons y l =>
      have := densT_len (l := y :: l) (next := z + 1) (by simp) (by rw [show ((z + 1 : Nat) : Int) - 1 = x.1 by omega]; exact c4) (fun y hy => hb y (by simp [hy]))
      rw [lastB_cons]
      have h3 := rcB_last (by simp) c4
      omega
theorem rcB_all : ∀ {l : List Bk} {p : Int}, checkB p l = true → (∀ x ∈ l, p < x.1 ∧ x.1 < 7424 ∧ 0 < x.2)
  | [], _, _, x, hx => by cases hx
  | y :: l, p, h, x, hx => by
    obtain ⟨c1, c2, c3, c4⟩ := rcB_cons h
    rcases List.mem_cons.1 hx with rfl | hx
    · exact ⟨c1, c2, c3⟩
    · have := rcB_all c4 x hx; omega
theorem rcB_len : ∀ {l : List Bk} {p : Int}, checkB p l = true → (l.length : Int) ≤ 7423 - p ∨ l = []
  | [], _, _ => .inr rfl
  | y :: l, p, h => by
    obtain ⟨c1, c2, c3, c4⟩ := rcB_cons h
    left
    rcases rcB_len c4 with h | rfl
    · simp only [List.length_cons]; omega
    · simp only [List.length_cons, List.length_nil]; omega
theorem firstB_cons (x : Bk) (l : List Bk) : firstB (x :: l) = x.1.toNat := rfl
theorem histR_put {b : Bs} {lim : Bool} {l : List Bk} {a : Nat} (hc : checkB (-1) l = true) (hb : ∀ x ∈ l, x.2 < 2 ^ 64) (hp : Pre (formB l) b a) (ha : a ≤ b.length) : histRM b lim (a : Int) = some (l, ((a + (formB l).length : Nat) : Int)) := by
  have hlen : l.length ≤ 7424 := by
    rcases rcB_len hc with h | rfl
    · omega
    · simp
  unfold formB at hp ⊢
  by_cases hd : l ≠ [] ∧ (densB l).length < (sparB l).length
  · rw [if_pos hd] at hp ⊢
    obtain ⟨hne, -⟩ := hd
    have hl := rcB_last hne hc
    obtain ⟨hf0, hf1⟩ : firstB l ≤ lastB l ∧ checkB ((firstB l : Nat) - 1) l = true := by
      cases l with
      | nil => exact absurd rfl hne
      | cons x l =>
        obtain ⟨c1, c2, c3, c4⟩ := rcB_cons hc
        rw [firstB_cons]
        refine ⟨?_, ?_⟩
        · cases l with
          | nil => simp [lastB]
          | cons y l => have := rcB_last (by simp) c4; rw [lastB_cons]; omega
        · unfold checkB
          simp [c4]
          exact ⟨⟨by omega, by omega⟩, by omega⟩
    have hdl := densT_len hne hf1 hb
    unfold densB at hp ⊢
    obtain ⟨p1, p2⟩ := hp.split
    obtain ⟨p2, p3⟩ := p2.split
    obtain ⟨p3, p4⟩ := p3.split
    have l1 := p1.len ha
    have l2 := p2.len l1
    have l3 := p3.len l2
    have l4 := p4.len l3
    unfold histRM
    rw [vget_put (by omega) p1]
    simp only [Option.bind_some]
    rw [if_neg (by omega), if_pos trivial, vget_put (by omega) p2]
    simp only [Option.bind_some]
    rw [vget_put (by omega) p3]
    simp only [Option.bind_some]
    rw [if_neg (by omega), show lastB l - firstB l + 1 = lastB l + 1 - firstB l by omega]
    rw [show lastB l - firstB l + 1 = lastB l + 1 - firstB l by omega] at p4
    rw [bks_dens hne hf1 hb p4]
    simp only [List.length_append]
    refine congrArg some (Prod.ext rfl ?_)
    simp only
    omega
  · rw [if_neg hd] at hp ⊢
    have hsl := sparT_len l 0 (fun x hx => ⟨hb x hx, (rcB_all hc x hx).2.1⟩)
    unfold sparB at hp ⊢
    obtain ⟨p1, p2⟩ := hp.split
    obtain ⟨p2, p3⟩ := p2.split
    have l1 := p1.len ha
    have l2 := p2.len l1
    have l3 := p3.len l2
    unfold histRM
    rw [vget_put (by omega) p1]
    simp only [Option.bind_some]
    rw [if_pos trivial, vget_put (by omega) p2]
    simp only [Option.bind_some]
    rw [if_neg (by omega), bks_spar (next := 0) hc hb p3]
    simp only [List.length_append]
    refine congrArg some (Prod.ext rfl ?_)
    simp only
    omega
theorem histGet_put {b : Bs} {lim : Bool} {l : List Bk} {a : Nat} (hc : checkB (-1) l = true) (hb : ∀ x ∈ l, x.2 < 2 ^ 64) (hp : Pre (formB l) b a) (ha : a ≤ b.length) : histGetM b lim (a : Int) = some (l, ((a + (formB l).length : Nat) : Int)) := by
  unfold histGetM
  rw [histR_put hc hb hp ha]
  simp only [Option.bind_some]
  rw [if_pos ⟨hc, hp.take (by omega)⟩]
theorem bks_pos {b : Bs} {dn lim : Bool} : ∀ {k next : Nat} {a : Int} {r : List Bk × Int}, 0 ≤ a → a ≤ b.length → bksM b dn lim k next a = some r → a ≤ r.2 ∧ r.2 ≤ b.length ∧ ∀ x ∈ r.1, x.2 < 2 ^ 64
  | 0, next, a, r, h0, h1, h => by
    unfold bksM at h
    injection h with h
    subst h
    exact ⟨by simp, h1, by simp⟩
  | k + 1, next, a, r, h0, h1, h => by
    unfold bksM at h
    obtain ⟨s, hs, h⟩ := Option.bind_eq_some_iff.1 h
    obtain ⟨n, hn, h⟩ := Option.bind_eq_some_iff.1 h
    have hs' : a ≤ s.2 ∧ s.2 ≤ b.length := by
      cases dn with
      | true => rw [if_pos rfl] at hs; injection hs with hs; subst hs; exact ⟨by simp, h1⟩
      | false =>
        rw [if_neg (by simp)] at hs
        obtain ⟨p, hp, hs⟩ := Option.map_eq_some_iff.1 hs
        subst hs
        have := vgetM_bound hp
        simp only
        omega
    have hnb := vgetM_bound hn
    split at h
    · cases h
    obtain ⟨q, hq, h⟩ := Option.map_eq_some_iff.1 h
    have ih := bks_pos (by omega) (by omega) hq
    subst h
    refine ⟨by simp only; omega, ih.2.1, ?_⟩
    simp only
    split
    · intro x hx
      rcases List.mem_cons.1 hx with rfl | hx
      · exact hnb.1
      · exact ih.2.2 x hx
    · exact ih.2.2
theorem histR_pos {b : Bs} {lim : Bool} {a : Int} {r : List Bk × Int} (h : histRM b lim a = some r) : 0 ≤ a ∧ a ≤ r.2 ∧ r.2 ≤ b.length ∧ ∀ x ∈ r.1, x.2 < 2 ^ 64 := by
  unfold histRM at h
  obtain ⟨p, hp, h⟩ := Option.bind_eq_some_iff.1 h
  have ha : 0 ≤ a := by
    unfold vgetM at hp
    split at hp
    · cases hp
    · omega
  have hb := vgetM_bound hp
  split at h
  · obtain ⟨n, hn, h⟩ := Option.bind_eq_some_iff.1 h
    have hb2 := vgetM_bound hn
    split at h
    · cases h
    have := bks_pos (by omega) (by omega) h
    exact ⟨ha, by omega, this.2⟩
  split at h
  · obtain ⟨f, hf, h⟩ := Option.bind_eq_some_iff.1 h
    obtain ⟨n, hn, h⟩ := Option.bind_eq_some_iff.1 h
    have hb1 := vgetM_bound hf
    have hb2 := vgetM_bound hn
    split at h
    · cases h
    have := bks_pos (by omega) (by omega) h
    exact ⟨ha, by omega, this.2⟩
  · cases h
end Go.Proofs.YtadgciaclhjjkaaGreat
