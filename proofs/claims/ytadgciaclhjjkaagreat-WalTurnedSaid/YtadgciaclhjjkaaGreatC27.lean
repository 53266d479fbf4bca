/- The histogram: a new one, the sum of its counts, its buckets. -/
import Derived.Test.YtadgciaclhjjkaaGreatC08
import Derived.Test.YtadgciaclhjjkaaGreatCTab
import Derived.Test.YtadgciaclhjjkaaGreatC15
import Derived.Test.YtadgciaclhjjkaaGreatC20
import Derived.Test.YtadgciaclhjjkaaGreatC16
set_option linter.unusedVariables false
set_option linter.unusedSimpArgs false
set_option maxRecDepth 100000
set_option maxHeartbeats 400000
namespace Go.Proofs.YtadgciaclhjjkaaGreat
open Go.RowKit (Below)
/-- A sum that stops at the top. -/
def satAdd (x y : Nat) : Nat := if 2 ^ 64 ≤ x + y then 2 ^ 64 - 1 else x + y
def cellsU (h : List Nat) : List Value := h.map fun n : Nat => .int .u64 (n : Int)
section
variable {W0 : World} {st : Heap}
end
end Go.Proofs.YtadgciaclhjjkaaGreat
set_option linter.unusedVariables false
set_option linter.unusedSimpArgs false
set_option maxRecDepth 100000
set_option maxHeartbeats 400000
namespace Go.Proofs.YtadgciaclhjjkaaGreat
open Go.RowKit (Below)
section
variable {W0 : World} {st : Heap}
end
end Go.Proofs.YtadgciaclhjjkaaGreat
set_option linter.unusedVariables false
set_option linter.unusedSimpArgs false
set_option maxRecDepth 100000
set_option maxHeartbeats 400000
namespace Go.Proofs.YtadgciaclhjjkaaGreat
open Go.RowKit (Below)
/-- Buckets as a row. -/
def bkV (l : List (Int × Nat)) : List Value := l.flatMap fun p => [Val.i p.1, .int .u64 (p.2 : Int)]
theorem bkV_get : ∀ (l : List (Int × Nat)) (i : Nat) (x : Int × Nat), l[i]? = some x → ((bkV l).drop (i * 2)).take 2 = [Val.i x.1, .int .u64 (x.2 : Int)]
  | [], i, x, h => by simp at h
  | y :: l, 0, x, h => by
    simp only [List.getElem?_cons_zero, Option.some.injEq] at h
    subst h
    simp [bkV]
  | y :: l, i + 1, x, h => by
    have := bkV_get l i x (by simpa using h)
    have e : (i + 1) * 2 = 2 + i * 2 := by omega
    rw [e, ← List.drop_drop]
    exact this
/-- The document's rule on buckets: their places rise, none is empty. -/
def checkB : Int → List (Int × Nat) → Bool
  | _, [] => true
  | p, x :: l => !(decide (x.1 ≤ p) || decide (7424 ≤ x.1) || decide (x.2 = 0)) && checkB x.1 l
section
variable {W0 : World} {st : Heap}
theorem histCheck_spec {v : Value} {l : List (Int × Nat)} (h : RegF st 2 v (bkV l) l.length) (hll : l.length < 2 ^ 50) : ICalls Tryz.prog W0 172 #[v] st fun e st' => e = .returned (.bool (checkB (-1) l)) ∧ New st st' := by
  obtain ⟨tb, tc, rfl⟩ := h.slice
  generalize hres : checkB (-1) l = res
  refine enter (args := [_]) Tryz.func172 rfl ?_
  simp [Tryz.f172, go_sem]
  refine ⟨fun E st' => New st st' ∧ E 6 = .slice tb l.length tc ∧ E 7 = Val.i l.length ∧ ∃ (i : Nat) (p : Int), E 8 = Val.i i ∧ i ≤ l.length ∧ E 3 = Val.i p ∧ checkB p (l.drop i) = res,
    fun E _ => match E 8 with | .int _ i => l.length - i.toNat | _ => 0, ⟨st, .rfl' _, New.refl _, by simp [go_sem], by simp [go_sem], 0, -1, by simp [go_sem], by omega, by simp [go_sem], hres⟩, ?_⟩
  rintro E st2 ⟨hk2, e6, e7, i, p, e8, hi, e3, hc⟩
  by_cases hlt : i < l.length
  · have hlt' : ((i : Int) < l.length) = True := eq_true (by omega)
    have hwi : IntKind.i64.wrap ((i : Int) + 1) = (i : Int) + 1 := wrap_id (by omega) (by omega)
    obtain ⟨mb, off, cap, rw_, zs, mm, g', hv, hs, hget⟩ := rows_get (h.new hk2) (by omega)
    injection hv with v1 v2 v3
    subst v1; subst v3
    obtain ⟨hlen, hcell, hcc⟩ := hget i hlt
    have hx : l[i]? = some l[i] := List.getElem?_eq_getElem hlt
    rw [bkV_get l i _ hx] at hcell
    have hd : l.drop i = l[i] :: l.drop (i + 1) := List.drop_eq_getElem_cons hlt
    rw [hd] at hc
    generalize l[i] = x at *
    obtain ⟨xi, xn⟩ := x
    simp only [checkB] at hc hcell
    simp [go_sem, e3, e6, e7, e8, hlt, hlt', hs, hlen, hcell]
    unfold NewP
    intro nb hnb
    refine ⟨.ty 1, ?_⟩
    have hN := (New.refl st2).add (b := nb) (o := .cells true [Val.i xi, .int .u64 (xn : Int)] 2 (.ty 1)) hnb
    by_cases h1 : xi ≤ p
    · have q1 := eq_true h1
      simp only [q1, decide_true, Bool.true_or, Bool.not_true, Bool.false_and] at hc
      subst hc
      simp [go_sem, e3, e6, e7, e8, q1]
      exact hk2.trans hN
    have q1 := eq_false h1
    by_cases h2 : 7424 ≤ xi
    · have q2 := eq_true h2
      simp only [q1, q2, decide_true, decide_false, Bool.true_or, Bool.or_true, Bool.false_or, Bool.not_true, Bool.false_and] at hc
      subst hc
      simp [go_sem, e3, e6, e7, e8, q1, q2]
      exact hk2.trans hN
    have q2 := eq_false h2
    by_cases h3 : xn = 0
    · have q3 := eq_true h3
      simp only [q1, q2, q3, decide_true, decide_false, Bool.true_or, Bool.or_true, Bool.false_or, Bool.not_true, Bool.false_and] at hc
      subst hc
      subst h3
      simp [go_sem, e3, e6, e7, e8, q1, q2]
      exact hk2.trans hN
    have q3 := eq_false h3
    simp only [q1, q2, q3, decide_false, Bool.false_or, Bool.not_false, Bool.true_and] at hc
    simp [go_sem, e3, e6, e7, e8, q1, q2, h3, hwi]
    exact ⟨_, .rfl' _, ⟨hk2.trans hN, i + 1, by simp, by omega, hc⟩, by omega⟩
  · have hk' : i = l.length := by omega
    subst hk'
    rw [List.drop_length] at hc
    simp only [checkB] at hc
    subst hc
    simp [go_sem, e3, e6, e7, e8]
    exact hk2
end
end Go.Proofs.YtadgciaclhjjkaaGreat
set_option linter.unusedVariables false
set_option linter.unusedSimpArgs false
set_option maxRecDepth 100000
set_option maxHeartbeats 400000
namespace Go.Proofs.YtadgciaclhjjkaaGreat
open Go.RowKit (Below)
section
variable {W0 : World} {st : Heap}
end
end Go.Proofs.YtadgciaclhjjkaaGreat
set_option linter.unusedVariables false
set_option linter.unusedSimpArgs false
set_option maxRecDepth 100000
set_option maxHeartbeats 400000
namespace Go.Proofs.YtadgciaclhjjkaaGreat
open Go.RowKit (Below)
section
variable {W0 : World} {st : Heap}
end
end Go.Proofs.YtadgciaclhjjkaaGreat
set_option linter.unusedVariables false
set_option linter.unusedSimpArgs false
set_option maxRecDepth 100000
set_option maxHeartbeats 400000
namespace Go.Proofs.YtadgciaclhjjkaaGreat
open Go.RowKit (Below)
def ascK : List Nat → Bool
  | a :: b :: l => decide (a < b) && ascK (b :: l)
  | _ => true
/-- The rule on hashes: they rise, and they are not too many. -/
def checkK (l : List Nat) : Bool := decide (l.length ≤ 1024) && ascK l
section
variable {W0 : World} {st : Heap}
end
end Go.Proofs.YtadgciaclhjjkaaGreat
