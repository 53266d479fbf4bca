/- Sorting what has at most one element: nothing is done. -/
import Derived.Test.YtmgbknkjgfdllaaTab
import Derived.Test.YtmgbknkjgfdllaaSepV
set_option linter.unusedVariables false
set_option linter.unusedSimpArgs false
set_option maxRecDepth 100000
namespace Go.Proofs.Ytmgbknkjgfdllaa
open Go.RowKit (Below)
section
variable {W0 : World} {st : Heap}
theorem Len64_small {n : Int} (h0 : 0 ≤ n) (h1 : n ≤ 1) : ICalls Try.prog W0 145 #[.int .u64 n] st fun e st' => (∃ k, e = .returned (.int .i64 k)) ∧ st' = st := by
  refine enter (args := [_]) Try.func145 rfl ?_
  have hn : n = 0 ∨ n = 1 := by omega
  rcases hn with rfl | rfl
  · simp [Try.f145, go_sem]
    decide
  · simp [Try.f145, go_sem]
    decide
theorem Len_small {n : Int} (h0 : 0 ≤ n) (h1 : n ≤ 1) : ICalls Try.prog W0 122 #[.int .u64 n] st fun e st' => (∃ k, e = .returned (.int .i64 k)) ∧ st' = st := by
  refine enter (args := [_]) Try.func122 rfl ?_
  simp [Try.f122, go_sem]
  refine (Len64_small h0 h1).mono ?_
  rintro e st' ⟨⟨k, rfl⟩, rfl⟩
  simp [go_sem]
theorem insertionCmp_small {v fv : Value} {n : Int} (h : n ≤ 1) : ICalls Try.prog W0 158 #[v, .int .i64 0, .int .i64 n, fv] st fun e st' => e = .returned (.tuple #[]) ∧ st' = st := by
  refine enter (args := [_, _, _, _]) Try.func158 rfl ?_
  simp [Try.f158, go_sem]
  refine ⟨fun E st' => st' = st ∧ E 8 = .int .i64 1 ∧ E 2 = .int .i64 n, fun _ _ => 0, ⟨st, .rfl' st, rfl, by simp [go_sem]; decide, by simp [go_sem]⟩, ?_⟩
  rintro E st' ⟨rfl, h8, h2⟩
  have hn : ¬ 1 < n := by omega
  simp [go_sem, h8, h2, hn]
theorem pdqCmp_small {v fv : Value} {n k : Int} (h0 : 0 ≤ n) (h : n ≤ 1) : ICalls Try.prog W0 133 #[v, .int .i64 0, .int .i64 n, .int .i64 k, fv] st fun e st' => e = .returned (.tuple #[]) ∧ st' = st := by
  refine enter (args := [_, _, _, _, _]) Try.func133 rfl ?_
  simp [Try.f133, go_sem]
  refine ⟨fun E st' => st' = st ∧ E 0 = v ∧ E 1 = .int .i64 0 ∧ E 2 = .int .i64 n ∧ E 4 = fv, fun _ _ => 0, ⟨st, .rfl' st, rfl, by simp [go_sem], by simp [go_sem], by simp [go_sem], by simp [go_sem]⟩, ?_⟩
  rintro E st' ⟨rfl, e0, e1, e2, e4⟩
  have hw : IntKind.i64.wrap (n - 0) = n := by rw [wrap_id (by omega) (by omega)]; omega
  have hw' : IntKind.i64.wrap n = n := wrap_id (by omega) (by omega)
  have hn : n ≤ 12 := by omega
  simp [go_sem, e0, e1, e2, e4, hw, hw', hn]
  refine (insertionCmp_small h).mono ?_
  rintro e st' ⟨rfl, rfl⟩
  simp [go_sem]
theorem SortFunc_small {b : Option Addr} {n c : Nat} {fv : Value} (h : n ≤ 1) : ICalls Try.prog W0 107 #[.slice b n c, fv] st fun e st' => e = .returned (.tuple #[]) ∧ st' = st := by
  refine enter (args := [_, _]) Try.func107 rfl ?_
  have hw : IntKind.u64.wrap (n : Int) = n := by rw [IntKind.wrap_u64]; omega
  simp [Try.f107, go_sem, hw]
  refine (Len_small (by omega) (by omega)).mono ?_
  rintro e st' ⟨⟨k, rfl⟩, rfl⟩
  simp [go_sem]
  refine (pdqCmp_small (by omega) (by omega)).mono ?_
  rintro e st' ⟨rfl, rfl⟩
  simp [go_sem]
theorem insertionOrd_small {v : Value} {n : Int} (h : n ≤ 1) : ICalls Try.prog W0 135 #[v, .int .i64 0, .int .i64 n] st fun e st' => e = .returned (.tuple #[]) ∧ st' = st := by
  refine enter (args := [_, _, _]) Try.func135 rfl ?_
  simp [Try.f135, go_sem]
  refine ⟨fun E st' => st' = st ∧ E 6 = .int .i64 1 ∧ E 2 = .int .i64 n, fun _ _ => 0, ⟨st, .rfl' st, rfl, by simp [go_sem]; decide, by simp [go_sem]⟩, ?_⟩
  rintro E st' ⟨rfl, h8, h2⟩
  have hn : ¬ 1 < n := by omega
  simp [go_sem, h8, h2, hn]
theorem pdqOrd_small {v : Value} {n k : Int} (h0 : 0 ≤ n) (h : n ≤ 1) : ICalls Try.prog W0 121 #[v, .int .i64 0, .int .i64 n, .int .i64 k] st fun e st' => e = .returned (.tuple #[]) ∧ st' = st := by
  refine enter (args := [_, _, _, _]) Try.func121 rfl ?_
  simp [Try.f121, go_sem]
  refine ⟨fun E st' => st' = st ∧ E 0 = v ∧ E 1 = .int .i64 0 ∧ E 2 = .int .i64 n, fun _ _ => 0, ⟨st, .rfl' st, rfl, by simp [go_sem], by simp [go_sem], by simp [go_sem]⟩, ?_⟩
  rintro E st' ⟨rfl, e0, e1, e2⟩
  have hw : IntKind.i64.wrap (n - 0) = n := by rw [wrap_id (by omega) (by omega)]; omega
  have hw' : IntKind.i64.wrap n = n := wrap_id (by omega) (by omega)
  have hn : n ≤ 12 := by omega
  simp [go_sem, e0, e1, e2, hw, hw', hn]
  refine (insertionOrd_small h).mono ?_
  rintro e st' ⟨rfl, rfl⟩
  simp [go_sem]
theorem Sort_small {b : Option Addr} {n c : Nat} (h : n ≤ 1) : ICalls Try.prog W0 75 #[.slice b n c] st fun e st' => e = .returned (.tuple #[]) ∧ st' = st := by
  refine enter (args := [_]) Try.func75 rfl ?_
  have hw : IntKind.u64.wrap (n : Int) = n := by rw [IntKind.wrap_u64]; omega
  simp [Try.f75, go_sem, hw]
  refine (Len_small (by omega) (by omega)).mono ?_
  rintro e st' ⟨⟨k, rfl⟩, rfl⟩
  simp [go_sem]
  refine (pdqOrd_small (by omega) (by omega)).mono ?_
  rintro e st' ⟨rfl, rfl⟩
  simp [go_sem]
end
end Go.Proofs.Ytmgbknkjgfdllaa
