/- Sorting what has at most one element: nothing is done. -/
import Derived.Test.YtenencpnnjacdaaTab
import Derived.Test.YtenencpnnjacdaaSepV
set_option linter.unusedVariables false
set_option linter.unusedSimpArgs false
set_option maxRecDepth 100000
namespace Go.Proofs.Ytenencpnnjacdaa
open Go.RowKit (Below)
section
variable {W0 : World} {st : Heap}
theorem Len64_small {n : Int} (h0 : 0 ≤ n) (h1 : n ≤ 1) : ICalls Try.prog W0 149 #[.int .u64 n] st fun e st' => (∃ k, e = .returned (.int .i64 k)) ∧ st' = st := by
  refine enter (args := [_]) Try.func149 rfl ?_
  have hn : n = 0 ∨ n = 1 := by omega
  rcases hn with rfl | rfl
  · simp [Try.f149, go_sem]
    decide
  · simp [Try.f149, go_sem]
    decide
theorem Len_small {n : Int} (h0 : 0 ≤ n) (h1 : n ≤ 1) : ICalls Try.prog W0 119 #[.int .u64 n] st fun e st' => (∃ k, e = .returned (.int .i64 k)) ∧ st' = st := by
  refine enter (args := [_]) Try.func119 rfl ?_
  simp [Try.f119, go_sem]
  refine (Len64_small h0 h1).mono ?_
  rintro e st' ⟨⟨k, rfl⟩, rfl⟩
  simp [go_sem]
theorem insertionCmp_small {v fv : Value} {n : Int} (h : n ≤ 1) : ICalls Try.prog W0 140 #[v, .int .i64 0, .int .i64 n, fv] st fun e st' => e = .returned (.tuple #[]) ∧ st' = st := by
  refine enter (args := [_, _, _, _]) Try.func140 rfl ?_
  simp [Try.f140, go_sem]
  refine ⟨fun E st' => st' = st ∧ E 8 = .int .i64 1 ∧ E 2 = .int .i64 n, fun _ _ => 0, ⟨st, .rfl' st, rfl, by simp [go_sem]; decide, by simp [go_sem]⟩, ?_⟩
  rintro E st' ⟨rfl, h8, h2⟩
  have hn : ¬ 1 < n := by omega
  simp [go_sem, h8, h2, hn]
theorem pdqCmp_small {v fv : Value} {n k : Int} (h0 : 0 ≤ n) (h : n ≤ 1) : ICalls Try.prog W0 118 #[v, .int .i64 0, .int .i64 n, .int .i64 k, fv] st fun e st' => e = .returned (.tuple #[]) ∧ st' = st := by
  refine enter (args := [_, _, _, _, _]) Try.func118 rfl ?_
  simp [Try.f118, go_sem]
  refine ⟨fun E st' => st' = st ∧ E 0 = v ∧ E 1 = .int .i64 0 ∧ E 2 = .int .i64 n ∧ E 4 = fv, fun _ _ => 0, ⟨st, .rfl' st, rfl, by simp [go_sem], by simp [go_sem], by simp [go_sem], by simp [go_sem]⟩, ?_⟩
  rintro E st' ⟨rfl, e0, e1, e2, e4⟩
  have hw : IntKind.i64.wrap (n - 0) = n := by rw [wrap_id (by omega) (by omega)]; omega
  have hw' : IntKind.i64.wrap n = n := wrap_id (by omega) (by omega)
  have hn : n ≤ 12 := by omega
  simp [go_sem, e0, e1, e2, e4, hw, hw', hn]
  refine (insertionCmp_small h).mono ?_
  rintro e st' ⟨rfl, rfl⟩
  simp [go_sem]
theorem SortFunc_small {b : Option Addr} {n c : Nat} {fv : Value} (h : n ≤ 1) : ICalls Try.prog W0 77 #[.slice b n c, fv] st fun e st' => e = .returned (.tuple #[]) ∧ st' = st := by
  refine enter (args := [_, _]) Try.func77 rfl ?_
  have hw : IntKind.u64.wrap (n : Int) = n := by rw [IntKind.wrap_u64]; omega
  simp [Try.f77, go_sem, hw]
  refine (Len_small (by omega) (by omega)).mono ?_
  rintro e st' ⟨⟨k, rfl⟩, rfl⟩
  simp [go_sem]
  refine (pdqCmp_small (by omega) (by omega)).mono ?_
  rintro e st' ⟨rfl, rfl⟩
  simp [go_sem]
theorem insertionOrd_small {v : Value} {n : Int} (h : n ≤ 1) : ICalls Try.prog W0 150 #[v, .int .i64 0, .int .i64 n] st fun e st' => e = .returned (.tuple #[]) ∧ st' = st := by
  refine enter (args := [_, _, _]) Try.func150 rfl ?_
  simp [Try.f150, go_sem]
  refine ⟨fun E st' => st' = st ∧ E 6 = .int .i64 1 ∧ E 2 = .int .i64 n, fun _ _ => 0, ⟨st, .rfl' st, rfl, by simp [go_sem]; decide, by simp [go_sem]⟩, ?_⟩
  rintro E st' ⟨rfl, h8, h2⟩
  have hn : ¬ 1 < n := by omega
  simp [go_sem, h8, h2, hn]
theorem pdqOrd_small {v : Value} {n k : Int} (h0 : 0 ≤ n) (h : n ≤ 1) : ICalls Try.prog W0 120 #[v, .int .i64 0, .int .i64 n, .int .i64 k] st fun e st' => e = .returned (.tuple #[]) ∧ st' = st := by
  refine enter (args := [_, _, _, _]) Try.func120 rfl ?_
  simp [Try.f120, go_sem]
  refine ⟨fun E st' => st' = st ∧ E 0 = v ∧ E 1 = .int .i64 0 ∧ E 2 = .int .i64 n, fun _ _ => 0, ⟨st, .rfl' st, rfl, by simp [go_sem], by simp [go_sem], by simp [go_sem]⟩, ?_⟩
  rintro E st' ⟨rfl, e0, e1, e2⟩
  have hw : IntKind.i64.wrap (n - 0) = n := by rw [wrap_id (by omega) (by omega)]; omega
  have hw' : IntKind.i64.wrap n = n := wrap_id (by omega) (by omega)
  have hn : n ≤ 12 := by omega
  simp [go_sem, e0, e1, e2, hw, hw', hn]
  refine (insertionOrd_small h).mono ?_
  rintro e st' ⟨rfl, rfl⟩
  simp [go_sem]
theorem Sort_small {b : Option Addr} {n c : Nat} (h : n ≤ 1) : ICalls Try.prog W0 81 #[.slice b n c] st fun e st' => e = .returned (.tuple #[]) ∧ st' = st := by
  refine enter (args := [_]) Try.func81 rfl ?_
  have hw : IntKind.u64.wrap (n : Int) = n := by rw [IntKind.wrap_u64]; omega
  simp [Try.f81, go_sem, hw]
  refine (Len_small (by omega) (by omega)).mono ?_
  rintro e st' ⟨⟨k, rfl⟩, rfl⟩
  simp [go_sem]
  refine (pdqOrd_small (by omega) (by omega)).mono ?_
  rintro e st' ⟨rfl, rfl⟩
  simp [go_sem]
end
end Go.Proofs.Ytenencpnnjacdaa
