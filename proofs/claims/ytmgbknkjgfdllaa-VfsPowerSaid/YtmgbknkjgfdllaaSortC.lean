/- Sorting at most twelve strings by a comparison. -/
import Derived.Test.YtmgbknkjgfdllaaSortB
set_option linter.unusedVariables false
set_option linter.unusedSimpArgs false
set_option maxRecDepth 100000
set_option maxHeartbeats 1000000
namespace Go.Proofs.Ytmgbknkjgfdllaa
open Go.RowKit (Below)
section
variable {W0 : World} {st : Heap}
theorem Len64_few {n : Int} (h0 : 0 ≤ n) (h1 : n ≤ 12) : ICalls Try.prog W0 145 #[.int .u64 n] st fun e st' => (∃ k, e = .returned (.int .i64 k)) ∧ st' = st := by
  refine enter (args := [_]) Try.func145 rfl ?_
  have c1 : ¬ (4294967296 : Int) ≤ n := by omega
  have c2 : ¬ (65536 : Int) ≤ n := by omega
  have c3 : ¬ (256 : Int) ≤ n := by omega
  have c4 : IntKind.u8.wrap n = n := by rw [IntKind.wrap_u8]; omega
  have c5 : n < 256 := by omega
  simp [Try.f145, go_sem, c1, c2, c3, c4, c5, h0]
theorem Len_few {n : Int} (h0 : 0 ≤ n) (h1 : n ≤ 12) : ICalls Try.prog W0 122 #[.int .u64 n] st fun e st' => (∃ k, e = .returned (.int .i64 k)) ∧ st' = st := by
  refine enter (args := [_]) Try.func122 rfl ?_
  simp [Try.f122, go_sem]
  refine (Len64_few h0 h1).mono ?_
  rintro e st' ⟨⟨k, rfl⟩, rfl⟩
  simp [go_sem]
theorem SortFunc_few {b N cap : Nat} {cs : List ByteArray} {g : Tg} {fv : Value} {cmp : ByteArray → ByteArray → Int} (h : st b = some (.cells true (cs.map .string) N g)) (hN : cs.length ≤ N) (hn : cs.length ≤ 12)
    (hc : ∀ (st' : Heap) (a c : ByteArray) (K : Value → Heap → Prop) (Kp : List PanicEntry → Heap → Prop), Keep (fun t => t ≠ g) st st' → a ∈ cs → c ∈ cs → K (.int .i64 (cmp a c)) st' → callY Try.prog W0 fv [.string a, .string c] K Kp st') :
    ICalls Try.prog W0 107 #[.slice (some ⟨b, 0, none⟩) cs.length cap, fv] st fun e st' => e = .returned (.tuple #[]) ∧ st' = upd st b (.cells true ((isortM (fun x y => decide (cmp x y < 0)) cs (cs.length - 1) 1).map .string) N g) := by
  refine enter (args := [_, _]) Try.func107 rfl ?_
  have hw : IntKind.u64.wrap (cs.length : Int) = cs.length := by rw [IntKind.wrap_u64]; omega
  simp [Try.f107, go_sem, hw]
  refine (Len_few (by omega) (by omega)).mono ?_
  rintro e st' ⟨⟨k, rfl⟩, rfl⟩
  simp [go_sem]
  refine ICalls.mono (R := fun e st2 => e = .returned (.tuple #[]) ∧ st2 = upd st' b (.cells true ((isortM (fun x y => decide (cmp x y < 0)) cs (cs.length - 1) 1).map .string) N g)) ?_ ?_
  · refine enter (args := [_, _, _, _, _]) Try.func133 rfl ?_
    simp [Try.f133, go_sem]
    refine ⟨fun E st2 => st2 = st' ∧ E 0 = .slice (some ⟨b, 0, none⟩) cs.length cap ∧ E 1 = .int .i64 0 ∧ E 2 = .int .i64 cs.length ∧ E 4 = fv, fun _ _ => 0, ⟨st', .rfl' st', rfl, by simp [go_sem], by simp [go_sem], by simp [go_sem], by simp [go_sem]⟩, ?_⟩
    rintro E st2 ⟨rfl, e0, e1, e2, e4⟩
    have hw1 : IntKind.i64.wrap ((cs.length : Int) - 0) = cs.length := by rw [wrap_id (by omega) (by omega)]; omega
    have hw' : IntKind.i64.wrap (cs.length : Int) = cs.length := wrap_id (by omega) (by omega)
    have hn' : (cs.length : Int) ≤ 12 := by omega
    simp [go_sem, e0, e1, e2, e4, hw1, hw', hn', hn]
    refine (insertionCmp_spec h hN (by omega) hc).mono ?_
    rintro e st3 ⟨rfl, rfl⟩
    simp [go_sem]
  · rintro e st2 ⟨rfl, rfl⟩
    simp [go_sem]
end
end Go.Proofs.Ytmgbknkjgfdllaa
