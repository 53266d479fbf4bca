/- A remainder from 0 on; bytes in new memory. -/
import Derived.Test.YtmgbknkjgfdllaaTab
import Derived.Test.YtmgbknkjgfdllaaSepP
set_option linter.unusedVariables false
set_option linter.unusedSimpArgs false
set_option maxRecDepth 100000
set_option maxHeartbeats 1000000
namespace Go.Proofs.Ytmgbknkjgfdllaa
open Go.RowKit (Below)
section
variable {W0 : World} {st : Heap}
theorem Place_spec {n k : Int} (hk : 0 < k) (hk2 : k < 2 ^ 40) : ICalls Try.prog W0 19 #[Val.i n, Val.i k] st fun e st' => (∃ m : Nat, (m : Int) < k ∧ e = .returned (Val.i m)) ∧ st' = st := by
  refine enter (args := [_, _]) Try.func19 rfl ?_
  have hk0 : ¬ k = 0 := by omega
  have h1 := Int.tmod_lt_of_pos n hk
  have h2 : -k < n.tmod k := by
    have := Int.lt_tmod_of_pos n hk
    omega
  have hw1 : IntKind.i64.wrap (n.tmod k) = n.tmod k := wrap_id (by omega) (by omega)
  by_cases hneg : n.tmod k < 0
  · have hw2 : IntKind.i64.wrap (n.tmod k + k) = n.tmod k + k := wrap_id (by omega) (by omega)
    simp [Try.f19, go_sem, hk0, hneg, hw1, hw2]
    refine ⟨(n.tmod k + k).toNat, by omega, by omega⟩
  · simp [Try.f19, go_sem, hk0, hneg, hw1]
    refine ⟨(n.tmod k).toNat, by omega, by omega⟩
theorem Bytes_spec {v : Value} {bs : Bs} {g : Tg} (h : Reg st g 1 v (bytesV bs) bs.length) (hl : bs.length < 2 ^ 40) : ICalls Try.prog W0 17 #[v] st fun e st' => ∃ b c, e = .returned (.slice b bs.length c) ∧ Vec st' (.ty 0) 1 (.slice b bs.length c) (bytesV bs) bs.length ∧ Keep (fun _ => True) st st' := by
  refine enter (args := [_]) Try.func17 rfl ?_
  simp [Try.f17, go_sem]
  refine AppI_fresh (.ty 0) si29 h.src (by omega) ?_
  intro b c st1 hv he
  simp [go_sem]
  exact ⟨b, c, ⟨rfl, rfl⟩, hv, he⟩
end
end Go.Proofs.Ytmgbknkjgfdllaa
