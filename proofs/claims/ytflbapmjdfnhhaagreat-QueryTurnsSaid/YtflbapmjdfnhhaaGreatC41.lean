/- A remainder from 0 on; bytes in new memory. -/
import Derived.Test.YtflbapmjdfnhhaaGreatCTab
import Derived.Test.YtflbapmjdfnhhaaGreatC09
import Derived.Test.YtflbapmjdfnhhaaGreatC39
import Derived.Test.YtflbapmjdfnhhaaGreatC40
import Derived.Test.YtflbapmjdfnhhaaGreatC26
set_option linter.unusedVariables false
set_option linter.unusedSimpArgs false
set_option maxRecDepth 100000
set_option maxHeartbeats 1000000
namespace Go.Proofs.YtflbapmjdfnhhaaGreat
open Go.RowKit (Below)
section
variable {W0 : World} {st : Heap}
theorem Place_spec {n k : Int} (hk : 0 < k) (hk2 : k < 2 ^ 40) : ICalls Tryz.prog W0 15 #[Val.i n, Val.i k] st fun e st' => (∃ m : Nat, (m : Int) < k ∧ e = .returned (Val.i m)) ∧ st' = st := by
  refine enter (args := [_, _]) Tryz.func15 rfl ?_
  have hk0 : ¬ k = 0 := by omega
  have h1 := Int.tmod_lt_of_pos n hk
  have h2 : -k < n.tmod k := by
    have := Int.lt_tmod_of_pos n hk
    omega
  have hw1 : IntKind.i64.wrap (n.tmod k) = n.tmod k := wrap_id (by omega) (by omega)
  by_cases hneg : n.tmod k < 0
  · have hw2 : IntKind.i64.wrap (n.tmod k + k) = n.tmod k + k := wrap_id (by omega) (by omega)
    simp [Tryz.f15, go_sem, hk0, hneg, hw1, hw2]
    refine ⟨(n.tmod k + k).toNat, by omega, by omega⟩
  · simp [Tryz.f15, go_sem, hk0, hneg, hw1]
    refine ⟨(n.tmod k).toNat, by omega, by omega⟩
end
end Go.Proofs.YtflbapmjdfnhhaaGreat
set_option linter.unusedVariables false
set_option linter.unusedSimpArgs false
set_option maxRecDepth 100000
set_option maxHeartbeats 1000000
namespace Go.Proofs.YtflbapmjdfnhhaaGreat
open Go.RowKit (Below)
structure GoodL (l : List Lab) : Prop where
  ck : checkL l = true
  len : l.length ≤ 8
  sizes : ∀ x ∈ l, x.1.size < 2 ^ 60 ∧ x.2.size < 2 ^ 60
section
variable {W0 : World} {st : Heap}
end
end Go.Proofs.YtflbapmjdfnhhaaGreat
set_option linter.unusedVariables false
set_option linter.unusedSimpArgs false
set_option maxRecDepth 100000
set_option maxHeartbeats 1000000
namespace Go.Proofs.YtflbapmjdfnhhaaGreat
open Go.RowKit (Below)
theorem five {cs : List Value} (h : cs.length = 5) : ∃ a0 a1 a2 a3 a4, cs = [a0, a1, a2, a3, a4] := by
  match cs, h with
  | [a0, a1, a2, a3, a4], _ => exact ⟨a0, a1, a2, a3, a4, rfl⟩
section
variable {W0 : World} {st : Heap}
theorem answers_x {a0 a1 a2 a3 a4 : Value} {start step n kind a b : Int} {m : Mat} {v : Value} {l : List RowD} {d : Nat} (hm : MatAt st [a0, a1, a2, a3, a4] m) (hn : NiceM d m) (hc : checkM m = true) (hv : RowsAt st v l) (hl : l.length < 2 ^ 30) (hok : ∀ r ∈ l, RowOK r) :
    ICalls Tryz.prog W0 12 #[.agg #[a0, a1, a2, a3, a4, Val.i start, Val.i step, Val.i n, Val.i kind, Val.u a, Val.u b], v] st fun e st' => ∃ fv, e = .returned fv ∧ AnsFn st' fv [a0, a1, a2, a3, a4] ⟨m, start, step, n, kind, a, b⟩ (l.filter (keepR (evalM m))) ∧ New st st' :=
  answers_made (q := ⟨m, start, step, n, kind, a, b⟩) (ms := [a0, a1, a2, a3, a4]) hm hn hc hv hl hok
theorem MatAt.cells {st : Heap} {cs : List Value} {m : Mat} (h : MatAt st cs m) : ∃ (mo : Int) (mn mv : ByteArray) (vb : Option Addr) (vn vc : Nat) (kb : Option Addr) (kn kc : Nat), cs = [Val.i mo, .string mn, .string mv, .slice vb vn vc, .slice kb kn kc] := by
  obtain ⟨op, name, value, vals, kids⟩ := m
  unfold MatAt at h
  obtain ⟨vv, kv, ks, rfl, h1, h2, _⟩ := h
  obtain ⟨vb, vc, rfl⟩ := h1.slice
  obtain ⟨kb, kc, rfl⟩ := h2.slice
  exact ⟨_, _, _, _, _, _, _, _, _, rfl⟩
theorem ask_x {a0 a1 a2 a3 a4 : Value} {start step n kind a b : Int} {m : Mat} (hN : NiceM 12 m) (hm : MatAt st [a0, a1, a2, a3, a4] m) :
    ICalls Tryz.prog W0 13 #[.agg #[a0, a1, a2, a3, a4, Val.i start, Val.i step, Val.i n, Val.i kind, Val.u a, Val.u b]] st fun e st' => ∃ (mo : Int) (mn mv : ByteArray) (vb : Option Addr) (vn vc : Nat) (kb : Option Addr) (kn kc : Nat), e = .returned (.agg #[Val.i mo, .string mn, .string mv, .slice vb vn vc, .slice kb kn kc, Val.i start, Val.i step, Val.i n, Val.i kind, Val.u a, Val.u b]) ∧ MatAt st' [Val.i mo, .string mn, .string mv, .slice vb vn vc, .slice kb kn kc] m ∧ New st st' := by
  refine (ask_copy (W0 := W0) (st := st) (cs := [a0, a1, a2, a3, a4]) (start := start) (step := step) (n := n) (kind := kind) (a := a) (b := b) hN hm).mono ?_
  rintro e st' ⟨cs', rfl, h1, h2⟩
  obtain ⟨mo, mn, mv, vb, vn, vc, kb, kn, kc, rfl⟩ := h1.cells
  exact ⟨mo, mn, mv, vb, vn, vc, kb, kn, kc, rfl, h1, h2⟩
end
/-! ### Windows side by side -/
end Go.Proofs.YtflbapmjdfnhhaaGreat
