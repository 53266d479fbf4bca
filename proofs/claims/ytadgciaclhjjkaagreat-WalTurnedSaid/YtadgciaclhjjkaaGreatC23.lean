/- A remainder from 0 on; bytes in new memory. -/
import Derived.Test.YtadgciaclhjjkaaGreatCTab
import Derived.Test.YtadgciaclhjjkaaGreatC08
import Derived.Test.YtadgciaclhjjkaaGreatC22
set_option linter.unusedVariables false
set_option linter.unusedSimpArgs false
set_option maxRecDepth 100000
set_option maxHeartbeats 1000000
namespace Go.Proofs.YtadgciaclhjjkaaGreat
open Go.RowKit (Below)
section
variable {W0 : World} {st : Heap}
theorem Place_spec {n k : Int} (hk : 0 < k) (hk2 : k < 2 ^ 40) : ICalls Tryz.prog W0 25 #[Val.i n, Val.i k] st fun e st' => (∃ m : Nat, (m : Int) < k ∧ e = .returned (Val.i m)) ∧ st' = st := by
  refine enter (args := [_, _]) Tryz.func25 rfl ?_
  have hk0 : ¬ k = 0 := by omega
  have h1 := Int.tmod_lt_of_pos n hk
  have h2 : -k < n.tmod k := by
    have := Int.lt_tmod_of_pos n hk
    omega
  have hw1 : IntKind.i64.wrap (n.tmod k) = n.tmod k := wrap_id (by omega) (by omega)
  by_cases hneg : n.tmod k < 0
  · have hw2 : IntKind.i64.wrap (n.tmod k + k) = n.tmod k + k := wrap_id (by omega) (by omega)
    simp [Tryz.f25, go_sem, hk0, hneg, hw1, hw2]
    refine ⟨(n.tmod k + k).toNat, by omega, by omega⟩
  · simp [Tryz.f25, go_sem, hk0, hneg, hw1]
    refine ⟨(n.tmod k).toNat, by omega, by omega⟩
end
end Go.Proofs.YtadgciaclhjjkaaGreat
set_option linter.unusedVariables false
set_option linter.unusedSimpArgs false
set_option maxRecDepth 100000
set_option maxHeartbeats 8000000
namespace Go.Proofs.YtadgciaclhjjkaaGreat
open Go.RowKit (Below)
theorem frame_eq {x y : Bs} (hx : x.length < 2 ^ 60) (hy : y.length < 2 ^ 60) (h : frameM x <+: frameM y) : frameM x = frameM y := by
  have hpx : Pre (frameM x) (frameM y) 0 := h
  have hpy : Pre (frameM y) (frameM y) 0 := List.prefix_refl _
  have hlx : (frameM x).length = (vputM x.length).length + 4 + x.length := by unfold frameM le4; simp only [List.length_append, List.length_cons, List.length_nil]; omega
  have hly : (frameM y).length = (vputM y.length).length + 4 + y.length := by unfold frameM le4; simp only [List.length_append, List.length_cons, List.length_nil]; omega
  unfold frameM at hpx
  have h1 := vget_put (a := 0) (by omega) (hpx.split).1
  conv at hpy => arg 1; unfold frameM
  have h2 := vget_put (a := 0) (by omega) (hpy.split).1
  have e1 : vputM x.length ++ (le4 (crcM x) ++ x) = frameM x := rfl
  have h12 := h1.symm.trans h2
  injection h12 with h12
  injection h12 with h12 _
  exact h.eq_of_length (by rw [hlx, hly, h12])
section
variable {W0 : World} {st : Heap}
end
end Go.Proofs.YtadgciaclhjjkaaGreat
set_option linter.unusedVariables false
set_option linter.unusedSimpArgs false
set_option maxRecDepth 100000
set_option maxHeartbeats 8000000
namespace Go.Proofs.YtadgciaclhjjkaaGreat
open Go.RowKit (Below)
/-- From the one place to the other stand these bytes. -/
def Seg (b : Bs) (a a' : Int) (s : Bs) : Prop := 0 ≤ a ∧ a ≤ a' ∧ a' ≤ b.length ∧ (b.drop a.toNat).take (a'.toNat - a.toNat) = s
theorem Seg.len {b : Bs} {a a' : Int} {s : Bs} (h : Seg b a a' s) : a + s.length = a' := by
  obtain ⟨h0, h1, h2, h3⟩ := h
  rw [← h3, List.length_take, List.length_drop]
  omega
theorem Seg.trans {b : Bs} {a m c : Int} {s t : Bs} (h : Seg b a m s) (h' : Seg b m c t) : Seg b a c (s ++ t) := by
  obtain ⟨h0, h1, h2, h3⟩ := h
  obtain ⟨k0, k1, k2, k3⟩ := h'
  refine ⟨h0, by omega, k2, ?_⟩
  rw [show c.toNat - a.toNat = (m.toNat - a.toNat) + (c.toNat - m.toNat) by omega, List.take_add, h3, List.drop_drop, show a.toNat + (m.toNat - a.toNat) = m.toNat by omega, k3]
theorem Seg.byte {b : Bs} {a : Nat} {x : UInt8} (h : b[a]? = some x) : Seg b a ((a + 1 : Nat) : Int) [x] := by
  obtain ⟨hl, hx⟩ := List.getElem?_eq_some_iff.1 h
  refine ⟨by omega, by omega, by omega, ?_⟩
  have : b.drop a = x :: b.drop (a + 1) := by rw [← hx]; exact List.drop_eq_getElem_cons hl
  simp only [Int.toNat_natCast]
  rw [this, show a + 1 - a = 1 by omega]
  rfl
theorem Seg.nat {b s : Bs} {c n : Nat} (h : c + n ≤ b.length) (hs : (b.drop c).take n = s) : Seg b c ((c + n : Nat) : Int) s := by
  refine ⟨by omega, by omega, by omega, ?_⟩
  simp only [Int.toNat_natCast]
  rw [show c + n - c = n by omega, hs]
theorem vgetL_canon {b : Bs} : ∀ (k : Nat) {a v w a' : Nat}, k ≤ 9 → vgetL b (k + 1) a v = some (w, a') → ∃ n, w = v + n * 128 ^ (9 - k) ∧ Seg b a a' (vputM n) ∧ (k = 9 ∨ 0 < n) := by
  intro k
  induction k with
  | zero =>
    intro a v w a' _ h
    unfold vgetL at h
    split at h
    · cases h
    rename_i x hx
    split at h
    · cases h
    split at h
    · split at h
      · cases h
      injection h with h
      injection h with h1 h2
      subst h1
      subst h2
      refine ⟨x.toNat, by rw [Nat.mod_eq_of_lt (by assumption)], ?_, .inr (by omega)⟩
      have := Seg.byte hx
      unfold vputM
      rw [if_pos (by assumption)]
      simpa using this
    · unfold vgetL at h
      cases h
  | succ k ih =>
    intro a v w a' hk h
    unfold vgetL at h
    split at h
    · cases h
    rename_i x hx
    split at h
    · cases h
    split at h
    · split at h
      · cases h
      injection h with h
      injection h with h1 h2
      subst h1
      subst h2
      refine ⟨x.toNat, by rw [Nat.mod_eq_of_lt (by assumption)], ?_, ?_⟩
      · have := Seg.byte hx
        unfold vputM
        rw [if_pos (by assumption)]
        simpa using this
      · rename_i hn
        rcases Nat.lt_or_ge (k + 1) 9 with h9 | h9
        · right
          rcases Nat.eq_zero_or_pos x.toNat with h0 | h0
          · exact absurd ⟨h9, h0⟩ hn
          · exact h0
        · left; omega
    · rename_i hge
      obtain ⟨n, hw, hs, hn⟩ := ih (by omega) h
      have hx256 := x.toNat_lt
      have hn0 : 0 < n := by omega
      refine ⟨x.toNat % 128 + 128 * n, ?_, ?_, .inr (by omega)⟩
      · rw [hw]
        have hpow : (128 : Nat) ^ (9 - k) = 128 * 128 ^ (9 - (k + 1)) := by
          rw [show 9 - k = 9 - (k + 1) + 1 by omega, Nat.pow_succ, Nat.mul_comm]
        rw [hpow, Nat.add_mul, ← Nat.mul_assoc, Nat.mul_comm n 128]
        omega
      · have h1 := (Seg.byte hx).trans hs
        rw [vputM, if_neg (by omega)]
        have e1 : (x.toNat % 128 + 128 * n) / 128 = n := by omega
        have e2 : (x.toNat % 128 + 128 * n) % 128 + 128 = x.toNat := by omega
        rw [e1, e2]
        simpa using h1
theorem vget_canon {b : Bs} {a : Int} {n a' : Nat} (h : vgetM b a = some (n, a')) : Seg b a a' (vputM n) := by
  unfold vgetM at h
  split at h
  · cases h
  obtain ⟨m, hw, hs, _⟩ := vgetL_canon 9 (by omega) h
  simp at hw
  subst hw
  rwa [show ((a.toNat : Nat) : Int) = a by omega] at hs
theorem le4_le4R {b : Bs} (h : b.length = 4) : le4 (le4R b) = b := by
  match b, h with
  | [x, y, z, w], _ =>
    have hx := x.toNat_lt
    have hy := y.toNat_lt
    have hz := z.toNat_lt
    have hw := w.toNat_lt
    unfold le4R le4
    simp only
    have e1 : (x.toNat + 256 * y.toNat + 65536 * z.toNat + 16777216 * w.toNat) % 256 = x.toNat := by omega
    have e2 : (x.toNat + 256 * y.toNat + 65536 * z.toNat + 16777216 * w.toNat) / 256 % 256 = y.toNat := by omega
    have e3 : (x.toNat + 256 * y.toNat + 65536 * z.toNat + 16777216 * w.toNat) / 65536 % 256 = z.toNat := by omega
    have e4 : (x.toNat + 256 * y.toNat + 65536 * z.toNat + 16777216 * w.toNat) / 16777216 % 256 = w.toNat := by omega
    rw [e1, e2, e3, e4]
    simp
theorem frame_canon {b body : Bs} {e : Nat} {a : Int} (h : frameGetM b a = .ok (body, e)) : Seg b a e (frameM body) ∧ 1 ≤ body.length ∧ body.length ≤ 1048576 := by
  unfold frameGetM at h
  split at h
  · cases h
  split at h
  · cases h
  split at h
  · cases h
  rename_i n c hv
  split at h
  · cases h
  rename_i hn
  split at h
  · cases h
  rename_i hcrc
  injection h with h
  injection h with h1 h2
  subst h2
  have hb := vgetM_bound hv
  simp only at hb
  have hl : body.length = n := by rw [← h1, List.length_take, List.length_drop]; omega
  have s1 := vget_canon hv
  have s2 : Seg b c ((c + 4 : Nat) : Int) ((b.drop c).take 4) := Seg.nat (by omega) rfl
  have s3 : Seg b ((c + 4 : Nat) : Int) ((c + 4 + n : Nat) : Int) body := Seg.nat (by omega) h1
  have h4 : ((b.drop c).take 4).length = 4 := by rw [List.length_take, List.length_drop]; omega
  have e4 := le4_le4R h4
  rw [h1] at hcrc
  have hcrc' : crcM body = le4R ((b.drop c).take 4) := Classical.not_not.1 hcrc
  refine ⟨?_, by omega, by omega⟩
  unfold frameM
  rw [hl, hcrc', e4]
  exact s1.trans (s2.trans s3)
end Go.Proofs.YtadgciaclhjjkaaGreat
