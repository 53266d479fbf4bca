/- The document's own look at a matcher, and what is small enough to be asked: plain. -/
import Derived.Test.YtadgciaclhjjkaaGreatC09
set_option linter.unusedVariables false
set_option linter.unusedSimpArgs false
set_option maxRecDepth 100000
set_option maxHeartbeats 2000000
namespace Go.Proofs.YtadgciaclhjjkaaGreat
/-! ### What is small enough to be asked -/
mutual
def tinyM : Mat → Nat → Nat → Bool × Nat
  | .mk op name value vals kids, n, deep => if 200 < n + 1 ∨ 11 < deep ∨ 300 < name.size ∨ 5000 < value.size ∨ 40 < vals.length then (false, n + 1)
    else if vals.all (fun v => decide (v.size ≤ 300)) = true then tinysM kids (n + 1) (deep + 1) else (false, n + 1)
def tinysM : List Mat → Nat → Nat → Bool × Nat
  | [], n, _ => (true, n)
  | m :: ms, n, deep => if (tinyM m n deep).1 = true then tinysM ms (tinyM m n deep).2 deep else (false, (tinyM m n deep).2)
end
/-- Small, and so deep at most. -/
def NiceM : Nat → Mat → Prop
  | 0, _ => False
  | d + 1, .mk op name value vals kids => name.size ≤ 300 ∧ value.size ≤ 5000 ∧ vals.length ≤ 40 ∧ (∀ v ∈ vals, v.size ≤ 300) ∧ kids.length ≤ 200 ∧ ∀ k ∈ kids, NiceM d k
mutual
theorem tinyM_spec : ∀ (m : Mat) (n deep : Nat), n < (tinyM m n deep).2 ∧ ((tinyM m n deep).1 = true → (tinyM m n deep).2 ≤ 200 ∧ NiceM (12 - deep) m)
  | .mk op name value vals kids, n, deep => by
    unfold tinyM
    split
    · simp
    rename_i h
    split
    · rename_i h2
      obtain ⟨t1, t2⟩ := tinysM_spec kids (n + 1) (deep + 1)
      refine ⟨by omega, fun hh => ?_⟩
      obtain ⟨u1, u3, u2⟩ := t2 hh (by omega)
      refine ⟨u1, ?_⟩
      have : 12 - deep = (12 - (deep + 1)) + 1 := by omega
      rw [this]
      unfold NiceM
      exact ⟨by omega, by omega, by omega, by simpa using h2, by omega, u2⟩
    · simp
theorem tinysM_spec : ∀ (ms : List Mat) (n deep : Nat), n ≤ (tinysM ms n deep).2 ∧ ((tinysM ms n deep).1 = true → n ≤ 200 → (tinysM ms n deep).2 ≤ 200 ∧ n + ms.length ≤ (tinysM ms n deep).2 ∧ ∀ k ∈ ms, NiceM (12 - deep) k)
  | [], n, deep => by unfold tinysM; simp
  | m :: ms, n, deep => by
    unfold tinysM
    obtain ⟨t1, t2⟩ := tinyM_spec m n deep
    split
    · rename_i h
      obtain ⟨u1, u2⟩ := t2 h
      obtain ⟨w1, w2⟩ := tinysM_spec ms (tinyM m n deep).2 deep
      refine ⟨by omega, fun hh hn => ?_⟩
      obtain ⟨x1, x3, x2⟩ := w2 hh u1
      refine ⟨x1, by simp only [List.length_cons]; omega, fun k hk => ?_⟩
      rcases List.mem_cons.1 hk with rfl | hk
      · exact u2
      · exact x2 k hk
    · simp; omega
end
end Go.Proofs.YtadgciaclhjjkaaGreat
