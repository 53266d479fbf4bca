/- A region of any order: each result by itself, and what holds of the heap by what is done. Plain theorems, over any program. -/
import Derived.Test.YtflbapmjdfnhhaaGreatC11
import Derived.Test.YtflbapmjdfnhhaaGreatC20
set_option linter.unusedVariables false
set_option linter.unusedSimpArgs false
namespace Go.Proofs.YtflbapmjdfnhhaaGreat
theorem drawG {P : Program} {W0 : World} {ops : List Oper} {Q : IPost} {Kp : PPost} {E0 : Env} {st0 : Heap} (l : List Nat) (V : Nat → Value → Prop) (G : List Nat → Heap → Prop) (htopo : topoOK ops [] l = true) (hdst : dstOK ops = true) (h0 : G [] st0)
    (hstep : ∀ (i : Nat) (o : Oper), ops[i]? = some o → ∀ (done : List Nat) (E : Env) (st : Heap), i ∉ done → G done st → (∀ e ∈ o.after.toList, bnds e = true → e.on ∈ done) →
      (∀ (j : Nat) (oj : Oper), j ∈ done → ops[j]? = some oj → ∀ e ∈ oj.after.toList, bnds e = true → e.on ∈ done) →
      (∀ e ∈ o.after.toList, bnds e = true → ∀ (oj : Oper) (dj : Nat), ops[e.on]? = some oj → oj.dst = some dj → V e.on (E dj)) →
      (∀ t, (∀ (j : Nat) (oj : Oper), ops[j]? = some oj → oj.dst = some t → ∃ e ∈ oj.after.toList, bnds e = true ∧ e.on = i) → E t = E0 t) →
      (bif wantedE ops.toArray o E then opX P W0 o E (fun v st' => V i v ∧ G (i :: done) st') Kp st else V i undef ∧ G (i :: done) st))
    (hend : ∀ (done : List Nat) (E : Env) (st : Heap), (∀ i, i < ops.length → i ∈ done) → G done st → (∀ (i : Nat) (o : Oper) (d : Nat), ops[i]? = some o → o.dst = some d → V i (E d)) → (∀ t, (∀ (j : Nat) (oj : Oper), ops[j]? = some oj → oj.dst ≠ some t) → E t = E0 t) → Q .normal E st)
    (hc : ∀ (j : Nat) (oj : Oper), ops[j]? = some oj → clsR P oj.op ≤ 3) : DrawI P W0 ops Q Kp E0 st0 := by
  refine drawJ l (fun done E st => G done st ∧ (∀ (i : Nat) (o : Oper) (d : Nat), ops[i]? = some o → i ∈ done → o.dst = some d → V i (E d)) ∧ (∀ t, (∀ (j : Nat) (oj : Oper), ops[j]? = some oj → oj.dst = some t → j ∉ done) → E t = E0 t)) htopo ⟨h0, by simp, fun _ _ => rfl⟩ ?_ ?_ hc
  · intro i o ho done E st hnot hdeps hcl hJ
    obtain ⟨hG, hV, hE⟩ := hJ
    have hnext : ∀ (v : Value) (st' : Heap), V i v → G (i :: done) st' → G (i :: done) st' ∧ (∀ (k : Nat) (ok : Oper) (d : Nat), ops[k]? = some ok → k ∈ i :: done → ok.dst = some d → V k (E.put o.dst v d)) ∧ (∀ t, (∀ (j : Nat) (oj : Oper), ops[j]? = some oj → oj.dst = some t → j ∉ i :: done) → E.put o.dst v t = E0 t) := by
      intro v st' hv hg
      refine ⟨hg, ?_, ?_⟩
      · intro k ok d hok hkd hd
        rcases List.mem_cons.1 hkd with rfl | hkd
        · rw [ho] at hok; injection hok with hok; subst hok
          rw [hd]
          show V k ((E.set d v) d)
          simp [Env.set]
          exact hv
        · have h1 : E.put o.dst v d = E d := by
            cases hod : o.dst with
            | none => rfl
            | some d' =>
              show E.set d' v d = E d
              unfold Env.set
              rw [if_neg]
              rintro rfl
              exact hnot ((dstOK_spec hdst ho hok hod hd) ▸ hkd)
          rw [h1]
          exact hV k ok d hok hkd hd
      · intro t ht
        have h1 : E.put o.dst v t = E t := by
          cases hod : o.dst with
          | none => rfl
          | some d' =>
            show E.set d' v t = E t
            unfold Env.set
            rw [if_neg]
            rintro rfl
            exact ht i o ho hod (by simp)
        rw [h1]
        exact hE t fun j oj hoj hd hm => ht j oj hoj hd (by simp [hm])
    have hs := hstep i o ho done E st hnot hG hdeps hcl (fun e he hb oj dj hoj hdj => hV e.on oj dj hoj (hdeps e he hb) hdj) (fun t ht => hE t fun j oj hoj hd hm => by
      obtain ⟨e, he, hb, hon⟩ := ht j oj hoj hd
      have := hcl j oj hm hoj e he hb
      rw [hon] at this
      exact hnot this)
    cases hw : wantedE ops.toArray o E with
    | true =>
      rw [hw] at hs
      simp only [cond_true] at hs ⊢
      exact opX_mono (hc i o ho) (fun v st' _ hk => hnext v st' hk.1 hk.2) (fun _ _ => id) hs
    | false =>
      rw [hw] at hs
      simp only [cond_false] at hs ⊢
      exact hnext undef st hs.1 hs.2
  · intro done E st hall hJ
    obtain ⟨hG, hV, hE⟩ := hJ
    exact hend done E st hall hG (fun i o d ho hd => hV i o d ho (hall i (List.getElem?_eq_some_iff.1 ho).1) hd) (fun t ht => hE t fun j oj ho hd => absurd hd (ht j oj ho))
end Go.Proofs.YtflbapmjdfnhhaaGreat
set_option linter.unusedVariables false
set_option linter.unusedSimpArgs false
namespace Go.Proofs.YtflbapmjdfnhhaaGreat
end Go.Proofs.YtflbapmjdfnhhaaGreat
set_option linter.unusedVariables false
set_option linter.unusedSimpArgs false
set_option maxRecDepth 100000
set_option maxHeartbeats 8000000
namespace Go.Proofs.YtflbapmjdfnhhaaGreat
open Go.RowKit (Below)
mutual
/-- A matcher of all has no kids, one of none has one. -/
def EdgeM : Mat → Prop
  | .mk op name value vals kids => (op = 0 → kids.length = 0) ∧ (op = 7 → kids.length ≤ 1) ∧ EdgesM kids
def EdgesM : List Mat → Prop
  | [] => True
  | k :: ks => EdgeM k ∧ EdgesM ks
end
theorem EdgesM.get : ∀ {ms : List Mat} {i : Nat} {m : Mat}, EdgesM ms → ms[i]? = some m → EdgeM m
  | [], i, m, h, hi => by simp at hi
  | x :: ms, 0, m, h, hi => by
    unfold EdgesM at h
    injection hi with hi; subst hi; exact h.1
  | x :: ms, i + 1, m, h, hi => by
    unfold EdgesM at h
    exact EdgesM.get h.2 (by simpa using hi)
section
variable {W0 : World} {st : Heap}
end
end Go.Proofs.YtflbapmjdfnhhaaGreat
