/- A region of any order whose last operations wait for all that stand ahead of them: the first ones by themselves (each result), then the last ones, one by one. Plain definitions and theorems, over any program. -/
import Derived.Test.YtflbapmjdfnhhaaGreatC11
import Derived.Test.YtflbapmjdfnhhaaGreatC14
set_option linter.unusedVariables false
set_option linter.unusedSimpArgs false
namespace Go.Proofs.YtflbapmjdfnhhaaGreat
open Go.RowKit (Below)
/-- What an operation waits for, at once or through others. -/
def reach (ops : List Oper) : Nat → List Nat → List Nat
  | 0, l => l
  | k + 1, l => reach ops k (l ++ (l.flatMap fun i => match ops[i]? with | some o => (o.after.toList.filter bnds).map (·.on) | none => []).filter fun j => !l.contains j)
def after1 (ops : List Oper) (i : Nat) : List Nat := match ops[i]? with | some o => (o.after.toList.filter bnds).map (·.on) | none => []
/-- From n on each operation waits for all that stand ahead. -/
def tailOK (ops : List Oper) (n : Nat) : Bool := (List.range ops.length).all fun t => decide (t < n) || (List.range t).all fun j => (reach ops ops.length (after1 ops t)).contains j
theorem reach_done {ops : List Oper} {done : List Nat} (hcl : ∀ (j : Nat) (oj : Oper), j ∈ done → ops[j]? = some oj → ∀ e ∈ oj.after.toList, bnds e = true → e.on ∈ done) : ∀ (k : Nat) (l : List Nat), (∀ i ∈ l, i ∈ done) → ∀ i ∈ reach ops k l, i ∈ done
  | 0, l, h, i, hi => h i hi
  | k + 1, l, h, i, hi => by
    refine reach_done hcl k _ ?_ i hi
    intro j hj
    rcases List.mem_append.1 hj with hj | hj
    · exact h j hj
    · obtain ⟨x, hx, hjx⟩ := List.mem_flatMap.1 (List.mem_filter.1 hj).1
      split at hjx
      · rename_i o ho
        obtain ⟨e, he, rfl⟩ := List.mem_map.1 hjx
        obtain ⟨he1, he2⟩ := List.mem_filter.1 he
        exact hcl x o (h x hx) ho e he1 he2
      · cases hjx
theorem tail_all {ops : List Oper} {n t : Nat} (ht : tailOK ops n = true) (hn : n ≤ t) (hl : t < ops.length) {done : List Nat} (hcl : ∀ (j : Nat) (oj : Oper), j ∈ done → ops[j]? = some oj → ∀ e ∈ oj.after.toList, bnds e = true → e.on ∈ done) (hd : ∀ i ∈ after1 ops t, i ∈ done) : ∀ j, j < t → j ∈ done := by
  intro j hj
  have h1 := List.all_eq_true.1 ht t (List.mem_range.2 hl)
  simp only [Bool.or_eq_true, decide_eq_true_eq] at h1
  rcases h1 with h1 | h1
  · omega
  · have h2 := List.all_eq_true.1 h1 j (List.mem_range.2 hj)
    exact reach_done hcl _ _ hd j (by simpa using h2)
theorem after1_spec {ops : List Oper} {t : Nat} {o : Oper} (ho : ops[t]? = some o) {done : List Nat} (h : ∀ e ∈ o.after.toList, bnds e = true → e.on ∈ done) : ∀ i ∈ after1 ops t, i ∈ done := by
  intro i hi
  unfold after1 at hi
  rw [ho] at hi
  obtain ⟨e, he, rfl⟩ := List.mem_map.1 hi
  obtain ⟨h1, h2⟩ := List.mem_filter.1 he
  exact h e h1 h2
theorem oldT_spec {ops : List Oper} {t i n : Nat} (h : oldB (ops.take n) t i = true) : ∀ (j : Nat) (oj : Oper), j < n → ops[j]? = some oj → oj.dst = some t → ∃ e ∈ oj.after.toList, bnds e = true ∧ e.on = i :=
  fun j oj hj ho hd => oldB_spec h j oj (by rw [List.getElem?_take, if_pos hj]; exact ho) hd
theorem noT_spec {ops : List Oper} {t n : Nat} (h : ((ops.take n).all fun o => o.dst != some t) = true) : ∀ (j : Nat) (oj : Oper), j < n → ops[j]? = some oj → oj.dst ≠ some t :=
  fun j oj hj ho => noB_spec h j oj (by rw [List.getElem?_take, if_pos hj]; exact ho)
theorem drawT {P : Program} {W0 : World} {ops : List Oper} {Q : IPost} {Kp : PPost} {E0 : Env} {st0 : Heap} (n : Nat) (l : List Nat) (V : Nat → Value → Heap → Prop) (htopo : topoOK ops [] l = true) (hdst : dstOK (ops.take n) = true) (htail : tailOK ops n = true) (hlen : n ≤ ops.length)
    (hst : ∀ i v st st', New st st' → V i v st → V i v st')
    (hstep : ∀ (i : Nat) (o : Oper), i < n → ops[i]? = some o → ∀ (E : Env) (st : Heap), New st0 st →
      (∀ e ∈ o.after.toList, bnds e = true → ∀ (oj : Oper) (dj : Nat), ops[e.on]? = some oj → oj.dst = some dj → V e.on (E dj) st) →
      (∀ t, (∀ (j : Nat) (oj : Oper), j < n → ops[j]? = some oj → oj.dst = some t → ∃ e ∈ oj.after.toList, bnds e = true ∧ e.on = i) → E t = E0 t) →
      (bif wantedE ops.toArray o E then opX P W0 o E (fun v st' => New st st' ∧ V i v st') Kp st else V i undef st))
    (hend : ∀ (E : Env) (st : Heap), New st0 st → (∀ (i : Nat) (o : Oper) (d : Nat), i < n → ops[i]? = some o → o.dst = some d → V i (E d) st) → (∀ t, (∀ (j : Nat) (oj : Oper), j < n → ops[j]? = some oj → oj.dst ≠ some t) → E t = E0 t) → IL P W0 ops.toArray Q Kp (ops.drop n) E st)
    (hc : ∀ (j : Nat) (oj : Oper), ops[j]? = some oj → clsR P oj.op ≤ 3) : DrawI P W0 ops Q Kp E0 st0 := by
  let Vi (done : List Nat) (E : Env) (st : Heap) : Prop := New st0 st ∧ (∀ (i : Nat) (o : Oper) (d : Nat), i < n → ops[i]? = some o → i ∈ done → o.dst = some d → V i (E d) st) ∧ (∀ t, (∀ (j : Nat) (oj : Oper), j < n → ops[j]? = some oj → oj.dst = some t → j ∉ done) → E t = E0 t)
  refine drawJ l (fun done E st => ((∀ i ∈ done, i < n) ∧ Vi done E st) ∨ ∃ t, n ≤ t ∧ (∀ i, i ∈ done ↔ i ≤ t) ∧ IL P W0 ops.toArray Q Kp (ops.drop (t + 1)) E st) htopo (.inl ⟨by simp, New.refl _, by simp, fun _ _ => rfl⟩) ?_ ?_ hc
  · intro i o ho done E st hnot hdeps hcl hJ
    have hil := (List.getElem?_eq_some_iff.1 ho).1
    -- a last operation
    have last : n ≤ i → (∀ j, j ∈ done ↔ j < i) → IL P W0 ops.toArray Q Kp (ops.drop i) E st → (bif wantedE ops.toArray o E then opX P W0 o E (fun v st' => ((∀ j ∈ i :: done, j < n) ∧ Vi (i :: done) (E.put o.dst v) st') ∨ ∃ t, n ≤ t ∧ (∀ j, j ∈ i :: done ↔ j ≤ t) ∧ IL P W0 ops.toArray Q Kp (ops.drop (t + 1)) (E.put o.dst v) st') Kp st
        else ((∀ j ∈ i :: done, j < n) ∧ Vi (i :: done) (E.put o.dst undef) st) ∨ ∃ t, n ≤ t ∧ (∀ j, j ∈ i :: done ↔ j ≤ t) ∧ IL P W0 ops.toArray Q Kp (ops.drop (t + 1)) (E.put o.dst undef) st) := by
      intro hni hdn hIL
      have hd : ops.drop i = o :: ops.drop (i + 1) := by
        rw [List.drop_eq_getElem_cons hil]
        congr 1
        rw [List.getElem?_eq_getElem hil] at ho
        exact Option.some.inj ho
      rw [hd] at hIL
      unfold IL at hIL
      have hmem : ∀ j, j ∈ i :: done ↔ j ≤ i := fun j => by
        rw [List.mem_cons, hdn j]
        omega
      cases hw : wantedE ops.toArray o E with
      | true =>
        rw [hw] at hIL
        simp only [cond_true] at hIL ⊢
        exact opX_mono (hc i o ho) (fun v st' _ hk => .inr ⟨i, hni, hmem, hk⟩) (fun _ _ => id) hIL
      | false =>
        rw [hw] at hIL
        simp only [cond_false] at hIL ⊢
        exact .inr ⟨i, hni, hmem, hIL⟩
    rcases hJ with ⟨hdn, hN, hV, hE⟩ | ⟨t, hnt, hdn, hIL⟩
    · rcases Nat.lt_or_ge i n with hin | hni
      · have hnext : ∀ (v : Value) (st' : Heap), New st st' → V i v st' → ((∀ j ∈ i :: done, j < n) ∧ Vi (i :: done) (E.put o.dst v) st') := by
          intro v st' hk hv
          refine ⟨fun j hj => ?_, hN.trans hk, ?_, ?_⟩
          · rcases List.mem_cons.1 hj with rfl | hj
            · exact hin
            · exact hdn j hj
          · intro k ok d hkn hok hkd hd
            rcases List.mem_cons.1 hkd with rfl | hkd
            · rw [ho] at hok; injection hok with hok; subst hok
              rw [hd]
              show V k ((E.set d v) d) st'
              simp [Env.set]
              exact hv
            · have h1 : E.put o.dst v d = E d := by
                cases hod : o.dst with
                | none => rfl
                | some d' =>
                  show E.set d' v d = E d
                  unfold Env.set
                  rw [if_neg]
                  rintro rfl
                  have e1 : (ops.take n)[i]? = some o := by rw [List.getElem?_take, if_pos hin]; exact ho
                  have e2 : (ops.take n)[k]? = some ok := by rw [List.getElem?_take, if_pos hkn]; exact hok
                  exact hnot ((dstOK_spec hdst e1 e2 hod hd) ▸ hkd)
              rw [h1]
              exact hst _ _ _ _ hk (hV k ok d hkn hok hkd hd)
          · intro t ht
            have h1 : E.put o.dst v t = E t := by
              cases hod : o.dst with
              | none => rfl
              | some d' =>
                show E.set d' v t = E t
                unfold Env.set
                rw [if_neg]
                rintro rfl
                exact ht i o hin ho hod (by simp)
            rw [h1]
            exact hE t fun j oj hjn hoj hd hm => ht j oj hjn hoj hd (by simp [hm])
        have hs := hstep i o hin ho E st hN (fun e he hb oj dj hoj hdj => hV e.on oj dj (hdn _ (hdeps e he hb)) hoj (hdeps e he hb) hdj) (fun t ht => hE t fun j oj hjn hoj hd hm => by
          obtain ⟨e, he, hb, hon⟩ := ht j oj hjn hoj hd
          have := hcl j oj hm hoj e he hb
          rw [hon] at this
          exact hnot this)
        cases hw : wantedE ops.toArray o E with
        | true =>
          rw [hw] at hs
          simp only [cond_true] at hs ⊢
          exact opX_mono (hc i o ho) (fun v st' _ hk => .inl (hnext v st' hk.1 hk.2)) (fun _ _ => id) hs
        | false =>
          rw [hw] at hs
          simp only [cond_false] at hs ⊢
          exact .inl (hnext undef st (New.refl _) hs)
      · have hall := tail_all htail hni hil hcl (after1_spec ho hdeps)
        have hin : i = n := by
          rcases Nat.lt_or_ge n i with h | h
          · have := hdn n (hall n h); omega
          · omega
        subst hin
        refine last (Nat.le_refl _) (fun j => ⟨fun h => hdn j h, fun h => hall j h⟩) (hend E st hN (fun k ok d hkn hok hd => hV k ok d hkn hok (hall k hkn) hd) (fun t ht => hE t fun j oj hjn hoj hd _ => ht j oj hjn hoj hd))
    · have hit : t < i := by
        rcases Nat.lt_or_ge t i with h | h
        · exact h
        · exact absurd ((hdn i).2 h) hnot
      have hall := tail_all htail (by omega) hil hcl (after1_spec ho hdeps)
      have : i = t + 1 := by
        rcases Nat.lt_or_ge (t + 1) i with h | h
        · have := (hdn (t + 1)).1 (hall (t + 1) h); omega
        · omega
      subst this
      exact last (by omega) (fun j => by rw [hdn j]; omega) hIL
  · intro done E st hall hJ
    rcases hJ with ⟨hdn, hN, hV, hE⟩ | ⟨t, hnt, hdn, hIL⟩
    · have hnl : n = ops.length := by
        rcases Nat.lt_or_ge n ops.length with h | h
        · have := hdn n (hall n h); omega
        · omega
      have := hend E st hN (fun k ok d hkn hok hd => hV k ok d hkn hok (hall k (List.getElem?_eq_some_iff.1 hok).1) hd) (fun t ht => hE t fun j oj hjn hoj hd _ => ht j oj hjn hoj hd)
      rw [hnl, List.drop_length] at this
      exact this
    · have : ops.drop (t + 1) = [] := by
        apply List.drop_eq_nil_of_le
        rcases Nat.lt_or_ge (t + 1) ops.length with h | h
        · have := (hdn (t + 1)).1 (hall (t + 1) h); omega
        · exact h
      rw [this] at hIL
      exact hIL
end Go.Proofs.YtflbapmjdfnhhaaGreat
