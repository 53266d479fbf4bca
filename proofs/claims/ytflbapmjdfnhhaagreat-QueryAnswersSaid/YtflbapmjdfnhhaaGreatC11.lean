/- A region of any order whose operations only make new rows: each result by itself. Plain definitions and theorems, over any program. -/
import Derived.Test.YtflbapmjdfnhhaaGreatC09
import Derived.Test.YtflbapmjdfnhhaaGreatCTab
set_option linter.unusedVariables false
set_option linter.unusedSimpArgs false
namespace Go.Proofs.YtflbapmjdfnhhaaGreat
open Go.RowKit (Below)

def bnds (e : Edge) : Bool := Region.binds .any e
/-- One order in which all operations may come; no slot is written twice. -/
def topoOK (ops : List Oper) : List Nat → List Nat → Bool
  | seen, [] => (List.range ops.length).all fun i => seen.contains i
  | seen, i :: r => (match ops[i]? with | some o => o.after.toList.all (fun e => !bnds e || seen.contains e.on) | none => false) && topoOK ops (i :: seen) r
def dstOK : List Oper → Bool
  | [] => true
  | o :: r => (match o.dst with | some d => r.all (fun o' => o'.dst != some d) | none => true) && dstOK r
theorem dstOK_spec : ∀ {ops : List Oper}, dstOK ops = true → ∀ {i j : Nat} {o o' : Oper} {d : Nat}, ops[i]? = some o → ops[j]? = some o' → o.dst = some d → o'.dst = some d → i = j
  | [], _, i, j, o, o', d, hi, _, _, _ => by simp at hi
  | x :: r, h, i, j, o, o', d, hi, hj, ho, ho' => by
    unfold dstOK at h
    rw [Bool.and_eq_true] at h
    cases i with
    | zero =>
      simp at hi
      subst hi
      cases j with
      | zero => rfl
      | succ j =>
        simp at hj
        rw [ho] at h
        have := List.all_eq_true.1 h.1 o' (List.mem_of_getElem? hj)
        simp [ho'] at this
    | succ i =>
      simp at hi
      cases j with
      | zero =>
        simp at hj
        subst hj
        rw [ho'] at h
        have := List.all_eq_true.1 h.1 o (List.mem_of_getElem? hi)
        simp [ho] at this
      | succ j =>
        simp at hj
        rw [dstOK_spec h.2 hi hj ho ho']
/-- The most general: an assertion on what is done so far. -/
theorem drawJ {P : Program} {W0 : World} {ops : List Oper} {Q : IPost} {Kp : PPost} {E0 : Env} {st0 : Heap} (l : List Nat) (J : List Nat → Env → Heap → Prop) (htopo : topoOK ops [] l = true) (h0 : J [] E0 st0)
    (hstep : ∀ (i : Nat) (o : Oper), ops[i]? = some o → ∀ (done : List Nat) (E : Env) (st : Heap), i ∉ done → (∀ e ∈ o.after.toList, bnds e = true → e.on ∈ done) →
      (∀ (j : Nat) (oj : Oper), j ∈ done → ops[j]? = some oj → ∀ e ∈ oj.after.toList, bnds e = true → e.on ∈ done) → J done E st →
      (bif wantedE ops.toArray o E then opX P W0 o E (fun v st' => J (i :: done) (E.put o.dst v) st') Kp st else J (i :: done) (E.put o.dst undef) st))
    (hend : ∀ (done : List Nat) (E : Env) (st : Heap), (∀ i, i < ops.length → i ∈ done) → J done E st → Q .normal E st)
    (hc : ∀ (j : Nat) (oj : Oper), ops[j]? = some oj → clsR P oj.op ≤ 3) : DrawI P W0 ops Q Kp E0 st0 := by
  -- where one stands
  let Inv (listed : Array Bool) (done : List Nat) (E : Env) (st : Heap) : Prop := listed.size = ops.length ∧ done.Nodup ∧ (∀ i, i ∈ done ↔ i < ops.length ∧ listed.getD i false = true) ∧ J done E st ∧ (∀ (j : Nat) (oj : Oper), j ∈ done → ops[j]? = some oj → ∀ e ∈ oj.after.toList, bnds e = true → e.on ∈ done)
  have hready : ∀ (listed : Array Bool) (done : List Nat) (E : Env) (st : Heap), Inv listed done E st → ∀ i, i ∈ Region.ready .any ops.toArray listed ↔ (i < ops.length ∧ i ∉ done ∧ ∃ o, ops[i]? = some o ∧ ∀ e ∈ o.after.toList, bnds e = true → listed.getD e.on false = true) := by
    intro listed done E st ⟨hsz, hnd, hdn, _⟩ i
    unfold Region.ready
    simp only [List.mem_filter, List.mem_range, List.size_toArray, Bool.and_eq_true, Bool.not_eq_true', List.getElem?_toArray]
    constructor
    · rintro ⟨hi, h1, h2⟩
      refine ⟨hi, ?_, ?_⟩
      · intro hm
        have := (hdn i).1 hm
        rw [Array.getD_eq_getD_getElem?] at this h1
        have hz : listed[i]? = some listed[i] := Array.getElem?_eq_getElem (by omega)
        rw [hz] at this h1
        simp at this h1
        rw [this.2] at h1
        cases h1
      · cases ho : ops[i]? with
        | none => rw [ho] at h2; cases h2
        | some o =>
          rw [ho] at h2
          simp only [Option.map_some, Option.getD_some, Array.all_eq_true_iff_forall_mem, Bool.or_eq_true, Bool.not_eq_true'] at h2
          refine ⟨o, rfl, fun e he hb => ?_⟩
          rcases h2 e (by simpa using he) with h | h
          · unfold bnds at hb; rw [hb] at h; cases h
          · exact h
    · rintro ⟨hi, hnot, o, ho, hall⟩
      refine ⟨hi, ?_, ?_⟩
      · rw [Array.getD_eq_getD_getElem?]
        have hz : listed[i]? = some listed[i] := Array.getElem?_eq_getElem (by omega)
        rw [hz]
        simp
        cases hb : listed[i] with
        | false => rfl
        | true =>
          exfalso
          refine hnot ((hdn i).2 ⟨hi, ?_⟩)
          rw [Array.getD_eq_getD_getElem?, hz]
          simpa using hb
      · rw [ho]
        simp only [Option.map_some, Option.getD_some, Array.all_eq_true_iff_forall_mem, Bool.or_eq_true, Bool.not_eq_true']
        intro e he
        cases hb : bnds e with
        | false => exact .inl hb
        | true => exact .inr (hall e (by simpa using he) hb)
  have hall : ∀ (listed : Array Bool) (done : List Nat) (E : Env) (st : Heap), Inv listed done E st → Region.ready .any ops.toArray listed = [] → ∀ i, i < ops.length → i ∈ done := by
    intro listed done E st hI hr
    have hI' := hI
    obtain ⟨hsz, hnd, hdn, _⟩ := hI'
    have key : ∀ (r seen : List Nat), topoOK ops seen r = true → (∀ i ∈ seen, i ∈ done) → ∀ i, i < ops.length → i ∈ done := by
      intro r
      induction r with
      | nil =>
        intro seen h hs i hi
        unfold topoOK at h
        have := List.all_eq_true.1 h i (by simpa using hi)
        exact hs i (by simpa using this)
      | cons j r ih =>
        intro seen h hs
        unfold topoOK at h
        rw [Bool.and_eq_true] at h
        refine ih (j :: seen) h.2 ?_
        intro i hi
        rcases List.mem_cons.1 hi with rfl | hi
        · rcases Classical.em (i ∈ done) with hd | hd
          · exact hd
          · exfalso
            cases ho : ops[i]? with
            | none => rw [ho] at h; cases h.1
            | some o =>
              rw [ho] at h
              have hlt := (List.getElem?_eq_some_iff.1 ho).1
              have : i ∈ Region.ready .any ops.toArray listed := (hready listed done E st hI i).2 ⟨hlt, hd, o, ho, fun e he hb => by
                have := List.all_eq_true.1 h.1 e he
                simp [hb] at this
                exact ((hdn e.on).1 (hs _ this)).2⟩
              rw [hr] at this
              cases this
        · exact hs i hi
    exact key l [] htopo (by simp)
  have main : ∀ (fuel : Nat) (listed : Array Bool) (done : List Nat) (E : Env) (st : Heap), Inv listed done E st → done.length + fuel = ops.length → IAny P W0 ops.toArray Q Kp fuel listed E st := by
    intro fuel
    induction fuel with
    | zero =>
      intro listed done E st hI hf
      have hI' := hI
      obtain ⟨hsz, hnd, hdn, hk, hcl⟩ := hI'
      have hall' : ∀ i, i < ops.length → i ∈ done := by
        intro i hi
        rcases Classical.em (i ∈ done) with hd | hd
        · exact hd
        · exfalso
          have := nodup_len (l := i :: done) (l' := List.range ops.length) (List.nodup_cons.2 ⟨hd, hnd⟩) (by
            intro x hx
            rcases List.mem_cons.1 hx with rfl | hx
            · simpa using hi
            · simpa using ((hdn x).1 hx).1)
          simp at this
          omega
      refine ⟨?_, ?_⟩
      · rw [List.eq_nil_iff_forall_not_mem]
        intro i hi
        obtain ⟨h1, h2, _⟩ := (hready listed done E st hI i).1 hi
        exact h2 (hall' i h1)
      · exact hend done E st hall' hk
    | succ fuel ih =>
      intro listed done E st hI hf
      have hI' := hI
      obtain ⟨hsz, hnd, hdn, hk, hcl⟩ := hI'
      refine ⟨?_, ?_⟩
      · intro hr
        have hall' := hall listed done E st hI hr
        exact hend done E st hall' hk
      · intro i hi
        obtain ⟨hlt, hnot, o, ho, hdep⟩ := (hready listed done E st hI i).1 hi
        have hnext : ∀ (v : Value) (st' : Heap), J (i :: done) (E.put o.dst v) st' → IAny P W0 ops.toArray Q Kp fuel (listed.setIfInBounds i true) (E.put o.dst v) st' := by
          intro v st' hn
          refine ih _ (i :: done) _ _ ⟨by simpa using hsz, List.nodup_cons.2 ⟨hnot, hnd⟩, ?_, hn, ?_⟩ (by simp only [List.length_cons]; omega)
          · intro k
            rw [List.mem_cons, hdn k, Array.getD_eq_getD_getElem?, Array.getD_eq_getD_getElem?, Array.getElem?_setIfInBounds]
            by_cases hki : i = k
            · subst hki; simp [hlt, hsz]
            · rw [if_neg hki]
              constructor
              · rintro (h | h)
                · exact absurd h.symm hki
                · exact h
              · exact fun h => .inr h
          · intro j oj hj hoj e he hb
            rcases List.mem_cons.1 hj with rfl | hj
            · rw [ho] at hoj; injection hoj with hoj; subst hoj
              refine List.mem_cons_of_mem _ ((hdn e.on).2 ⟨?_, hdep e he hb⟩)
              rcases Nat.lt_or_ge e.on ops.length with h | h
              · exact h
              · have := hdep e he hb
                rw [Array.getD_eq_getD_getElem?, Array.getElem?_eq_none (by omega)] at this
                cases this
            · exact List.mem_cons_of_mem _ (hcl j oj hj hoj e he hb)
        have hdone : ∀ e ∈ o.after.toList, bnds e = true → e.on ∈ done := by
          intro e he hb
          refine (hdn e.on).2 ⟨?_, hdep e he hb⟩
          rcases Nat.lt_or_ge e.on ops.length with h | h
          · exact h
          · have := hdep e he hb
            rw [Array.getD_eq_getD_getElem?, Array.getElem?_eq_none (by omega)] at this
            cases this
        have hs := hstep i o ho done E st hnot hdone hcl hk
        unfold IOp
        rw [List.getElem?_toArray, ho]
        simp only
        cases hw : wantedE ops.toArray o E with
        | true =>
          rw [hw] at hs
          simp only [cond_true] at hs ⊢
          exact opX_mono (hc i o ho) (fun v st' _ hk => hnext v st' hk) (fun _ _ => id) hs
        | false =>
          rw [hw] at hs
          simp only [cond_false] at hs ⊢
          exact hnext undef st hs
  refine main ops.toArray.size _ [] E0 st0 ⟨by simp, List.nodup_nil, ?_, h0, by simp⟩ (by simp)
  intro i
  simp [Array.getD_eq_getD_getElem?, Array.getElem?_replicate]
  intro hi
  simp [hi]
theorem drawR {P : Program} {W0 : World} {ops : List Oper} {Q : IPost} {Kp : PPost} {E0 : Env} {st0 : Heap} (R : Heap → Heap → Prop) (hrefl : ∀ s, R s s) (htrans : ∀ a b c, R a b → R b c → R a c) (l : List Nat) (V : Nat → Value → Heap → Prop) (htopo : topoOK ops [] l = true) (hdst : dstOK ops = true)
    (hst : ∀ i v st st', R st st' → V i v st → V i v st')
    (hstep : ∀ (i : Nat) (o : Oper), ops[i]? = some o → ∀ (E : Env) (st : Heap), R st0 st →
      (∀ e ∈ o.after.toList, bnds e = true → ∀ (oj : Oper) (dj : Nat), ops[e.on]? = some oj → oj.dst = some dj → V e.on (E dj) st) →
      (∀ t, (∀ (j : Nat) (oj : Oper), ops[j]? = some oj → oj.dst = some t → ∃ e ∈ oj.after.toList, bnds e = true ∧ e.on = i) → E t = E0 t) →
      (bif wantedE ops.toArray o E then opX P W0 o E (fun v st' => R st st' ∧ V i v st') Kp st else V i undef st))
    (hend : ∀ (E : Env) (st : Heap), R st0 st → (∀ (i : Nat) (o : Oper) (d : Nat), ops[i]? = some o → o.dst = some d → V i (E d) st) → (∀ t, (∀ (j : Nat) (oj : Oper), ops[j]? = some oj → oj.dst ≠ some t) → E t = E0 t) → Q .normal E st)
    (hc : ∀ (j : Nat) (oj : Oper), ops[j]? = some oj → clsR P oj.op ≤ 3) : DrawI P W0 ops Q Kp E0 st0 := by
  -- where one stands
  let Inv (listed : Array Bool) (done : List Nat) (E : Env) (st : Heap) : Prop := listed.size = ops.length ∧ done.Nodup ∧ (∀ i, i ∈ done ↔ i < ops.length ∧ listed.getD i false = true) ∧ R st0 st ∧
    (∀ (i : Nat) (o : Oper) (d : Nat), ops[i]? = some o → i ∈ done → o.dst = some d → V i (E d) st) ∧ (∀ t, (∀ (j : Nat) (oj : Oper), ops[j]? = some oj → oj.dst = some t → j ∉ done) → E t = E0 t) ∧ (∀ (j : Nat) (oj : Oper), j ∈ done → ops[j]? = some oj → ∀ e ∈ oj.after.toList, bnds e = true → e.on ∈ done)
  have hready : ∀ (listed : Array Bool) (done : List Nat) (E : Env) (st : Heap), Inv listed done E st → ∀ i, i ∈ Region.ready .any ops.toArray listed ↔ (i < ops.length ∧ i ∉ done ∧ ∃ o, ops[i]? = some o ∧ ∀ e ∈ o.after.toList, bnds e = true → listed.getD e.on false = true) := by
    intro listed done E st ⟨hsz, hnd, hdn, _⟩ i
    unfold Region.ready
    simp only [List.mem_filter, List.mem_range, List.size_toArray, Bool.and_eq_true, Bool.not_eq_true', List.getElem?_toArray]
    constructor
    · rintro ⟨hi, h1, h2⟩
      refine ⟨hi, ?_, ?_⟩
      · intro hm
        have := (hdn i).1 hm
        rw [Array.getD_eq_getD_getElem?] at this h1
        have hz : listed[i]? = some listed[i] := Array.getElem?_eq_getElem (by omega)
        rw [hz] at this h1
        simp at this h1
        rw [this.2] at h1
        cases h1
      · cases ho : ops[i]? with
        | none => rw [ho] at h2; cases h2
        | some o =>
          rw [ho] at h2
          simp only [Option.map_some, Option.getD_some, Array.all_eq_true_iff_forall_mem, Bool.or_eq_true, Bool.not_eq_true'] at h2
          refine ⟨o, rfl, fun e he hb => ?_⟩
          rcases h2 e (by simpa using he) with h | h
          · unfold bnds at hb; rw [hb] at h; cases h
          · exact h
    · rintro ⟨hi, hnot, o, ho, hall⟩
      refine ⟨hi, ?_, ?_⟩
      · rw [Array.getD_eq_getD_getElem?]
        have hz : listed[i]? = some listed[i] := Array.getElem?_eq_getElem (by omega)
        rw [hz]
        simp
        cases hb : listed[i] with
        | false => rfl
        | true =>
          exfalso
          refine hnot ((hdn i).2 ⟨hi, ?_⟩)
          rw [Array.getD_eq_getD_getElem?, hz]
          simpa using hb
      · rw [ho]
        simp only [Option.map_some, Option.getD_some, Array.all_eq_true_iff_forall_mem, Bool.or_eq_true, Bool.not_eq_true']
        intro e he
        cases hb : bnds e with
        | false => exact .inl hb
        | true => exact .inr (hall e (by simpa using he) hb)
  have hall : ∀ (listed : Array Bool) (done : List Nat) (E : Env) (st : Heap), Inv listed done E st → Region.ready .any ops.toArray listed = [] → ∀ i, i < ops.length → i ∈ done := by
    intro listed done E st hI hr
    have hI' := hI
    obtain ⟨hsz, hnd, hdn, _⟩ := hI'
    have key : ∀ (r seen : List Nat), topoOK ops seen r = true → (∀ i ∈ seen, i ∈ done) → ∀ i, i < ops.length → i ∈ done := by
      intro r
      induction r with
      | nil =>
        intro seen h hs i hi
        unfold topoOK at h
        have := List.all_eq_true.1 h i (by simpa using hi)
        exact hs i (by simpa using this)
      | cons j r ih =>
        intro seen h hs
        unfold topoOK at h
        rw [Bool.and_eq_true] at h
        refine ih (j :: seen) h.2 ?_
        intro i hi
        rcases List.mem_cons.1 hi with rfl | hi
        · rcases Classical.em (i ∈ done) with hd | hd
          · exact hd
          · exfalso
            cases ho : ops[i]? with
            | none => rw [ho] at h; cases h.1
            | some o =>
              rw [ho] at h
              have hlt := (List.getElem?_eq_some_iff.1 ho).1
              have : i ∈ Region.ready .any ops.toArray listed := (hready listed done E st hI i).2 ⟨hlt, hd, o, ho, fun e he hb => by
                have := List.all_eq_true.1 h.1 e he
                simp [hb] at this
                exact ((hdn e.on).1 (hs _ this)).2⟩
              rw [hr] at this
              cases this
        · exact hs i hi
    exact key l [] htopo (by simp)
  have main : ∀ (fuel : Nat) (listed : Array Bool) (done : List Nat) (E : Env) (st : Heap), Inv listed done E st → done.length + fuel = ops.length → IAny P W0 ops.toArray Q Kp fuel listed E st := by
    intro fuel
    induction fuel with
    | zero =>
      intro listed done E st hI hf
      have hI' := hI
      obtain ⟨hsz, hnd, hdn, hk, hV, hE, hcl⟩ := hI'
      have hall' : ∀ i, i < ops.length → i ∈ done := by
        intro i hi
        rcases Classical.em (i ∈ done) with hd | hd
        · exact hd
        · exfalso
          have := nodup_len (l := i :: done) (l' := List.range ops.length) (List.nodup_cons.2 ⟨hd, hnd⟩) (by
            intro x hx
            rcases List.mem_cons.1 hx with rfl | hx
            · simpa using hi
            · simpa using ((hdn x).1 hx).1)
          simp at this
          omega
      refine ⟨?_, ?_⟩
      · rw [List.eq_nil_iff_forall_not_mem]
        intro i hi
        obtain ⟨h1, h2, _⟩ := (hready listed done E st hI i).1 hi
        exact h2 (hall' i h1)
      · exact hend E st hk (fun i o d ho hd => hV i o d ho (hall' i (List.getElem?_eq_some_iff.1 ho).1) hd) (fun t ht => hE t fun j oj ho hd => absurd hd (ht j oj ho))
    | succ fuel ih =>
      intro listed done E st hI hf
      have hI' := hI
      obtain ⟨hsz, hnd, hdn, hk, hV, hE, hcl⟩ := hI'
      refine ⟨?_, ?_⟩
      · intro hr
        have hall' := hall listed done E st hI hr
        exact hend E st hk (fun i o d ho hd => hV i o d ho (hall' i (List.getElem?_eq_some_iff.1 ho).1) hd) (fun t ht => hE t fun j oj ho hd => absurd hd (ht j oj ho))
      · intro i hi
        obtain ⟨hlt, hnot, o, ho, hdep⟩ := (hready listed done E st hI i).1 hi
        have hnext : ∀ (v : Value) (st' : Heap), R st st' → V i v st' → IAny P W0 ops.toArray Q Kp fuel (listed.setIfInBounds i true) (E.put o.dst v) st' := by
          intro v st' hn hv
          refine ih _ (i :: done) _ _ ⟨by simpa using hsz, List.nodup_cons.2 ⟨hnot, hnd⟩, ?_, htrans _ _ _ hk hn, ?_, ?_, ?_⟩ (by simp only [List.length_cons]; omega)
          · intro k
            rw [List.mem_cons, hdn k, Array.getD_eq_getD_getElem?, Array.getD_eq_getD_getElem?, Array.getElem?_setIfInBounds]
            by_cases hki : i = k
            · subst hki; simp [hlt, hsz]
            · rw [if_neg hki]
              constructor
              · rintro (h | h)
                · exact absurd h.symm hki
                · exact h
              · exact fun h => .inr h
          · intro k ok d hok hkd hd
            rcases List.mem_cons.1 hkd with rfl | hkd
            · rw [ho] at hok; injection hok with hok; subst hok
              rw [hd]
              show V k ((E.set d v) d) st'
              simp [Env.set]
              exact hv
            · have h1 : E.put o.dst v d = E d := by
                cases hod : o.dst with
                | none => rfl
                | some d' =>
                  show E.set d' v d = E d
                  unfold Env.set
                  rw [if_neg]
                  rintro rfl
                  exact hnot ((dstOK_spec hdst ho hok hod hd) ▸ hkd)
              rw [h1]
              exact hst _ _ _ _ hn (hV k ok d hok hkd hd)
          · intro t ht
            have h1 : E.put o.dst v t = E t := by
              cases hod : o.dst with
              | none => rfl
              | some d' =>
                show E.set d' v t = E t
                unfold Env.set
                rw [if_neg]
                rintro rfl
                exact ht i o ho hod (by simp)
            rw [h1]
            exact hE t fun j oj hoj hd hm => ht j oj hoj hd (by simp [hm])
          · intro j oj hj hoj e he hb
            rcases List.mem_cons.1 hj with rfl | hj
            · rw [ho] at hoj; injection hoj with hoj; subst hoj
              refine List.mem_cons_of_mem _ ((hdn e.on).2 ⟨?_, hdep e he hb⟩)
              rcases Nat.lt_or_ge e.on ops.length with h | h
              · exact h
              · have := hdep e he hb
                rw [Array.getD_eq_getD_getElem?, Array.getElem?_eq_none (by omega)] at this
                cases this
            · exact List.mem_cons_of_mem _ (hcl j oj hj hoj e he hb)
        have hs := hstep i o ho E st hk (fun e he hb oj dj hoj hdj => hV e.on oj dj hoj ((hdn e.on).2 ⟨(List.getElem?_eq_some_iff.1 hoj).1, hdep e he hb⟩) hdj) (fun t ht => hE t fun j oj hoj hd hm => by
          obtain ⟨e, he, hb, hon⟩ := ht j oj hoj hd
          have := hcl j oj hm hoj e he hb
          rw [hon] at this
          exact hnot this)
        unfold IOp
        rw [List.getElem?_toArray, ho]
        simp only
        cases hw : wantedE ops.toArray o E with
        | true =>
          rw [hw] at hs
          simp only [cond_true] at hs ⊢
          exact opX_mono (hc i o ho) (fun v st' _ hk => hnext v st' hk.1 hk.2) (fun _ _ => id) hs
        | false =>
          rw [hw] at hs
          simp only [cond_false] at hs ⊢
          exact hnext undef st (hrefl _) hs
  refine main ops.toArray.size _ [] E0 st0 ⟨by simp, List.nodup_nil, ?_, hrefl _, by simp, fun t _ => rfl, by simp⟩ (by simp)
  intro i
  simp [Array.getD_eq_getD_getElem?, Array.getElem?_replicate]
  intro hi
  simp [hi]
theorem drawV {P : Program} {W0 : World} {ops : List Oper} {Q : IPost} {Kp : PPost} {E0 : Env} {st0 : Heap} (l : List Nat) (V : Nat → Value → Heap → Prop) (htopo : topoOK ops [] l = true) (hdst : dstOK ops = true)
    (hst : ∀ i v st st', New st st' → V i v st → V i v st')
    (hstep : ∀ (i : Nat) (o : Oper), ops[i]? = some o → ∀ (E : Env) (st : Heap), New st0 st →
      (∀ e ∈ o.after.toList, bnds e = true → ∀ (oj : Oper) (dj : Nat), ops[e.on]? = some oj → oj.dst = some dj → V e.on (E dj) st) →
      (∀ t, (∀ (j : Nat) (oj : Oper), ops[j]? = some oj → oj.dst = some t → ∃ e ∈ oj.after.toList, bnds e = true ∧ e.on = i) → E t = E0 t) →
      (bif wantedE ops.toArray o E then opX P W0 o E (fun v st' => New st st' ∧ V i v st') Kp st else V i undef st))
    (hend : ∀ (E : Env) (st : Heap), New st0 st → (∀ (i : Nat) (o : Oper) (d : Nat), ops[i]? = some o → o.dst = some d → V i (E d) st) → (∀ t, (∀ (j : Nat) (oj : Oper), ops[j]? = some oj → oj.dst ≠ some t) → E t = E0 t) → Q .normal E st)
    (hc : ∀ (j : Nat) (oj : Oper), ops[j]? = some oj → clsR P oj.op ≤ 3) : DrawI P W0 ops Q Kp E0 st0 :=
  drawR New New.refl (fun _ _ _ h h' => h.trans h') l V htopo hdst hst hstep hend hc
end Go.Proofs.YtflbapmjdfnhhaaGreat
set_option linter.unusedVariables false
set_option linter.unusedSimpArgs false
namespace Go.Proofs.YtflbapmjdfnhhaaGreat
open Go.RowKit (Below)
section
variable {P : Program} {W0 : World} {E : Env} {K : Value → Heap → Prop} {Kp : List PanicEntry → Heap → Prop} {st : Heap} {d : Option Nat} {ty : TypeId} {pos : String} {af : Array Edge} {g : Option (Nat × Bool)}
theorem panic_iface {x : Operand} {t : TypeId} {v : Value} (hx : E.ev x = .iface t v) (h : Kp (one (.iface t v)) st) : opX P W0 ⟨d, .panic x, ty, pos, af, g⟩ E K Kp st := by
  show opW P W0 ⟨d, .panic x, ty, pos, af, g⟩ E K Kp st
  unfold opW execOp
  simp only [hx]
  unfold Instr.panic
  simp
  exact h
/-- The same, left alone by a run. -/
def opQ (P : Program) (W0 : World) (o : Oper) (E : Env) (K : Value → Heap → Prop) (Kp : List PanicEntry → Heap → Prop) (st : Heap) : Prop := opX P W0 o E K Kp st
def panicY (y : Value) (r : Prop) (Kp : List PanicEntry → Heap → Prop) (st : Heap) : Prop := match y with
  | .iface t v => Kp (one (.iface t v)) st
  | _ => r
@[go_sem] theorem panicY_iface {r : Prop} {t : TypeId} {v : Value} : panicY (.iface t v) r Kp st = Kp (one (.iface t v)) st := (rfl)
@[go_sem ↓] theorem o_panic (x : Operand) : opX P W0 ⟨d, .panic x, ty, pos, af, g⟩ E K Kp st = panicY (E.ev x) (opQ P W0 ⟨d, .panic x, ty, pos, af, g⟩ E K Kp st) Kp st := by
  cases hx : E.ev x with
  | iface t v =>
    rw [panicY_iface]
    apply propext
    constructor
    · intro h
      have h : opW P W0 ⟨d, .panic x, ty, pos, af, g⟩ E K Kp st := h
      unfold opW execOp at h
      simp only [hx] at h
      unfold Instr.panic at h
      simp at h
      exact h
    · exact panic_iface hx
  | _ => rfl
end
end Go.Proofs.YtflbapmjdfnhhaaGreat
set_option linter.unusedVariables false
set_option linter.unusedSimpArgs false
set_option maxRecDepth 100000
set_option maxHeartbeats 400000
namespace Go.Proofs.YtflbapmjdfnhhaaGreat
open Go.RowKit (Below)
/-! ### Plain -/
def expN (b : Nat) : Nat := b / 2 ^ 52 % 2048
def fracN (b : Nat) : Nat := b % 2 ^ 52
def kindN (b : Nat) : Nat := if expN b = 2047 then (if 0 < fracN b then 4 else 3) else if 0 < expN b then 1 else if 0 < fracN b then 2 else 0
def keyN (b : Nat) : Nat := if 2 ^ 63 ≤ b then 2 ^ 64 - 1 - b else b + 2 ^ 63
def lessN (a b : Nat) : Bool := decide (kindN a ≠ 4) && (decide (kindN b ≠ 4) && decide (keyN a < keyN b))
theorem compare_self {α : Type} [Ord α] [Std.ReflOrd α] (x : α) : compare x x = .eq := Std.ReflOrd.compare_self
theorem nan_order {b : Nat} (hb : b < 2 ^ 64) : (FloatKind.f64.format.order b b != some .eq) = decide (kindN b = 4) := by
  have hs : FloatKind.f64.format = Ieee.double := rfl
  rw [hs]
  unfold Ieee.Format.order Ieee.Format.read
  have h1 : Ieee.double.signWeight = 2 ^ 63 := rfl
  have h2 : Ieee.double.binade = 2 ^ 52 := rfl
  have h3 : Ieee.double.infRung = 2047 * 2 ^ 52 := rfl
  simp only [h1, h2, h3]
  unfold kindN expN fracN
  split
  · rename_i c1
    have : ¬ (b / 2 ^ 52 % 2048 = 2047) := by omega
    rw [if_neg this]
    simp [Ieee.Datum.order, compare_self]
    split <;> (try split) <;> decide
  · split
    · rename_i c1 c2
      have : ¬ (b / 2 ^ 52 % 2048 = 2047) := by omega
      rw [if_neg this]
      simp [Ieee.Datum.order, compare_self]
      split <;> (try split) <;> decide
    · split
      · rename_i c1 c2 c3
        have e1 : b / 2 ^ 52 % 2048 = 2047 := by omega
        have e2 : ¬ 0 < b % 2 ^ 52 := by omega
        rw [if_pos e1, if_neg e2]
        simp [Ieee.Datum.order, compare_self]
      · rename_i c1 c2 c3
        have e1 : b / 2 ^ 52 % 2048 = 2047 := by omega
        have e2 : 0 < b % 2 ^ 52 := by omega
        rw [if_pos e1, if_pos e2]
        simp [Ieee.Datum.order]
theorem bits_and11 (x : Nat) (h : x < 2 ^ 64) : bits .and .u64 (x : Int) 2047 = ((x % 2048 : Nat) : Int) := by
  have := bits_mask .u64 64 (by decide) wraps_u64 11 (by decide) (x : Int) (by omega) (by omega)
  simpa using this
theorem bits_and52 (x : Nat) (h : x < 2 ^ 64) : bits .and .u64 (x : Int) 4503599627370495 = ((x % 2 ^ 52 : Nat) : Int) := by
  have := bits_mask .u64 64 (by decide) wraps_u64 52 (by decide) (x : Int) (by omega) (by omega)
  simpa using this
theorem and_top (x : Nat) (h : x < 2 ^ 64) : x &&& 2 ^ 63 = if 2 ^ 63 ≤ x then 2 ^ 63 else 0 := by
  have h1 : (x &&& 2 ^ 63) / 2 ^ 63 = x / 2 ^ 63 % 2 := by
    rw [Nat.and_div_two_pow, Nat.div_self (by omega), Nat.and_one_is_mod]
  have h2 : (x &&& 2 ^ 63) % 2 ^ 63 = 0 := by
    rw [Nat.and_mod_two_pow, Nat.mod_self, Nat.and_zero]
  generalize x &&& 2 ^ 63 = y at *
  split <;> omega
theorem bits_and63 (x : Nat) (h : x < 2 ^ 64) : bits .and .u64 (x : Int) 9223372036854775808 = if 2 ^ 63 ≤ x then 9223372036854775808 else 0 := by
  have := (bits_nat .u64 64 (by decide) wraps_u64 x (2 ^ 63) (by omega) (by omega)).1
  rw [and_top x h] at this
  have e : ((2 ^ 63 : Nat) : Int) = 9223372036854775808 := by decide
  rw [e] at this
  rw [this]
  split <;> rfl
theorem xor_top (x : Nat) (h : x < 2 ^ 63) : x ^^^ 2 ^ 63 = x + 2 ^ 63 := by
  apply Nat.eq_of_testBit_eq
  intro i
  rw [Nat.testBit_xor, Nat.testBit_two_pow, Nat.add_comm x]
  rcases Nat.lt_trichotomy i 63 with h1 | h1 | h1
  · rw [Nat.testBit_two_pow_add_gt h1]
    have : ¬ (63 = i) := by omega
    simp [this]
  · subst h1
    rw [Nat.testBit_two_pow_add_eq]
    simp
  · have e1 : x.testBit i = false := Nat.testBit_lt_two_pow (Nat.lt_of_lt_of_le h (Nat.pow_le_pow_right (by decide) (by omega)))
    have e2 : (2 ^ 63 + x).testBit i = false := Nat.testBit_lt_two_pow (Nat.lt_of_lt_of_le (by omega : 2 ^ 63 + x < 2 ^ 64) (Nat.pow_le_pow_right (by decide) (by omega)))
    have : ¬ (63 = i) := by omega
    simp [e1, e2, this]
theorem bits_xor63 (x : Nat) (h : x < 2 ^ 63) : bits .xor .u64 (x : Int) 9223372036854775808 = (x : Int) + 9223372036854775808 := by
  unfold bits
  have e : BitVec.ofInt IntKind.u64.bits 9223372036854775808 = BitVec.ofNat 64 (2 ^ 63) := by rfl
  simp only [BitVec.ofInt_natCast]
  rw [e]
  have ha : (BitVec.ofNat 64 x ^^^ BitVec.ofNat 64 (2 ^ 63)).toNat = x + 2 ^ 63 := by
    rw [BitVec.toNat_xor, BitVec.toNat_ofNat, BitVec.toNat_ofNat, Nat.mod_eq_of_lt (by omega), Nat.mod_eq_of_lt (by decide), xor_top x h]
  show IntKind.u64.wrap ((BitVec.ofNat 64 x ^^^ BitVec.ofNat 64 (2 ^ 63)).toNat : Int) = _
  rw [ha, wraps_u64 _ (by omega) (by omega)]
  omega
theorem bits_or63 (x : Nat) (h : x < 2 ^ 63) : bits .or .u64 (x : Int) 9223372036854775808 = (x : Int) + 9223372036854775808 := bits_join64 63 _ _ (by omega) (by omega) (by omega) (by omega) (by omega) (by omega)
theorem bits_not64 (x : Nat) (h : x < 2 ^ 64) : bits .xor .u64 18446744073709551615 (x : Int) = 18446744073709551615 - (x : Int) := by
  have hc : bits .xor .u64 18446744073709551615 (x : Int) = bits .xor .u64 (x : Int) 18446744073709551615 := by
    unfold bits
    simp only [BitVec.xor_comm]
  rw [hc]
  exact xor_ones64 _ (by omega) (by omega)
theorem extFrom : ExtF Tryz.prog 122 Extern.MathFloatBits.float64frombits := ⟨_, rfl, by kernel_rfl, by kernel_rfl, by kernel_rfl, by kernel_rfl⟩
section
variable {W0 : World} {st : Heap}
theorem call_from {K : Value → Heap → Prop} {Kp : List PanicEntry → Heap → Prop} {b : Nat} : callY Tryz.prog W0 (.func (.func 122) #[] #[]) [.int .u64 (b : Int)] K Kp st = K (.float .f64 b) st := by
  rw [callY_ext _ _ extFrom]
  have h1 : Extern.MathFloatBits.float64frombits #[.int .u64 (b : Int)] = pure (.float .f64 (b : Int).toNat) := rfl
  show wpS _ (Extern.MathFloatBits.float64frombits #[.int .u64 (b : Int)]) _ _ _ = _
  rw [h1, wpS_pure, Int.toNat_natCast]
theorem isNaN_spec {b : Nat} (hb : b < 2 ^ 64) : ICalls Tryz.prog W0 121 #[.float .f64 b] st fun e st' => e = .returned (.bool (decide (kindN b = 4))) ∧ st' = st := by
  refine enter (args := [_]) Tryz.func121 rfl ?_
  have h := nan_order hb
  simp [Tryz.f121, go_sem, h]
theorem parts_spec {b : Nat} (hb : b < 2 ^ 64) : ICalls Tryz.prog W0 126 #[.int .u64 (b : Int)] st fun e st' => e = .returned (.tuple #[Val.i (expN b : Nat), .int .u64 (fracN b : Nat)]) ∧ st' = st := by
  refine enter (args := [_]) Tryz.func126 rfl ?_
  have h1 : ((b : Int).fdiv 4503599627370496) = ((b / 2 ^ 52 : Nat) : Int) := by
    rw [Int.fdiv_eq_ediv_of_nonneg _ (by omega)]
    omega
  have h2 := bits_and11 (b / 2 ^ 52) (by omega)
  have h3 := bits_and52 b hb
  have hw : IntKind.i64.wrap ((b / 2 ^ 52 % 2048 : Nat) : Int) = ((b / 2 ^ 52 % 2048 : Nat) : Int) := wrap_id (by omega) (by omega)
  have h2' : bits .and .u64 ((b : Int) / 4503599627370496) 2047 = (b : Int) / 4503599627370496 % 2048 := by
    have e : (b : Int) / 4503599627370496 = ((b / 2 ^ 52 : Nat) : Int) := by omega
    rw [e, h2]
    omega
  have hw' : IntKind.i64.wrap ((b : Int) / 4503599627370496 % 2048) = (b : Int) / 4503599627370496 % 2048 := wrap_id (by omega) (by omega)
  simp [Tryz.f126, go_sem, shiftBin, h1, h2', hw', h3, expN, fracN]
theorem Kind_spec {b : Nat} (hb : b < 2 ^ 64) : ICalls Tryz.prog W0 117 #[.int .u64 (b : Int)] st fun e st' => e = .returned (Val.i (kindN b : Nat)) ∧ st' = st := by
  refine enter (args := [_]) Tryz.func117 rfl ?_
  simp [Tryz.f117, go_sem]
  refine (parts_spec hb).mono ?_
  rintro e st1 ⟨rfl, rfl⟩
  simp [go_sem, call_from]
  refine (isNaN_spec hb).mono ?_
  rintro e st2 ⟨rfl, rfl⟩
  have hk : kindN b = if expN b = 2047 then (if 0 < fracN b then 4 else 3) else if 0 < expN b then 1 else if 0 < fracN b then 2 else 0 := rfl
  by_cases c0 : kindN b = 4
  · rw [c0]
    simp [go_sem]
  by_cases c1 : expN b = 2047
  · rw [if_pos c1] at hk
    have c2 : ¬ 0 < fracN b := by intro h; rw [if_pos h] at hk; exact c0 hk
    rw [if_neg c2] at hk
    rw [hk]
    have q1 : ((expN b : Int) = 2047) = True := eq_true (by omega)
    simp [go_sem, q1]
  rw [if_neg c1] at hk
  have q1 : ((expN b : Int) = 2047) = False := eq_false (by omega)
  by_cases c2 : 0 < expN b
  · rw [if_pos c2] at hk
    have q2 : ((0 : Int) < expN b) = True := eq_true (by omega)
    rw [hk]
    simp [go_sem, q1, q2, c2]
  rw [if_neg c2] at hk
  have q2 : ((0 : Int) < expN b) = False := eq_false (by omega)
  by_cases c3 : 0 < fracN b
  · rw [if_pos c3] at hk
    have q3 : ((0 : Int) < fracN b) = True := eq_true (by omega)
    rw [hk]
    simp [go_sem, q1, q2, q3, c2, c3]
  · rw [if_neg c3] at hk
    have q3 : ((0 : Int) < fracN b) = False := eq_false (by omega)
    rw [hk]
    simp [go_sem, q1, q2, q3, c2, c3]
theorem Key_spec {b : Nat} (hb : b < 2 ^ 64) : ICalls Tryz.prog W0 118 #[.int .u64 (b : Int)] st fun e st' => e = .returned (.int .u64 (keyN b : Nat)) ∧ st' = st := by
  refine enter (args := [_]) Tryz.func118 rfl ?_
  have h1 := bits_and63 b hb
  have h2 := bits_not64 b hb
  by_cases c : 2 ^ 63 ≤ b
  · rw [if_pos c] at h1
    have e : ((keyN b : Nat) : Int) = 18446744073709551615 - (b : Int) := by unfold keyN; rw [if_pos c]; omega
    rw [e]
    simp [Tryz.f118, go_sem, unV, h1, IntKind.signed, IntKind.max, IntKind.bits]
    simpa using h2
  · rw [if_neg c] at h1
    have h3 := bits_xor63 b (by omega)
    have e : ((keyN b : Nat) : Int) = (b : Int) + 9223372036854775808 := by unfold keyN; rw [if_neg c]; omega
    rw [e]
    simp [Tryz.f118, go_sem, h1, h3]
theorem Less_spec {a b : Nat} (ha : a < 2 ^ 64) (hb : b < 2 ^ 64) : ICalls Tryz.prog W0 102 #[.int .u64 (a : Int), .int .u64 (b : Int)] st fun e st' => e = .returned (.bool (lessN a b)) ∧ st' = st := by
  refine enter (args := [_, _]) Tryz.func102 rfl ?_
  simp [Tryz.f102, go_sem]
  refine (Kind_spec ha).mono ?_
  rintro e st1 ⟨rfl, rfl⟩
  generalize hres : lessN a b = res
  unfold lessN at hres
  by_cases c1 : kindN a = 4
  · have q1 : ((kindN a : Int) = 4) = True := eq_true (by omega)
    have : res = false := by rw [← hres]; simp [c1]
    simp [go_sem, q1, c1, this]
  have q1 : ((kindN a : Int) = 4) = False := eq_false (by omega)
  simp [go_sem, q1, c1]
  refine (Kind_spec hb).mono ?_
  rintro e st2 ⟨rfl, rfl⟩
  by_cases c2 : kindN b = 4
  · have q2 : ((kindN b : Int) = 4) = True := eq_true (by omega)
    have : res = false := by rw [← hres]; simp [c2]
    simp [go_sem, q2, c2, this]
  have q2 : ((kindN b : Int) = 4) = False := eq_false (by omega)
  simp [go_sem, q2, c2]
  refine (Key_spec ha).mono ?_
  rintro e st3 ⟨rfl, rfl⟩
  simp [go_sem]
  refine (Key_spec hb).mono ?_
  rintro e st4 ⟨rfl, rfl⟩
  have : res = decide (keyN a < keyN b) := by rw [← hres]; simp [c1, c2]
  simp [go_sem, this]
theorem none_spec {b : Nat} (hb : b < 2 ^ 64) : ICalls Tryz.prog W0 104 #[.int .u64 (b : Int)] st fun e st' => e = .returned (.bool (decide (kindN b = 4))) ∧ st' = st := by
  refine enter (args := [_]) Tryz.func104 rfl ?_
  simp [Tryz.f104, go_sem, call_from]
  refine (isNaN_spec hb).mono ?_
  rintro e st2 ⟨rfl, rfl⟩
  simp [go_sem]
end
end Go.Proofs.YtflbapmjdfnhhaaGreat
set_option linter.unusedVariables false
set_option linter.unusedSimpArgs false
set_option maxRecDepth 100000
set_option maxHeartbeats 400000
namespace Go.Proofs.YtflbapmjdfnhhaaGreat
open Go.RowKit (Below)
section
variable {W0 : World} {st : Heap}
theorem refExp_spec {b : Nat} (hb : b < 2 ^ 64) : ICalls Tryz.prog W0 109 #[.int .u64 (b : Int)] st fun e st' => e = .returned (Val.i (expN b : Nat)) ∧ st' = st := by
  refine enter (args := [_]) Tryz.func109 rfl ?_
  have h1 : ((b : Int).fdiv 4503599627370496) = ((b / 2 ^ 52 : Nat) : Int) := by
    rw [Int.fdiv_eq_ediv_of_nonneg _ (by omega)]
    omega
  have h2 := bits_and11 (b / 2 ^ 52) (by omega)
  have hw : IntKind.i64.wrap ((b / 2 ^ 52 % 2048 : Nat) : Int) = ((b / 2 ^ 52 % 2048 : Nat) : Int) := wrap_id (by omega) (by omega)
  have h2' : bits .and .u64 ((b : Int) / 4503599627370496) 2047 = (b : Int) / 4503599627370496 % 2048 := by
    have e : (b : Int) / 4503599627370496 = ((b / 2 ^ 52 : Nat) : Int) := by omega
    rw [e, h2]
    omega
  have hw' : IntKind.i64.wrap ((b : Int) / 4503599627370496 % 2048) = (b : Int) / 4503599627370496 % 2048 := wrap_id (by omega) (by omega)
  simp [Tryz.f109, go_sem, shiftBin, h1, h2', hw', expN]
theorem refFrac_spec {b : Nat} (hb : b < 2 ^ 64) : ICalls Tryz.prog W0 110 #[.int .u64 (b : Int)] st fun e st' => e = .returned (.int .u64 (fracN b : Nat)) ∧ st' = st := by
  refine enter (args := [_]) Tryz.func110 rfl ?_
  have h3 := bits_and52 b hb
  simp [Tryz.f110, go_sem, h3, fracN]
theorem refKind_spec {b : Nat} (hb : b < 2 ^ 64) : ICalls Tryz.prog W0 89 #[.int .u64 (b : Int)] st fun e st' => e = .returned (Val.i (kindN b : Nat)) ∧ st' = st := by
  have exp : ∀ {K : Ending → Heap → Prop}, K (.returned (Val.i (expN b : Nat))) st → ICalls Tryz.prog W0 109 #[.int .u64 (b : Int)] st K := fun hk => (refExp_spec hb).mono fun e st' h => by rw [h.1, h.2]; exact hk
  have frac : ∀ {K : Ending → Heap → Prop}, K (.returned (.int .u64 (fracN b : Nat))) st → ICalls Tryz.prog W0 110 #[.int .u64 (b : Int)] st K := fun hk => (refFrac_spec hb).mono fun e st' h => by rw [h.1, h.2]; exact hk
  refine enter (args := [_]) Tryz.func89 rfl ?_
  simp [Tryz.f89, go_sem]
  refine exp ?_
  have hk : kindN b = if expN b = 2047 then (if 0 < fracN b then 4 else 3) else if 0 < expN b then 1 else if 0 < fracN b then 2 else 0 := rfl
  by_cases c1 : expN b = 2047
  · rw [if_pos c1] at hk
    have q1 : ((expN b : Int) = 2047) = True := eq_true (by omega)
    simp [go_sem, q1]
    refine frac ?_
    by_cases c2 : 0 < fracN b
    · rw [if_pos c2] at hk
      have q2 : ((0 : Int) < fracN b) = True := eq_true (by omega)
      rw [hk]
      simp [go_sem, q2, c2]
    · rw [if_neg c2] at hk
      have q2 : ((0 : Int) < fracN b) = False := eq_false (by omega)
      rw [hk]
      simp [go_sem, q2, c2]
      refine exp ?_
      simp [go_sem, q1]
  rw [if_neg c1] at hk
  have q1 : ((expN b : Int) = 2047) = False := eq_false (by omega)
  simp [go_sem, q1]
  refine exp ?_
  simp [go_sem, q1]
  refine exp ?_
  by_cases c2 : 0 < expN b
  · rw [if_pos c2] at hk
    have q2 : ((0 : Int) < expN b) = True := eq_true (by omega)
    rw [hk]
    simp [go_sem, q2, c2]
  rw [if_neg c2] at hk
  have q2 : ((0 : Int) < expN b) = False := eq_false (by omega)
  simp [go_sem, q2, c2]
  refine frac ?_
  by_cases c3 : 0 < fracN b
  · rw [if_pos c3] at hk
    have q3 : ((0 : Int) < fracN b) = True := eq_true (by omega)
    rw [hk]
    simp [go_sem, q3, c3]
  · rw [if_neg c3] at hk
    have q3 : ((0 : Int) < fracN b) = False := eq_false (by omega)
    rw [hk]
    simp [go_sem, q3, c3]
theorem refKey_spec {b : Nat} (hb : b < 2 ^ 64) : ICalls Tryz.prog W0 111 #[.int .u64 (b : Int)] st fun e st' => e = .returned (.int .u64 (keyN b : Nat)) ∧ st' = st := by
  refine enter (args := [_]) Tryz.func111 rfl ?_
  have h1 := bits_and63 b hb
  by_cases c : 2 ^ 63 ≤ b
  · rw [if_pos c] at h1
    have h2 := xor_ones64 (b : Int) (by omega) (by omega)
    have e : ((keyN b : Nat) : Int) = 18446744073709551615 - (b : Int) := by unfold keyN; rw [if_pos c]; omega
    rw [e]
    simp [Tryz.f111, go_sem, h1, h2]
  · rw [if_neg c] at h1
    have h3 := bits_or63 b (by omega)
    have e : ((keyN b : Nat) : Int) = (b : Int) + 9223372036854775808 := by unfold keyN; rw [if_neg c]; omega
    rw [e]
    simp [Tryz.f111, go_sem, h1, h3]
theorem refLess_spec {a b : Nat} (ha : a < 2 ^ 64) (hb : b < 2 ^ 64) : ICalls Tryz.prog W0 90 #[.int .u64 (a : Int), .int .u64 (b : Int)] st fun e st' => e = .returned (.bool (lessN a b)) ∧ st' = st := by
  refine enter (args := [_, _]) Tryz.func90 rfl ?_
  simp [Tryz.f90, go_sem]
  refine (refKind_spec ha).mono ?_
  rintro e st1 ⟨rfl, rfl⟩
  generalize hres : lessN a b = res
  unfold lessN at hres
  by_cases c1 : kindN a = 4
  · have q1 : ((kindN a : Int) = 4) = True := eq_true (by omega)
    have : res = false := by rw [← hres]; simp [c1]
    simp [go_sem, q1, c1, this]
  have q1 : ((kindN a : Int) = 4) = False := eq_false (by omega)
  simp [go_sem, q1, c1]
  refine (refKind_spec hb).mono ?_
  rintro e st2 ⟨rfl, rfl⟩
  by_cases c2 : kindN b = 4
  · have q2 : ((kindN b : Int) = 4) = True := eq_true (by omega)
    have : res = false := by rw [← hres]; simp [c2]
    simp [go_sem, q2, c2, this]
  have q2 : ((kindN b : Int) = 4) = False := eq_false (by omega)
  simp [go_sem, q2, c2]
  refine (refKey_spec ha).mono ?_
  rintro e st3 ⟨rfl, rfl⟩
  simp [go_sem]
  refine (refKey_spec hb).mono ?_
  rintro e st4 ⟨rfl, rfl⟩
  have : res = decide (keyN a < keyN b) := by rw [← hres]; simp [c1, c2]
  simp [go_sem, this]
end
end Go.Proofs.YtflbapmjdfnhhaaGreat
