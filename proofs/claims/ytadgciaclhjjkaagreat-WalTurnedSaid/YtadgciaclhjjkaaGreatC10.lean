/- A region of any order whose operations only make new rows: each result by itself. Plain definitions and theorems, over any program. -/
import Derived.Test.YtadgciaclhjjkaaGreatC08
import Derived.Test.YtadgciaclhjjkaaGreatC09
set_option linter.unusedVariables false
set_option linter.unusedSimpArgs false
namespace Go.Proofs.YtadgciaclhjjkaaGreat
open Go.RowKit (Below)

def bnds (e : Edge) : Bool := Region.binds .any e
/-- One order in which all operations may come; no slot is written twice. -/
def topoOK (ops : List Oper) : List Nat → List Nat → Bool
  | seen, [] => (List.range ops.length).all fun i => seen.contains i
  | seen, i :: r => (match ops[i]? with | some o => o.after.toList.all (fun e => !bnds e || seen.contains e.on) | none => false) && topoOK ops (i :: seen) r
def dstOK : List Oper → Bool
  | [] => true
  | o :: r => (match o.dst with | some d => r.all (fun o' => o'.dst != some d) | none => true) && dstOK r
theorem dstOK_spec : ∀ {ops : List Oper}, dstOK ops = true → ∀ {i j : Nat} {o o' : Oper} {d : Nat}, ops[i]? = some o → ops[j]? = some o' → o.dst = some d → o'.dst = some d → i = j
  | [], _, i, j, o, o', d, hi, _, _, _ => by simp at hi
  | x :: r, h, i, j, o, o', d, hi, hj, ho, ho' => by
    unfold dstOK at h
    rw [Bool.and_eq_true] at h
    cases i with
    | zero =>
      simp at hi
      subst hi
      cases j with
      | zero => rfl
      | succ j =>
        simp at hj
        rw [ho] at h
        have := List.all_eq_true.1 h.1 o' (List.mem_of_getElem? hj)
        simp [ho'] at this
    | succ i =>
      simp at hi
      cases j with
      | zero =>
        simp at hj
        subst hj
        rw [ho'] at h
        have := List.all_eq_true.1 h.1 o (List.mem_of_getElem? hi)
        simp [ho] at this
      | succ j =>
        simp at hj
        rw [dstOK_spec h.2 hi hj ho ho']
/-- The most general: an assertion on what is done so far. -/
theorem drawJ {P : Program} {W0 : World} {ops : List Oper} {Q : IPost} {Kp : PPost} {E0 : Env} {st0 : Heap} (l : List Nat) (J : List Nat → Env → Heap → Prop) (htopo : topoOK ops [] l = true) (h0 : J [] E0 st0)
    (hstep : ∀ (i : Nat) (o : Oper), ops[i]? = some o → ∀ (done : List Nat) (E : Env) (st : Heap), i ∉ done → (∀ e ∈ o.after.toList, bnds e = true → e.on ∈ done) →
      (∀ (j : Nat) (oj : Oper), j ∈ done → ops[j]? = some oj → ∀ e ∈ oj.after.toList, bnds e = true → e.on ∈ done) → J done E st →
      (bif wantedE ops.toArray o E then opX P W0 o E (fun v st' => J (i :: done) (E.put o.dst v) st') Kp st else J (i :: done) (E.put o.dst undef) st))
    (hend : ∀ (done : List Nat) (E : Env) (st : Heap), (∀ i, i < ops.length → i ∈ done) → J done E st → Q .normal E st)
    (hc : ∀ (j : Nat) (oj : Oper), ops[j]? = some oj → clsR P oj.op ≤ 3) : DrawI P W0 ops Q Kp E0 st0 := by
  -- where one stands
  let Inv (listed : Array Bool) (done : List Nat) (E : Env) (st : Heap) : Prop := listed.size = ops.length ∧ done.Nodup ∧ (∀ i, i ∈ done ↔ i < ops.length ∧ listed.getD i false = true) ∧ J done E st ∧ (∀ (j : Nat) (oj : Oper), j ∈ done → ops[j]? = some oj → ∀ e ∈ oj.after.toList, bnds e = true → e.on ∈ done)
  have hready : ∀ (listed : Array Bool) (done : List Nat) (E : Env) (st : Heap), Inv listed done E st → ∀ i, i ∈ Region.ready .any ops.toArray listed ↔ (i < ops.length ∧ i ∉ done ∧ ∃ o, ops[i]? = some o ∧ ∀ e ∈ o.after.toList, bnds e = true → listed.getD e.on false = true) := by
    intro listed done E st ⟨hsz, hnd, hdn, _⟩ i
    unfold Region.ready
    simp only [List.mem_filter, List.mem_range, List.size_toArray, Bool.and_eq_true, Bool.not_eq_true', List.getElem?_toArray]
    constructor
    · rintro ⟨hi, h1, h2⟩
      refine ⟨hi, ?_, ?_⟩
      · intro hm
        have := (hdn i).1 hm
        rw [Array.getD_eq_getD_getElem?] at this h1
        have hz : listed[i]? = some listed[i] := Array.getElem?_eq_getElem (by omega)
        rw [hz] at this h1
        simp at this h1
        rw [this.2] at h1
        cases h1
      · cases ho : ops[i]? with
        | none => rw [ho] at h2; cases h2
        | some o =>
          rw [ho] at h2
          simp only [Option.map_some, Option.getD_some, Array.all_eq_true_iff_forall_mem, Bool.or_eq_true, Bool.not_eq_true'] at h2
          refine ⟨o, rfl, fun e he hb => ?_⟩
          rcases h2 e (by simpa using he) with h | h
          · unfold bnds at hb; rw [hb] at h; cases h
          · exact h
    · rintro ⟨hi, hnot, o, ho, hall⟩
      refine ⟨hi, ?_, ?_⟩
      · rw [Array.getD_eq_getD_getElem?]
        have hz : listed[i]? = some listed[i] := Array.getElem?_eq_getElem (by omega)
        rw [hz]
        simp
        cases hb : listed[i] with
        | false => rfl
        | true =>
          exfalso
          refine hnot ((hdn i).2 ⟨hi, ?_⟩)
          rw [Array.getD_eq_getD_getElem?, hz]
          simpa using hb
      · rw [ho]
        simp only [Option.map_some, Option.getD_some, Array.all_eq_true_iff_forall_mem, Bool.or_eq_true, Bool.not_eq_true']
        intro e he
        cases hb : bnds e with
        | false => exact .inl hb
        | true => exact .inr (hall e (by simpa using he) hb)
  have hall : ∀ (listed : Array Bool) (done : List Nat) (E : Env) (st : Heap), Inv listed done E st → Region.ready .any ops.toArray listed = [] → ∀ i, i < ops.length → i ∈ done := by
    intro listed done E st hI hr
    have hI' := hI
    obtain ⟨hsz, hnd, hdn, _⟩ := hI'
    have key : ∀ (r seen : List Nat), topoOK ops seen r = true → (∀ i ∈ seen, i ∈ done) → ∀ i, i < ops.length → i ∈ done := by
      intro r
      induction r with
      | nil =>
        intro seen h hs i hi
        unfold topoOK at h
        have := List.all_eq_true.1 h i (by simpa using hi)
        exact hs i (by simpa using this)
      | cons j r ih =>
        intro seen h hs
        unfold topoOK at h
        rw [Bool.and_eq_true] at h
        refine ih (j :: seen) h.2 ?_
        intro i hi
        rcases List.mem_cons.1 hi with rfl | hi
        · rcases Classical.em (i ∈ done) with hd | hd
          · exact hd
          · exfalso
            cases ho : ops[i]? with
            | none => rw [ho] at h; cases h.1
            | some o =>
              rw [ho] at h
              have hlt := (List.getElem?_eq_some_iff.1 ho).1
              have : i ∈ Region.ready .any ops.toArray listed := (hready listed done E st hI i).2 ⟨hlt, hd, o, ho, fun e he hb => by
                have := List.all_eq_true.1 h.1 e he
                simp [hb] at this
                exact ((hdn e.on).1 (hs _ this)).2⟩
              rw [hr] at this
              cases this
        · exact hs i hi
    exact key l [] htopo (by simp)
  have main : ∀ (fuel : Nat) (listed : Array Bool) (done : List Nat) (E : Env) (st : Heap), Inv listed done E st → done.length + fuel = ops.length → IAny P W0 ops.toArray Q Kp fuel listed E st := by
    intro fuel
    induction fuel with
    | zero =>
      intro listed done E st hI hf
      have hI' := hI
      obtain ⟨hsz, hnd, hdn, hk, hcl⟩ := hI'
      have hall' : ∀ i, i < ops.length → i ∈ done := by
        intro i hi
        rcases Classical.em (i ∈ done) with hd | hd
        · exact hd
        · exfalso
          have := nodup_len (l := i :: done) (l' := List.range ops.length) (List.nodup_cons.2 ⟨hd, hnd⟩) (by
            intro x hx
            rcases List.mem_cons.1 hx with rfl | hx
            · simpa using hi
            · simpa using ((hdn x).1 hx).1)
          simp at this
          omega
      refine ⟨?_, ?_⟩
      · rw [List.eq_nil_iff_forall_not_mem]
        intro i hi
        obtain ⟨h1, h2, _⟩ := (hready listed done E st hI i).1 hi
        exact h2 (hall' i h1)
      · exact hend done E st hall' hk
    | succ fuel ih =>
      intro listed done E st hI hf
      have hI' := hI
      obtain ⟨hsz, hnd, hdn, hk, hcl⟩ := hI'
      refine ⟨?_, ?_⟩
      · intro hr
        have hall' := hall listed done E st hI hr
        exact hend done E st hall' hk
      · intro i hi
        obtain ⟨hlt, hnot, o, ho, hdep⟩ := (hready listed done E st hI i).1 hi
        have hnext : ∀ (v : Value) (st' : Heap), J (i :: done) (E.put o.dst v) st' → IAny P W0 ops.toArray Q Kp fuel (listed.setIfInBounds i true) (E.put o.dst v) st' := by
          intro v st' hn
          refine ih _ (i :: done) _ _ ⟨by simpa using hsz, List.nodup_cons.2 ⟨hnot, hnd⟩, ?_, hn, ?_⟩ (by simp only [List.length_cons]; omega)
          · intro k
            rw [List.mem_cons, hdn k, Array.getD_eq_getD_getElem?, Array.getD_eq_getD_getElem?, Array.getElem?_setIfInBounds]
            by_cases hki : i = k
            · subst hki; simp [hlt, hsz]
            · rw [if_neg hki]
              constructor
              · rintro (h | h)
                · exact absurd h.symm hki
                · exact h
              · exact fun h => .inr h
          · intro j oj hj hoj e he hb
            rcases List.mem_cons.1 hj with rfl | hj
            · rw [ho] at hoj; injection hoj with hoj; subst hoj
              refine List.mem_cons_of_mem _ ((hdn e.on).2 ⟨?_, hdep e he hb⟩)
              rcases Nat.lt_or_ge e.on ops.length with h | h
              · exact h
              · have := hdep e he hb
                rw [Array.getD_eq_getD_getElem?, Array.getElem?_eq_none (by omega)] at this
                cases this
            · exact List.mem_cons_of_mem _ (hcl j oj hj hoj e he hb)
        have hdone : ∀ e ∈ o.after.toList, bnds e = true → e.on ∈ done := by
          intro e he hb
          refine (hdn e.on).2 ⟨?_, hdep e he hb⟩
          rcases Nat.lt_or_ge e.on ops.length with h | h
          · exact h
          · have := hdep e he hb
            rw [Array.getD_eq_getD_getElem?, Array.getElem?_eq_none (by omega)] at this
            cases this
        have hs := hstep i o ho done E st hnot hdone hcl hk
        unfold IOp
        rw [List.getElem?_toArray, ho]
        simp only
        cases hw : wantedE ops.toArray o E with
        | true =>
          rw [hw] at hs
          simp only [cond_true] at hs ⊢
          exact opX_mono (hc i o ho) (fun v st' _ hk => hnext v st' hk) (fun _ _ => id) hs
        | false =>
          rw [hw] at hs
          simp only [cond_false] at hs ⊢
          exact hnext undef st hs
  refine main ops.toArray.size _ [] E0 st0 ⟨by simp, List.nodup_nil, ?_, h0, by simp⟩ (by simp)
  intro i
  simp [Array.getD_eq_getD_getElem?, Array.getElem?_replicate]
  intro hi
  simp [hi]
theorem drawR {P : Program} {W0 : World} {ops : List Oper} {Q : IPost} {Kp : PPost} {E0 : Env} {st0 : Heap} (R : Heap → Heap → Prop) (hrefl : ∀ s, R s s) (htrans : ∀ a b c, R a b → R b c → R a c) (l : List Nat) (V : Nat → Value → Heap → Prop) (htopo : topoOK ops [] l = true) (hdst : dstOK ops = true)
    (hst : ∀ i v st st', R st st' → V i v st → V i v st')
    (hstep : ∀ (i : Nat) (o : Oper), ops[i]? = some o → ∀ (E : Env) (st : Heap), R st0 st →
      (∀ e ∈ o.after.toList, bnds e = true → ∀ (oj : Oper) (dj : Nat), ops[e.on]? = some oj → oj.dst = some dj → V e.on (E dj) st) →
      (∀ t, (∀ (j : Nat) (oj : Oper), ops[j]? = some oj → oj.dst = some t → ∃ e ∈ oj.after.toList, bnds e = true ∧ e.on = i) → E t = E0 t) →
      (bif wantedE ops.toArray o E then opX P W0 o E (fun v st' => R st st' ∧ V i v st') Kp st else V i undef st))
    (hend : ∀ (E : Env) (st : Heap), R st0 st → (∀ (i : Nat) (o : Oper) (d : Nat), ops[i]? = some o → o.dst = some d → V i (E d) st) → (∀ t, (∀ (j : Nat) (oj : Oper), ops[j]? = some oj → oj.dst ≠ some t) → E t = E0 t) → Q .normal E st)
    (hc : ∀ (j : Nat) (oj : Oper), ops[j]? = some oj → clsR P oj.op ≤ 3) : DrawI P W0 ops Q Kp E0 st0 := by
  -- where one stands
  let Inv (listed : Array Bool) (done : List Nat) (E : Env) (st : Heap) : Prop := listed.size = ops.length ∧ done.Nodup ∧ (∀ i, i ∈ done ↔ i < ops.length ∧ listed.getD i false = true) ∧ R st0 st ∧
    (∀ (i : Nat) (o : Oper) (d : Nat), ops[i]? = some o → i ∈ done → o.dst = some d → V i (E d) st) ∧ (∀ t, (∀ (j : Nat) (oj : Oper), ops[j]? = some oj → oj.dst = some t → j ∉ done) → E t = E0 t) ∧ (∀ (j : Nat) (oj : Oper), j ∈ done → ops[j]? = some oj → ∀ e ∈ oj.after.toList, bnds e = true → e.on ∈ done)
  have hready : ∀ (listed : Array Bool) (done : List Nat) (E : Env) (st : Heap), Inv listed done E st → ∀ i, i ∈ Region.ready .any ops.toArray listed ↔ (i < ops.length ∧ i ∉ done ∧ ∃ o, ops[i]? = some o ∧ ∀ e ∈ o.after.toList, bnds e = true → listed.getD e.on false = true) := by
    intro listed done E st ⟨hsz, hnd, hdn, _⟩ i
    unfold Region.ready
    simp only [List.mem_filter, List.mem_range, List.size_toArray, Bool.and_eq_true, Bool.not_eq_true', List.getElem?_toArray]
    constructor
    · rintro ⟨hi, h1, h2⟩
      refine ⟨hi, ?_, ?_⟩
      · intro hm
        have := (hdn i).1 hm
        rw [Array.getD_eq_getD_getElem?] at this h1
        have hz : listed[i]? = some listed[i] := Array.getElem?_eq_getElem (by omega)
        rw [hz] at this h1
        simp at this h1
        rw [this.2] at h1
        cases h1
      · cases ho : ops[i]? with
        | none => rw [ho] at h2; cases h2
        | some o =>
          rw [ho] at h2
          simp only [Option.map_some, Option.getD_some, Array.all_eq_true_iff_forall_mem, Bool.or_eq_true, Bool.not_eq_true'] at h2
          refine ⟨o, rfl, fun e he hb => ?_⟩
          rcases h2 e (by simpa using he) with h | h
          · unfold bnds at hb; rw [hb] at h; cases h
          · exact h
    · rintro ⟨hi, hnot, o, ho, hall⟩
      refine ⟨hi, ?_, ?_⟩
      · rw [Array.getD_eq_getD_getElem?]
        have hz : listed[i]? = some listed[i] := Array.getElem?_eq_getElem (by omega)
        rw [hz]
        simp
        cases hb : listed[i] with
        | false => rfl
        | true =>
          exfalso
          refine hnot ((hdn i).2 ⟨hi, ?_⟩)
          rw [Array.getD_eq_getD_getElem?, hz]
          simpa using hb
      · rw [ho]
        simp only [Option.map_some, Option.getD_some, Array.all_eq_true_iff_forall_mem, Bool.or_eq_true, Bool.not_eq_true']
        intro e he
        cases hb : bnds e with
        | false => exact .inl hb
        | true => exact .inr (hall e (by simpa using he) hb)
  have hall : ∀ (listed : Array Bool) (done : List Nat) (E : Env) (st : Heap), Inv listed done E st → Region.ready .any ops.toArray listed = [] → ∀ i, i < ops.length → i ∈ done := by
    intro listed done E st hI hr
    have hI' := hI
    obtain ⟨hsz, hnd, hdn, _⟩ := hI'
    have key : ∀ (r seen : List Nat), topoOK ops seen r = true → (∀ i ∈ seen, i ∈ done) → ∀ i, i < ops.length → i ∈ done := by
      intro r
      induction r with
      | nil =>
        intro seen h hs i hi
        unfold topoOK at h
        have := List.all_eq_true.1 h i (by simpa using hi)
        exact hs i (by simpa using this)
      | cons j r ih =>
        intro seen h hs
        unfold topoOK at h
        rw [Bool.and_eq_true] at h
        refine ih (j :: seen) h.2 ?_
        intro i hi
        rcases List.mem_cons.1 hi with rfl | hi
        · rcases Classical.em (i ∈ done) with hd | hd
          · exact hd
          · exfalso
            cases ho : ops[i]? with
            | none => rw [ho] at h; cases h.1
            | some o =>
              rw [ho] at h
              have hlt := (List.getElem?_eq_some_iff.1 ho).1
              have : i ∈ Region.ready .any ops.toArray listed := (hready listed done E st hI i).2 ⟨hlt, hd, o, ho, fun e he hb => by
                have := List.all_eq_true.1 h.1 e he
                simp [hb] at this
                exact ((hdn e.on).1 (hs _ this)).2⟩
              rw [hr] at this
              cases this
        · exact hs i hi
    exact key l [] htopo (by simp)
  have main : ∀ (fuel : Nat) (listed : Array Bool) (done : List Nat) (E : Env) (st : Heap), Inv listed done E st → done.length + fuel = ops.length → IAny P W0 ops.toArray Q Kp fuel listed E st := by
    intro fuel
    induction fuel with
    | zero =>
      intro listed done E st hI hf
      have hI' := hI
      obtain ⟨hsz, hnd, hdn, hk, hV, hE, hcl⟩ := hI'
      have hall' : ∀ i, i < ops.length → i ∈ done := by
        intro i hi
        rcases Classical.em (i ∈ done) with hd | hd
        · exact hd
        · exfalso
          have := nodup_len (l := i :: done) (l' := List.range ops.length) (List.nodup_cons.2 ⟨hd, hnd⟩) (by
            intro x hx
            rcases List.mem_cons.1 hx with rfl | hx
            · simpa using hi
            · simpa using ((hdn x).1 hx).1)
          simp at this
          omega
      refine ⟨?_, ?_⟩
      · rw [List.eq_nil_iff_forall_not_mem]
        intro i hi
        obtain ⟨h1, h2, _⟩ := (hready listed done E st hI i).1 hi
        exact h2 (hall' i h1)
      · exact hend E st hk (fun i o d ho hd => hV i o d ho (hall' i (List.getElem?_eq_some_iff.1 ho).1) hd) (fun t ht => hE t fun j oj ho hd => absurd hd (ht j oj ho))
    | succ fuel ih =>
      intro listed done E st hI hf
      have hI' := hI
      obtain ⟨hsz, hnd, hdn, hk, hV, hE, hcl⟩ := hI'
      refine ⟨?_, ?_⟩
      · intro hr
        have hall' := hall listed done E st hI hr
        exact hend E st hk (fun i o d ho hd => hV i o d ho (hall' i (List.getElem?_eq_some_iff.1 ho).1) hd) (fun t ht => hE t fun j oj ho hd => absurd hd (ht j oj ho))
      · intro i hi
        obtain ⟨hlt, hnot, o, ho, hdep⟩ := (hready listed done E st hI i).1 hi
        have hnext : ∀ (v : Value) (st' : Heap), R st st' → V i v st' → IAny P W0 ops.toArray Q Kp fuel (listed.setIfInBounds i true) (E.put o.dst v) st' := by
          intro v st' hn hv
          refine ih _ (i :: done) _ _ ⟨by simpa using hsz, List.nodup_cons.2 ⟨hnot, hnd⟩, ?_, htrans _ _ _ hk hn, ?_, ?_, ?_⟩ (by simp only [List.length_cons]; omega)
          · intro k
            rw [List.mem_cons, hdn k, Array.getD_eq_getD_getElem?, Array.getD_eq_getD_getElem?, Array.getElem?_setIfInBounds]
            by_cases hki : i = k
            · subst hki; simp [hlt, hsz]
            · rw [if_neg hki]
              constructor
              · rintro (h | h)
                · exact absurd h.symm hki
                · exact h
              · exact fun h => .inr h
          · intro k ok d hok hkd hd
            rcases List.mem_cons.1 hkd with rfl | hkd
            · rw [ho] at hok; injection hok with hok; subst hok
              rw [hd]
              show V k ((E.set d v) d) st'
              simp [Env.set]
              exact hv
            · have h1 : E.put o.dst v d = E d := by
                cases hod : o.dst with
                | none => rfl
                | some d' =>
                  show E.set d' v d = E d
                  unfold Env.set
                  rw [if_neg]
                  rintro rfl
                  exact hnot ((dstOK_spec hdst ho hok hod hd) ▸ hkd)
              rw [h1]
              exact hst _ _ _ _ hn (hV k ok d hok hkd hd)
          · intro t ht
            have h1 : E.put o.dst v t = E t := by
              cases hod : o.dst with
              | none => rfl
              | some d' =>
                show E.set d' v t = E t
                unfold Env.set
                rw [if_neg]
                rintro rfl
                exact ht i o ho hod (by simp)
            rw [h1]
            exact hE t fun j oj hoj hd hm => ht j oj hoj hd (by simp [hm])
          · intro j oj hj hoj e he hb
            rcases List.mem_cons.1 hj with rfl | hj
            · rw [ho] at hoj; injection hoj with hoj; subst hoj
              refine List.mem_cons_of_mem _ ((hdn e.on).2 ⟨?_, hdep e he hb⟩)
              rcases Nat.lt_or_ge e.on ops.length with h | h
              · exact h
              · have := hdep e he hb
                rw [Array.getD_eq_getD_getElem?, Array.getElem?_eq_none (by omega)] at this
                cases this
            · exact List.mem_cons_of_mem _ (hcl j oj hj hoj e he hb)
        have hs := hstep i o ho E st hk (fun e he hb oj dj hoj hdj => hV e.on oj dj hoj ((hdn e.on).2 ⟨(List.getElem?_eq_some_iff.1 hoj).1, hdep e he hb⟩) hdj) (fun t ht => hE t fun j oj hoj hd hm => by
          obtain ⟨e, he, hb, hon⟩ := ht j oj hoj hd
          have := hcl j oj hm hoj e he hb
          rw [hon] at this
          exact hnot this)
        unfold IOp
        rw [List.getElem?_toArray, ho]
        simp only
        cases hw : wantedE ops.toArray o E with
        | true =>
          rw [hw] at hs
          simp only [cond_true] at hs ⊢
          exact opX_mono (hc i o ho) (fun v st' _ hk => hnext v st' hk.1 hk.2) (fun _ _ => id) hs
        | false =>
          rw [hw] at hs
          simp only [cond_false] at hs ⊢
          exact hnext undef st (hrefl _) hs
  refine main ops.toArray.size _ [] E0 st0 ⟨by simp, List.nodup_nil, ?_, hrefl _, by simp, fun t _ => rfl, by simp⟩ (by simp)
  intro i
  simp [Array.getD_eq_getD_getElem?, Array.getElem?_replicate]
  intro hi
  simp [hi]
theorem drawV {P : Program} {W0 : World} {ops : List Oper} {Q : IPost} {Kp : PPost} {E0 : Env} {st0 : Heap} (l : List Nat) (V : Nat → Value → Heap → Prop) (htopo : topoOK ops [] l = true) (hdst : dstOK ops = true)
    (hst : ∀ i v st st', New st st' → V i v st → V i v st')
    (hstep : ∀ (i : Nat) (o : Oper), ops[i]? = some o → ∀ (E : Env) (st : Heap), New st0 st →
      (∀ e ∈ o.after.toList, bnds e = true → ∀ (oj : Oper) (dj : Nat), ops[e.on]? = some oj → oj.dst = some dj → V e.on (E dj) st) →
      (∀ t, (∀ (j : Nat) (oj : Oper), ops[j]? = some oj → oj.dst = some t → ∃ e ∈ oj.after.toList, bnds e = true ∧ e.on = i) → E t = E0 t) →
      (bif wantedE ops.toArray o E then opX P W0 o E (fun v st' => New st st' ∧ V i v st') Kp st else V i undef st))
    (hend : ∀ (E : Env) (st : Heap), New st0 st → (∀ (i : Nat) (o : Oper) (d : Nat), ops[i]? = some o → o.dst = some d → V i (E d) st) → (∀ t, (∀ (j : Nat) (oj : Oper), ops[j]? = some oj → oj.dst ≠ some t) → E t = E0 t) → Q .normal E st)
    (hc : ∀ (j : Nat) (oj : Oper), ops[j]? = some oj → clsR P oj.op ≤ 3) : DrawI P W0 ops Q Kp E0 st0 :=
  drawR New New.refl (fun _ _ _ h h' => h.trans h') l V htopo hdst hst hstep hend hc
end Go.Proofs.YtadgciaclhjjkaaGreat
set_option linter.unusedVariables false
set_option linter.unusedSimpArgs false
set_option maxRecDepth 100000
set_option maxHeartbeats 2000000
namespace Go.Proofs.YtadgciaclhjjkaaGreat
open Go.RowKit (Below)
section
variable {W0 : World} {st : Heap}
theorem matCheck_spec (m : Mat) {cs : List Value} (hm : MatAt st cs m) : ICalls Tryz.prog W0 122 #[.agg cs.toArray] st fun e st' => e = .returned (.bool (checkM m)) ∧ New st st' := by
  obtain ⟨op, name, value, vals, kids⟩ := m
  have hm0 := hm
  unfold MatAt at hm
  obtain ⟨vv, kv, ks, rfl, hv, hk, hkids⟩ := hm
  obtain ⟨vb, vc, rfl⟩ := hv.slice
  obtain ⟨kb, kc, rfl⟩ := hk.slice
  refine enter (args := [_]) Tryz.func122 rfl ?_
  simp [Tryz.f122, go_sem]
  unfold NewP
  intro tb htb
  refine ⟨.ty 0, ?_⟩
  simp [go_sem]
  intro rb hrb
  refine ⟨.own rb 0 60, ?_⟩
  have hne : tb ≠ rb := by rintro rfl; rw [upd_same] at hrb; cases hrb
  have hne' := Ne.symm hne
  simp [go_sem, hne, hne']
  have hrb' : st rb = none := by rw [upd_ne _ _ hne'] at hrb; exact hrb
  have hN : New st (upd (upd st tb (.cells true [Val.i op, .string name, .string value, .slice vb vals.length vc, .slice kb kids.length kc] 5 (.ty 0))) rb (roomC 64 4096 rb)) := ((New.refl _).add htb).add hrb
  refine (holds_spec (.mk op name value vals kids) (deep := 1) (n := 64) (b := 4096) (r := rb) (hm0.new hN) (upd_same _ _ _) (by decide) (by decide) (by decide) (by decide) (by decide)).mono ?_
  rintro e st2 ⟨rfl, hr, hk2⟩
  simp [go_sem]
  refine ⟨rfl, ?_⟩
  intro k o hko
  exact hk2 _ _ (ne_of_new hko hrb') (hN _ _ hko)

/-- A slot that no operation writes ahead of this one. -/
def oldB (ops : List Oper) (t i : Nat) : Bool := ops.all fun o => o.dst != some t || o.after.toList.any fun e => bnds e && e.on == i
theorem oldB_spec {ops : List Oper} {t i : Nat} (h : oldB ops t i = true) : ∀ (j : Nat) (oj : Oper), ops[j]? = some oj → oj.dst = some t → ∃ e ∈ oj.after.toList, bnds e = true ∧ e.on = i := by
  intro j oj hj ho
  have := List.all_eq_true.1 h oj (List.mem_of_getElem? hj)
  simp only [ho, bne_self_eq_false, Bool.false_or] at this
  obtain ⟨e, he, h1⟩ := List.any_eq_true.1 this
  simp only [Bool.and_eq_true, beq_iff_eq] at h1
  exact ⟨e, he, h1⟩
theorem noB_spec {ops : List Oper} {t : Nat} (h : (ops.all fun o => o.dst != some t) = true) : ∀ (j : Nat) (oj : Oper), ops[j]? = some oj → oj.dst ≠ some t := by
  intro j oj hj ho
  have := List.all_eq_true.1 h oj (List.mem_of_getElem? hj)
  simp [ho] at this
end
end Go.Proofs.YtadgciaclhjjkaaGreat
