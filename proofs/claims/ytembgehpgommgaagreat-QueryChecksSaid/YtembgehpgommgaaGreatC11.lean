/- A region of any order whose operations only make new rows: each result by itself. Plain definitions and theorems, over any program. -/
import Derived.Test.YtembgehpgommgaaGreatC09
import Derived.Test.YtembgehpgommgaaGreatCTab
set_option linter.unusedVariables false
set_option linter.unusedSimpArgs false
namespace Go.Proofs.YtembgehpgommgaaGreat
open Go.RowKit (Below)

def bnds (e : Edge) : Bool := Region.binds .any e
/-- One order in which all operations may come; no slot is written twice. -/
def topoOK (ops : List Oper) : List Nat → List Nat → Bool
  | seen, [] => (List.range ops.length).all fun i => seen.contains i
  | seen, i :: r => (match ops[i]? with | some o => o.after.toList.all (fun e => !bnds e || seen.contains e.on) | none => false) && topoOK ops (i :: seen) r
def dstOK : List Oper → Bool
  | [] => true
  | o :: r => (match o.dst with | some d => r.all (fun o' => o'.dst != some d) | none => true) && dstOK r
theorem dstOK_spec : ∀ {ops : List Oper}, dstOK ops = true → ∀ {i j : Nat} {o o' : Oper} {d : Nat}, ops[i]? = some o → ops[j]? = some o' → o.dst = some d → o'.dst = some d → i = j
  | [], _, i, j, o, o', d, hi, _, _, _ => by simp at hi
  | x :: r, h, i, j, o, o', d, hi, hj, ho, ho' => by
    unfold dstOK at h
    rw [Bool.and_eq_true] at h
    cases i with
    | zero =>
      simp at hi
      subst hi
      cases j with
      | zero => rfl
      | succ j =>
        simp at hj
        rw [ho] at h
        have := List.all_eq_true.1 h.1 o' (List.mem_of_getElem? hj)
        simp [ho'] at this
    | succ i =>
      simp at hi
      cases j with
      | zero =>
        simp at hj
        subst hj
        rw [ho'] at h
        have := List.all_eq_true.1 h.1 o (List.mem_of_getElem? hi)
        simp [ho] at this
      | succ j =>
        simp at hj
        rw [dstOK_spec h.2 hi hj ho ho']
/-- The most general: an assertion on what is done so far. -/
theorem drawJ {P : Program} {W0 : World} {ops : List Oper} {Q : IPost} {Kp : PPost} {E0 : Env} {st0 : Heap} (l : List Nat) (J : List Nat → Env → Heap → Prop) (htopo : topoOK ops [] l = true) (h0 : J [] E0 st0)
    (hstep : ∀ (i : Nat) (o : Oper), ops[i]? = some o → ∀ (done : List Nat) (E : Env) (st : Heap), i ∉ done → (∀ e ∈ o.after.toList, bnds e = true → e.on ∈ done) →
      (∀ (j : Nat) (oj : Oper), j ∈ done → ops[j]? = some oj → ∀ e ∈ oj.after.toList, bnds e = true → e.on ∈ done) → J done E st →
      (bif wantedE ops.toArray o E then opX P W0 o E (fun v st' => J (i :: done) (E.put o.dst v) st') Kp st else J (i :: done) (E.put o.dst undef) st))
    (hend : ∀ (done : List Nat) (E : Env) (st : Heap), (∀ i, i < ops.length → i ∈ done) → J done E st → Q .normal E st)
    (hc : ∀ (j : Nat) (oj : Oper), ops[j]? = some oj → clsR P oj.op ≤ 3) : DrawI P W0 ops Q Kp E0 st0 := by
  -- where one stands
  let Inv (listed : Array Bool) (done : List Nat) (E : Env) (st : Heap) : Prop := listed.size = ops.length ∧ done.Nodup ∧ (∀ i, i ∈ done ↔ i < ops.length ∧ listed.getD i false = true) ∧ J done E st ∧ (∀ (j : Nat) (oj : Oper), j ∈ done → ops[j]? = some oj → ∀ e ∈ oj.after.toList, bnds e = true → e.on ∈ done)
  have hready : ∀ (listed : Array Bool) (done : List Nat) (E : Env) (st : Heap), Inv listed done E st → ∀ i, i ∈ Region.ready .any ops.toArray listed ↔ (i < ops.length ∧ i ∉ done ∧ ∃ o, ops[i]? = some o ∧ ∀ e ∈ o.after.toList, bnds e = true → listed.getD e.on false = true) := by
    intro listed done E st ⟨hsz, hnd, hdn, _⟩ i
    unfold Region.ready
    simp only [List.mem_filter, List.mem_range, List.size_toArray, Bool.and_eq_true, Bool.not_eq_true', List.getElem?_toArray]
    constructor
    · rintro ⟨hi, h1, h2⟩
      refine ⟨hi, ?_, ?_⟩
      · intro hm
        have := (hdn i).1 hm
        rw [Array.getD_eq_getD_getElem?] at this h1
        have hz : listed[i]? = some listed[i] := Array.getElem?_eq_getElem (by omega)
        rw [hz] at this h1
        simp at this h1
        rw [this.2] at h1
        cases h1
      · cases ho : ops[i]? with
        | none => rw [ho] at h2; cases h2
        | some o =>
          rw [ho] at h2
          simp only [Option.map_some, Option.getD_some, Array.all_eq_true_iff_forall_mem, Bool.or_eq_true, Bool.not_eq_true'] at h2
          refine ⟨o, rfl, fun e he hb => ?_⟩
          rcases h2 e (by simpa using he) with h | h
          · unfold bnds at hb; rw [hb] at h; cases h
          · exact h
    · rintro ⟨hi, hnot, o, ho, hall⟩
      refine ⟨hi, ?_, ?_⟩
      · rw [Array.getD_eq_getD_getElem?]
        have hz : listed[i]? = some listed[i] := Array.getElem?_eq_getElem (by omega)
        rw [hz]
        simp
        cases hb : listed[i] with
        | false => rfl
        | true =>
          exfalso
          refine hnot ((hdn i).2 ⟨hi, ?_⟩)
          rw [Array.getD_eq_getD_getElem?, hz]
          simpa using hb
      · rw [ho]
        simp only [Option.map_some, Option.getD_some, Array.all_eq_true_iff_forall_mem, Bool.or_eq_true, Bool.not_eq_true']
        intro e he
        cases hb : bnds e with
        | false => exact .inl hb
        | true => exact .inr (hall e (by simpa using he) hb)
  have hall : ∀ (listed : Array Bool) (done : List Nat) (E : Env) (st : Heap), Inv listed done E st → Region.ready .any ops.toArray listed = [] → ∀ i, i < ops.length → i ∈ done := by
    intro listed done E st hI hr
    have hI' := hI
    obtain ⟨hsz, hnd, hdn, _⟩ := hI'
    have key : ∀ (r seen : List Nat), topoOK ops seen r = true → (∀ i ∈ seen, i ∈ done) → ∀ i, i < ops.length → i ∈ done := by
      intro r
      induction r with
      | nil =>
        intro seen h hs i hi
        unfold topoOK at h
        have := List.all_eq_true.1 h i (by simpa using hi)
        exact hs i (by simpa using this)
      | cons j r ih =>
        intro seen h hs
        unfold topoOK at h
        rw [Bool.and_eq_true] at h
        refine ih (j :: seen) h.2 ?_
        intro i hi
        rcases List.mem_cons.1 hi with rfl | hi
        · rcases Classical.em (i ∈ done) with hd | hd
          · exact hd
          · exfalso
            cases ho : ops[i]? with
            | none => rw [ho] at h; cases h.1
            | some o =>
              rw [ho] at h
              have hlt := (List.getElem?_eq_some_iff.1 ho).1
              have : i ∈ Region.ready .any ops.toArray listed := (hready listed done E st hI i).2 ⟨hlt, hd, o, ho, fun e he hb => by
                have := List.all_eq_true.1 h.1 e he
                simp [hb] at this
                exact ((hdn e.on).1 (hs _ this)).2⟩
              rw [hr] at this
              cases this
        · exact hs i hi
    exact key l [] htopo (by simp)
  have main : ∀ (fuel : Nat) (listed : Array Bool) (done : List Nat) (E : Env) (st : Heap), Inv listed done E st → done.length + fuel = ops.length → IAny P W0 ops.toArray Q Kp fuel listed E st := by
    intro fuel
    induction fuel with
    | zero =>
      intro listed done E st hI hf
      have hI' := hI
      obtain ⟨hsz, hnd, hdn, hk, hcl⟩ := hI'
      have hall' : ∀ i, i < ops.length → i ∈ done := by
        intro i hi
        rcases Classical.em (i ∈ done) with hd | hd
        · exact hd
        · exfalso
          have := nodup_len (l := i :: done) (l' := List.range ops.length) (List.nodup_cons.2 ⟨hd, hnd⟩) (by
            intro x hx
            rcases List.mem_cons.1 hx with rfl | hx
            · simpa using hi
            · simpa using ((hdn x).1 hx).1)
          simp at this
          omega
      refine ⟨?_, ?_⟩
      · rw [List.eq_nil_iff_forall_not_mem]
        intro i hi
        obtain ⟨h1, h2, _⟩ := (hready listed done E st hI i).1 hi
        exact h2 (hall' i h1)
      · exact hend done E st hall' hk
    | succ fuel ih =>
      intro listed done E st hI hf
      have hI' := hI
      obtain ⟨hsz, hnd, hdn, hk, hcl⟩ := hI'
      refine ⟨?_, ?_⟩
      · intro hr
        have hall' := hall listed done E st hI hr
        exact hend done E st hall' hk
      · intro i hi
        obtain ⟨hlt, hnot, o, ho, hdep⟩ := (hready listed done E st hI i).1 hi
        have hnext : ∀ (v : Value) (st' : Heap), J (i :: done) (E.put o.dst v) st' → IAny P W0 ops.toArray Q Kp fuel (listed.setIfInBounds i true) (E.put o.dst v) st' := by
          intro v st' hn
          refine ih _ (i :: done) _ _ ⟨by simpa using hsz, List.nodup_cons.2 ⟨hnot, hnd⟩, ?_, hn, ?_⟩ (by simp only [List.length_cons]; omega)
          · intro k
            rw [List.mem_cons, hdn k, Array.getD_eq_getD_getElem?, Array.getD_eq_getD_getElem?, Array.getElem?_setIfInBounds]
            by_cases hki : i = k
            · subst hki; simp [hlt, hsz]
            · rw [if_neg hki]
              constructor
              · rintro (h | h)
                · exact absurd h.symm hki
                · exact h
              · exact fun h => .inr h
          · intro j oj hj hoj e he hb
            rcases List.mem_cons.1 hj with rfl | hj
            · rw [ho] at hoj; injection hoj with hoj; subst hoj
              refine List.mem_cons_of_mem _ ((hdn e.on).2 ⟨?_, hdep e he hb⟩)
              rcases Nat.lt_or_ge e.on ops.length with h | h
              · exact h
              · have := hdep e he hb
                rw [Array.getD_eq_getD_getElem?, Array.getElem?_eq_none (by omega)] at this
                cases this
            · exact List.mem_cons_of_mem _ (hcl j oj hj hoj e he hb)
        have hdone : ∀ e ∈ o.after.toList, bnds e = true → e.on ∈ done := by
          intro e he hb
          refine (hdn e.on).2 ⟨?_, hdep e he hb⟩
          rcases Nat.lt_or_ge e.on ops.length with h | h
          · exact h
          · have := hdep e he hb
            rw [Array.getD_eq_getD_getElem?, Array.getElem?_eq_none (by omega)] at this
            cases this
        have hs := hstep i o ho done E st hnot hdone hcl hk
        unfold IOp
        rw [List.getElem?_toArray, ho]
        simp only
        cases hw : wantedE ops.toArray o E with
        | true =>
          rw [hw] at hs
          simp only [cond_true] at hs ⊢
          exact opX_mono (hc i o ho) (fun v st' _ hk => hnext v st' hk) (fun _ _ => id) hs
        | false =>
          rw [hw] at hs
          simp only [cond_false] at hs ⊢
          exact hnext undef st hs
  refine main ops.toArray.size _ [] E0 st0 ⟨by simp, List.nodup_nil, ?_, h0, by simp⟩ (by simp)
  intro i
  simp [Array.getD_eq_getD_getElem?, Array.getElem?_replicate]
  intro hi
  simp [hi]
theorem drawR {P : Program} {W0 : World} {ops : List Oper} {Q : IPost} {Kp : PPost} {E0 : Env} {st0 : Heap} (R : Heap → Heap → Prop) (hrefl : ∀ s, R s s) (htrans : ∀ a b c, R a b → R b c → R a c) (l : List Nat) (V : Nat → Value → Heap → Prop) (htopo : topoOK ops [] l = true) (hdst : dstOK ops = true)
    (hst : ∀ i v st st', R st st' → V i v st → V i v st')
    (hstep : ∀ (i : Nat) (o : Oper), ops[i]? = some o → ∀ (E : Env) (st : Heap), R st0 st →
      (∀ e ∈ o.after.toList, bnds e = true → ∀ (oj : Oper) (dj : Nat), ops[e.on]? = some oj → oj.dst = some dj → V e.on (E dj) st) →
      (∀ t, (∀ (j : Nat) (oj : Oper), ops[j]? = some oj → oj.dst = some t → ∃ e ∈ oj.after.toList, bnds e = true ∧ e.on = i) → E t = E0 t) →
      (bif wantedE ops.toArray o E then opX P W0 o E (fun v st' => R st st' ∧ V i v st') Kp st else V i undef st))
    (hend : ∀ (E : Env) (st : Heap), R st0 st → (∀ (i : Nat) (o : Oper) (d : Nat), ops[i]? = some o → o.dst = some d → V i (E d) st) → (∀ t, (∀ (j : Nat) (oj : Oper), ops[j]? = some oj → oj.dst ≠ some t) → E t = E0 t) → Q .normal E st)
    (hc : ∀ (j : Nat) (oj : Oper), ops[j]? = some oj → clsR P oj.op ≤ 3) : DrawI P W0 ops Q Kp E0 st0 := by
  -- where one stands
  let Inv (listed : Array Bool) (done : List Nat) (E : Env) (st : Heap) : Prop := listed.size = ops.length ∧ done.Nodup ∧ (∀ i, i ∈ done ↔ i < ops.length ∧ listed.getD i false = true) ∧ R st0 st ∧
    (∀ (i : Nat) (o : Oper) (d : Nat), ops[i]? = some o → i ∈ done → o.dst = some d → V i (E d) st) ∧ (∀ t, (∀ (j : Nat) (oj : Oper), ops[j]? = some oj → oj.dst = some t → j ∉ done) → E t = E0 t) ∧ (∀ (j : Nat) (oj : Oper), j ∈ done → ops[j]? = some oj → ∀ e ∈ oj.after.toList, bnds e = true → e.on ∈ done)
  have hready : ∀ (listed : Array Bool) (done : List Nat) (E : Env) (st : Heap), Inv listed done E st → ∀ i, i ∈ Region.ready .any ops.toArray listed ↔ (i < ops.length ∧ i ∉ done ∧ ∃ o, ops[i]? = some o ∧ ∀ e ∈ o.after.toList, bnds e = true → listed.getD e.on false = true) := by
    intro listed done E st ⟨hsz, hnd, hdn, _⟩ i
    unfold Region.ready
    simp only [List.mem_filter, List.mem_range, List.size_toArray, Bool.and_eq_true, Bool.not_eq_true', List.getElem?_toArray]
    constructor
    · rintro ⟨hi, h1, h2⟩
      refine ⟨hi, ?_, ?_⟩
      · intro hm
        have := (hdn i).1 hm
        rw [Array.getD_eq_getD_getElem?] at this h1
        have hz : listed[i]? = some listed[i] := Array.getElem?_eq_getElem (by omega)
        rw [hz] at this h1
        simp at this h1
        rw [this.2] at h1
        cases h1
      · cases ho : ops[i]? with
        | none => rw [ho] at h2; cases h2
        | some o =>
          rw [ho] at h2
          simp only [Option.map_some, Option.getD_some, Array.all_eq_true_iff_forall_mem, Bool.or_eq_true, Bool.not_eq_true'] at h2
          refine ⟨o, rfl, fun e he hb => ?_⟩
          rcases h2 e (by simpa using he) with h | h
          · unfold bnds at hb; rw [hb] at h; cases h
          · exact h
    · rintro ⟨hi, hnot, o, ho, hall⟩
      refine ⟨hi, ?_, ?_⟩
      · rw [Array.getD_eq_getD_getElem?]
        have hz : listed[i]? = some listed[i] := Array.getElem?_eq_getElem (by omega)
        rw [hz]
        simp
        cases hb : listed[i] with
        | false => rfl
        | true =>
          exfalso
          refine hnot ((hdn i).2 ⟨hi, ?_⟩)
          rw [Array.getD_eq_getD_getElem?, hz]
          simpa using hb
      · rw [ho]
        simp only [Option.map_some, Option.getD_some, Array.all_eq_true_iff_forall_mem, Bool.or_eq_true, Bool.not_eq_true']
        intro e he
        cases hb : bnds e with
        | false => exact .inl hb
        | true => exact .inr (hall e (by simpa using he) hb)
  have hall : ∀ (listed : Array Bool) (done : List Nat) (E : Env) (st : Heap), Inv listed done E st → Region.ready .any ops.toArray listed = [] → ∀ i, i < ops.length → i ∈ done := by
    intro listed done E st hI hr
    have hI' := hI
    obtain ⟨hsz, hnd, hdn, _⟩ := hI'
    have key : ∀ (r seen : List Nat), topoOK ops seen r = true → (∀ i ∈ seen, i ∈ done) → ∀ i, i < ops.length → i ∈ done := by
      intro r
      induction r with
      | nil =>
        intro seen h hs i hi
        unfold topoOK at h
        have := List.all_eq_true.1 h i (by simpa using hi)
        exact hs i (by simpa using this)
      | cons j r ih =>
        intro seen h hs
        unfold topoOK at h
        rw [Bool.and_eq_true] at h
        refine ih (j :: seen) h.2 ?_
        intro i hi
        rcases List.mem_cons.1 hi with rfl | hi
        · rcases Classical.em (i ∈ done) with hd | hd
          · exact hd
          · exfalso
            cases ho : ops[i]? with
            | none => rw [ho] at h; cases h.1
            | some o =>
              rw [ho] at h
              have hlt := (List.getElem?_eq_some_iff.1 ho).1
              have : i ∈ Region.ready .any ops.toArray listed := (hready listed done E st hI i).2 ⟨hlt, hd, o, ho, fun e he hb => by
                have := List.all_eq_true.1 h.1 e he
                simp [hb] at this
                exact ((hdn e.on).1 (hs _ this)).2⟩
              rw [hr] at this
              cases this
        · exact hs i hi
    exact key l [] htopo (by simp)
  have main : ∀ (fuel : Nat) (listed : Array Bool) (done : List Nat) (E : Env) (st : Heap), Inv listed done E st → done.length + fuel = ops.length → IAny P W0 ops.toArray Q Kp fuel listed E st := by
    intro fuel
    induction fuel with
    | zero =>
      intro listed done E st hI hf
      have hI' := hI
      obtain ⟨hsz, hnd, hdn, hk, hV, hE, hcl⟩ := hI'
      have hall' : ∀ i, i < ops.length → i ∈ done := by
        intro i hi
        rcases Classical.em (i ∈ done) with hd | hd
        · exact hd
        · exfalso
          have := nodup_len (l := i :: done) (l' := List.range ops.length) (List.nodup_cons.2 ⟨hd, hnd⟩) (by
            intro x hx
            rcases List.mem_cons.1 hx with rfl | hx
            · simpa using hi
            · simpa using ((hdn x).1 hx).1)
          simp at this
          omega
      refine ⟨?_, ?_⟩
      · rw [List.eq_nil_iff_forall_not_mem]
        intro i hi
        obtain ⟨h1, h2, _⟩ := (hready listed done E st hI i).1 hi
        exact h2 (hall' i h1)
      · exact hend E st hk (fun i o d ho hd => hV i o d ho (hall' i (List.getElem?_eq_some_iff.1 ho).1) hd) (fun t ht => hE t fun j oj ho hd => absurd hd (ht j oj ho))
    | succ fuel ih =>
      intro listed done E st hI hf
      have hI' := hI
      obtain ⟨hsz, hnd, hdn, hk, hV, hE, hcl⟩ := hI'
      refine ⟨?_, ?_⟩
      · intro hr
        have hall' := hall listed done E st hI hr
        exact hend E st hk (fun i o d ho hd => hV i o d ho (hall' i (List.getElem?_eq_some_iff.1 ho).1) hd) (fun t ht => hE t fun j oj ho hd => absurd hd (ht j oj ho))
      · intro i hi
        obtain ⟨hlt, hnot, o, ho, hdep⟩ := (hready listed done E st hI i).1 hi
        have hnext : ∀ (v : Value) (st' : Heap), R st st' → V i v st' → IAny P W0 ops.toArray Q Kp fuel (listed.setIfInBounds i true) (E.put o.dst v) st' := by
          intro v st' hn hv
          refine ih _ (i :: done) _ _ ⟨by simpa using hsz, List.nodup_cons.2 ⟨hnot, hnd⟩, ?_, htrans _ _ _ hk hn, ?_, ?_, ?_⟩ (by simp only [List.length_cons]; omega)
          · intro k
            rw [List.mem_cons, hdn k, Array.getD_eq_getD_getElem?, Array.getD_eq_getD_getElem?, Array.getElem?_setIfInBounds]
            by_cases hki : i = k
            · subst hki; simp [hlt, hsz]
            · rw [if_neg hki]
              constructor
              · rintro (h | h)
                · exact absurd h.symm hki
                · exact h
              · exact fun h => .inr h
          · intro k ok d hok hkd hd
            rcases List.mem_cons.1 hkd with rfl | hkd
            · rw [ho] at hok; injection hok with hok; subst hok
              rw [hd]
              show V k ((E.set d v) d) st'
              simp [Env.set]
              exact hv
            · have h1 : E.put o.dst v d = E d := by
                cases hod : o.dst with
                | none => rfl
                | some d' =>
                  show E.set d' v d = E d
                  unfold Env.set
                  rw [if_neg]
                  rintro rfl
                  exact hnot ((dstOK_spec hdst ho hok hod hd) ▸ hkd)
              rw [h1]
              exact hst _ _ _ _ hn (hV k ok d hok hkd hd)
          · intro t ht
            have h1 : E.put o.dst v t = E t := by
              cases hod : o.dst with
              | none => rfl
              | some d' =>
                show E.set d' v t = E t
                unfold Env.set
                rw [if_neg]
                rintro rfl
                exact ht i o ho hod (by simp)
            rw [h1]
            exact hE t fun j oj hoj hd hm => ht j oj hoj hd (by simp [hm])
          · intro j oj hj hoj e he hb
            rcases List.mem_cons.1 hj with rfl | hj
            · rw [ho] at hoj; injection hoj with hoj; subst hoj
              refine List.mem_cons_of_mem _ ((hdn e.on).2 ⟨?_, hdep e he hb⟩)
              rcases Nat.lt_or_ge e.on ops.length with h | h
              · exact h
              · have := hdep e he hb
                rw [Array.getD_eq_getD_getElem?, Array.getElem?_eq_none (by omega)] at this
                cases this
            · exact List.mem_cons_of_mem _ (hcl j oj hj hoj e he hb)
        have hs := hstep i o ho E st hk (fun e he hb oj dj hoj hdj => hV e.on oj dj hoj ((hdn e.on).2 ⟨(List.getElem?_eq_some_iff.1 hoj).1, hdep e he hb⟩) hdj) (fun t ht => hE t fun j oj hoj hd hm => by
          obtain ⟨e, he, hb, hon⟩ := ht j oj hoj hd
          have := hcl j oj hm hoj e he hb
          rw [hon] at this
          exact hnot this)
        unfold IOp
        rw [List.getElem?_toArray, ho]
        simp only
        cases hw : wantedE ops.toArray o E with
        | true =>
          rw [hw] at hs
          simp only [cond_true] at hs ⊢
          exact opX_mono (hc i o ho) (fun v st' _ hk => hnext v st' hk.1 hk.2) (fun _ _ => id) hs
        | false =>
          rw [hw] at hs
          simp only [cond_false] at hs ⊢
          exact hnext undef st (hrefl _) hs
  refine main ops.toArray.size _ [] E0 st0 ⟨by simp, List.nodup_nil, ?_, hrefl _, by simp, fun t _ => rfl, by simp⟩ (by simp)
  intro i
  simp [Array.getD_eq_getD_getElem?, Array.getElem?_replicate]
  intro hi
  simp [hi]
theorem drawV {P : Program} {W0 : World} {ops : List Oper} {Q : IPost} {Kp : PPost} {E0 : Env} {st0 : Heap} (l : List Nat) (V : Nat → Value → Heap → Prop) (htopo : topoOK ops [] l = true) (hdst : dstOK ops = true)
    (hst : ∀ i v st st', New st st' → V i v st → V i v st')
    (hstep : ∀ (i : Nat) (o : Oper), ops[i]? = some o → ∀ (E : Env) (st : Heap), New st0 st →
      (∀ e ∈ o.after.toList, bnds e = true → ∀ (oj : Oper) (dj : Nat), ops[e.on]? = some oj → oj.dst = some dj → V e.on (E dj) st) →
      (∀ t, (∀ (j : Nat) (oj : Oper), ops[j]? = some oj → oj.dst = some t → ∃ e ∈ oj.after.toList, bnds e = true ∧ e.on = i) → E t = E0 t) →
      (bif wantedE ops.toArray o E then opX P W0 o E (fun v st' => New st st' ∧ V i v st') Kp st else V i undef st))
    (hend : ∀ (E : Env) (st : Heap), New st0 st → (∀ (i : Nat) (o : Oper) (d : Nat), ops[i]? = some o → o.dst = some d → V i (E d) st) → (∀ t, (∀ (j : Nat) (oj : Oper), ops[j]? = some oj → oj.dst ≠ some t) → E t = E0 t) → Q .normal E st)
    (hc : ∀ (j : Nat) (oj : Oper), ops[j]? = some oj → clsR P oj.op ≤ 3) : DrawI P W0 ops Q Kp E0 st0 :=
  drawR New New.refl (fun _ _ _ h h' => h.trans h') l V htopo hdst hst hstep hend hc
end Go.Proofs.YtembgehpgommgaaGreat
set_option linter.unusedVariables false
set_option linter.unusedSimpArgs false
namespace Go.Proofs.YtembgehpgommgaaGreat
open Go.RowKit (Below)
section
variable {P : Program} {W0 : World} {E : Env} {K : Value → Heap → Prop} {Kp : List PanicEntry → Heap → Prop} {st : Heap} {d : Option Nat} {ty : TypeId} {pos : String} {af : Array Edge} {g : Option (Nat × Bool)}
theorem panic_iface {x : Operand} {t : TypeId} {v : Value} (hx : E.ev x = .iface t v) (h : Kp (one (.iface t v)) st) : opX P W0 ⟨d, .panic x, ty, pos, af, g⟩ E K Kp st := by
  show opW P W0 ⟨d, .panic x, ty, pos, af, g⟩ E K Kp st
  unfold opW execOp
  simp only [hx]
  unfold Instr.panic
  simp
  exact h
/-- The same, left alone by a run. -/
def opQ (P : Program) (W0 : World) (o : Oper) (E : Env) (K : Value → Heap → Prop) (Kp : List PanicEntry → Heap → Prop) (st : Heap) : Prop := opX P W0 o E K Kp st
def panicY (y : Value) (r : Prop) (Kp : List PanicEntry → Heap → Prop) (st : Heap) : Prop := match y with
  | .iface t v => Kp (one (.iface t v)) st
  | _ => r
@[go_sem] theorem panicY_iface {r : Prop} {t : TypeId} {v : Value} : panicY (.iface t v) r Kp st = Kp (one (.iface t v)) st := (rfl)
@[go_sem ↓] theorem o_panic (x : Operand) : opX P W0 ⟨d, .panic x, ty, pos, af, g⟩ E K Kp st = panicY (E.ev x) (opQ P W0 ⟨d, .panic x, ty, pos, af, g⟩ E K Kp st) Kp st := by
  cases hx : E.ev x with
  | iface t v =>
    rw [panicY_iface]
    apply propext
    constructor
    · intro h
      have h : opW P W0 ⟨d, .panic x, ty, pos, af, g⟩ E K Kp st := h
      unfold opW execOp at h
      simp only [hx] at h
      unfold Instr.panic at h
      simp at h
      exact h
    · exact panic_iface hx
  | _ => rfl
end
end Go.Proofs.YtembgehpgommgaaGreat
set_option linter.unusedVariables false
set_option linter.unusedSimpArgs false
set_option maxRecDepth 100000
set_option maxHeartbeats 400000
namespace Go.Proofs.YtembgehpgommgaaGreat
open Go.RowKit (Below)
theorem extAdd : ExtF Tryz.prog 126 addSem := ⟨_, rfl, by kernel_rfl, by kernel_rfl, by kernel_rfl, by kernel_rfl⟩
/-- A sum that stops at the top. -/
def satAdd (x y : Nat) : Nat := if 2 ^ 64 ≤ x + y then 2 ^ 64 - 1 else x + y
theorem satAdd_lt {x y : Nat} : satAdd x y < 2 ^ 64 := by unfold satAdd; split <;> omega
def cellsU (h : List Nat) : List Value := h.map fun n : Nat => .int .u64 (n : Int)
/-- A histogram's row. -/
def HistAt (st : Heap) (r : Nat) (h : List Nat) : Prop := st r = some (.cells true (cellsU h) 7424 (.own r 0 120)) ∧ h.length = 7424 ∧ ∀ n ∈ h, n < 2 ^ 64
theorem zerosL_one (v : Value) : ∀ m, zerosL [v] m = List.replicate m v
  | 0 => rfl
  | m + 1 => by unfold zerosL; rw [zerosL_one v m]; rfl
theorem ClearI_full {P : Program} {t e bytes m c b n : Nat} {v : Value} {K : Value → Heap → Prop} {st : Heap} {xs : List Value} {g : Tg} (hi : slInfo P t = some (e, 1, bytes, [v])) (hb : st b = some (.cells true xs n g)) (hl : xs.length = m) (hn : m ≤ n)
    (h1 : v.oneCell' = true) (hk : K (.tuple #[]) (upd st b (.cells true (List.replicate m v) n g))) : ClearI P t (.slice (some ⟨b, 0, none⟩) m c) K st := by
  unfold ClearI clearX
  refine optK_iff.2 ⟨_, hi, ?_⟩
  simp only
  by_cases hm : m = 0
  · rw [if_pos hm]
    subst hm
    have : xs = [] := List.eq_nil_of_length_eq_zero hl
    subst this
    rw [show List.replicate 0 v = [] from rfl, upd_self hb] at hk
    exact hk
  rw [if_neg hm, zerosL_one]
  refine optK_iff.2 ⟨_, stN_splice _ 0 xs st hb (by simp [hl]) (by omega) (fun y hy => by rw [List.eq_of_mem_replicate hy]; exact h1), by trivial, ?_⟩
  have : splice xs 0 (List.replicate m v) = List.replicate m v := by
    unfold splice
    rw [List.take_zero, List.nil_append, List.drop_eq_nil_of_le (by simp [hl]), List.append_nil]
  rw [this]
  exact hk
section
variable {W0 : World} {st : Heap}
theorem wideAdd_spec {x y : Nat} (hx : x < 2 ^ 64) (hy : y < 2 ^ 64) : ICalls Tryz.prog W0 106 #[.int .u64 x, .int .u64 y] st fun e st' => e = .returned (.int .u64 (satAdd x y : Nat)) ∧ st' = st := by
  have hadd : ∀ {K : Value → Heap → Prop} {Kp : List PanicEntry → Heap → Prop}, K (.tuple #[.int .u64 (((x + y) % 2 ^ 64 : Nat) : Int), .int .u64 (((x + y) / 2 ^ 64 : Nat) : Int)]) st → callY Tryz.prog W0 (.func (.func 126) #[] #[]) [.int .u64 x, .int .u64 y, .int .u64 0] K Kp st := by
    intro K Kp hk
    rw [callY_ext _ _ extAdd]
    have hx' : IntKind.u64.wrap (x : Int) = x := wraps_u64 _ (by omega) (by omega)
    have hy' : IntKind.u64.wrap (y : Int) = y := wraps_u64 _ (by omega) (by omega)
    have h1 : addSem #[.int .u64 x, .int .u64 y, .int .u64 0] = pure (.tuple #[.int .u64 ((((x : Int).toNat + (y : Int).toNat + 0) % 2 ^ 64 : Nat) : Int), .int .u64 ((((x : Int).toNat + (y : Int).toNat + 0) / 2 ^ 64 : Nat) : Int)]) := rfl
    show wpS _ (addSem #[.int .u64 x, .int .u64 y, .int .u64 0]) _ _ _
    rw [h1, wpS_pure]
    simp only [Int.toNat_natCast, Nat.add_zero]
    exact hk
  refine enter (args := [_, _]) Tryz.func106 rfl ?_
  simp [Tryz.f106, go_sem]
  refine hadd ?_
  by_cases h : 2 ^ 64 ≤ x + y
  · have h1 : (x + y) / 2 ^ 64 = 1 := by omega
    simp [go_sem, h1]
    unfold satAdd
    rw [if_pos h]
    rfl
  · have h1 : (x + y) / 2 ^ 64 = 0 := by omega
    have h2 : (x + y) % 2 ^ 64 = x + y := by omega
    rw [h1, h2]
    simp [go_sem]
    unfold satAdd
    rw [if_neg h]
    simp
theorem upto_spec {r i : Nat} {h : List Nat} (hr : HistAt st r h) (hi : i < 7424) : ICalls Tryz.prog W0 80 #[ptr r, Val.i i] st fun e st' => e = .returned (.int .u64 ((h.take (i + 1)).foldl satAdd 0 : Nat)) ∧ st' = st := by
  obtain ⟨hb, hl, hn⟩ := hr
  have hw : IntKind.i64.wrap ((i : Int) + 1) = (i : Int) + 1 := wrap_id (by omega) (by omega)
  have q0 : ((0 : Int) ≤ (i : Int) + 1) = True := eq_true (by omega)
  have q2 : ((i : Int) + 1).toNat = i + 1 := by omega
  have q1 : i + 1 ≤ 7424 := by omega
  refine enter (args := [_, _]) Tryz.func80 rfl ?_
  simp [-List.reduceReplicate, Tryz.f80, go_sem, hw, q0, q1, q2]
  refine ⟨fun E st' => st' = st ∧ E 15 = .slice (some ⟨r, 0, none⟩) (i + 1) 7424 ∧ E 16 = Val.i (i + 1 : Nat) ∧ ∃ k : Nat, E 17 = Val.i k ∧ k ≤ i + 1 ∧ E 5 = .int .u64 ((h.take k).foldl satAdd 0 : Nat), fun E _ => match E 17 with | .int _ z => i + 1 - z.toNat | _ => 0, ⟨st, .rfl' _, rfl, by simp [go_sem], by simp [go_sem], 0, by simp [go_sem], by omega, by simp [go_sem]⟩, ?_⟩
  rintro E st' ⟨rfl, e15, e16, k, e17, hk, e5⟩
  by_cases hlt : k < i + 1
  · have hkl : k < h.length := by omega
    have q2 : ((k : Int) < (i : Int) + 1) = True := eq_true (by omega)
    have hget : (cellsU h)[k]? = some (.int .u64 h[k]) := by simp [cellsU, List.getElem?_eq_getElem hkl]
    have hwk : IntKind.i64.wrap ((k : Int) + 1) = (k : Int) + 1 := wrap_id (by omega) (by omega)
    have hs : ∀ l : List Nat, ∀ a, a < 2 ^ 64 → l.foldl satAdd a < 2 ^ 64 := by
      intro l
      induction l with
      | nil => intro a ha; exact ha
      | cons x l ih => intro a ha; exact ih _ satAdd_lt
    simp [-List.reduceReplicate, go_sem, e15, e16, e17, e5, hb, hget, q2, hwk, hkl]
    refine (wideAdd_spec (hs _ 0 (by omega)) (hn _ (List.getElem_mem hkl))).mono ?_
    rintro e st2 ⟨rfl, rfl⟩
    simp [-List.reduceReplicate, go_sem, e15, e16, e17, hwk]
    have hf : (h.take (k + 1)).foldl satAdd 0 = satAdd ((h.take k).foldl satAdd 0) h[k] := by
      rw [List.take_add_one, List.getElem?_eq_getElem hkl, List.foldl_append]
      rfl
    exact ⟨st2, .rfl' _, ⟨rfl, k + 1, by simp, by omega, by rw [hf]⟩, by omega⟩
  · have hk' : k = i + 1 := by omega
    subst hk'
    simp [-List.reduceReplicate, go_sem, e15, e16, e17, e5]
theorem histNew_spec : ICalls Tryz.prog W0 76 #[] st fun e st' => ∃ r, e = .returned (ptr r) ∧ st r = none ∧ New st st' ∧ HistAt st' r (List.replicate 7424 0) := by
  refine enter (args := []) Tryz.func76 rfl ?_
  simp [-List.reduceReplicate, Tryz.f76, go_sem]
  unfold NewP
  intro r hr
  refine ⟨.own r 0 120, ?_⟩
  simp [-List.reduceReplicate, go_sem]
  refine ClearI_full (m := 7424) si40 (upd_same _ _ _) (by rw [List.length_replicate]) (by omega) rfl ?_
  simp [-List.reduceReplicate, go_sem]
  refine ⟨hr, (New.refl st).add hr, by rw [upd_same]; simp [-List.reduceReplicate, cellsU], by simp [-List.reduceReplicate], by intro n hn; rw [List.eq_of_mem_replicate hn]; omega⟩
end
end Go.Proofs.YtembgehpgommgaaGreat
set_option linter.unusedVariables false
set_option linter.unusedSimpArgs false
set_option maxRecDepth 100000
set_option maxHeartbeats 400000
namespace Go.Proofs.YtembgehpgommgaaGreat
open Go.RowKit (Below)
section
variable {W0 : World} {st : Heap}
end
end Go.Proofs.YtembgehpgommgaaGreat
