/- A region of any order whose operations only make new rows: each result by itself. Plain definitions and theorems, over any program. -/
import Derived.Test.YtahgfnbkkfpcnaaGreatC08
import Derived.Test.YtahgfnbkkfpcnaaGreatC10
set_option linter.unusedVariables false
set_option linter.unusedSimpArgs false
namespace Go.Proofs.YtahgfnbkkfpcnaaGreat
open Go.RowKit (Below)
def bnds (e : Edge) : Bool := Region.binds .any e
def topoOK (ops : List Oper) : List Nat → List Nat → Bool
 | seen, [] => (List.range ops.length).all fun i => seen.contains i
 | seen, i :: r => (match ops[i]? with | some o => o.after.toList.all (fun e => !bnds e || seen.contains e.on) | none => false) && topoOK ops (i :: seen) r
def dstOK : List Oper → Bool
 | [] => true
 | o :: r => (match o.dst with | some d => r.all (fun o' => o'.dst != some d) | none => true) && dstOK r
theorem dstOK_spec : ∀ {ops : List Oper}, dstOK ops = true → ∀ {i j : Nat} {o o' : Oper} {d : Nat}, ops[i]? = some o → ops[j]? = some o' → o.dst = some d → o'.dst = some d → i = j
 | [], _, i, j, o, o', d, hi, _, _, _ => by simp at hi
 | x :: r, h, i, j, o, o', d, hi, hj, ho, ho' => by
  unfold dstOK at h
  rw [Bool.and_eq_true] at h
  cases i with
  | zero =>
   simp at hi
   subst hi
   cases j with
   | zero => rfl
   | succ j =>
    simp at hj
    rw [ho] at h
    have := List.all_eq_true.1 h.1 o' (List.mem_of_getElem? hj)
    simp [ho'] at this
  | succ i =>
   simp at hi
   cases j with
   | zero =>
    simp at hj
    subst hj
    rw [ho'] at h
    have := List.all_eq_true.1 h.1 o (List.mem_of_getElem? hi)
    simp [ho] at this
   | succ j =>
    simp at hj
    rw [dstOK_spec h.2 hi hj ho ho']
theorem drawJ {P : Program} {W0 : World} {ops : List Oper} {Q : IPost} {Kp : PPost} {E0 : Env} {st0 : Heap} (l : List Nat) (J : List Nat → Env → Heap → Prop) (htopo : topoOK ops [] l = true) (h0 : J [] E0 st0)
  (hstep : ∀ (i : Nat) (o : Oper), ops[i]? = some o → ∀ (done : List Nat) (E : Env) (st : Heap), i ∉ done → (∀ e ∈ o.after.toList, bnds e = true → e.on ∈ done) →
   (∀ (j : Nat) (oj : Oper), j ∈ done → ops[j]? = some oj → ∀ e ∈ oj.after.toList, bnds e = true → e.on ∈ done) → J done E st →
   (bif z02 ops.toArray o E then opX P W0 o E (fun v st' => J (i :: done) (E.put o.dst v) st') Kp st else J (i :: done) (E.put o.dst undef) st))
  (hend : ∀ (done : List Nat) (E : Env) (st : Heap), (∀ i, i < ops.length → i ∈ done) → J done E st → Q .normal E st)
  (hc : ∀ (j : Nat) (oj : Oper), ops[j]? = some oj → clsR P oj.op ≤ 3) : DrawI P W0 ops Q Kp E0 st0 := by
 -- where one stands
 let Inv (listed : Array Bool) (done : List Nat) (E : Env) (st : Heap) : Prop := listed.size = ops.length ∧ done.Nodup ∧ (∀ i, i ∈ done ↔ i < ops.length ∧ listed.getD i false = true) ∧ J done E st ∧ (∀ (j : Nat) (oj : Oper), j ∈ done → ops[j]? = some oj → ∀ e ∈ oj.after.toList, bnds e = true → e.on ∈ done)
 have hready : ∀ (listed : Array Bool) (done : List Nat) (E : Env) (st : Heap), Inv listed done E st → ∀ i, i ∈ Region.ready .any ops.toArray listed ↔ (i < ops.length ∧ i ∉ done ∧ ∃ o, ops[i]? = some o ∧ ∀ e ∈ o.after.toList, bnds e = true → listed.getD e.on false = true) := by
  intro listed done E st ⟨hsz, hnd, hdn, _⟩ i
  unfold Region.ready
  simp only [List.mem_filter, List.mem_range, List.size_toArray, Bool.and_eq_true, Bool.not_eq_true', List.getElem?_toArray]
  constructor
  ·rintro ⟨hi, h1, h2⟩
   refine ⟨hi, ?_, ?_⟩
   ·intro hm
    have := (hdn i).1 hm
    rw [Array.getD_eq_getD_getElem?] at this h1
    have hz : listed[i]? = some listed[i] := Array.getElem?_eq_getElem (by omega)
    rw [hz] at this h1
    simp at this h1
    rw [this.2] at h1
    cases h1
   ·cases ho : ops[i]? with
    | none => rw [ho] at h2; cases h2
    | some o =>
     rw [ho] at h2
     simp only [Option.map_some, Option.getD_some, Array.all_eq_true_iff_forall_mem, Bool.or_eq_true, Bool.not_eq_true'] at h2
     refine ⟨o, rfl, fun e he hb => ?_⟩
     rcases h2 e (by simpa using he) with h | h
     ·unfold bnds at hb; rw [hb] at h; cases h
     ·exact h
  ·rintro ⟨hi, hnot, o, ho, hall⟩
   refine ⟨hi, ?_, ?_⟩
   ·rw [Array.getD_eq_getD_getElem?]
    have hz : listed[i]? = some listed[i] := Array.getElem?_eq_getElem (by omega)
    rw [hz]
    simp
    cases hb : listed[i] with
    | false => rfl
    | true =>
     exfalso
     refine hnot ((hdn i).2 ⟨hi, ?_⟩)
     rw [Array.getD_eq_getD_getElem?, hz]
     simpa using hb
   ·rw [ho]
    simp only [Option.map_some, Option.getD_some, Array.all_eq_true_iff_forall_mem, Bool.or_eq_true, Bool.not_eq_true']
    intro e he
    cases hb : bnds e with
    | false => exact .inl hb
    | true => exact .inr (hall e (by simpa using he) hb)
 have hall : ∀ (listed : Array Bool) (done : List Nat) (E : Env) (st : Heap), Inv listed done E st → Region.ready .any ops.toArray listed = [] → ∀ i, i < ops.length → i ∈ done := by
  intro listed done E st hI hr
  have hI' := hI
  obtain ⟨hsz, hnd, hdn, _⟩ := hI'
  have key : ∀ (r seen : List Nat), topoOK ops seen r = true → (∀ i ∈ seen, i ∈ done) → ∀ i, i < ops.length → i ∈ done := by
   intro r
   induction r with
   | nil =>
    intro seen h hs i hi
    unfold topoOK at h
    have := List.all_eq_true.1 h i (by simpa using hi)
    exact hs i (by simpa using this)
   | cons j r ih =>
    intro seen h hs
    unfold topoOK at h
    rw [Bool.and_eq_true] at h
    refine ih (j :: seen) h.2 ?_
    intro i hi
    rcases List.mem_cons.1 hi with rfl | hi
    ·rcases Classical.em (i ∈ done) with hd | hd
     ·exact hd
     ·exfalso
      cases ho : ops[i]? with
      | none => rw [ho] at h; cases h.1
      | some o =>
       rw [ho] at h
       have hlt := (List.getElem?_eq_some_iff.1 ho).1
       have : i ∈ Region.ready .any ops.toArray listed := (hready listed done E st hI i).2 ⟨hlt, hd, o, ho, fun e he hb => by
        have := List.all_eq_true.1 h.1 e he
        simp [hb] at this
        exact ((hdn e.on).1 (hs _ this)).2⟩
       rw [hr] at this
       cases this
    ·exact hs i hi
  exact key l [] htopo (by simp)
 have main : ∀ (fuel : Nat) (listed : Array Bool) (done : List Nat) (E : Env) (st : Heap), Inv listed done E st → done.length + fuel = ops.length → IAny P W0 ops.toArray Q Kp fuel listed E st := by
  intro fuel
  induction fuel with
  | zero =>
   intro listed done E st hI hf
   have hI' := hI
   obtain ⟨hsz, hnd, hdn, hk, hcl⟩ := hI'
   have hall' : ∀ i, i < ops.length → i ∈ done := by
    intro i hi
    rcases Classical.em (i ∈ done) with hd | hd
    ·exact hd
    ·exfalso
     have := z7i (l := i :: done) (l' := List.range ops.length) (List.nodup_cons.2 ⟨hd, hnd⟩) (by
      intro x hx
      rcases List.mem_cons.1 hx with rfl | hx
      ·simpa using hi
      ·simpa using ((hdn x).1 hx).1)
     simp at this
     omega
   refine ⟨?_, ?_⟩
   ·rw [List.eq_nil_iff_forall_not_mem]
    intro i hi
    obtain ⟨h1, h2, _⟩ := (hready listed done E st hI i).1 hi
    exact h2 (hall' i h1)
   ·exact hend done E st hall' hk
  | succ fuel ih =>
   intro listed done E st hI hf
   have hI' := hI
   obtain ⟨hsz, hnd, hdn, hk, hcl⟩ := hI'
   refine ⟨?_, ?_⟩
   ·intro hr
    have hall' := hall listed done E st hI hr
    exact hend done E st hall' hk
   ·intro i hi
    obtain ⟨hlt, hnot, o, ho, hdep⟩ := (hready listed done E st hI i).1 hi
    have hnext : ∀ (v : Value) (st' : Heap), J (i :: done) (E.put o.dst v) st' → IAny P W0 ops.toArray Q Kp fuel (listed.setIfInBounds i true) (E.put o.dst v) st' := by
     intro v st' hn
     refine ih _ (i :: done) _ _ ⟨by simpa using hsz, List.nodup_cons.2 ⟨hnot, hnd⟩, ?_, hn, ?_⟩ (by simp only [List.length_cons]; omega)
     ·intro k
      rw [List.mem_cons, hdn k, Array.getD_eq_getD_getElem?, Array.getD_eq_getD_getElem?, Array.getElem?_setIfInBounds]
      by_cases hki : i = k
      ·subst hki; simp [hlt, hsz]
      ·rw [if_neg hki]
       constructor
       ·rintro (h | h)
        ·exact absurd h.symm hki
        ·exact h
       ·exact fun h => .inr h
     ·intro j oj hj hoj e he hb
      rcases List.mem_cons.1 hj with rfl | hj
      ·rw [ho] at hoj; injection hoj with hoj; subst hoj
       refine List.mem_cons_of_mem _ ((hdn e.on).2 ⟨?_, hdep e he hb⟩)
       rcases Nat.lt_or_ge e.on ops.length with h | h
       ·exact h
       ·have := hdep e he hb
        rw [Array.getD_eq_getD_getElem?, Array.getElem?_eq_none (by omega)] at this
        cases this
      ·exact List.mem_cons_of_mem _ (hcl j oj hj hoj e he hb)
    have hdone : ∀ e ∈ o.after.toList, bnds e = true → e.on ∈ done := by
     intro e he hb
     refine (hdn e.on).2 ⟨?_, hdep e he hb⟩
     rcases Nat.lt_or_ge e.on ops.length with h | h
     ·exact h
     ·have := hdep e he hb
      rw [Array.getD_eq_getD_getElem?, Array.getElem?_eq_none (by omega)] at this
      cases this
    have hs := hstep i o ho done E st hnot hdone hcl hk
    unfold IOp
    rw [List.getElem?_toArray, ho]
    simp only
    cases hw : z02 ops.toArray o E with
    | true =>
     rw [hw] at hs
     simp only [cond_true] at hs ⊢
     exact opX_mono (hc i o ho) (fun v st' _ hk => hnext v st' hk) (fun _ _ => id) hs
    | false =>
     rw [hw] at hs
     simp only [cond_false] at hs ⊢
     exact hnext undef st hs
 refine main ops.toArray.size _ [] E0 st0 ⟨by simp, List.nodup_nil, ?_, h0, by simp⟩ (by simp)
 intro i
 simp [Array.getD_eq_getD_getElem?, Array.getElem?_replicate]
 intro hi
 simp [hi]
theorem drawR {P : Program} {W0 : World} {ops : List Oper} {Q : IPost} {Kp : PPost} {E0 : Env} {st0 : Heap} (R : Heap → Heap → Prop) (hrefl : ∀ s, R s s) (htrans : ∀ a b c, R a b → R b c → R a c) (l : List Nat) (V : Nat → Value → Heap → Prop) (htopo : topoOK ops [] l = true) (hdst : dstOK ops = true)
  (hst : ∀ i v st st', R st st' → V i v st → V i v st')
  (hstep : ∀ (i : Nat) (o : Oper), ops[i]? = some o → ∀ (E : Env) (st : Heap), R st0 st →
   (∀ e ∈ o.after.toList, bnds e = true → ∀ (oj : Oper) (dj : Nat), ops[e.on]? = some oj → oj.dst = some dj → V e.on (E dj) st) →
   (∀ t, (∀ (j : Nat) (oj : Oper), ops[j]? = some oj → oj.dst = some t → ∃ e ∈ oj.after.toList, bnds e = true ∧ e.on = i) → E t = E0 t) →
   (bif z02 ops.toArray o E then opX P W0 o E (fun v st' => R st st' ∧ V i v st') Kp st else V i undef st))
  (hend : ∀ (E : Env) (st : Heap), R st0 st → (∀ (i : Nat) (o : Oper) (d : Nat), ops[i]? = some o → o.dst = some d → V i (E d) st) → (∀ t, (∀ (j : Nat) (oj : Oper), ops[j]? = some oj → oj.dst ≠ some t) → E t = E0 t) → Q .normal E st)
  (hc : ∀ (j : Nat) (oj : Oper), ops[j]? = some oj → clsR P oj.op ≤ 3) : DrawI P W0 ops Q Kp E0 st0 := by
 -- where one stands
 let Inv (listed : Array Bool) (done : List Nat) (E : Env) (st : Heap) : Prop := listed.size = ops.length ∧ done.Nodup ∧ (∀ i, i ∈ done ↔ i < ops.length ∧ listed.getD i false = true) ∧ R st0 st ∧
  (∀ (i : Nat) (o : Oper) (d : Nat), ops[i]? = some o → i ∈ done → o.dst = some d → V i (E d) st) ∧ (∀ t, (∀ (j : Nat) (oj : Oper), ops[j]? = some oj → oj.dst = some t → j ∉ done) → E t = E0 t) ∧ (∀ (j : Nat) (oj : Oper), j ∈ done → ops[j]? = some oj → ∀ e ∈ oj.after.toList, bnds e = true → e.on ∈ done)
 have hready : ∀ (listed : Array Bool) (done : List Nat) (E : Env) (st : Heap), Inv listed done E st → ∀ i, i ∈ Region.ready .any ops.toArray listed ↔ (i < ops.length ∧ i ∉ done ∧ ∃ o, ops[i]? = some o ∧ ∀ e ∈ o.after.toList, bnds e = true → listed.getD e.on false = true) := by
  intro listed done E st ⟨hsz, hnd, hdn, _⟩ i
  unfold Region.ready
  simp only [List.mem_filter, List.mem_range, List.size_toArray, Bool.and_eq_true, Bool.not_eq_true', List.getElem?_toArray]
  constructor
  ·rintro ⟨hi, h1, h2⟩
   refine ⟨hi, ?_, ?_⟩
   ·intro hm
    have := (hdn i).1 hm
    rw [Array.getD_eq_getD_getElem?] at this h1
    have hz : listed[i]? = some listed[i] := Array.getElem?_eq_getElem (by omega)
    rw [hz] at this h1
    simp at this h1
    rw [this.2] at h1
    cases h1
   ·cases ho : ops[i]? with
    | none => rw [ho] at h2; cases h2
    | some o =>
     rw [ho] at h2
     simp only [Option.map_some, Option.getD_some, Array.all_eq_true_iff_forall_mem, Bool.or_eq_true, Bool.not_eq_true'] at h2
     refine ⟨o, rfl, fun e he hb => ?_⟩
     rcases h2 e (by simpa using he) with h | h
     ·unfold bnds at hb; rw [hb] at h; cases h
     ·exact h
  ·rintro ⟨hi, hnot, o, ho, hall⟩
   refine ⟨hi, ?_, ?_⟩
   ·rw [Array.getD_eq_getD_getElem?]
    have hz : listed[i]? = some listed[i] := Array.getElem?_eq_getElem (by omega)
    rw [hz]
    simp
    cases hb : listed[i] with
    | false => rfl
    | true =>
     exfalso
     refine hnot ((hdn i).2 ⟨hi, ?_⟩)
     rw [Array.getD_eq_getD_getElem?, hz]
     simpa using hb
   ·rw [ho]
    simp only [Option.map_some, Option.getD_some, Array.all_eq_true_iff_forall_mem, Bool.or_eq_true, Bool.not_eq_true']
    intro e he
    cases hb : bnds e with
    | false => exact .inl hb
    | true => exact .inr (hall e (by simpa using he) hb)
 have hall : ∀ (listed : Array Bool) (done : List Nat) (E : Env) (st : Heap), Inv listed done E st → Region.ready .any ops.toArray listed = [] → ∀ i, i < ops.length → i ∈ done := by
  intro listed done E st hI hr
  have hI' := hI
  obtain ⟨hsz, hnd, hdn, _⟩ := hI'
  have key : ∀ (r seen : List Nat), topoOK ops seen r = true → (∀ i ∈ seen, i ∈ done) → ∀ i, i < ops.length → i ∈ done := by
   intro r
   induction r with
   | nil =>
    intro seen h hs i hi
    unfold topoOK at h
    have := List.all_eq_true.1 h i (by simpa using hi)
    exact hs i (by simpa using this)
   | cons j r ih =>
    intro seen h hs
    unfold topoOK at h
    rw [Bool.and_eq_true] at h
    refine ih (j :: seen) h.2 ?_
    intro i hi
    rcases List.mem_cons.1 hi with rfl | hi
    ·rcases Classical.em (i ∈ done) with hd | hd
     ·exact hd
     ·exfalso
      cases ho : ops[i]? with
      | none => rw [ho] at h; cases h.1
      | some o =>
       rw [ho] at h
       have hlt := (List.getElem?_eq_some_iff.1 ho).1
       have : i ∈ Region.ready .any ops.toArray listed := (hready listed done E st hI i).2 ⟨hlt, hd, o, ho, fun e he hb => by
        have := List.all_eq_true.1 h.1 e he
        simp [hb] at this
        exact ((hdn e.on).1 (hs _ this)).2⟩
       rw [hr] at this
       cases this
    ·exact hs i hi
  exact key l [] htopo (by simp)
 have main : ∀ (fuel : Nat) (listed : Array Bool) (done : List Nat) (E : Env) (st : Heap), Inv listed done E st → done.length + fuel = ops.length → IAny P W0 ops.toArray Q Kp fuel listed E st := by
  intro fuel
  induction fuel with
  | zero =>
   intro listed done E st hI hf
   have hI' := hI
   obtain ⟨hsz, hnd, hdn, hk, hV, hE, hcl⟩ := hI'
   have hall' : ∀ i, i < ops.length → i ∈ done := by
    intro i hi
    rcases Classical.em (i ∈ done) with hd | hd
    ·exact hd
    ·exfalso
     have := z7i (l := i :: done) (l' := List.range ops.length) (List.nodup_cons.2 ⟨hd, hnd⟩) (by
      intro x hx
      rcases List.mem_cons.1 hx with rfl | hx
      ·simpa using hi
      ·simpa using ((hdn x).1 hx).1)
     simp at this
     omega
   refine ⟨?_, ?_⟩
   ·rw [List.eq_nil_iff_forall_not_mem]
    intro i hi
    obtain ⟨h1, h2, _⟩ := (hready listed done E st hI i).1 hi
    exact h2 (hall' i h1)
   ·exact hend E st hk (fun i o d ho hd => hV i o d ho (hall' i (List.getElem?_eq_some_iff.1 ho).1) hd) (fun t ht => hE t fun j oj ho hd => absurd hd (ht j oj ho))
  | succ fuel ih =>
   intro listed done E st hI hf
   have hI' := hI
   obtain ⟨hsz, hnd, hdn, hk, hV, hE, hcl⟩ := hI'
   refine ⟨?_, ?_⟩
   ·intro hr
    have hall' := hall listed done E st hI hr
    exact hend E st hk (fun i o d ho hd => hV i o d ho (hall' i (List.getElem?_eq_some_iff.1 ho).1) hd) (fun t ht => hE t fun j oj ho hd => absurd hd (ht j oj ho))
   ·intro i hi
    obtain ⟨hlt, hnot, o, ho, hdep⟩ := (hready listed done E st hI i).1 hi
    have hnext : ∀ (v : Value) (st' : Heap), R st st' → V i v st' → IAny P W0 ops.toArray Q Kp fuel (listed.setIfInBounds i true) (E.put o.dst v) st' := by
     intro v st' hn hv
     refine ih _ (i :: done) _ _ ⟨by simpa using hsz, List.nodup_cons.2 ⟨hnot, hnd⟩, ?_, htrans _ _ _ hk hn, ?_, ?_, ?_⟩ (by simp only [List.length_cons]; omega)
     ·intro k
      rw [List.mem_cons, hdn k, Array.getD_eq_getD_getElem?, Array.getD_eq_getD_getElem?, Array.getElem?_setIfInBounds]
      by_cases hki : i = k
      ·subst hki; simp [hlt, hsz]
      ·rw [if_neg hki]
       constructor
       ·rintro (h | h)
        ·exact absurd h.symm hki
        ·exact h
       ·exact fun h => .inr h
     ·intro k ok d hok hkd hd
      rcases List.mem_cons.1 hkd with rfl | hkd
      ·rw [ho] at hok; injection hok with hok; subst hok
       rw [hd]
       show V k ((E.set d v) d) st'
       simp [Env.set]
       exact hv
      ·have h1 : E.put o.dst v d = E d := by
        cases hod : o.dst with
        | none => rfl
        | some d' =>
         show E.set d' v d = E d
         unfold Env.set
         rw [if_neg]
         rintro rfl
         exact hnot ((dstOK_spec hdst ho hok hod hd) ▸ hkd)
       rw [h1]
       exact hst _ _ _ _ hn (hV k ok d hok hkd hd)
     ·intro t ht
      have h1 : E.put o.dst v t = E t := by
       cases hod : o.dst with
       | none => rfl
       | some d' =>
        show E.set d' v t = E t
        unfold Env.set
        rw [if_neg]
        rintro rfl
        exact ht i o ho hod (by simp)
      rw [h1]
      exact hE t fun j oj hoj hd hm => ht j oj hoj hd (by simp [hm])
     ·intro j oj hj hoj e he hb
      rcases List.mem_cons.1 hj with rfl | hj
      ·rw [ho] at hoj; injection hoj with hoj; subst hoj
       refine List.mem_cons_of_mem _ ((hdn e.on).2 ⟨?_, hdep e he hb⟩)
       rcases Nat.lt_or_ge e.on ops.length with h | h
       ·exact h
       ·have := hdep e he hb
        rw [Array.getD_eq_getD_getElem?, Array.getElem?_eq_none (by omega)] at this
        cases this
      ·exact List.mem_cons_of_mem _ (hcl j oj hj hoj e he hb)
    have hs := hstep i o ho E st hk (fun e he hb oj dj hoj hdj => hV e.on oj dj hoj ((hdn e.on).2 ⟨(List.getElem?_eq_some_iff.1 hoj).1, hdep e he hb⟩) hdj) (fun t ht => hE t fun j oj hoj hd hm => by
     obtain ⟨e, he, hb, hon⟩ := ht j oj hoj hd
     have := hcl j oj hm hoj e he hb
     rw [hon] at this
     exact hnot this)
    unfold IOp
    rw [List.getElem?_toArray, ho]
    simp only
    cases hw : z02 ops.toArray o E with
    | true =>
     rw [hw] at hs
     simp only [cond_true] at hs ⊢
     exact opX_mono (hc i o ho) (fun v st' _ hk => hnext v st' hk.1 hk.2) (fun _ _ => id) hs
    | false =>
     rw [hw] at hs
     simp only [cond_false] at hs ⊢
     exact hnext undef st (hrefl _) hs
 refine main ops.toArray.size _ [] E0 st0 ⟨by simp, List.nodup_nil, ?_, hrefl _, by simp, fun t _ => rfl, by simp⟩ (by simp)
 intro i
 simp [Array.getD_eq_getD_getElem?, Array.getElem?_replicate]
 intro hi
 simp [hi]
theorem drawV {P : Program} {W0 : World} {ops : List Oper} {Q : IPost} {Kp : PPost} {E0 : Env} {st0 : Heap} (l : List Nat) (V : Nat → Value → Heap → Prop) (htopo : topoOK ops [] l = true) (hdst : dstOK ops = true)
  (hst : ∀ i v st st', New st st' → V i v st → V i v st')
  (hstep : ∀ (i : Nat) (o : Oper), ops[i]? = some o → ∀ (E : Env) (st : Heap), New st0 st →
   (∀ e ∈ o.after.toList, bnds e = true → ∀ (oj : Oper) (dj : Nat), ops[e.on]? = some oj → oj.dst = some dj → V e.on (E dj) st) →
   (∀ t, (∀ (j : Nat) (oj : Oper), ops[j]? = some oj → oj.dst = some t → ∃ e ∈ oj.after.toList, bnds e = true ∧ e.on = i) → E t = E0 t) →
   (bif z02 ops.toArray o E then opX P W0 o E (fun v st' => New st st' ∧ V i v st') Kp st else V i undef st))
  (hend : ∀ (E : Env) (st : Heap), New st0 st → (∀ (i : Nat) (o : Oper) (d : Nat), ops[i]? = some o → o.dst = some d → V i (E d) st) → (∀ t, (∀ (j : Nat) (oj : Oper), ops[j]? = some oj → oj.dst ≠ some t) → E t = E0 t) → Q .normal E st)
  (hc : ∀ (j : Nat) (oj : Oper), ops[j]? = some oj → clsR P oj.op ≤ 3) : DrawI P W0 ops Q Kp E0 st0 :=
 drawR New New.refl (fun _ _ _ h h' => h.trans h') l V htopo hdst hst hstep hend hc
set_option maxRecDepth 100000
set_option maxHeartbeats 2000000
def NInv (s : ByteArray) (i : Nat) : Prop := (i = 0 ∨ ¬ (48 ≤ (s.data.toList.getD 0 0).toNat ∧ (s.data.toList.getD 0 0).toNat ≤ 57)) ∧ (s.data.toList.all fun x => z16 x.toNat) = ((s.data.toList.drop i).all fun x => z16 x.toNat)
section
variable {W0 : World} {st : Heap}
theorem zdb {s : ByteArray} (hs : s.size < 2 ^ 60) : z00 Tryz.prog W0 136 #[.string s] st fun e st' => e = .returned (.bool (labelM s.data.toList)) ∧ st' = st := by
 refine enter (args := [_]) Tryz.func136 rfl ?_
 have hsz : s.data.toList.length = s.size := by simp
 generalize hres : labelM s.data.toList = res
 unfold labelM at hres
 rw [hsz] at hres
 simp [Tryz.f136, go_sem]
 refine ⟨fun E st' => st' = st ∧ E 0 = .string s ∧ ∃ i : Nat, E 3 = Val.i i ∧ i ≤ s.size ∧ NInv s i,
  fun E _ => match E 3 with | .int _ i => s.size - i.toNat | _ => 0, ⟨st, .rfl' _, rfl, by simp [go_sem], 0, by simp [go_sem], by omega, .inl rfl, by simp⟩, ?_⟩
 rintro E st' ⟨rfl, e0, i, e3, hi, hf, hall⟩
 by_cases hlt : i < s.size
 ·have hlt' : ((i : Int) < s.size) = True := eq_true (by omega)
  have hbi := z90 s i hlt
  have hwi := wrS i (by omega)
  have hd : s.data.toList.drop i = s.data.toList[i]'(by omega) :: s.data.toList.drop (i + 1) := List.drop_eq_getElem_cons (by omega)
  have hgc : s.data.toList.getD i 0 = s.data.toList[i]'(by omega) := by rw [List.getD_eq_getElem?_getD, List.getElem?_eq_getElem (by omega)]; rfl
  rw [hd, List.all_cons, ← hgc] at hall
  generalize hc : (s.data.toList.getD i 0).toNat = c at hbi hall
  have hbad : z16 c = false → res = false := fun h => by rw [← hres, hall, h]; simp
  have hfirst : i = 0 → 48 ≤ c → c ≤ 57 → res = false := fun h0 h1 h2 => by
   subst h0
   rw [← hres, hc]; simp [h1, h2]
  have hgo : (i = 0 → ¬ (48 ≤ c ∧ c ≤ 57)) → z16 c = true → NInv s (i + 1) := fun h1 h2 => by
   refine ⟨.inr ?_, by rw [hall, h2]; simp⟩
   rcases hf with hf | hf
   ·have := h1 hf
    subst hf
    rw [hc]; exact this
   ·exact hf
  by_cases u : c = 95
  ·have qu : ((c : Int) = 95) = True := eq_true (by omega)
   have := hgo (fun _ => by omega) (by unfold z16; simp [u])
   simp [go_sem, e0, e3, hlt, hlt', hbi, qu, hwi]
   exact ⟨_, .rfl' _, ⟨rfl, i + 1, by omega, by omega, this⟩, by omega⟩
  have qu : ((c : Int) = 95) = False := eq_false (by omega)
  by_cases l : 97 ≤ c ∧ c ≤ 122
  ·have q1 : ((c : Int) < 97) = False := eq_false (by omega)
   have q2 : ((122 : Int) < c) = False := eq_false (by omega)
   have := hgo (fun _ => by omega) (by unfold z16; simp [l.1, l.2])
   simp [go_sem, e0, e3, hlt, hlt', hbi, qu, q1, q2, hwi]
   exact ⟨_, .rfl' _, ⟨rfl, i + 1, by omega, by omega, this⟩, by omega⟩
  have ql : (((c : Int) < 97) = True) ∨ (((c : Int) < 97) = False ∧ ((122 : Int) < c) = True) := by
   by_cases h : c < 97
   ·exact .inl (eq_true (by omega))
   ·exact .inr ⟨eq_false (by omega), eq_true (by omega)⟩
  by_cases d : 48 ≤ c ∧ c ≤ 57
  ·have p1 : ((c : Int) < 48) = False := eq_false (by omega)
   have p2 : ((57 : Int) < c) = False := eq_false (by omega)
   by_cases h0 : i = 0
   ·have p3 : ((i : Int) = 0) = True := eq_true (by omega)
    have := hfirst h0 d.1 d.2
    subst this
    have q0 : (i = 0) = True := eq_true h0
    rcases ql with q1 | ⟨q1, q2⟩
    ·simp [go_sem, e0, e3, hlt, hlt', hbi, qu, q1, p1, p2, p3, q0]
    ·simp [go_sem, e0, e3, hlt, hlt', hbi, qu, q1, q2, p1, p2, p3, q0]
   ·have p3 : ((i : Int) = 0) = False := eq_false (by omega)
    have := hgo (fun h => absurd h h0) (by unfold z16; simp [d.1, d.2])
    rcases ql with q1 | ⟨q1, q2⟩
    ·simp [go_sem, e0, e3, hlt, hlt', hbi, qu, q1, p1, p2, p3, h0, hwi]
     exact ⟨_, .rfl' _, ⟨rfl, i + 1, by omega, by omega, this⟩, by omega⟩
    ·simp [go_sem, e0, e3, hlt, hlt', hbi, qu, q1, q2, p1, p2, p3, h0, hwi]
     exact ⟨_, .rfl' _, ⟨rfl, i + 1, by omega, by omega, this⟩, by omega⟩
  ·have := hbad (by unfold z16; simp; omega)
   subst this
   have qd : (((c : Int) < 48) = True) ∨ (((c : Int) < 48) = False ∧ ((57 : Int) < c) = True) := by
    by_cases h : c < 48
    ·exact .inl (eq_true (by omega))
    ·exact .inr ⟨eq_false (by omega), eq_true (by omega)⟩
   rcases ql with q1 | ⟨q1, q2⟩ <;> rcases qd with p1 | ⟨p1, p2⟩
   ·simp [go_sem, e0, e3, hlt, hlt', hbi, qu, q1, p1]
   ·simp [go_sem, e0, e3, hlt, hlt', hbi, qu, q1, p1, p2]
   ·simp [go_sem, e0, e3, hlt, hlt', hbi, qu, q1, q2, p1]
   ·simp [go_sem, e0, e3, hlt, hlt', hbi, qu, q1, q2, p1, p2]
 ·have hlt' : ((i : Int) < s.size) = False := eq_false (by omega)
  have : i = s.size := by omega
  subst this
  rw [List.drop_eq_nil_of_le (by omega)] at hall
  have h1 : res = (decide (1 ≤ s.size) && decide (s.size ≤ 32)) := by
   rw [← hres, hall]
   rcases hf with hf | hf
   ·have : decide (1 ≤ s.size) = false := decide_eq_false (by omega)
    rw [this]; simp
   ·have : (decide (48 ≤ (s.data.toList.getD 0 0).toNat) && decide ((s.data.toList.getD 0 0).toNat ≤ 57)) = false := by
     rw [← Bool.not_eq_true, Bool.and_eq_true, decide_eq_true_eq, decide_eq_true_eq]; exact hf
    rw [this]; simp
  subst h1
  by_cases z : 1 ≤ s.size
  ·have q1 : ((1 : Int) ≤ s.size) = True := eq_true (by omega)
   by_cases z2 : s.size ≤ 32
   ·have q2 : ((s.size : Int) ≤ 32) = True := eq_true (by omega)
    simp [go_sem, e0, e3, q1, q2, z, z2]
   ·have q2 : ((s.size : Int) ≤ 32) = False := eq_false (by omega)
    simp [go_sem, e0, e3, q1, q2, z, z2]
  ·have q1 : ((1 : Int) ≤ s.size) = False := eq_false (by omega)
   simp [go_sem, e0, e3, q1, z]
theorem zgr {vv : Value} {l : List ByteArray} (h : RegF st 1 vv (l.map .string) l.length) : z00 Tryz.prog W0 202 #[vv] st fun e st' => e = .returned (.bool (valuesM l)) ∧ st' = st := by
  obtain ⟨base, cap, rfl⟩ := h.slice
  refine enter (args := [_]) Tryz.func202 rfl ?_
  generalize hres : valuesM l = res
  unfold valuesM at hres
  by_cases h1 : l.length < 1
  · have q1 : ((l.length : Int) < 1) = True := eq_true (by omega)
    have : res = false := by rw [← hres]; have : decide (1 ≤ l.length) = false := decide_eq_false (by omega)
                             rw [this]; simp
    subst this
    simp [Tryz.f202, go_sem, q1]
  have q1 : ((l.length : Int) < 1) = False := eq_false (by omega)
  by_cases h2 : 16 < l.length
  · have q2 : ((16 : Int) < l.length) = True := eq_true (by omega)
    have : res = false := by rw [← hres]; have : decide (l.length ≤ 16) = false := by simp; omega
                             rw [this]; simp
    subst this
    simp [Tryz.f202, go_sem, q1, q2]
  have q2 : ((16 : Int) < l.length) = False := eq_false (by omega)
  have hall : ((l.drop 0).all (fun v => decide (v.size ≤ 64)) && z2z (l.drop (0 - 1))) = res := by
    rw [← hres]
    have e1 : decide (1 ≤ l.length) = true := by simp; omega
    have e2 : decide (l.length ≤ 16) = true := by simp; omega
    rw [e1, e2]; simp
  simp [Tryz.f202, go_sem, q1, q2]
  obtain ⟨blk, off, rfl, hg⟩ := z0h h.src (by omega)
  refine ⟨fun E st' => st' = st ∧ E 0 = .slice (some ⟨blk, off, none⟩) l.length cap ∧ ∃ i : Nat, E 3 = Val.i i ∧ i ≤ l.length ∧ ((l.drop i).all (fun v => decide (v.size ≤ 64)) && z2z (l.drop (i - 1))) = res,
    fun E _ => match E 3 with | .int _ i => l.length - i.toNat | _ => 0, ⟨st, .rfl' _, rfl, by simp [go_sem], 0, by simp [go_sem], by omega, hall⟩, ?_⟩
  rintro E st' ⟨rfl, e0, i, e3, hi, hrec⟩
  by_cases hlt : i < l.length
  · have hlt' : ((i : Int) < l.length) = True := eq_true (by omega)
    have hgi := hg i (by omega)
    have hv : l[i]? = some l[i] := List.getElem?_eq_getElem hlt
    have hgv : (l.map Value.string)[i]? = some (.string l[i]) := by simp [hv]
    rw [hgv] at hgi
    have hd : l.drop i = l[i] :: l.drop (i + 1) := List.drop_eq_getElem_cons hlt
    rw [hd] at hrec
    simp only [List.all_cons] at hrec
    obtain ⟨v, hvv⟩ : ∃ v, l[i] = v := ⟨_, rfl⟩
    rw [hvv] at hgi hrec hd
    have hwi := wrS i (by omega)
    by_cases hbig : 64 < v.size
    · have p1 : ((64 : Int) < v.size) = True := eq_true (by omega)
      have : res = false := by rw [← hrec]; have : decide (v.size ≤ 64) = false := by simp; omega
                               rw [this]; simp
      subst this
      simp [go_sem, e0, e3, hlt, hlt', hgi, p1]
      refine draw [0, 1, 2, 3, 4, 5, 6, 7, 8, 9, 10, 11, 12, 14, 15, 16, 17, 13, 18, 19, 20, 21] (by kernel_rfl) ?_
      simp [go_sem, e0, e3, hlt, hlt', hgi, p1]
    have p1 : ((64 : Int) < v.size) = False := eq_false (by omega)
    have hsm : decide (v.size ≤ 64) = true := by simp; omega
    rw [hsm] at hrec
    simp only [Bool.true_and] at hrec
    by_cases hi0 : i = 0
    · have p2 : (0 < i) = False := eq_false (by omega)
      simp [go_sem, e0, e3, hlt, hlt', hgi, p1, p2, hwi]
      refine draw [0, 1, 2, 3, 4, 5, 6, 7, 8, 9, 10, 11, 12, 14, 15, 16, 17, 13, 18, 19, 20, 21] (by kernel_rfl) ?_
      simp [go_sem, e0, e3, hlt, hlt', hgi, p1, p2, hwi]
      refine ⟨st', .rfl' _, ⟨rfl, i + 1, by omega, by omega, ?_⟩, by omega⟩
      subst hi0
      simpa using hrec
    · have p2 : (0 < i) = True := eq_true (by omega)
      have hwm : IntKind.i64.wrap ((i : Int) - 1) = ((i - 1 : Nat) : Int) := by rw [z03 (by omega) (by omega)]; omega
      have hltm : i - 1 < l.length := by omega
      have hgm := hg (i - 1) (by omega)
      have hp : l[i - 1]? = some l[i - 1] := List.getElem?_eq_getElem hltm
      have hgp : (l.map Value.string)[i - 1]? = some (.string l[i - 1]) := by simp [hp]
      rw [hgp] at hgm
      obtain ⟨p, hpp⟩ : ∃ p, l[i - 1] = p := ⟨_, rfl⟩
      rw [hpp] at hgm
      have hd2 : l.drop (i - 1) = p :: v :: l.drop (i + 1) := by
        rw [List.drop_eq_getElem_cons hltm, hpp, show i - 1 + 1 = i by omega, hd]
      rw [hd2] at hrec
      simp only [z2z] at hrec
      have hle := leT_not v p
      have hmI : ((i - 1 : Nat) : Int) < l.length := by omega
      cases hlt2 : ltT p v with
      | false =>
        rw [hlt2] at hrec hle
        have : res = false := by rw [← hrec]; simp
        subst this
        simp [go_sem, e0, e3, hlt, hlt', hgi, p1, p2, hwi, hwm, hgm, hltm, hle]
        refine draw [0, 1, 2, 3, 4, 5, 6, 7, 8, 9, 10, 11, 12, 14, 15, 16, 17, 13, 18, 19, 20, 21] (by kernel_rfl) ?_
        simp [go_sem, e0, e3, hlt, hlt', hgi, p1, p2, hwi, hwm, hgm, hltm, hle]
      | true =>
        rw [hlt2] at hrec hle
        simp [go_sem, e0, e3, hlt, hlt', hgi, p1, p2, hwi, hwm, hgm, hltm, hle]
        refine draw [0, 1, 2, 3, 4, 5, 6, 7, 8, 9, 10, 11, 12, 14, 15, 16, 17, 13, 18, 19, 20, 21] (by kernel_rfl) ?_
        simp [go_sem, e0, e3, hlt, hlt', hgi, p1, p2, hwi, hwm, hgm, hltm, hle]
        refine ⟨st', .rfl' _, ⟨rfl, i + 1, by omega, by omega, ?_⟩, by omega⟩
        rw [show i + 1 - 1 = i by omega, hd]
        simpa using hrec
  · have hlt' : ((i : Int) < l.length) = False := eq_false (by omega)
    have : i = l.length := by omega
    subst this
    rw [List.drop_eq_nil_of_le (Nat.le_refl _)] at hrec
    have : z2z (l.drop (l.length - 1)) = true := by
      have : (l.drop (l.length - 1)).length = 1 := by simp; omega
      match l.drop (l.length - 1), this with
      | [x], _ => rfl
    rw [this] at hrec
    simp at hrec
    subst hrec
    simp [go_sem, e0, e3]
end
end Go.Proofs.YtahgfnbkkfpcnaaGreat
