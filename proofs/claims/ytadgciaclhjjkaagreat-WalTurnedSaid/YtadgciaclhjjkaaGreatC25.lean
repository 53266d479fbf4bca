/- A region of any order whose last operations wait for all that stand ahead of them: the first ones by themselves (each result), then the last ones, one by one. Plain definitions and theorems, over any program. -/
import Derived.Test.YtadgciaclhjjkaaGreatC10
import Derived.Test.YtadgciaclhjjkaaGreatC24
set_option linter.unusedVariables false
set_option linter.unusedSimpArgs false
namespace Go.Proofs.YtadgciaclhjjkaaGreat
open Go.RowKit (Below)
/-- What an operation waits for, at once or through others. -/
def reach (ops : List Oper) : Nat → List Nat → List Nat
  | 0, l => l
  | k + 1, l => reach ops k (l ++ (l.flatMap fun i => match ops[i]? with | some o => (o.after.toList.filter bnds).map (·.on) | none => []).filter fun j => !l.contains j)
def after1 (ops : List Oper) (i : Nat) : List Nat := match ops[i]? with | some o => (o.after.toList.filter bnds).map (·.on) | none => []
/-- From n on each operation waits for all that stand ahead. -/
def tailOK (ops : List Oper) (n : Nat) : Bool := (List.range ops.length).all fun t => decide (t < n) || (List.range t).all fun j => (reach ops ops.length (after1 ops t)).contains j
theorem reach_done {ops : List Oper} {done : List Nat} (hcl : ∀ (j : Nat) (oj : Oper), j ∈ done → ops[j]? = some oj → ∀ e ∈ oj.after.toList, bnds e = true → e.on ∈ done) : ∀ (k : Nat) (l : List Nat), (∀ i ∈ l, i ∈ done) → ∀ i ∈ reach ops k l, i ∈ done
  | 0, l, h, i, hi => h i hi
  | k + 1, l, h, i, hi => by
    refine reach_done hcl k _ ?_ i hi
    intro j hj
    rcases List.mem_append.1 hj with hj | hj
    · exact h j hj
    · obtain ⟨x, hx, hjx⟩ := List.mem_flatMap.1 (List.mem_filter.1 hj).1
      split at hjx
      · rename_i o ho
        obtain ⟨e, he, rfl⟩ := List.mem_map.1 hjx
        obtain ⟨he1, he2⟩ := List.mem_filter.1 he
        exact hcl x o (h x hx) ho e he1 he2
      · cases hjx
theorem tail_all {ops : List Oper} {n t : Nat} (ht : tailOK ops n = true) (hn : n ≤ t) (hl : t < ops.length) {done : List Nat} (hcl : ∀ (j : Nat) (oj : Oper), j ∈ done → ops[j]? = some oj → ∀ e ∈ oj.after.toList, bnds e = true → e.on ∈ done) (hd : ∀ i ∈ after1 ops t, i ∈ done) : ∀ j, j < t → j ∈ done := by
  intro j hj
  have h1 := List.all_eq_true.1 ht t (List.mem_range.2 hl)
  simp only [Bool.or_eq_true, decide_eq_true_eq] at h1
  rcases h1 with h1 | h1
  · omega
  · have h2 := List.all_eq_true.1 h1 j (List.mem_range.2 hj)
    exact reach_done hcl _ _ hd j (by simpa using h2)
theorem after1_spec {ops : List Oper} {t : Nat} {o : Oper} (ho : ops[t]? = some o) {done : List Nat} (h : ∀ e ∈ o.after.toList, bnds e = true → e.on ∈ done) : ∀ i ∈ after1 ops t, i ∈ done := by
  intro i hi
  unfold after1 at hi
  rw [ho] at hi
  obtain ⟨e, he, rfl⟩ := List.mem_map.1 hi
  obtain ⟨h1, h2⟩ := List.mem_filter.1 he
  exact h e h1 h2
theorem oldT_spec {ops : List Oper} {t i n : Nat} (h : oldB (ops.take n) t i = true) : ∀ (j : Nat) (oj : Oper), j < n → ops[j]? = some oj → oj.dst = some t → ∃ e ∈ oj.after.toList, bnds e = true ∧ e.on = i :=
  fun j oj hj ho hd => oldB_spec h j oj (by rw [List.getElem?_take, if_pos hj]; exact ho) hd
theorem noT_spec {ops : List Oper} {t n : Nat} (h : ((ops.take n).all fun o => o.dst != some t) = true) : ∀ (j : Nat) (oj : Oper), j < n → ops[j]? = some oj → oj.dst ≠ some t :=
  fun j oj hj ho => noB_spec h j oj (by rw [List.getElem?_take, if_pos hj]; exact ho)
theorem drawT {P : Program} {W0 : World} {ops : List Oper} {Q : IPost} {Kp : PPost} {E0 : Env} {st0 : Heap} (n : Nat) (l : List Nat) (V : Nat → Value → Heap → Prop) (htopo : topoOK ops [] l = true) (hdst : dstOK (ops.take n) = true) (htail : tailOK ops n = true) (hlen : n ≤ ops.length)
    (hst : ∀ i v st st', New st st' → V i v st → V i v st')
    (hstep : ∀ (i : Nat) (o : Oper), i < n → ops[i]? = some o → ∀ (E : Env) (st : Heap), New st0 st →
      (∀ e ∈ o.after.toList, bnds e = true → ∀ (oj : Oper) (dj : Nat), ops[e.on]? = some oj → oj.dst = some dj → V e.on (E dj) st) →
      (∀ t, (∀ (j : Nat) (oj : Oper), j < n → ops[j]? = some oj → oj.dst = some t → ∃ e ∈ oj.after.toList, bnds e = true ∧ e.on = i) → E t = E0 t) →
      (bif wantedE ops.toArray o E then opX P W0 o E (fun v st' => New st st' ∧ V i v st') Kp st else V i undef st))
    (hend : ∀ (E : Env) (st : Heap), New st0 st → (∀ (i : Nat) (o : Oper) (d : Nat), i < n → ops[i]? = some o → o.dst = some d → V i (E d) st) → (∀ t, (∀ (j : Nat) (oj : Oper), j < n → ops[j]? = some oj → oj.dst ≠ some t) → E t = E0 t) → IL P W0 ops.toArray Q Kp (ops.drop n) E st)
    (hc : ∀ (j : Nat) (oj : Oper), ops[j]? = some oj → clsR P oj.op ≤ 3) : DrawI P W0 ops Q Kp E0 st0 := by
  let Vi (done : List Nat) (E : Env) (st : Heap) : Prop := New st0 st ∧ (∀ (i : Nat) (o : Oper) (d : Nat), i < n → ops[i]? = some o → i ∈ done → o.dst = some d → V i (E d) st) ∧ (∀ t, (∀ (j : Nat) (oj : Oper), j < n → ops[j]? = some oj → oj.dst = some t → j ∉ done) → E t = E0 t)
  refine drawJ l (fun done E st => ((∀ i ∈ done, i < n) ∧ Vi done E st) ∨ ∃ t, n ≤ t ∧ (∀ i, i ∈ done ↔ i ≤ t) ∧ IL P W0 ops.toArray Q Kp (ops.drop (t + 1)) E st) htopo (.inl ⟨by simp, New.refl _, by simp, fun _ _ => rfl⟩) ?_ ?_ hc
  · intro i o ho done E st hnot hdeps hcl hJ
    have hil := (List.getElem?_eq_some_iff.1 ho).1
    -- a last operation
    have last : n ≤ i → (∀ j, j ∈ done ↔ j < i) → IL P W0 ops.toArray Q Kp (ops.drop i) E st → (bif wantedE ops.toArray o E then opX P W0 o E (fun v st' => ((∀ j ∈ i :: done, j < n) ∧ Vi (i :: done) (E.put o.dst v) st') ∨ ∃ t, n ≤ t ∧ (∀ j, j ∈ i :: done ↔ j ≤ t) ∧ IL P W0 ops.toArray Q Kp (ops.drop (t + 1)) (E.put o.dst v) st') Kp st
        else ((∀ j ∈ i :: done, j < n) ∧ Vi (i :: done) (E.put o.dst undef) st) ∨ ∃ t, n ≤ t ∧ (∀ j, j ∈ i :: done ↔ j ≤ t) ∧ IL P W0 ops.toArray Q Kp (ops.drop (t + 1)) (E.put o.dst undef) st) := by
      intro hni hdn hIL
      have hd : ops.drop i = o :: ops.drop (i + 1) := by
        rw [List.drop_eq_getElem_cons hil]
        congr 1
        rw [List.getElem?_eq_getElem hil] at ho
        exact Option.some.inj ho
      rw [hd] at hIL
      unfold IL at hIL
      have hmem : ∀ j, j ∈ i :: done ↔ j ≤ i := fun j => by
        rw [List.mem_cons, hdn j]
        omega
      cases hw : wantedE ops.toArray o E with
      | true =>
        rw [hw] at hIL
        simp only [cond_true] at hIL ⊢
        exact opX_mono (hc i o ho) (fun v st' _ hk => .inr ⟨i, hni, hmem, hk⟩) (fun _ _ => id) hIL
      | false =>
        rw [hw] at hIL
        simp only [cond_false] at hIL ⊢
        exact .inr ⟨i, hni, hmem, hIL⟩
    rcases hJ with ⟨hdn, hN, hV, hE⟩ | ⟨t, hnt, hdn, hIL⟩
    · rcases Nat.lt_or_ge i n with hin | hni
      · have hnext : ∀ (v : Value) (st' : Heap), New st st' → V i v st' → ((∀ j ∈ i :: done, j < n) ∧ Vi (i :: done) (E.put o.dst v) st') := by
          intro v st' hk hv
          refine ⟨fun j hj => ?_, hN.trans hk, ?_, ?_⟩
          · rcases List.mem_cons.1 hj with rfl | hj
            · exact hin
            · exact hdn j hj
          · intro k ok d hkn hok hkd hd
            rcases List.mem_cons.1 hkd with rfl | hkd
            · rw [ho] at hok; injection hok with hok; subst hok
              rw [hd]
              show V k ((E.set d v) d) st'
              simp [Env.set]
              exact hv
            · have h1 : E.put o.dst v d = E d := by
                cases hod : o.dst with
                | none => rfl
                | some d' =>
                  show E.set d' v d = E d
                  unfold Env.set
                  rw [if_neg]
                  rintro rfl
                  have e1 : (ops.take n)[i]? = some o := by rw [List.getElem?_take, if_pos hin]; exact ho
                  have e2 : (ops.take n)[k]? = some ok := by rw [List.getElem?_take, if_pos hkn]; exact hok
                  exact hnot ((dstOK_spec hdst e1 e2 hod hd) ▸ hkd)
              rw [h1]
              exact hst _ _ _ _ hk (hV k ok d hkn hok hkd hd)
          · intro t ht
            have h1 : E.put o.dst v t = E t := by
              cases hod : o.dst with
              | none => rfl
              | some d' =>
                show E.set d' v t = E t
                unfold Env.set
                rw [if_neg]
                rintro rfl
                exact ht i o hin ho hod (by simp)
            rw [h1]
            exact hE t fun j oj hjn hoj hd hm => ht j oj hjn hoj hd (by simp [hm])
        have hs := hstep i o hin ho E st hN (fun e he hb oj dj hoj hdj => hV e.on oj dj (hdn _ (hdeps e he hb)) hoj (hdeps e he hb) hdj) (fun t ht => hE t fun j oj hjn hoj hd hm => by
          obtain ⟨e, he, hb, hon⟩ := ht j oj hjn hoj hd
          have := hcl j oj hm hoj e he hb
          rw [hon] at this
          exact hnot this)
        cases hw : wantedE ops.toArray o E with
        | true =>
          rw [hw] at hs
          simp only [cond_true] at hs ⊢
          exact opX_mono (hc i o ho) (fun v st' _ hk => .inl (hnext v st' hk.1 hk.2)) (fun _ _ => id) hs
        | false =>
          rw [hw] at hs
          simp only [cond_false] at hs ⊢
          exact .inl (hnext undef st (New.refl _) hs)
      · have hall := tail_all htail hni hil hcl (after1_spec ho hdeps)
        have hin : i = n := by
          rcases Nat.lt_or_ge n i with h | h
          · have := hdn n (hall n h); omega
          · omega
        subst hin
        refine last (Nat.le_refl _) (fun j => ⟨fun h => hdn j h, fun h => hall j h⟩) (hend E st hN (fun k ok d hkn hok hd => hV k ok d hkn hok (hall k hkn) hd) (fun t ht => hE t fun j oj hjn hoj hd _ => ht j oj hjn hoj hd))
    · have hit : t < i := by
        rcases Nat.lt_or_ge t i with h | h
        · exact h
        · exact absurd ((hdn i).2 h) hnot
      have hall := tail_all htail (by omega) hil hcl (after1_spec ho hdeps)
      have : i = t + 1 := by
        rcases Nat.lt_or_ge (t + 1) i with h | h
        · have := (hdn (t + 1)).1 (hall (t + 1) h); omega
        · omega
      subst this
      exact last (by omega) (fun j => by rw [hdn j]; omega) hIL
  · intro done E st hall hJ
    rcases hJ with ⟨hdn, hN, hV, hE⟩ | ⟨t, hnt, hdn, hIL⟩
    · have hnl : n = ops.length := by
        rcases Nat.lt_or_ge n ops.length with h | h
        · have := hdn n (hall n h); omega
        · omega
      have := hend E st hN (fun k ok d hkn hok hd => hV k ok d hkn hok (hall k (List.getElem?_eq_some_iff.1 hok).1) hd) (fun t ht => hE t fun j oj hjn hoj hd _ => ht j oj hjn hoj hd)
      rw [hnl, List.drop_length] at this
      exact this
    · have : ops.drop (t + 1) = [] := by
        apply List.drop_eq_nil_of_le
        rcases Nat.lt_or_ge (t + 1) ops.length with h | h
        · have := (hdn (t + 1)).1 (hall (t + 1) h); omega
        · exact h
      rw [this] at hIL
      exact hIL
end Go.Proofs.YtadgciaclhjjkaaGreat
set_option linter.unusedVariables false
set_option linter.unusedSimpArgs false
set_option maxRecDepth 100000
set_option maxHeartbeats 2000000
namespace Go.Proofs.YtadgciaclhjjkaaGreat
open Go.RowKit (Below)
/-- The bodies from a place on, and where they end. -/
def framesM : Nat → Bs → Int → List Bs × Int
  | 0, b, a => ([], a)
  | k + 1, b, a => match frameGetM b a with
    | .ok (body, e) => (body :: (framesM k b e).1, (framesM k b e).2)
    | .error _ => ([], a)
def bodiesM (b : Bs) : List Bs := (framesM (b.length + 1) b 0).1
def endsM (b : Bs) : Int := (framesM (b.length + 1) b 0).2
/-- So far. -/
def FrAt (b : Bs) (a : Int) (done : List Bs) : Prop := (done.length : Int) ≤ a ∧ ∃ k : Nat, b.length < k + a ∧ a ≤ b.length ∧ bodiesM b = done ++ (framesM k b a).1 ∧ endsM b = (framesM k b a).2
theorem FrAt.zero (b : Bs) : FrAt b 0 [] := ⟨by simp, b.length + 1, by omega, by omega, rfl, rfl⟩
theorem FrAt.next {b body : Bs} {a : Int} {e : Nat} {done : List Bs} (h : FrAt b a done) (hg : frameGetM b a = .ok (body, e)) : FrAt b e (done ++ [body]) := by
  obtain ⟨h0, k, h1, h2, h3, h4⟩ := h
  obtain ⟨n1, n2, n3⟩ := frameGetM_next hg
  cases k with
  | zero => omega
  | succ k =>
    unfold framesM at h3 h4
    rw [hg] at h3 h4
    exact ⟨by simp; omega, k, by omega, by omega, by simpa using h3, h4⟩
theorem FrAt.end {b : Bs} {a k : Int} {done : List Bs} (h : FrAt b a done) (hg : frameGetM b a = .error k) : bodiesM b = done ∧ endsM b = a ∧ done.length ≤ b.length := by
  obtain ⟨h0, k, h1, h2, h3, h4⟩ := h
  cases k with
  | zero => omega
  | succ k =>
    unfold framesM at h3 h4
    rw [hg] at h3 h4
    exact ⟨by simpa using h3, h4, by omega⟩
theorem FrAt.none {b : Bs} {a : Int} {done : List Bs} (h : FrAt b a done) : ∃ rest, bodiesM b = done ++ rest := by
  obtain ⟨h0, k, h1, h2, h3, h4⟩ := h
  exact ⟨_, h3⟩
section
variable {W0 : World} {st : Heap}
theorem all_spec {base : Option Addr} {n c : Nat} : ICalls Tryz.prog W0 83 #[.slice base n c] st fun e st' => ∃ bx, e = .returned (.func (.func 147) #[] #[ptr bx]) ∧ st' bx = some (.cells true [.slice base n c] 1 (.ty 1)) ∧ New st st' ∧ st bx = none := by
  refine enter (args := [_]) Tryz.func83 rfl ?_
  simp [Tryz.f83, go_sem]
  unfold NewP
  intro bx hbx
  refine ⟨.ty 1, ?_⟩
  simp [go_sem]
  exact ⟨(New.refl st).add hbx, hbx⟩
theorem ends_spec {bv : Value} {b : Bs} {g0 : Tg} (hR : Reg st g0 1 bv (bytesV b) b.length) (hlen : b.length < 2 ^ 40) : ICalls Tryz.prog W0 84 #[bv] st fun e st' => e = .returned (.tuple #[Val.i (endsM b), .bool (decide (endsM b = b.length))]) ∧ New st st' := by
  obtain ⟨base, c, rfl⟩ := hR.slice
  refine ICalls_range (args := [_]) (by kernel_rfl) Tryz.func84 rfl (by simp [Tryz.f84]) (by kernel_rfl) ?_
  simp [Tryz.f84, go_sem]
  unfold NewP
  intro t1 ht1
  refine ⟨.ty 1, ?_⟩
  have k1 := (New.refl st).add (b := t1) (o := .cells true [.slice base b.length c] 1 (.ty 1)) ht1
  have g1 := upd_same st t1 (.cells true [.slice base b.length c] 1 (.ty 1))
  simp [go_sem]
  generalize upd st t1 (.cells true [.slice base b.length c] 1 (.ty 1)) = s1 at *
  intro t4 ht4
  refine ⟨.ty 1, ?_⟩
  have k2 := (New.refl s1).add (b := t4) (o := .cells true [Val.i 0] 1 (.ty 1)) ht4
  have g4 := upd_same s1 t4 (.cells true [Val.i 0] 1 (.ty 1))
  have g1' := k2 _ _ g1
  have n14 := ne_of_new g1 ht4
  have ht4s := k1.none ht4
  generalize upd s1 t4 (.cells true [Val.i 0] 1 (.ty 1)) = s2 at *
  have K2 := k1.trans k2
  simp [go_sem, g4, g1', cellsOf]
  refine all_spec.mono ?_
  rintro e s3 ⟨bx, rfl, gbx, k3, hbx⟩
  have g1b := k3 _ _ g1'
  have g4b := k3 _ _ g4
  have K3 := K2.trans k3
  have nb1 := ne_of_new g1' hbx
  have nb4 := ne_of_new g4 hbx
  simp [go_sem]
  refine ⟨147, #[ptr bx], by simp [go_sem], by kernel_rfl, ?_⟩
  intro D l T fn hD hDl hl hrec hT
  generalize hE0 : (Env.set _ _ _ : Env) = E0 at hT
  have e1 : E0 1 = ptr t1 := by subst hE0; simp [go_sem]
  have e4 : E0 4 = ptr t4 := by subst hE0; simp [go_sem]
  generalize hR0 : ({ state := .ready, pending := none, fn := fn, tmps := T, params := #[8, 9], assign := _, body := _, defers := D } : Loop) = R0
  obtain ⟨s4, hs4⟩ : ∃ s4, upd (upd s3 D (.other (.deferred (some [])))) l (.other (.loop R0)) = s4 := ⟨_, rfl⟩
  rw [hs4]
  have k4 : New s3 s4 := by rw [← hs4]; exact ((New.refl s3).add hD).add (by rw [upd_ne _ _ (Ne.symm hDl)]; exact hl)
  have hl4 : s4 l = some (.other (.loop R0)) := by rw [← hs4]; exact upd_same _ _ _
  have hD4 : s4 D = some (.other (.deferred (some []))) := by rw [← hs4, upd_ne _ _ hDl]; exact upd_same _ _ _
  have K4 := K3.trans k4
  have ne : ∀ {j : Nat} {o : HObj}, s3 j = some o → j ≠ l ∧ j ≠ D := fun h => ⟨(by rintro rfl; rw [h] at hl; cases hl), (by rintro rfl; rw [h] at hD; cases hD)⟩
  have hls := K3.none hl
  have hR0s : R0.state = .ready := by rw [← hR0]
  have hR0p : R0.pending = none := by rw [← hR0]
  refine ICalls.mono (all1_gen (l := l) (bx := bx) (bv := .slice base b.length c) (b := b) (I := fun a s => ∃ done, New st s ∧ s l = some (.other (.loop R0)) ∧ s D = some (.other (.deferred (some []))) ∧ s t1 = some (.cells true [.slice base b.length c] 1 (.ty 1)) ∧ s bx = some (.cells true [.slice base b.length c] 1 (.ty 1)) ∧ s t4 = some (.cells true [Val.i a] 1 (.ty 1)) ∧ FrAt b a done) (D := fun _ => False) hlen ?_ ?_ ?_ ?_) ?_
  · rintro a s ⟨done, i0, i1, i2, i3, i4, i5, i6⟩
    exact ⟨⟨_, _, i4⟩, g0, hR.new i0⟩
  · rintro a s s' hN ⟨done, i0, i1, i2, i3, i4, i5, i6⟩
    exact ⟨done, i0.trans hN, hN _ _ i1, hN _ _ i2, hN _ _ i3, hN _ _ i4, hN _ _ i5, i6⟩
  · exact ⟨[], K4, hl4, hD4, k4 _ _ g1b, k4 _ _ gbx, k4 _ _ g4b, FrAt.zero b⟩
  · rintro a s body e v ha hfg ⟨done, i0, i1, i2, i3, i4, i5, i6⟩ hV K Kp hKt hKf
    have hTs := hrec.1
    unfold YieldI callX
    refine ⟨R0, i1, by rw [← hR0]; simp, ?_⟩
    have hRf : R0.fn = fn ∧ R0.tmps = T ∧ R0.params = #[8, 9] := by rw [← hR0]; exact ⟨rfl, rfl, rfl⟩
    have hRa := congrArg Loop.assign hR0
    have hRb := congrArg Loop.body hR0
    simp only at hRa hRb
    rw [← hRa, ← hRb, hRf.1, hRf.2.1, hRf.2.2]
    obtain ⟨_, q1, q2, q3, q4, _⟩ := hrec
    simp
    refine RoundI_of (by kernel_rfl) (by simpa [hTs] using q1) (by simpa [hTs] using q2) q3 q4 ?_
    generalize hE1 : (fun t => ((T.setIfInBounds 8 (Val.i a)).setIfInBounds 9 v).getD t undef : Env) = E1
    have f8 : E1 8 = Val.i a := by rw [← hE1]; simp [Array.getD_eq_getD_getElem?, Array.getElem?_setIfInBounds, hTs]
    have fx : ∀ t, t ≠ 8 → t ≠ 9 → E1 t = E0 t := fun t h1 h2 => by
      rw [← hT t, ← hE1]
      simp [Array.getD_eq_getD_getElem?, Array.getElem?_setIfInBounds, Ne.symm h1, Ne.symm h2]
    have f1 : E1 1 = ptr t1 := by rw [fx 1 (by decide) (by decide), e1]
    have f4 : E1 4 = ptr t4 := by rw [fx 4 (by decide) (by decide), e4]
    clear hE1 fx hRa hRb
    simp [go_sem, f8]
    refine ⟨R0, i1, hR0s, ?_⟩
    generalize hR2 : ({ state := .busy, pending := R0.pending, fn := R0.fn, tmps := R0.tmps, params := R0.params, assign := R0.assign, body := R0.body, defers := R0.defers } : Loop) = R2
    obtain ⟨s0, hs0⟩ : ∃ s0, upd s l (.other (.loop R2)) = s0 := ⟨_, rfl⟩
    rw [hs0]
    have n1l : t1 ≠ l := (ne g1b).1
    have n4l : t4 ≠ l := (ne g4b).1
    have nbl : bx ≠ l := (ne gbx).1
    have nDl : D ≠ l := hDl
    have j0 : New st s0 := by rw [← hs0]; exact i0.put hls
    have jl : s0 l = some (.other (.loop R2)) := by rw [← hs0]; exact upd_same _ _ _
    have jD : s0 D = some (.other (.deferred (some []))) := by rw [← hs0, upd_ne _ _ (by first | exact nDl | exact nDl.symm)]; exact i2
    have j1 : s0 t1 = some (.cells true [.slice base b.length c] 1 (.ty 1)) := by rw [← hs0, upd_ne _ _ (by first | exact n1l | exact n1l.symm)]; exact i3
    have jb : s0 bx = some (.cells true [.slice base b.length c] 1 (.ty 1)) := by rw [← hs0, upd_ne _ _ (by first | exact nbl | exact nbl.symm)]; exact i4
    have j4 : s0 t4 = some (.cells true [Val.i a] 1 (.ty 1)) := by rw [← hs0, upd_ne _ _ (by first | exact n4l | exact n4l.symm)]; exact i5
    simp [go_sem, f1, f8, f4, j1]
    refine (frameGet_spec (.ty 1) (hR.new j0) hlen).mono ?_
    rintro ee s5 ⟨hN, hm⟩
    rw [hfg] at hm
    obtain ⟨v', rfl, hV'⟩ := hm
    have p4 := hN _ _ j4
    have pl := hN _ _ jl
    have n41 := n14.symm
    simp [go_sem, f4, p4]
    refine ⟨R2, (upd_ne _ _ (by first | exact n4l | exact n4l.symm)).trans pl, ?_⟩
    have hR2e : ∀ x y, ({ R2 with state := x, pending := y } : Loop) = { R0 with state := x, pending := y } := fun x y => by rw [← hR2]
    rw [hR2e]
    have hR00 : ({ R0 with state := .ready, pending := none } : Loop) = R0 := by rw [← hR0]
    rw [hR00]
    refine hKt _ ⟨done ++ [body], ((j0.trans hN).put ht4s).put hls, upd_same _ _ _, ?_, ?_, ?_, ?_, i6.next hfg⟩
    · rw [upd_ne _ _ (by first | exact nDl | exact nDl.symm), upd_ne _ _ (by rintro rfl; rw [g4b] at hD; cases hD)]; exact hN _ _ jD
    · rw [upd_ne _ _ (by first | exact n1l | exact n1l.symm), upd_ne _ _ (by first | exact n14 | exact n41)]; exact hN _ _ j1
    · rw [upd_ne _ _ (by first | exact nbl | exact nbl.symm), upd_ne _ _ (by first | exact nb4 | exact nb4.symm)]; exact hN _ _ jb
    · rw [upd_ne _ _ (by first | exact n4l | exact n4l.symm)]; exact upd_same _ _ _
  · rintro e st' ⟨rfl, ⟨a, k, hfg, done, i0, i1, i2, i3, i4, i5, i6⟩ | hF⟩
    · obtain ⟨hbo, hen, _⟩ := i6.end hfg
      refine ⟨R0, i1, by rw [hR0s]; simp, ?_⟩
      rw [hR0p]
      simp only [IWR_draw]
      refine draw [0, 5, 1, 2, 3, 4, 6] (by kernel_rfl) ?_
      generalize hS : upd st' l _ = S
      have m1 : S t1 = some (.cells true [.slice base b.length c] 1 (.ty 1)) := by rw [← hS]; exact (upd_ne _ _ (by have := (ne g1b).1; first | exact this | exact this.symm)).trans i3
      have m4 : S t4 = some (.cells true [Val.i a] 1 (.ty 1)) := by rw [← hS]; exact (upd_ne _ _ (by have := (ne g4b).1; first | exact this | exact this.symm)).trans i5
      have mD : S D = some (.other (.deferred (some []))) := by rw [← hS]; exact (upd_ne _ _ hDl).trans i2
      have mN : New st S := by rw [← hS]; exact i0.put hls
      have mDn : st D = none := K3.none hD
      simp [go_sem, e1, e4, m1, m4, cellsOf]
      rw [hen]
      refine ⟨by simp, ?_, ?_⟩
      · intro D' hD'
        simp at hD'
        subst hD'
        exact mD
      · simp [go_sem, shutM]
        exact mN.put mDn
    · exact hF.elim
end
end Go.Proofs.YtadgciaclhjjkaaGreat
