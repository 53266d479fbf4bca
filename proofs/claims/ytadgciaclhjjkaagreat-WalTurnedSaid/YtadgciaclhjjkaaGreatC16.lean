/- A region of any order: each result by itself, and what holds of the heap by what is done. Plain theorems, over any program. -/
import Derived.Test.YtadgciaclhjjkaaGreatC10
set_option linter.unusedVariables false
set_option linter.unusedSimpArgs false
namespace Go.Proofs.YtadgciaclhjjkaaGreat
theorem drawG {P : Program} {W0 : World} {ops : List Oper} {Q : IPost} {Kp : PPost} {E0 : Env} {st0 : Heap} (l : List Nat) (V : Nat → Value → Prop) (G : List Nat → Heap → Prop) (htopo : topoOK ops [] l = true) (hdst : dstOK ops = true) (h0 : G [] st0)
    (hstep : ∀ (i : Nat) (o : Oper), ops[i]? = some o → ∀ (done : List Nat) (E : Env) (st : Heap), i ∉ done → G done st → (∀ e ∈ o.after.toList, bnds e = true → e.on ∈ done) →
      (∀ (j : Nat) (oj : Oper), j ∈ done → ops[j]? = some oj → ∀ e ∈ oj.after.toList, bnds e = true → e.on ∈ done) →
      (∀ e ∈ o.after.toList, bnds e = true → ∀ (oj : Oper) (dj : Nat), ops[e.on]? = some oj → oj.dst = some dj → V e.on (E dj)) →
      (∀ t, (∀ (j : Nat) (oj : Oper), ops[j]? = some oj → oj.dst = some t → ∃ e ∈ oj.after.toList, bnds e = true ∧ e.on = i) → E t = E0 t) →
      (bif wantedE ops.toArray o E then opX P W0 o E (fun v st' => V i v ∧ G (i :: done) st') Kp st else V i undef ∧ G (i :: done) st))
    (hend : ∀ (done : List Nat) (E : Env) (st : Heap), (∀ i, i < ops.length → i ∈ done) → G done st → (∀ (i : Nat) (o : Oper) (d : Nat), ops[i]? = some o → o.dst = some d → V i (E d)) → (∀ t, (∀ (j : Nat) (oj : Oper), ops[j]? = some oj → oj.dst ≠ some t) → E t = E0 t) → Q .normal E st)
    (hc : ∀ (j : Nat) (oj : Oper), ops[j]? = some oj → clsR P oj.op ≤ 3) : DrawI P W0 ops Q Kp E0 st0 := by
  refine drawJ l (fun done E st => G done st ∧ (∀ (i : Nat) (o : Oper) (d : Nat), ops[i]? = some o → i ∈ done → o.dst = some d → V i (E d)) ∧ (∀ t, (∀ (j : Nat) (oj : Oper), ops[j]? = some oj → oj.dst = some t → j ∉ done) → E t = E0 t)) htopo ⟨h0, by simp, fun _ _ => rfl⟩ ?_ ?_ hc
  · intro i o ho done E st hnot hdeps hcl hJ
    obtain ⟨hG, hV, hE⟩ := hJ
    have hnext : ∀ (v : Value) (st' : Heap), V i v → G (i :: done) st' → G (i :: done) st' ∧ (∀ (k : Nat) (ok : Oper) (d : Nat), ops[k]? = some ok → k ∈ i :: done → ok.dst = some d → V k (E.put o.dst v d)) ∧ (∀ t, (∀ (j : Nat) (oj : Oper), ops[j]? = some oj → oj.dst = some t → j ∉ i :: done) → E.put o.dst v t = E0 t) := by
      intro v st' hv hg
      refine ⟨hg, ?_, ?_⟩
      · intro k ok d hok hkd hd
        rcases List.mem_cons.1 hkd with rfl | hkd
        · rw [ho] at hok; injection hok with hok; subst hok
          rw [hd]
          show V k ((E.set d v) d)
          simp [Env.set]
          exact hv
        · have h1 : E.put o.dst v d = E d := by
            cases hod : o.dst with
            | none => rfl
            | some d' =>
              show E.set d' v d = E d
              unfold Env.set
              rw [if_neg]
              rintro rfl
              exact hnot ((dstOK_spec hdst ho hok hod hd) ▸ hkd)
          rw [h1]
          exact hV k ok d hok hkd hd
      · intro t ht
        have h1 : E.put o.dst v t = E t := by
          cases hod : o.dst with
          | none => rfl
          | some d' =>
            show E.set d' v t = E t
            unfold Env.set
            rw [if_neg]
            rintro rfl
            exact ht i o ho hod (by simp)
        rw [h1]
        exact hE t fun j oj hoj hd hm => ht j oj hoj hd (by simp [hm])
    have hs := hstep i o ho done E st hnot hG hdeps hcl (fun e he hb oj dj hoj hdj => hV e.on oj dj hoj (hdeps e he hb) hdj) (fun t ht => hE t fun j oj hoj hd hm => by
      obtain ⟨e, he, hb, hon⟩ := ht j oj hoj hd
      have := hcl j oj hm hoj e he hb
      rw [hon] at this
      exact hnot this)
    cases hw : wantedE ops.toArray o E with
    | true =>
      rw [hw] at hs
      simp only [cond_true] at hs ⊢
      exact opX_mono (hc i o ho) (fun v st' _ hk => hnext v st' hk.1 hk.2) (fun _ _ => id) hs
    | false =>
      rw [hw] at hs
      simp only [cond_false] at hs ⊢
      exact hnext undef st hs.1 hs.2
  · intro done E st hall hJ
    obtain ⟨hG, hV, hE⟩ := hJ
    exact hend done E st hall hG (fun i o d ho hd => hV i o d ho (hall i (List.getElem?_eq_some_iff.1 ho).1) hd) (fun t ht => hE t fun j oj ho hd => absurd hd (ht j oj ho))
end Go.Proofs.YtadgciaclhjjkaaGreat
set_option linter.unusedVariables false
set_option linter.unusedSimpArgs false
namespace Go.Proofs.YtadgciaclhjjkaaGreat
def readsT (o : Oper) : List Nat := o.op.operands.toList.filterMap fun | .tmp t => some t | _ => none
def isSel : Op → Bool
  | .select .. => true
  | _ => false
def afterB (o : Oper) : List Nat := (o.after.toList.filter bnds).map (·.on)
def dstAt (ops : List Oper) (i : Nat) : Option Nat := (ops[i]?).bind (·.dst)
/-- Each of a chain comes behind the one before it; what it reads of the known ones is done. -/
def chainB (ops : List Oper) (L : List Nat) : Option Nat → List Nat → Bool
  | _, [] => true
  | p, i :: r => (match ops[i]? with
    | some o => o.guard.isNone && !isSel o.op && (match p with | some p => (afterB o).contains p | none => true) && (readsT o).all (fun t => L.all fun j => dstAt ops j != some t || (afterB o).contains j)
    | none => false) && chainB ops L (some i) r
def knownB (ops : List Oper) (L : List Nat) : Bool := L.all fun i => match ops[i]? with
  | some o => o.guard.isNone && (afterB o).all (fun j => L.contains j)
  | none => false
def nodupB : List Nat → Bool
  | [] => true
  | i :: r => !r.contains i && nodupB r
theorem nodupB_spec : ∀ {l : List Nat}, nodupB l = true → l.Nodup
  | [], _ => List.nodup_nil
  | i :: r, h => by
    unfold nodupB at h
    rw [Bool.and_eq_true] at h
    exact List.nodup_cons.2 ⟨by simpa using h.1, nodupB_spec h.2⟩
def chainW (P : Program) (W0 : World) (ops : List Oper) (Q : IPost) (Kp : PPost) (F : Heap → Prop) : List (Nat × Bool) → Env → Heap → Prop
  | [], E, st => Q .normal E st
  | (i, f) :: r, E, st => match ops[i]? with
    | some o => opX P W0 o E (fun v st' => (f = true → F st') ∧ chainW P W0 ops Q Kp F r (E.put o.dst v) st') Kp st
    | none => False
def knownE (ops : List Oper) (val : Nat → Value) : List Nat → Env → Env
  | [], E => E
  | i :: r, E => knownE ops val r (match ops[i]? with | some o => E.put o.dst (val i) | none => E)
theorem put_ne {E : Env} {d : Option Nat} {v : Value} {t : Nat} (h : d ≠ some t) : E.put d v t = E t := by
  cases d with
  | none => rfl
  | some d => show E.set d v t = E t; unfold Env.set; rw [if_neg (by rintro rfl; exact h rfl)]
theorem put_eq {E : Env} {d : Option Nat} {v : Value} {t : Nat} (h : d = some t) : E.put d v t = v := by
  subst h
  show E.set t v t = v
  simp [Env.set]
theorem knownE_old {ops : List Oper} {val : Nat → Value} {t : Nat} : ∀ {l : List Nat} {E : Env}, (∀ j ∈ l, dstAt ops j ≠ some t) → knownE ops val l E t = E t
  | [], _, _ => rfl
  | i :: r, E, h => by
    unfold knownE
    rw [knownE_old fun j hj => h j (by simp [hj])]
    have := h i (by simp)
    unfold dstAt at this
    cases ho : ops[i]? with
    | some o =>
      rw [ho] at this
      exact put_ne this
    | none => rfl
theorem knownE_val {ops : List Oper} {val : Nat → Value} (hd : dstOK ops = true) : ∀ {l : List Nat} {E : Env}, l.Nodup → ∀ {i d : Nat}, i ∈ l → dstAt ops i = some d → knownE ops val l E d = val i
  | [], _, _, i, d, hi, _ => by cases hi
  | k :: r, E, hn, i, d, hi, hid => by
    unfold knownE
    have ⟨hk, hr⟩ := List.nodup_cons.1 hn
    rcases List.mem_cons.1 hi with rfl | hi
    · rw [knownE_old]
      · unfold dstAt at hid
        obtain ⟨o, ho, hod⟩ := Option.bind_eq_some_iff.1 hid
        rw [ho]
        exact put_eq hod
      · intro j hj hjd
        unfold dstAt at hid hjd
        obtain ⟨o, ho, hod⟩ := Option.bind_eq_some_iff.1 hid
        obtain ⟨o', ho', hod'⟩ := Option.bind_eq_some_iff.1 hjd
        exact hk ((dstOK_spec hd ho ho' hod hod') ▸ hj)
    · exact knownE_val hd hr hi hid
theorem mem_afterB {o : Oper} {j : Nat} : j ∈ afterB o ↔ ∃ e ∈ o.after.toList, bnds e = true ∧ e.on = j := by
  unfold afterB
  simp only [List.mem_map, List.mem_filter]
  constructor
  · rintro ⟨e, ⟨h1, h2⟩, h3⟩; exact ⟨e, h1, h2, h3⟩
  · rintro ⟨e, h1, h2, h3⟩; exact ⟨e, ⟨h1, h2⟩, h3⟩
/-- In a chain, one whose elder ones are all done is the first that is not. -/
theorem chain_head {ops : List Oper} {L : List Nat} {done : List Nat} : ∀ {r : List Nat} {p : Option Nat}, chainB ops L p r = true → (∀ c ∈ r, c ∉ done) → ∀ {i : Nat} {o : Oper}, i ∈ r → ops[i]? = some o → (∀ j ∈ afterB o, j ∈ done) → ∃ r', r = i :: r'
  | [], _, _, _, i, o, hi, _, _ => by cases hi
  | h :: r, p, hc, hnd, i, o, hi, ho, hd => by
    rcases List.mem_cons.1 hi with rfl | hi
    · exact ⟨r, rfl⟩
    · exfalso
      unfold chainB at hc
      rw [Bool.and_eq_true] at hc
      obtain ⟨r', hr'⟩ := chain_head hc.2 (fun c hc => hnd c (by simp [hc])) hi ho hd
      have hc2 := hc.2
      rw [hr'] at hc2
      unfold chainB at hc2
      rw [ho] at hc2
      simp only [Bool.and_eq_true] at hc2
      have := hc2.1.1.2
      exact hnd h (by simp) (hd h (by simpa using this))
theorem chain_op {ops : List Oper} {L : List Nat} {i : Nat} {r : List Nat} {p : Option Nat} {o : Oper} (h : chainB ops L p (i :: r) = true) (ho : ops[i]? = some o) : o.guard = none ∧ isSel o.op = false ∧ (∀ t ∈ readsT o, ∀ j ∈ L, dstAt ops j = some t → j ∈ afterB o) ∧ chainB ops L (some i) r = true := by
  unfold chainB at h
  rw [ho] at h
  simp only [Bool.and_eq_true] at h
  obtain ⟨⟨⟨⟨h1, h2⟩, h3⟩, h4⟩, h5⟩ := h
  refine ⟨by simpa using h1, by simpa using h2, ?_, h5⟩
  intro t ht j hj hjt
  have := List.all_eq_true.1 (List.all_eq_true.1 h4 t ht) j hj
  simpa [hjt] using this
theorem drawC {P : Program} {W0 : World} {ops : List Oper} {Q : IPost} {Kp : PPost} {E0 : Env} {st0 : Heap} (L : List Nat) (CP : List (Nat × Bool)) (val : Nat → Value) (F : Heap → Prop) (htopo : topoOK ops [] (L ++ CP.map (·.1)) = true) (hdst : dstOK ops = true) (hnd : nodupB (L ++ CP.map (·.1)) = true) (hall : (List.range ops.length).all (fun i => L.contains i || (CP.map (·.1)).contains i) = true) (hkn : knownB ops L = true) (hch : chainB ops L none (CP.map (·.1)) = true) (hlate : ∀ q ∈ CP, q.2 = false → ∀ o, ops[q.1]? = some o → ∀ j ∈ L, j ∈ afterB o)
    (hF : F st0)
    (hL : ∀ (i : Nat) (o : Oper), ops[i]? = some o → i ∈ L → ∀ (E : Env) (st : Heap), F st → (∀ e ∈ o.after.toList, bnds e = true → ∀ (oj : Oper) (dj : Nat), ops[e.on]? = some oj → oj.dst = some dj → E dj = val e.on) → (∀ t, (∀ (j : Nat) (oj : Oper), ops[j]? = some oj → oj.dst = some t → ∃ e ∈ oj.after.toList, bnds e = true ∧ e.on = i) → E t = E0 t) → opX P W0 o E (fun v st' => v = val i ∧ st' = st) Kp st)
    (hC : chainW P W0 ops Q Kp F CP (knownE ops val L E0) st0)
    (hc : ∀ (j : Nat) (oj : Oper), ops[j]? = some oj → clsR P oj.op ≤ 3) : DrawI P W0 ops Q Kp E0 st0 := by
  obtain ⟨C, hCC⟩ : ∃ C, CP.map (·.1) = C := ⟨_, rfl⟩
  rw [hCC] at htopo hnd hall hch
  have hndp := nodupB_spec hnd
  have hndL := (List.nodup_append.1 hndp).1
  have hndC := (List.nodup_append.1 hndp).2.1
  have hdisj := (List.nodup_append.1 hndp).2.2
  refine drawJ (L ++ C) (fun done E st => (F st ∨ ∀ i ∈ L, i ∈ done) ∧ (∀ i ∈ L, i ∈ done → ∀ d, dstAt ops i = some d → E d = val i) ∧ (∀ t, (∀ (j : Nat) (oj : Oper), ops[j]? = some oj → oj.dst = some t → j ∉ done) → E t = E0 t) ∧
    ∃ (Cd : List Nat) (Cr : List (Nat × Bool)), C = Cd ++ Cr.map (·.1) ∧ (∀ i ∈ Cd, i ∈ done) ∧ (∀ i ∈ Cr.map (·.1), i ∉ done) ∧ (∃ p, chainB ops L p (Cr.map (·.1)) = true) ∧ (∀ q ∈ Cr, q ∈ CP) ∧ ∃ E', chainW P W0 ops Q Kp F Cr E' st ∧ (∀ t, E t = E' t ∨ ∃ i ∈ L, i ∉ done ∧ dstAt ops i = some t) ∧ ∀ i ∈ L, ∀ d, dstAt ops i = some d → E' d = val i) htopo ?_ ?_ ?_ hc
  · refine ⟨.inl hF, by simp, fun _ _ => rfl, [], CP, hCC.symm, by simp, by simp, ⟨none, by rw [hCC]; exact hch⟩, fun _ h => h, knownE ops val L E0, hC, fun t => ?_, fun i hi d hd => knownE_val hdst hndL hi hd⟩
    by_cases h : ∃ i ∈ L, dstAt ops i = some t
    · obtain ⟨i, hi, hd⟩ := h
      exact .inr ⟨i, hi, by simp, hd⟩
    · exact .inl (knownE_old fun j hj hd => h ⟨j, hj, hd⟩).symm
  · rintro i o ho done E st hnot hdeps hcl ⟨hFs, hV, hE, Cd, Cr, hCe, hCd, hCr, ⟨p, hp⟩, hsub, E', hW, hag, hval⟩
    have hil : i < ops.length := (List.getElem?_eq_some_iff.1 ho).1
    have hid : dstAt ops i = o.dst := by unfold dstAt; rw [ho]; rfl
    have holdE : ∀ (v : Value) (t : Nat), (∀ (j : Nat) (oj : Oper), ops[j]? = some oj → oj.dst = some t → j ∉ i :: done) → E.put o.dst v t = E0 t := by
      intro v t ht
      rw [put_ne fun h => ht i o ho h (by simp)]
      exact hE t fun j oj hoj hd hm => ht j oj hoj hd (by simp [hm])
    have hin := List.all_eq_true.1 hall i (List.mem_range.2 hil)
    have hin : i ∈ L ∨ i ∈ C := by simpa using hin
    rcases hin with hiL | hiC
    · have hFs : F st := hFs.resolve_right fun h => hnot (h i hiL)
      have hk := List.all_eq_true.1 hkn i hiL
      rw [ho] at hk
      simp only [Bool.and_eq_true] at hk
      have hg : o.guard = none := by simpa using hk.1
      have hw : wantedE ops.toArray o E = true := by unfold wantedE; rw [hg]
      rw [hw]
      simp only [cond_true]
      have hs := hL i o ho hiL E st hFs (fun e he hb oj dj hoj hdj => hV e.on (by
          have := List.all_eq_true.1 hk.2 e.on (mem_afterB.2 ⟨e, he, hb, rfl⟩)
          simpa using this) (hdeps e he hb) dj (by unfold dstAt; rw [hoj]; exact hdj)) (fun t ht => hE t fun j oj hoj hd hm => by
        obtain ⟨e, he, hb, hon⟩ := ht j oj hoj hd
        have := hcl j oj hm hoj e he hb
        rw [hon] at this
        exact hnot this)
      refine opX_mono (hc i o ho) ?_ (fun _ _ => id) hs
      rintro v st' - ⟨rfl, rfl⟩
      refine ⟨.inl hFs, ?_, holdE _, Cd, Cr, hCe, fun j hj => by simp [hCd j hj], fun j hj => ?_, ⟨p, hp⟩, hsub, E', hW, ?_, hval⟩
      · intro j hj hjd d hd
        rcases List.mem_cons.1 hjd with rfl | hjd
        · exact put_eq (by rw [← hid]; exact hd)
        · rw [put_ne]
          · exact hV j hj hjd d hd
          · intro h
            rw [← hid] at h
            unfold dstAt at hd h
            obtain ⟨o1, ho1, hd1⟩ := Option.bind_eq_some_iff.1 hd
            obtain ⟨o2, ho2, hd2⟩ := Option.bind_eq_some_iff.1 h
            exact hnot ((dstOK_spec hdst ho1 ho2 hd1 hd2) ▸ hjd)
      · rintro hm
        rcases List.mem_cons.1 hm with rfl | hm
        · exact hdisj j hiL j (by rw [hCe]; exact List.mem_append_right _ hj) rfl
        · exact hCr j hj hm
      · intro t
        by_cases ht : o.dst = some t
        · left
          rw [put_eq ht, hval i hiL t (by rw [hid]; exact ht)]
        · rw [put_ne ht]
          rcases hag t with h | ⟨j, hj, hjd, hjt⟩
          · exact .inl h
          · refine .inr ⟨j, hj, ?_, hjt⟩
            intro hm
            rcases List.mem_cons.1 hm with rfl | hm
            · exact ht (by rw [← hid]; exact hjt)
            · exact hjd hm
    · have hiCr : i ∈ Cr.map (·.1) := by
        rw [hCe] at hiC
        rcases List.mem_append.1 hiC with h | h
        · exact absurd (hCd i h) hnot
        · exact h
      obtain ⟨r0, hr0⟩ := chain_head hp hCr hiCr ho (fun j hj => by
        obtain ⟨e, he, hb, rfl⟩ := mem_afterB.1 hj
        exact hdeps e he hb)
      obtain ⟨⟨i', f⟩, r', rfl, rfl, rfl⟩ : ∃ q r', Cr = q :: r' ∧ q.1 = i ∧ r'.map (·.1) = r0 := by
        cases Cr with
        | nil => cases hr0
        | cons q r' =>
          rw [List.map_cons] at hr0
          injection hr0 with h1 h2
          exact ⟨q, r', rfl, h1, h2⟩
      rw [List.map_cons] at hp hCe hCr
      simp only at ho hil hid hnot hdeps hE hiCr hr0 hiC
      obtain ⟨hg, hsel, hrd, hp'⟩ := chain_op hp ho
      have hw : wantedE ops.toArray o E = true := by unfold wantedE; rw [hg]
      rw [hw]
      simp only [cond_true]
      unfold chainW at hW
      rw [ho] at hW
      simp only at hW
      have hcong : ∀ x ∈ o.op.operands, E'.ev x = E.ev x := by
        intro x hx
        cases x with
        | tmp t =>
          have ht : t ∈ readsT o := List.mem_filterMap.2 ⟨.tmp t, Array.mem_toList_iff.2 hx, rfl⟩
          rcases hag t with h | ⟨j, hj, hjd, hjt⟩
          · exact h.symm
          · exfalso
            obtain ⟨e, he, hb, hon⟩ := mem_afterB.1 (hrd t ht j hj hjt)
            exact hjd (hon ▸ hdeps e he hb)
        | _ => rfl
      rw [opX_congr (E' := E) (by intro cs b h; rw [h] at hsel; simp [isSel] at hsel) hcong] at hW
      refine opX_mono (hc i' o ho) ?_ (fun _ _ => id) hW
      rintro v st' - ⟨hF', hW'⟩
      have hF' : F st' ∨ ∀ j ∈ L, j ∈ i' :: done := by
        cases f with
        | true => exact .inl (hF' rfl)
        | false =>
          refine .inr fun j hj => ?_
          obtain ⟨e, he, hb, hon⟩ := mem_afterB.1 (hlate (i', false) (hsub _ (by simp)) rfl o ho j hj)
          exact List.mem_cons_of_mem _ (hon ▸ hdeps e he hb)
      have hndCr : (i' :: r'.map (·.1)).Nodup := by rw [hCe] at hndC; exact (List.nodup_append.1 hndC).2.1
      have hne : ∀ j ∈ L, ∀ d, dstAt ops j = some d → o.dst ≠ some d := by
        intro j hj d hd h
        rw [← hid] at h
        unfold dstAt at hd h
        obtain ⟨o1, ho1, hd1⟩ := Option.bind_eq_some_iff.1 hd
        obtain ⟨o2, ho2, hd2⟩ := Option.bind_eq_some_iff.1 h
        have := dstOK_spec hdst ho1 ho2 hd1 hd2
        subst this
        exact hdisj j hj j hiC rfl
      refine ⟨hF', ?_, holdE _, Cd ++ [i'], r', by rw [hCe]; simp, ?_, ?_, ⟨_, hp'⟩, fun q hq => hsub q (by simp [hq]), _, hW', ?_, ?_⟩
      · intro j hj hjd d hd
        rw [put_ne (hne j hj d hd)]
        rcases List.mem_cons.1 hjd with rfl | hjd
        · exact absurd rfl (hdisj j hj j hiC)
        · exact hV j hj hjd d hd
      · intro j hj
        rcases List.mem_append.1 hj with h | h
        · simp [hCd j h]
        · simp at h; simp [h]
      · intro j hj hm
        rcases List.mem_cons.1 hm with rfl | hm
        · exact (List.nodup_cons.1 hndCr).1 hj
        · exact hCr j (List.mem_cons_of_mem _ hj) hm
      · intro t
        by_cases ht : o.dst = some t
        · left
          rw [put_eq ht, put_eq ht]
        · rw [put_ne ht, put_ne ht]
          rcases hag t with h | ⟨j, hj, hjd, hjt⟩
          · exact .inl h
          · refine .inr ⟨j, hj, ?_, hjt⟩
            intro hm
            rcases List.mem_cons.1 hm with rfl | hm
            · exact absurd rfl (hdisj j hj j hiC)
            · exact hjd hm
      · intro j hj d hd
        rw [put_ne (hne j hj d hd)]
        exact hval j hj d hd
  · rintro done E st hfull ⟨hFs, hV, hE, Cd, Cr, hCe, hCd, hCr, hp, hsub, E', hW, hag, hval⟩
    have hall' : ∀ i ∈ L ++ C, i ∈ done := by
      have : ∀ i ∈ L ++ C, i < ops.length := by
        intro i hi
        rcases List.mem_append.1 hi with h | h
        · have := List.all_eq_true.1 hkn i h
          cases hoi : ops[i]? with
          | none => rw [hoi] at this; cases this
          | some o => exact (List.getElem?_eq_some_iff.1 hoi).1
        · have : ∀ {r : List Nat} {p : Option Nat}, chainB ops L p r = true → ∀ i ∈ r, i < ops.length := by
            intro r
            induction r with
            | nil => intro p _ i hi; cases hi
            | cons k r ih =>
              intro p hc i hi
              unfold chainB at hc
              rw [Bool.and_eq_true] at hc
              rcases List.mem_cons.1 hi with rfl | hi
              · cases hoi : ops[i]? with
                | none => rw [hoi] at hc; cases hc.1
                | some o => exact (List.getElem?_eq_some_iff.1 hoi).1
              · exact ih hc.2 i hi
          exact this hch i h
      exact fun i hi => hfull i (this i hi)
    cases Cr with
    | cons q r => exact absurd (hall' q.1 (by rw [hCe]; simp)) (hCr q.1 (by simp))
    | nil =>
      unfold chainW at hW
      have : E = E' := by
        funext t
        rcases hag t with h | ⟨j, hj, hjd, _⟩
        · exact h
        · exact absurd (hall' j (by simp [hj])) hjd
      rw [this]
      exact hW
/-- What the known ones give, one behind the other. -/
def knownW (P : Program) (W0 : World) (ops : List Oper) (Kp : PPost) (F : Heap → Prop) (val : Nat → Value) : List Nat → Env → Prop
  | [], _ => True
  | i :: r, E => match ops[i]? with
    | some o => (∀ st, F st → opX P W0 o E (fun v st' => v = val i ∧ st' = st) Kp st) ∧ knownW P W0 ops Kp F val r (E.put o.dst (val i))
    | none => False
/-- What a known one reads is known before it, or written behind it alone. -/
def readB (ops : List Oper) : List Nat → List Nat → Bool
  | _, [] => true
  | p, i :: r => (match ops[i]? with
    | some o => !isSel o.op && (readsT o).all (fun t => (p.any fun j => dstAt ops j == some t && (afterB o).contains j) || ((List.range ops.length).all fun j => dstAt ops j != some t || (match ops[j]? with | some oj => (afterB oj).contains i && !p.contains j | none => false)))
    | none => false) && readB ops (i :: p) r
theorem knownW_spec {P : Program} {W0 : World} {ops : List Oper} {Kp : PPost} {F : Heap → Prop} {val : Nat → Value} (hdst : dstOK ops = true) {E0 : Env} : ∀ {l p : List Nat} {Ea : Env}, readB ops p l = true → knownW P W0 ops Kp F val l Ea → (∀ i ∈ p, ∀ d, dstAt ops i = some d → Ea d = val i) → (∀ t, (∀ j ∈ p, dstAt ops j ≠ some t) → Ea t = E0 t) → (p.reverse ++ l).Nodup →
    ∀ (i : Nat) (o : Oper), ops[i]? = some o → i ∈ l → ∀ (E : Env) (st : Heap), F st → (∀ e ∈ o.after.toList, bnds e = true → ∀ (oj : Oper) (dj : Nat), ops[e.on]? = some oj → oj.dst = some dj → E dj = val e.on) → (∀ t, (∀ (j : Nat) (oj : Oper), ops[j]? = some oj → oj.dst = some t → ∃ e ∈ oj.after.toList, bnds e = true ∧ e.on = i) → E t = E0 t) → opX P W0 o E (fun v st' => v = val i ∧ st' = st) Kp st
  | [], p, Ea, _, _, _, _, _ => by intro i o _ hi; cases hi
  | k :: r, p, Ea, hrd, hw, hp, he, hn => by
    intro i o ho hi E st hF hd hE
    unfold readB at hrd
    unfold knownW at hw
    rw [Bool.and_eq_true] at hrd
    rcases List.mem_cons.1 hi with rfl | hi
    · rw [ho] at hrd hw
      simp only [Bool.and_eq_true] at hrd
      obtain ⟨⟨hsel, hra⟩, -⟩ := hrd
      rw [opX_congr (E' := Ea) (by intro cs b h; rw [h] at hsel; simp [isSel] at hsel) ?_]
      · exact hw.1 st hF
      intro x hx
      cases x with
      | tmp t =>
        have ht : t ∈ readsT o := List.mem_filterMap.2 ⟨.tmp t, Array.mem_toList_iff.2 hx, rfl⟩
        have := List.all_eq_true.1 hra t ht
        rw [Bool.or_eq_true] at this
        show E t = Ea t
        rcases this with h | h
        · obtain ⟨j, hj, hjt⟩ := List.any_eq_true.1 h
          simp only [Bool.and_eq_true, beq_iff_eq] at hjt
          have hja : j ∈ afterB o := by simpa using hjt.2
          obtain ⟨e, he1, he2, he3⟩ := mem_afterB.1 hja
          have hjd := hjt.1
          rw [hp j hj t hjt.1]
          unfold dstAt at hjd
          obtain ⟨oj, hoj, hdj⟩ := Option.bind_eq_some_iff.1 hjd
          have := hd e he1 he2 oj t (by rw [he3]; exact hoj) hdj
          rw [this, he3]
        · have hall : ∀ (j : Nat) (oj : Oper), ops[j]? = some oj → oj.dst = some t → i ∈ afterB oj ∧ j ∉ p := by
            intro j oj hoj hdj
            have hjl : j < ops.length := (List.getElem?_eq_some_iff.1 hoj).1
            have := List.all_eq_true.1 h j (List.mem_range.2 hjl)
            rw [hoj] at this
            simp only [dstAt, hoj, Option.bind_some, hdj, bne_self_eq_false, Bool.false_or, Bool.and_eq_true] at this
            exact ⟨by simpa using this.1, by simpa using this.2⟩
          rw [hE t fun j oj hoj hdj => mem_afterB.1 (hall j oj hoj hdj).1, he t]
          intro j hj hjd
          unfold dstAt at hjd
          obtain ⟨oj, hoj, hdj⟩ := Option.bind_eq_some_iff.1 hjd
          exact (hall j oj hoj hdj).2 hj
      | _ => rfl
    · cases hok : ops[k]? with
      | none => rw [hok] at hw; exact hw.elim
      | some ok =>
        rw [hok] at hw
        have hkd : dstAt ops k = ok.dst := by unfold dstAt; rw [hok]; rfl
        refine knownW_spec hdst hrd.2 hw.2 ?_ ?_ (by simpa using hn) i o ho hi E st hF hd hE
        · intro j hj d hjd
          rcases List.mem_cons.1 hj with rfl | hj
          · exact put_eq (by rw [← hkd]; exact hjd)
          · rw [put_ne]
            · exact hp j hj d hjd
            · intro h
              unfold dstAt at hjd
              obtain ⟨oj, hoj, hdj⟩ := Option.bind_eq_some_iff.1 hjd
              have := dstOK_spec hdst hok hoj h hdj
              subst this
              have := (List.nodup_append.1 hn).2.2 k (by simpa using hj) k (by simp)
              exact this rfl
        · intro t ht
          rw [put_ne]
          · exact he t fun j hj => ht j (by simp [hj])
          · have := ht k (by simp)
            rwa [hkd] at this
def lateB (ops : List Oper) (L D : List Nat) : Bool := D.all fun i => match ops[i]? with
  | some o => L.all fun j => (afterB o).contains j
  | none => true
theorem lateB_spec {ops : List Oper} {L C D : List Nat} (h : lateB ops L D = true) : ∀ q ∈ C.map (fun i => (i, true)) ++ D.map (fun i => (i, false)), q.2 = false → ∀ o, ops[q.1]? = some o → ∀ j ∈ L, j ∈ afterB o := by
  intro q hq h2 o ho j hj
  rcases List.mem_append.1 hq with hm | hm
  · obtain ⟨i, _, rfl⟩ := List.mem_map.1 hm
    cases h2
  · obtain ⟨i, hi, rfl⟩ := List.mem_map.1 hm
    have := List.all_eq_true.1 h i hi
    simp only at ho
    rw [ho] at this
    have := List.all_eq_true.1 this j hj
    simpa using this
theorem drawK {P : Program} {W0 : World} {ops : List Oper} {Q : IPost} {Kp : PPost} {E0 : Env} {st0 : Heap} (L C : List Nat) (val : Nat → Value) (F : Heap → Prop) (htopo : topoOK ops [] (L ++ C) = true) (hdst : dstOK ops = true) (hnd : nodupB (L ++ C) = true) (hall : (List.range ops.length).all (fun i => L.contains i || C.contains i) = true) (hkn : knownB ops L = true) (hrd : readB ops [] L = true) (hch : chainB ops L none C = true) (hcl : ops.all (fun o => decide (clsR P o.op ≤ 3)) = true)
    (hF : F st0) (hK : knownW P W0 ops Kp F val L E0) (hC : chainW P W0 ops Q Kp F (C.map fun i => (i, true)) (knownE ops val L E0) st0) : DrawI P W0 ops Q Kp E0 st0 := by
  have hm : (C.map fun i => (i, true)).map (·.1) = C := by rw [List.map_map]; exact List.map_id C
  exact drawC L (C.map fun i => (i, true)) val F (by rw [hm]; exact htopo) hdst (by rw [hm]; exact hnd) (by rw [hm]; exact hall) hkn (by rw [hm]; exact hch) (fun q hq h2 => by obtain ⟨i, _, rfl⟩ := List.mem_map.1 hq; cases h2) hF (knownW_spec hdst hrd hK (by simp) (fun _ _ => rfl) (by simpa using (List.nodup_append.1 (nodupB_spec hnd)).1)) hC
    (fun j oj hj => by
      have := List.all_eq_true.1 hcl oj (List.mem_of_getElem? hj)
      simpa using this)
/-- The same, where the last ones of the chain come behind all known ones. -/
theorem drawK2 {P : Program} {W0 : World} {ops : List Oper} {Q : IPost} {Kp : PPost} {E0 : Env} {st0 : Heap} (L C D : List Nat) (val : Nat → Value) (F : Heap → Prop) (htopo : topoOK ops [] (L ++ (C ++ D)) = true) (hdst : dstOK ops = true) (hnd : nodupB (L ++ (C ++ D)) = true) (hall : (List.range ops.length).all (fun i => L.contains i || (C ++ D).contains i) = true) (hkn : knownB ops L = true) (hrd : readB ops [] L = true) (hch : chainB ops L none (C ++ D) = true) (hcl : ops.all (fun o => decide (clsR P o.op ≤ 3)) = true) (hlt : lateB ops L D = true)
    (hF : F st0) (hK : knownW P W0 ops Kp F val L E0) (hC : chainW P W0 ops Q Kp F (C.map (fun i => (i, true)) ++ D.map fun i => (i, false)) (knownE ops val L E0) st0) : DrawI P W0 ops Q Kp E0 st0 := by
  have hm : (C.map (fun i => (i, true)) ++ D.map fun i => (i, false)).map (·.1) = C ++ D := by
    rw [List.map_append, List.map_map, List.map_map]
    exact congr (congrArg _ (List.map_id C)) (List.map_id D)
  exact drawC L (C.map (fun i => (i, true)) ++ D.map fun i => (i, false)) val F (by rw [hm]; exact htopo) hdst (by rw [hm]; exact hnd) (by rw [hm]; exact hall) hkn (by rw [hm]; exact hch) (lateB_spec hlt) hF (knownW_spec hdst hrd hK (by simp) (fun _ _ => rfl) (by simpa using (List.nodup_append.1 (nodupB_spec hnd)).1)) hC
    (fun j oj hj => by
      have := List.all_eq_true.1 hcl oj (List.mem_of_getElem? hj)
      simpa using this)
end Go.Proofs.YtadgciaclhjjkaaGreat
