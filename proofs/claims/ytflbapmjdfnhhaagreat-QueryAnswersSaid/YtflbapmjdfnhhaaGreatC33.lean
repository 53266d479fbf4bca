/- A region of any order: each result by itself, what speaks of the heap too, and what holds of the heap by what is done. Plain theorems, over any program. -/
import Derived.Test.YtflbapmjdfnhhaaGreatC11
import Derived.Test.YtflbapmjdfnhhaaGreatC32
import Derived.Test.YtflbapmjdfnhhaaGreatC14
set_option linter.unusedVariables false
set_option linter.unusedSimpArgs false
namespace Go.Proofs.YtflbapmjdfnhhaaGreat
theorem drawH {P : Program} {W0 : World} {ops : List Oper} {Q : IPost} {Kp : PPost} {E0 : Env} {st0 : Heap} (l : List Nat) (R : Heap → Heap → Prop) (V : Nat → Value → Heap → Prop) (G : List Nat → Heap → Prop) (htopo : topoOK ops [] l = true) (hdst : dstOK ops = true) (h0 : G [] st0) (hst : ∀ i v st st', R st st' → V i v st → V i v st')
    (hstep : ∀ (i : Nat) (o : Oper), ops[i]? = some o → ∀ (done : List Nat) (E : Env) (st : Heap), i ∉ done → G done st → (∀ e ∈ o.after.toList, bnds e = true → e.on ∈ done) →
      (∀ (j : Nat) (oj : Oper), j ∈ done → ops[j]? = some oj → ∀ e ∈ oj.after.toList, bnds e = true → e.on ∈ done) →
      (∀ e ∈ o.after.toList, bnds e = true → ∀ (oj : Oper) (dj : Nat), ops[e.on]? = some oj → oj.dst = some dj → V e.on (E dj) st) →
      (∀ t, (∀ (j : Nat) (oj : Oper), ops[j]? = some oj → oj.dst = some t → ∃ e ∈ oj.after.toList, bnds e = true ∧ e.on = i) → E t = E0 t) →
      (bif wantedE ops.toArray o E then opX P W0 o E (fun v st' => R st st' ∧ V i v st' ∧ G (i :: done) st') Kp st else V i undef st ∧ G (i :: done) st))
    (hend : ∀ (done : List Nat) (E : Env) (st : Heap), (∀ i, i < ops.length → i ∈ done) → G done st → (∀ (i : Nat) (o : Oper) (d : Nat), ops[i]? = some o → o.dst = some d → V i (E d) st) → (∀ t, (∀ (j : Nat) (oj : Oper), ops[j]? = some oj → oj.dst ≠ some t) → E t = E0 t) → Q .normal E st)
    (hc : ∀ (j : Nat) (oj : Oper), ops[j]? = some oj → clsR P oj.op ≤ 3) : DrawI P W0 ops Q Kp E0 st0 := by
  refine drawJ l (fun done E st => G done st ∧ (∀ (i : Nat) (o : Oper) (d : Nat), ops[i]? = some o → i ∈ done → o.dst = some d → V i (E d) st) ∧ (∀ t, (∀ (j : Nat) (oj : Oper), ops[j]? = some oj → oj.dst = some t → j ∉ done) → E t = E0 t)) htopo ⟨h0, by simp, fun _ _ => rfl⟩ ?_ ?_ hc
  · intro i o ho done E st hnot hdeps hcl hJ
    obtain ⟨hG, hV, hE⟩ := hJ
    have hnext : ∀ (v : Value) (st' : Heap), (∀ i v, V i v st → V i v st') → V i v st' → G (i :: done) st' → G (i :: done) st' ∧ (∀ (k : Nat) (ok : Oper) (d : Nat), ops[k]? = some ok → k ∈ i :: done → ok.dst = some d → V k (E.put o.dst v d) st') ∧ (∀ t, (∀ (j : Nat) (oj : Oper), ops[j]? = some oj → oj.dst = some t → j ∉ i :: done) → E.put o.dst v t = E0 t) := by
      intro v st' hstab hv hg
      refine ⟨hg, ?_, ?_⟩
      · intro k ok d hok hkd hd
        rcases List.mem_cons.1 hkd with rfl | hkd
        · rw [ho] at hok; injection hok with hok; subst hok
          rw [hd]
          show V k ((E.set d v) d) st'
          simp [Env.set]
          exact hv
        · have h1 : E.put o.dst v d = E d := by
            cases hod : o.dst with
            | none => rfl
            | some d' =>
              show E.set d' v d = E d
              unfold Env.set
              rw [if_neg]
              rintro rfl
              exact hnot ((dstOK_spec hdst ho hok hod hd) ▸ hkd)
          rw [h1]
          exact hstab _ _ (hV k ok d hok hkd hd)
      · intro t ht
        have h1 : E.put o.dst v t = E t := by
          cases hod : o.dst with
          | none => rfl
          | some d' =>
            show E.set d' v t = E t
            unfold Env.set
            rw [if_neg]
            rintro rfl
            exact ht i o ho hod (by simp)
        rw [h1]
        exact hE t fun j oj hoj hd hm => ht j oj hoj hd (by simp [hm])
    have hs := hstep i o ho done E st hnot hG hdeps hcl (fun e he hb oj dj hoj hdj => hV e.on oj dj hoj (hdeps e he hb) hdj) (fun t ht => hE t fun j oj hoj hd hm => by
      obtain ⟨e, he, hb, hon⟩ := ht j oj hoj hd
      have := hcl j oj hm hoj e he hb
      rw [hon] at this
      exact hnot this)
    cases hw : wantedE ops.toArray o E with
    | true =>
      rw [hw] at hs
      simp only [cond_true] at hs ⊢
      exact opX_mono (hc i o ho) (fun v st' _ hk => hnext v st' (fun i v => hst i v _ _ hk.1) hk.2.1 hk.2.2) (fun _ _ => id) hs
    | false =>
      rw [hw] at hs
      simp only [cond_false] at hs ⊢
      exact hnext undef st (fun _ _ h => h) hs.1 hs.2
  · intro done E st hall hJ
    obtain ⟨hG, hV, hE⟩ := hJ
    exact hend done E st hall hG (fun i o d ho hd => hV i o d ho (hall i (List.getElem?_eq_some_iff.1 ho).1) hd) (fun t ht => hE t fun j oj ho hd => absurd hd (ht j oj ho))
end Go.Proofs.YtflbapmjdfnhhaaGreat
set_option linter.unusedVariables false
set_option linter.unusedSimpArgs false
set_option maxRecDepth 100000
set_option maxHeartbeats 1000000
namespace Go.Proofs.YtflbapmjdfnhhaaGreat
open Go.RowKit (Below)
/-- A row of sketches. -/
def SkRows (st : Heap) (v : Value) (l : List SkD) : Prop := ∃ ys, RegF st 6 v ys l.length ∧ ∀ (i : Nat) s, l[i]? = some s → SkAt st ((ys.drop (i * 6)).take 6) s
theorem SkRows.new {st st' : Heap} {v : Value} {l : List SkD} (h : SkRows st v l) (hk : New st st') : SkRows st' v l := by
  obtain ⟨ys, h1, h2⟩ := h
  exact ⟨ys, h1.new hk, fun i s hi => (h2 i s hi).new hk⟩
structure GS (s : Nat) (s0 : Heap) (x : SumD) (done : List Nat) (st : Heap) : Prop where
  pre : 6 ∉ done → New s0 st
  post : 6 ∈ done → But1 s s0 st ∧ ∃ cs, st s = some (.cells true cs 6 (.ty 1)) ∧ SkAt st cs (tellS x)
theorem GS.skip {s : Nat} {s0 st : Heap} {x : SumD} {done : List Nat} {i : Nat} (h : GS s s0 x done st) (hi : i ≠ 6) : GS s s0 x (i :: done) st :=
  ⟨fun h1 => h.pre fun h2 => h1 (List.mem_cons_of_mem _ h2), fun h1 => h.post ((List.mem_cons.1 h1).resolve_left (Ne.symm hi))⟩
theorem SkRows.get {st : Heap} {v : Value} {l : List SkD} (h : SkRows st v l) {i : Nat} (hi : i < l.length) : ∃ mb off cap rw_ zs mm g cs, v = .slice (some ⟨mb, off, none⟩) l.length cap ∧ st mb = some (.cells rw_ zs mm g) ∧ off + i * 6 + 6 ≤ zs.length ∧ (zs.drop (off + i * 6)).take 6 = cs ∧ SkAt st cs l[i] := by
  obtain ⟨ys, h1, h2⟩ := h
  obtain ⟨mb, off, cap, rw_, zs, mm, g', hv, hs, hget⟩ := rows_get h1 (by omega)
  obtain ⟨hlen, hcell, _⟩ := hget i hi
  exact ⟨mb, off, cap, rw_, zs, mm, g', _, hv, hs, hlen, hcell, h2 i _ (List.getElem?_eq_getElem hi)⟩
theorem SkRows.slice {st : Heap} {v : Value} {l : List SkD} (h : SkRows st v l) : ∃ b c, v = .slice b l.length c := by
  obtain ⟨ys, h1, _⟩ := h
  exact h1.slice
section
variable {W0 : World} {st : Heap}
theorem sum_spec {v : Value} {l : List SkD} (hv : SkRows st v l) (hl : l.length < 2 ^ 30) (hok : ∀ s ∈ l, SkOK s ∧ checkS s = true) (hsort : SortU W0 (l.foldl addS sum0).S.length) : ICalls Tryz.prog W0 50 #[v] st fun e st' => New st st' ∧ ∃ cs : List Value, e = .returned (.tuple #[.agg cs.toArray, Val.i 0]) ∧ SkAt st' cs (sumSk l) := by
  obtain ⟨tb, tc, rfl⟩ := hv.slice
  refine enter (args := [_]) Tryz.func50 rfl ?_
  simp [-List.reduceReplicate, Tryz.f50, go_sem]
  unfold NewP
  intro s hs
  refine ⟨.ty 1, ?_⟩
  simp [-List.reduceReplicate, go_sem]
  have k1 := (New.refl st).add (b := s) (o := .cells true [.slice none 0 0, .slice none 0 0, Val.u 0, Val.u 0, Val.u 0, Val.u 0] 6 (.ty 1)) hs
  have g1 := upd_same st s (.cells true [.slice none 0 0, .slice none 0 0, Val.u 0, Val.u 0, Val.u 0, Val.u 0] 6 (.ty 1))
  generalize upd st s (.cells true [.slice none 0 0, .slice none 0 0, Val.u 0, Val.u 0, Val.u 0, Val.u 0] 6 (.ty 1)) = st1 at *
  refine histNew_spec.mono ?_
  rintro e st2 ⟨r, rfl, hr, k2, hh⟩
  simp [-List.reduceReplicate, go_sem]
  refine kmvNew_spec.mono ?_
  rintro e st3 ⟨q, m, rfl, hq, hm, k3, hqm, ⟨t1, gq⟩, ⟨t2, gm⟩⟩
  simp [-List.reduceReplicate, go_sem]
  unfold NewP
  intro t ht
  refine ⟨.ty 1, ?_⟩
  simp [-List.reduceReplicate, go_sem]
  have k4 := (New.refl st3).add (b := t) (o := .cells true [Val.u 0, Val.u 0, Val.u 0, Val.u 0] 4 (.ty 1)) ht
  have g4 := upd_same st3 t (.cells true [Val.u 0, Val.u 0, Val.u 0, Val.u 0] 4 (.ty 1))
  generalize upd st3 t (.cells true [Val.u 0, Val.u 0, Val.u 0, Val.u 0] 4 (.ty 1)) = st4 at *
  have kk := ((k1.trans k2).trans k3).trans k4
  have hsn : st s = none := hs
  have hrn : st r = none := k1.none hr
  have hqn : st q = none := (k1.trans k2).none hq
  have hmn : st m = none := (k1.trans k2).none hm
  have htn : st t = none := ((k1.trans k2).trans k3).none ht
  have nsr : s ≠ r := by rintro rfl; rw [g1] at hr; cases hr
  have nsq : s ≠ q := by rintro rfl; rw [k2 _ _ g1] at hq; cases hq
  have nsm : s ≠ m := by rintro rfl; rw [k2 _ _ g1] at hm; cases hm
  have nst : s ≠ t := by rintro rfl; rw [k3 _ _ (k2 _ _ g1)] at ht; cases ht
  have nrq : r ≠ q := by rintro rfl; rw [hh.1] at hq; cases hq
  have nrm : r ≠ m := by rintro rfl; rw [hh.1] at hm; cases hm
  have nrt : r ≠ t := by rintro rfl; rw [k3 _ _ hh.1] at ht; cases ht
  have nqt : q ≠ t := by rintro rfl; rw [gq] at ht; cases ht
  have nmt : m ≠ t := by rintro rfl; rw [gm] at ht; cases ht
  have hk0 : KmvAt st4 q m [] := ⟨0, t1, t2, k4 _ _ gq, k4 _ _ gm, List.Pairwise.nil, by simp, by simp, by omega, fun h => by simp at h⟩
  refine ⟨fun E st' => E 2 = ptr s ∧ E 4 = ptr r ∧ E 5 = ptr q ∧ E 6 = ptr t ∧ E 12 = .slice tb l.length tc ∧ E 13 = Val.i l.length ∧ ∃ (k : Nat) (x : SumD) (ks : List Nat), E 14 = Val.i (k : Int) ∧ k ≤ l.length ∧ x = (l.take k).foldl addS sum0 ∧ SumOK x ∧ New st st' ∧ HistAt st' r x.h ∧ KmvAt st' q m ks ∧ KState ks x.S ∧ st' t = some (.cells true x.g.cells 4 (.ty 1)) ∧ st' s = some (.cells true [.slice none 0 0, .slice none 0 0, Val.u 0, Val.u 0, Val.u 0, Val.u 0] 6 (.ty 1)),
    fun E _ => match E 14 with | .int _ z => l.length - z.toNat | _ => 0, ⟨st4, .rfl' _, by simp [go_sem], by simp [go_sem], by simp [go_sem], by simp [go_sem], by simp [go_sem], by simp [go_sem], 0, sum0, [], by simp [go_sem], by omega, rfl, sum0_ok, kk, hh.new (k3.trans k4), hk0, ⟨List.Perm.refl _, List.Pairwise.nil, by simp [sum0]⟩, g4, k4 _ _ (k3 _ _ (k2 _ _ g1))⟩, ?_⟩
  rintro E s0 ⟨e2, e4, e5, e6, e12, e13, k, x, ks, e14, hkl, hx, xok, hk0', hh0, hk0, hks, gt0, gs0⟩
  by_cases hlt : k < l.length
  · have q1 : ((k : Int) < l.length) = True := eq_true (by omega)
    have hwk : IntKind.i64.wrap ((k : Int) + 1) = (k : Int) + 1 := wrap_id (by omega) (by omega)
    obtain ⟨mb, off, cap, rw_, zs, mm, g', cs, hv', hsm, hlen, hcell, hsk⟩ := (hv.new hk0').get hlt
    injection hv' with v1 v2 v3
    subst v1; subst v3
    obtain ⟨sok, schk⟩ := hok _ (List.getElem_mem hlt)
    have hskst : ∃ cs0, SkAt st cs0 l[k] ∧ cs0 = cs := by
      obtain ⟨mb', off', cap', rw', zs', mm', g'', cs', hv'', hsm', hlen', hcell', hsk'⟩ := hv.get hlt
      injection hv'' with w1 w2 w3
      injection w1 with w1
      injection w1 with w1 w4
      subst w1; subst w4
      have := hk0' _ _ hsm'
      rw [hsm] at this
      injection this with this
      injection this with _ hz _ _
      subst hz
      exact ⟨cs', hsk', hcell'.symm.trans hcell⟩
    obtain ⟨cs0, hsk0, rfl⟩ := hskst
    have hcl := hsk.length
    have htk : l.take (k + 1) = l.take k ++ [l[k]] := by rw [List.take_add_one, List.getElem?_eq_getElem hlt]; rfl
    have hx1 : (l.take (k + 1)).foldl addS sum0 = addS x l[k] := by rw [htk, List.foldl_append, ← hx]; rfl
    have xok1 := addS_ok xok sok schk
    generalize l[k] = sk at *
    obtain ⟨hv1, kv1, hce, hb1, hb2⟩ := id hsk0
    obtain ⟨b1b, b1c, rfl⟩ := hb1.slice
    obtain ⟨b2b, b2c, rfl⟩ := hb2.slice
    subst hce
    simp [-List.reduceReplicate, go_sem, e12, e13, e14, q1, hlt, hsm, hlen, hcell]
    unfold NewP
    intro t8 ht8
    refine ⟨.ty 1, ?_⟩
    have n1 := (New.refl s0).add (b := t8) (o := .cells true [.slice b1b sk.hist.length b1c, .slice b2b sk.hashes.length b2c, Val.u sk.g.n, Val.u sk.g.nans, Val.u sk.g.lo, Val.u sk.g.hi] 6 (.ty 1)) ht8
    have g8 := upd_same s0 t8 (.cells true [.slice b1b sk.hist.length b1c, .slice b2b sk.hashes.length b2c, Val.u sk.g.n, Val.u sk.g.nans, Val.u sk.g.lo, Val.u sk.g.hi] 6 (.ty 1))
    have n8 : ∀ {j o}, s0 j = some o → j ≠ t8 := fun h => by rintro rfl; rw [h] at ht8; cases ht8
    obtain ⟨kt, kg1, kg2, kq, km, _⟩ := id hk0
    have n8r := n8 hh0.1
    have n8q := n8 kq
    have n8m := n8 km
    have n8t := n8 gt0
    have n8s := n8 gs0
    simp [-List.reduceReplicate, go_sem]
    generalize upd s0 t8 (.cells true [.slice b1b sk.hist.length b1c, .slice b2b sk.hashes.length b2c, Val.u sk.g.n, Val.u sk.g.nans, Val.u sk.g.lo, Val.u sk.g.hi] 6 (.ty 1)) = s8 at *
    have nn := hk0'.trans n1
    refine ICalls.mono (by simpa using skCheck_spec (W0 := W0) (st := s8) (hsk0.new nn) sok) ?_
    rintro e s9 ⟨rfl, k9⟩
    rw [schk]
    have g89 := k9 _ _ g8
    have n19 := n1.trans k9
    have nn9 := nn.trans k9
    have hh9 := hh0.new n19
    have hk9 := hk0.keep (fun o => n19 q o) (fun o => n19 m o)
    have gt9 := n19 _ _ gt0
    have gs9 := n19 _ _ gs0
    have hc' := schk
    unfold checkS at hc'
    simp only [Bool.and_eq_true] at hc'
    simp [-List.reduceReplicate, go_sem, e4, g89]
    refine (histMerge_spec hh9 (hb1.new nn9) (by have := sok.hlen; omega) sok.hist).mono ?_
    rintro e s10 ⟨b10, hR10⟩
    rw [if_pos hc'.1] at hR10
    obtain ⟨rfl, hh10⟩ := hR10
    have g810 := b10 _ _ (Ne.symm n8r) g89
    have nn10 : New st s10 := fun k o hk => b10 k o (by rintro rfl; rw [hrn] at hk; cases hk) (nn9 k o hk)
    have hk10 := hk9.keep (fun o => b10 q o (Ne.symm nrq)) (fun o => b10 m o (Ne.symm nrm))
    have gt10 := b10 _ _ (Ne.symm nrt) gt9
    have gs10 := b10 _ _ nsr gs9
    simp [-List.reduceReplicate, go_sem, e5, g810]
    refine (kmvMerge_spec nn10 hk10 hb2 hqn hmn (by have := sok.klen; omega) hc'.2.1 sok.hashes).mono ?_
    rintro e s11 ⟨rfl, ⟨ks', hk11, hS11⟩, o11⟩
    have g811 := o11 _ _ (Ne.symm n8q) (Ne.symm n8m) g810
    have nn11 : New st s11 := fun k o hk => o11 k o (by rintro rfl; rw [hqn] at hk; cases hk) (by rintro rfl; rw [hmn] at hk; cases hk) (nn10 k o hk)
    have hh11 : HistAt s11 r (mergeB x.h sk.hist) := ⟨o11 _ _ nrq nrm hh10.1, hh10.2⟩
    have gt11 := o11 _ _ (Ne.symm nqt) (Ne.symm nmt) gt10
    have gs11 := o11 _ _ nsq nsm gs10
    simp [-List.reduceReplicate, go_sem, e6, g811, gt11, GauD.cells]
    refine ICalls.mono (by simpa [GauD.cells] using gaugeMerge_spec (W0 := W0) (st := s11) xok.g sok.g) ?_
    rintro e s12 ⟨rfl, k12⟩
    have gt12 := k12 _ _ gt11
    have gs12 := k12 _ _ gs11
    simp [-List.reduceReplicate, go_sem, e2, e4, e5, e6, e12, e13, e14, gt12, hwk, GauD.cells]
    have nn12 := nn11.trans k12
    have hk12 := hk11.keep (fun o => k12 q o) (fun o => k12 m o)
    refine ⟨_, .rfl' _, ⟨k + 1, by simp, by omega, ?_⟩, by omega⟩
    rw [hx1]
    refine ⟨xok1, nn12.put htn, ?_, ks', hk12.keep (fun o h => by rw [upd_ne _ _ nqt]; exact h) (fun o h => by rw [upd_ne _ _ nmt]; exact h), hS11 _ hks, ?_, ?_⟩
    · have := hh11.new k12
      exact ⟨by rw [upd_ne _ _ nrt]; exact this.1, this.2⟩
    · rw [upd_same]; rfl
    · rw [upd_ne _ _ nst]; exact gs12
  · have hkk : k = l.length := by omega
    subst hkk
    rw [List.take_length] at hx
    simp [-List.reduceReplicate, go_sem, e12, e13, e14]
    have hsort' : SortU W0 ks.length := by rw [hks.perm.length_eq, hx]; exact hsort
    have hfinal : sumSk l = tellS x := by rw [hx]; rfl
    rw [hfinal]
    have hR0 : ∀ a, But1 s a a := fun a => But1.refl s a
    have hG0 : GS s s0 x [] s0 := ⟨fun _ => New.refl _, fun h => absurd h (by simp)⟩
    have hs0n : s0 s ≠ none := by rw [gs0]; simp
    have vecS : ∀ {a b : Heap} {v : Value} {size len : Nat} {xs : List Value}, But1 s a b → Fresh s0 v → Vec a (.ty 1) size v xs len → Vec b (.ty 1) size v xs len := by
      intro a b v size len xs hb hF hV
      obtain ⟨w1, wb, wc, w2, w3, w4⟩ := hV
      refine ⟨w1, wb, wc, w2, w3, ?_⟩
      rcases w4 with ⟨bb, n, rfl, hbb, hn⟩ | h0
      · refine .inl ⟨bb, n, rfl, hb bb _ ?_ hbb, hn⟩
        rintro rfl
        have := hF _ _ _ _ w2
        rw [gs0] at this
        cases this
      · exact .inr h0
    have regS : ∀ {a b : Heap} {v : Value} {size len : Nat} {xs : List Value}, But1 s a b → Fresh s0 v → RegF a size v xs len → RegF b size v xs len := by
      intro a b v size len xs hb hF hV
      obtain ⟨g, hg, w1, wb, wc, w2, w3, w4⟩ := hV
      refine ⟨g, hg, w1, wb, wc, w2, w3, ?_⟩
      rcases w4 with h0 | ⟨bb, off, rw_, ys, n, rfl, hbb, hn⟩
      · exact .inl h0
      · refine .inr ⟨bb, off, rw_, ys, n, rfl, hb bb _ ?_ hbb, hn⟩
        rintro rfl
        have := hF _ _ _ _ w2
        rw [gs0] at this
        cases this
    have hfin : ∀ {done : List Nat} {st' : Heap} {hvb kvb : Option Addr} {hvc kvc : Nat}, New s0 st' → Vec st' (.ty 1) 2 (.slice hvb (bktL x.h 7424).length hvc) (bktV (bktL x.h 7424)) (bktL x.h 7424).length → Fresh s0 (.slice hvb (bktL x.h 7424).length hvc) → RegF st' 1 (.slice kvb x.S.length kvc) (cellsU x.S) x.S.length → Fresh s0 (.slice kvb x.S.length kvc) → But1 s st' (upd st' s (.cells true [.slice hvb (bktL x.h 7424).length hvc, .slice kvb x.S.length kvc, Val.u x.g.n, Val.u x.g.nans, Val.u x.g.lo, Val.u x.g.hi] 6 (.ty 1))) ∧ GS s s0 x (6 :: done) (upd st' s (.cells true [.slice hvb (bktL x.h 7424).length hvc, .slice kvb x.S.length kvc, Val.u x.g.n, Val.u x.g.nans, Val.u x.g.lo, Val.u x.g.hi] 6 (.ty 1))) := by
      intro done st' hvb kvb hvc kvc hN a1 a2 a3 a4
      have hb := (But1.refl s st').put (o := .cells true [.slice hvb (bktL x.h 7424).length hvc, .slice kvb x.S.length kvc, Val.u x.g.n, Val.u x.g.nans, Val.u x.g.lo, Val.u x.g.hi] 6 (.ty 1))
      refine ⟨hb, fun h => absurd (by simp) h, fun _ => ⟨(hN.but s).trans hb, _, upd_same _ _ _, _, _, rfl, ?_, ?_⟩⟩
      · have := (vecS hb a2 a1).reg
        simp only [tellS, bkV_toI, toI_length]
        exact ⟨.ty 1, (by intro g x r; simp), this⟩
      · exact regS hb a4 a3
    refine drawH [0, 1, 2, 3, 4, 5, 6, 7] (But1 s) (fun i v st' => match i with
      | 0 => v = ptr r
      | 1 => Vec st' (.ty 1) 2 v (bktV (bktL x.h 7424)) (bktL x.h 7424).length ∧ Fresh s0 v
      | 2 => v = ptr q
      | 3 => RegF st' 1 v (cellsU x.S) x.S.length ∧ Fresh s0 v
      | 4 => v = .agg x.g.cells.toArray
      | 5 => ∃ hv kv, v = .agg #[hv, kv, Val.u x.g.n, Val.u x.g.nans, Val.u x.g.lo, Val.u x.g.hi] ∧ (Vec st' (.ty 1) 2 hv (bktV (bktL x.h 7424)) (bktL x.h 7424).length ∧ Fresh s0 hv) ∧ RegF st' 1 kv (cellsU x.S) x.S.length ∧ Fresh s0 kv
      | 7 => v = Val.i 0
      | _ => True) (GS s s0 x) (by kernel_rfl) (by kernel_rfl) ?_ ?_ ?_ ?_ ?_
    · exact hG0
    · intro i v sta stb hNw h
      match i with
      | 1 => exact ⟨vecS hNw h.2 h.1, h.2⟩
      | 3 => exact ⟨regS hNw h.2 h.1, h.2⟩
      | 5 => obtain ⟨hv, kv, e1, ⟨a1, a2⟩, a3, a4⟩ := h; exact ⟨hv, kv, e1, ⟨vecS hNw a2 a1, a2⟩, regS hNw a4 a3, a4⟩
      | 0 => exact h
      | 2 => exact h
      | 4 => exact h
      | 6 => exact h
      | 7 => exact h
      | i + 8 => exact h
    · intro i oo hi done E sta hnd hG hdp hcl hd hE
      match i with
      | 0 =>
        have x4 := hE 4 (oldB_spec (by kernel_rfl))
        injection hi with hi; subst hi
        simp [wantedE, go_sem, x4, e4]
        exact ⟨hR0 _, hG.skip (by decide)⟩
      | 1 =>
        injection hi with hi; subst hi
        have d0 := hd { on := 0, ground := .data } (by simp) (by decide) _ _ rfl rfl
        simp only at d0
        have n6 : 6 ∉ done := fun h => hnd (hcl 6 _ h rfl { on := 1, ground := .phase } (by simp) (by decide))
        have hN := hG.pre n6
        simp [wantedE, go_sem, d0]
        refine (buckets_spec (hh0.new hN)).mono ?_
        rintro e st' ⟨v, rfl, hV, hF, k1⟩
        simp [go_sem]
        exact ⟨k1.but s, ⟨hV, fun b off n c he => hN.none (hF b off n c he)⟩, ⟨fun _ => hN.trans k1, fun h => absurd h (by simp [n6])⟩⟩
      | 2 =>
        have x5 := hE 5 (oldB_spec (by kernel_rfl))
        injection hi with hi; subst hi
        simp [wantedE, go_sem, x5, e5]
        exact ⟨hR0 _, hG.skip (by decide)⟩
      | 3 =>
        injection hi with hi; subst hi
        have d2 := hd { on := 2, ground := .data } (by simp) (by decide) _ _ rfl rfl
        simp only at d2
        have n6 : 6 ∉ done := fun h => hnd (hcl 6 _ h rfl { on := 3, ground := .phase } (by simp) (by decide))
        have hN := hG.pre n6
        simp [wantedE, go_sem, d2]
        refine (hashes_spec (hk0.keep (fun o => hN _ o) (fun o => hN _ o)) hks hsort').mono ?_
        rintro e st' ⟨v, rfl, hV, hF, k1⟩
        simp [go_sem]
        exact ⟨k1.but s, ⟨hV, fun b off n c he => hN.none (hF b off n c he)⟩, ⟨fun _ => hN.trans k1, fun h => absurd h (by simp [n6])⟩⟩
      | 4 =>
        have x6 := hE 6 (oldB_spec (by kernel_rfl))
        injection hi with hi; subst hi
        have n6 : 6 ∉ done := fun h => hnd (hcl 6 _ h rfl { on := 4, ground := .phase } (by simp) (by decide))
        have g7 := hG.pre n6 _ _ gt0
        simp [wantedE, go_sem, x6, e6]
        simp [go_sem, g7, GauD.cells]
        exact ⟨hR0 _, hG.skip (by decide)⟩
      | 5 =>
        injection hi with hi; subst hi
        have d1 := hd { on := 1, ground := .data } (by simp) (by decide) _ _ rfl rfl
        have d3 := hd { on := 3, ground := .data } (by simp) (by decide) _ _ rfl rfl
        have d4 := hd { on := 4, ground := .data } (by simp) (by decide) _ _ rfl rfl
        simp only at d1 d3 d4
        obtain ⟨d1, d1f⟩ := d1
        obtain ⟨d3, d3f⟩ := d3
        obtain ⟨hvb, hvc, hve⟩ := d1.slice
        obtain ⟨kvb, kvc, kve⟩ := d3.slice
        rw [hve] at d1 d1f
        rw [kve] at d3 d3f
        simp [wantedE, go_sem, d1, d3, d4]
        simp [go_sem, hve, kve, GauD.cells]
        exact ⟨hR0 _, ⟨_, _, ⟨rfl, rfl⟩, ⟨d1, d1f⟩, d3, d3f⟩, hG.skip (by decide)⟩
      | 6 =>
        have x2 := hE 2 (oldB_spec (by kernel_rfl))
        injection hi with hi; subst hi
        have d5 := hd { on := 5, ground := .data } (by simp) (by decide) _ _ rfl rfl
        simp only at d5
        have hN := hG.pre hnd
        have g2 := hN _ _ gs0
        obtain ⟨hv, kv, d5, ⟨a1, a2⟩, a3, a4⟩ := d5
        obtain ⟨hvb, hvc, rfl⟩ := a1.slice
        obtain ⟨kvb, kvc, rfl⟩ := a3.slice
        simp [wantedE, go_sem, d5, x2, e2]
        simp [g2]
        exact hfin hN a1 a2 a3 a4
      | 7 =>
        injection hi with hi; subst hi
        simp [wantedE, go_sem]
        exact ⟨hR0 _, hG.skip (by decide)⟩
      | i + 8 => simp at hi
    · intro done E sta hall hG hd hE
      obtain ⟨b1, cs, b2, b3⟩ := hG.post (hall 6 (by simp))
      have d7 := hd 7 _ _ rfl rfl
      have x2 := (hE 2 (noB_spec (by kernel_rfl))).trans e2
      simp only at d7
      have hl6 := b3.length
      have h6t : cs.take 6 = cs := List.take_of_length_le (by omega)
      simp [go_sem]
      refine RetI_cell_tmp ?_
      simp [go_sem, x2, b2, d7, hl6, h6t]
      exact ⟨fun k o hk => b1 k o (by rintro rfl; rw [hsn] at hk; cases hk) (hk0' k o hk), b3⟩
    · intro j oj hj
      match j with
      | 0 | 1 | 2 | 3 | 4 | 5 | 6 | 7 => simp at hj; subst hj; decide
      | j + 8 => simp at hj
end
end Go.Proofs.YtflbapmjdfnhhaaGreat
set_option linter.unusedVariables false
set_option linter.unusedSimpArgs false
set_option maxRecDepth 100000
set_option maxHeartbeats 400000
namespace Go.Proofs.YtflbapmjdfnhhaaGreat
open Go.RowKit (Below)
abbrev Lab := ByteArray × ByteArray
structure RowD where
  labels : List Lab
  at_ : Int
  s : SkD
def labV (l : List Lab) : List Value := l.flatMap fun p => [.string p.1, .string p.2]
theorem labV_get : ∀ (l : List Lab) (i : Nat) (x : Lab), l[i]? = some x → ((labV l).drop (i * 2)).take 2 = [.string x.1, .string x.2]
  | [], i, x, h => by simp at h
  | y :: l, 0, x, h => by
    simp only [List.getElem?_cons_zero, Option.some.injEq] at h
    subst h
    simp [labV]
  | y :: l, i + 1, x, h => by
    have := labV_get l i x (by simpa using h)
    have e : (i + 1) * 2 = 2 + i * 2 := by omega
    rw [e, ← List.drop_drop]
    exact this
def RowAt (st : Heap) (cs : List Value) (r : RowD) : Prop := ∃ lv ss, cs = lv :: Val.i r.at_ :: ss ∧ RegF st 2 lv (labV r.labels) r.labels.length ∧ SkAt st ss r.s
theorem RowAt.new {st st' : Heap} {cs : List Value} {r : RowD} (h : RowAt st cs r) (hk : New st st') : RowAt st' cs r := by
  obtain ⟨lv, ss, e, h1, h2⟩ := h
  exact ⟨lv, ss, e, h1.new hk, h2.new hk⟩
theorem RowAt.length {st : Heap} {cs : List Value} {r : RowD} (h : RowAt st cs r) : cs.length = 8 := by
  obtain ⟨lv, ss, rfl, h1, h2⟩ := h
  simp [h2.length]
structure RowOK (r : RowD) : Prop where
  s : SkOK r.s
  at_ : -2 ^ 63 ≤ r.at_ ∧ r.at_ < 2 ^ 63
  llen : r.labels.length * 32 ≤ 140737488355328
  sizes : ∀ x ∈ r.labels, x.1.size < 2 ^ 60 ∧ x.2.size < 2 ^ 60
/-- Labels, each behind the one of before. -/
def labsM : Option ByteArray → List Lab → Bool
  | _, [] => true
  | p, x :: l => (labelM x.1.data.toList && (decide (1 ≤ x.2.size) && (decide (x.2.size ≤ 64) && (match p with | none => true | some q => ltT q x.1)))) && labsM (some x.1) l
def checkL (l : List Lab) : Bool := decide (1 ≤ l.length) && (decide (l.length ≤ 8) && labsM none l)
def valueL : List Lab → ByteArray → ByteArray
  | [], _ => ⟨#[]⟩
  | x :: l, n => if strEq x.1 n = true then x.2 else valueL l n
section
variable {W0 : World} {st : Heap}
theorem labelCheck_spec {v : Value} {l : List Lab} (h : RegF st 2 v (labV l) l.length) (hll : l.length < 2 ^ 50) : ICalls Tryz.prog W0 73 #[v] st fun e st' => e = .returned (.bool (checkL l)) ∧ New st st' := by
  have hv0 := h
  obtain ⟨tb, tc, rfl⟩ := h.slice
  generalize hres : checkL l = res
  unfold checkL at hres
  refine enter (args := [_]) Tryz.func73 rfl ?_
  by_cases c1 : l.length < 1
  · have q1 : ((l.length : Int) < 1) = True := eq_true (by omega)
    have : decide (1 ≤ l.length) = false := decide_eq_false (by omega)
    rw [this, Bool.false_and] at hres
    subst hres
    simp [Tryz.f73, go_sem, q1]
    exact New.refl _
  have q1 : ((l.length : Int) < 1) = False := eq_false (by omega)
  have d1 : decide (1 ≤ l.length) = true := decide_eq_true (by omega)
  rw [d1, Bool.true_and] at hres
  by_cases c2 : 8 < l.length
  · have q2 : ((8 : Int) < l.length) = True := eq_true (by omega)
    have : decide (l.length ≤ 8) = false := decide_eq_false (by omega)
    rw [this, Bool.false_and] at hres
    subst hres
    simp [Tryz.f73, go_sem, q1, q2]
    exact New.refl _
  have q2 : ((8 : Int) < l.length) = False := eq_false (by omega)
  have d2 : decide (l.length ≤ 8) = true := decide_eq_true (by omega)
  rw [d2, Bool.true_and] at hres
  simp [Tryz.f73, go_sem, q1, q2]
  refine ⟨fun E st' => New st st' ∧ E 0 = .slice tb l.length tc ∧ E 13 = .slice tb l.length tc ∧ E 14 = Val.i l.length ∧ ∃ (i : Nat) (p : Option ByteArray), E 15 = Val.i (i : Int) ∧ i ≤ l.length ∧ labsM p (l.drop i) = res ∧ (i = 0 → p = none) ∧ (∀ j, i = j + 1 → ∃ x, l[j]? = some x ∧ p = some x.1), fun E _ => match E 15 with | .int _ z => l.length - z.toNat | _ => 0,
    ⟨st, .rfl' _, New.refl _, by simp [go_sem], by simp [go_sem], by simp [go_sem], 0, none, by simp [go_sem], by omega, hres, fun _ => rfl, fun j hj => by omega⟩, ?_⟩
  rintro E s0 ⟨k0, e0, e13, e14, i, p, e15, hi, hc, hp0, hp1⟩
  by_cases hlt : i < l.length
  · have t1 : ((i : Int) < l.length) = True := eq_true (by omega)
    obtain ⟨mb, off, cap, rw_, zs, mm, g', hv', hs, hget⟩ := rows_get (hv0.new k0) (by omega)
    injection hv' with v1 v2 v3
    subst v1; subst v3
    obtain ⟨hlen, hcell, hcc⟩ := hget i hlt
    have hx : l[i]? = some l[i] := List.getElem?_eq_getElem hlt
    rw [labV_get l i _ hx] at hcell hcc
    have hd : l.drop i = l[i] :: l.drop (i + 1) := List.drop_eq_getElem_cons hlt
    rw [hd] at hc
    generalize l[i] = x at *
    obtain ⟨xn, xv⟩ := x
    simp only [labsM] at hc
    simp only at hcell hcc
    simp [go_sem, e0, e13, e14, e15, t1, hlt, hs, hlen, hcell]
    unfold NewP
    intro tb4 htb4
    refine ⟨.ty 1, ?_⟩
    have hN := (New.refl s0).add (b := tb4) (o := .cells true [.string xn, .string xv] 2 (.ty 1)) htb4
    have g4 := upd_same s0 tb4 (.cells true [.string xn, .string xv] 2 (.ty 1))
    have hs4 := hN _ _ hs
    simp [go_sem, e0, e13, e14, e15]
    generalize upd s0 tb4 (.cells true [.string xn, .string xv] 2 (.ty 1)) = s1 at *
    have k1 := k0.trans hN
    refine draw [0, 1, 2, 3, 4, 5, 6, 7, 8, 9, 10, 11, 12, 13, 14, 15, 16, 17, 18, 19, 20, 22, 23, 24, 25, 26, 21, 27, 28, 29, 30] (by kernel_rfl) ?_
    simp [go_sem, g4]
    refine labelName_spec.mono ?_
    rintro e s2 ⟨rfl, rfl⟩
    cases c3 : labelM xn.data.toList with
    | false =>
      rw [c3, Bool.false_and, Bool.false_and] at hc
      subst hc
      simp [go_sem, e0, e13, e14, e15]
      exact k1
    | true =>
    rw [c3, Bool.true_and] at hc
    by_cases c4 : xv.size < 1
    · have q4 : ((xv.size : Int) < 1) = True := eq_true (by omega)
      have : decide (1 ≤ xv.size) = false := decide_eq_false (by omega)
      rw [this, Bool.false_and, Bool.false_and] at hc
      subst hc
      simp [go_sem, e0, e13, e14, e15, g4, q4]
      exact k1
    have q4 : ((xv.size : Int) < 1) = False := eq_false (by omega)
    have d4 : decide (1 ≤ xv.size) = true := decide_eq_true (by omega)
    rw [d4, Bool.true_and] at hc
    by_cases c5 : 64 < xv.size
    · have q5 : ((64 : Int) < xv.size) = True := eq_true (by omega)
      have : decide (xv.size ≤ 64) = false := decide_eq_false (by omega)
      rw [this, Bool.false_and, Bool.false_and] at hc
      subst hc
      simp [go_sem, e0, e13, e14, e15, g4, q4, q5]
      exact k1
    have q5 : ((64 : Int) < xv.size) = False := eq_false (by omega)
    have d5 : decide (xv.size ≤ 64) = true := decide_eq_true (by omega)
    rw [d5, Bool.true_and] at hc
    match i, hi, e15, hlt, t1, hlen, hcell, hcc, hx, hd, hp0, hp1 with
    | 0, hi, e15, hlt, t1, hlen, hcell, hcc, hx, hd, hp0, hp1 =>
      have hp' := hp0 rfl
      subst hp'
      simp only [Bool.true_and] at hc
      have e15' : E 15 = Val.i 0 := e15
      have hw1 : IntKind.i64.wrap 1 = 1 := wrap_id (by omega) (by omega)
      simp [go_sem, e0, e13, e14, e15', g4, q4, q5, hw1]
      exact ⟨_, .rfl' _, ⟨k1, 1, by simp, by omega, some xn, hc, by omega, fun j hj => by rw [show j = 0 by omega]; exact ⟨xn, ⟨xv, hx⟩, rfl⟩⟩, by omega⟩
    | j + 1, hi, e15, hlt, t1, hlen, hcell, hcc, hx, hd, hp0, hp1 =>
      obtain ⟨x', hx', hxp⟩ := hp1 j rfl
      subst hxp
      obtain ⟨hlen', hcell', hcc'⟩ := hget j (by omega)
      rw [labV_get l j _ hx'] at hcc'
      have hc0' := hcc' 0 (by omega)
      simp only [List.getElem?_cons_succ, List.getElem?_cons_zero, Nat.add_zero] at hc0'
      have e15' : E 15 = Val.i ((j : Int) + 1) := by rw [e15]; congr 1
      have hwj : IntKind.i64.wrap ((j : Int) + 1 - 1) = (j : Int) := by rw [wrap_id (by omega) (by omega)]; omega
      have hwj' : IntKind.i64.wrap (j : Int) = (j : Int) := wrap_id (by omega) (by omega)
      have hwi' : IntKind.i64.wrap ((j : Int) + 1 + 1) = (j : Int) + 1 + 1 := wrap_id (by omega) (by omega)
      have s2' : ((j : Int) + 1 < l.length) = True := eq_true (by omega)
      have s4 : (0 < (j : Int) + 1) = True := eq_true (by omega)
      have s5 : j < l.length := by omega
      have hle := leT_not xn x'.1
      simp only at hc
      cases c6 : ltT x'.1 xn with
      | false =>
        rw [c6, Bool.false_and] at hc
        rw [c6, Bool.not_false] at hle
        subst hc
        simp [go_sem, e0, e13, e14, e15', g4, q4, q5, s2', s4, s5, hwj, hwj', hs4, hlen', hc0', hle]
        exact k1
      | true =>
        rw [c6, Bool.true_and] at hc
        rw [c6, Bool.not_true] at hle
        simp [go_sem, e0, e13, e14, e15', g4, q4, q5, s2', s4, s5, hwj, hwj', hwi', hs4, hlen', hc0', hle]
        exact ⟨_, .rfl' _, ⟨k1, j + 2, by simp; omega, by omega, some xn, hc, by omega, fun k hk => by rw [show k = j + 1 by omega]; exact ⟨xn, ⟨xv, hx⟩, rfl⟩⟩, by omega⟩
  · have : i = l.length := by omega
    subst this
    rw [List.drop_length] at hc
    simp only [labsM] at hc
    subst hc
    simp [go_sem, e0, e13, e14, e15]
    exact k0
theorem labelValue_spec {v : Value} {l : List Lab} {n : ByteArray} (h : RegF st 2 v (labV l) l.length) (hll : l.length < 2 ^ 50) : ICalls Tryz.prog W0 98 #[v, .string n] st fun e st' => e = .returned (.string (valueL l n)) ∧ New st st' := by
  have hv0 := h
  obtain ⟨tb, tc, rfl⟩ := h.slice
  generalize hres : valueL l n = res
  refine enter (args := [_, _]) Tryz.func98 rfl ?_
  simp [Tryz.f98, go_sem]
  refine ⟨fun E st' => New st st' ∧ E 1 = .string n ∧ E 7 = .slice tb l.length tc ∧ E 8 = Val.i l.length ∧ ∃ i : Nat, E 9 = Val.i (i : Int) ∧ i ≤ l.length ∧ valueL (l.drop i) n = res, fun E _ => match E 9 with | .int _ z => l.length - z.toNat | _ => 0,
    ⟨st, .rfl' _, New.refl _, by simp [go_sem], by simp [go_sem], by simp [go_sem], 0, by simp [go_sem], by omega, hres⟩, ?_⟩
  rintro E s0 ⟨k0, e1, e7, e8, i, e9, hi, hc⟩
  by_cases hlt : i < l.length
  · have t1 : ((i : Int) < l.length) = True := eq_true (by omega)
    have hwi : IntKind.i64.wrap ((i : Int) + 1) = (i : Int) + 1 := wrap_id (by omega) (by omega)
    obtain ⟨mb, off, cap, rw_, zs, mm, g', hv', hs, hget⟩ := rows_get (hv0.new k0) (by omega)
    injection hv' with v1 v2 v3
    subst v1; subst v3
    obtain ⟨hlen, hcell, hcc⟩ := hget i hlt
    have hx : l[i]? = some l[i] := List.getElem?_eq_getElem hlt
    rw [labV_get l i _ hx] at hcell hcc
    have hd : l.drop i = l[i] :: l.drop (i + 1) := List.drop_eq_getElem_cons hlt
    rw [hd] at hc
    generalize l[i] = x at *
    obtain ⟨xn, xv⟩ := x
    simp only [valueL] at hc
    simp only at hcell hcc
    simp [go_sem, e1, e7, e8, e9, t1, hlt, hs, hlen, hcell]
    unfold NewP
    intro tb4 htb4
    refine ⟨.ty 1, ?_⟩
    have hN := (New.refl s0).add (b := tb4) (o := .cells true [.string xn, .string xv] 2 (.ty 1)) htb4
    have g4 := upd_same s0 tb4 (.cells true [.string xn, .string xv] 2 (.ty 1))
    by_cases c : xn = n
    · subst c
      have c' : strEq xn xn = true := by simp [strEq]
      rw [c', if_pos rfl] at hc
      subst hc
      simp [go_sem, e1, e7, e8, e9]
      exact k0.trans hN
    · have c' : strEq xn n = false := by
        cases hs : strEq xn n with
        | false => rfl
        | true =>
          exfalso
          apply c
          unfold strEq at hs
          cases xn; cases n
          simp at hs
          rw [hs]
      rw [c', if_neg (by simp)] at hc
      simp [go_sem, e1, e7, e8, e9, c, hwi]
      exact ⟨_, .rfl' _, ⟨k0.trans hN, i + 1, by simp, by omega, hc⟩, by omega⟩
  · have : i = l.length := by omega
    subst this
    rw [List.drop_length] at hc
    simp only [valueL] at hc
    subst hc
    simp [go_sem, e1, e7, e8, e9]
    exact k0
end
end Go.Proofs.YtflbapmjdfnhhaaGreat
