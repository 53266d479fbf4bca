/- The document's labels and matchers: Check, Value, Eval. -/
import Derived.Test.YtflbapmjdfnhhaaGreatC34
import Derived.Test.YtflbapmjdfnhhaaGreatC16
import Derived.Test.YtflbapmjdfnhhaaGreatC41
set_option linter.unusedVariables false
set_option linter.unusedSimpArgs false
set_option maxRecDepth 100000
set_option maxHeartbeats 2000000
namespace Go.Proofs.YtflbapmjdfnhhaaGreat
open Go.RowKit (Below)
theorem checkL_eq (l : List Lab) : checkL l = (labsM none l && (decide (1 ≤ l.length) && decide (l.length ≤ 8))) := by
  unfold checkL
  cases labsM none l <;> simp
section
variable {W0 : World} {st : Heap}
theorem refLabCheck_spec {v : Value} {l : List Lab} (h : RegF st 2 v (labV l) l.length) (hll : l.length < 2 ^ 50) (hsz : ∀ x ∈ l, x.1.size < 2 ^ 60 ∧ x.2.size < 2 ^ 60) : ICalls Tryz.prog W0 19 #[v] st fun e st' => e = .returned (.bool (checkL l)) ∧ st' = st := by
  have hv0 := h
  obtain ⟨tb, tc, rfl⟩ := h.slice
  rw [checkL_eq]
  obtain ⟨res, hres⟩ : ∃ r, labsM none l = r := ⟨_, rfl⟩
  rw [hres]
  refine enter (args := [_]) Tryz.func19 rfl ?_
  simp [Tryz.f19, go_sem]
  refine ⟨fun E st' => st = st' ∧ E 0 = .slice tb l.length tc ∧ ∃ (i : Nat) (p : Option ByteArray), E 3 = Val.i (i : Int) ∧ i ≤ l.length ∧ labsM p (l.drop i) = res ∧ (i = 0 → p = none) ∧ (∀ j, i = j + 1 → ∃ x, l[j]? = some x ∧ p = some x.1), fun E _ => match E 3 with | .int _ z => l.length - z.toNat | _ => 0,
    ⟨st, .rfl' _, rfl, by simp [go_sem], 0, none, by simp [go_sem], by omega, hres, fun _ => rfl, fun j hj => by omega⟩, ?_⟩
  rintro E s0 ⟨rfl, e0, i, p, e3, hi, hc, hp0, hp1⟩
  by_cases hlt : i < l.length
  rotate_left
  · have : i = l.length := by omega
    subst this
    rw [List.drop_length] at hc
    simp only [labsM] at hc
    subst hc
    by_cases c1 : 1 ≤ l.length
    · by_cases c2 : l.length ≤ 8
      · have q1 : ((1 : Int) ≤ l.length) = True := eq_true (by omega)
        have q2 : ((l.length : Int) ≤ 8) = True := eq_true (by omega)
        simp [go_sem, e0, e3, q1, q2, c1, c2]
      · have q1 : ((1 : Int) ≤ l.length) = True := eq_true (by omega)
        have q2 : ((l.length : Int) ≤ 8) = False := eq_false (by omega)
        simp [go_sem, e0, e3, q1, q2, c1, c2]
    · have q1 : ((1 : Int) ≤ l.length) = False := eq_false (by omega)
      simp [go_sem, e0, e3, q1, c1]
  have t1 : ((i : Int) < l.length) = True := eq_true (by omega)
  obtain ⟨mb, off, cap, rw_, zs, mm, g', hv', hs, hget⟩ := rows_get hv0 (by omega)
  injection hv' with v1 v2 v3
  subst v1; subst v3
  obtain ⟨hlen, hcell, hcc⟩ := hget i hlt
  have hx : l[i]? = some l[i] := List.getElem?_eq_getElem hlt
  have hmem := hsz _ (List.getElem_mem hlt)
  rw [labV_get l i _ hx] at hcell hcc
  have hd : l.drop i = l[i] :: l.drop (i + 1) := List.drop_eq_getElem_cons hlt
  rw [hd] at hc
  generalize l[i] = x at *
  obtain ⟨xn, xv⟩ := x
  simp only [labsM] at hc
  simp only at hcell hcc hmem
  have z0 := hcc 0 (by omega)
  have z1 := hcc 1 (by omega)
  simp only [List.getElem?_cons_succ, List.getElem?_cons_zero, Nat.add_zero] at z0 z1
  simp [go_sem, e0, e3, t1, hlt, hs, hlen]
  refine draw [0, 1, 2, 3, 4, 5, 6, 7, 8, 9, 10, 11, 12, 13, 14, 15, 16, 17, 18, 19, 20, 21, 22, 23, 24, 25, 26, 27, 28, 29, 30, 31, 32, 34, 35, 36, 37, 38, 33, 39, 40, 41, 42] (by kernel_rfl) ?_
  simp [go_sem, e0, e3, t1, hlt, hs, hlen, z0, z1]
  refine (refName_spec hmem.1).mono ?_
  rintro e s2 ⟨rfl, rfl⟩
  cases c3 : labelM xn.data.toList with
  | false =>
    rw [c3, Bool.false_and, Bool.false_and] at hc
    subst hc
    simp [go_sem, e0, e3]
  | true =>
  rw [c3, Bool.true_and] at hc
  by_cases c4 : xv.size < 1
  · have q4 : ((xv.size : Int) < 1) = True := eq_true (by omega)
    have : decide (1 ≤ xv.size) = false := decide_eq_false (by omega)
    rw [this, Bool.false_and, Bool.false_and] at hc
    subst hc
    simp [go_sem, e0, e3, t1, hlt, hs, hlen, z0, z1, q4]
  have q4 : ((xv.size : Int) < 1) = False := eq_false (by omega)
  have d4 : decide (1 ≤ xv.size) = true := decide_eq_true (by omega)
  rw [d4, Bool.true_and] at hc
  by_cases c5 : 64 < xv.size
  · have q5 : ((64 : Int) < xv.size) = True := eq_true (by omega)
    have : decide (xv.size ≤ 64) = false := decide_eq_false (by omega)
    rw [this, Bool.false_and, Bool.false_and] at hc
    subst hc
    simp [go_sem, e0, e3, t1, hlt, hs, hlen, z0, z1, q4, q5]
  have q5 : ((64 : Int) < xv.size) = False := eq_false (by omega)
  have d5 : decide (xv.size ≤ 64) = true := decide_eq_true (by omega)
  rw [d5, Bool.true_and] at hc
  match i, hi, e3, hlt, t1, hlen, hcell, hcc, hx, hd, hp0, hp1, z0, z1 with
  | 0, hi, e3, hlt, t1, hlen, hcell, hcc, hx, hd, hp0, hp1, z0, z1 =>
    have hp' := hp0 rfl
    subst hp'
    simp only [Bool.true_and] at hc
    have e3' : E 3 = Val.i 0 := e3
    have hw1 : IntKind.i64.wrap 1 = 1 := wrap_id (by omega) (by omega)
    simp only [Nat.zero_mul, Nat.add_zero] at z0 z1 hlen
    simp [go_sem, e0, e3', hlt, hs, hlen, z0, z1, q4, q5, hw1]
    exact ⟨_, .rfl' _, ⟨rfl, 1, by simp, by omega, some xn, hc, by omega, fun j hj => by rw [show j = 0 by omega]; exact ⟨xn, ⟨xv, hx⟩, rfl⟩⟩, by omega⟩
  | j + 1, hi, e3, hlt, t1, hlen, hcell, hcc, hx, hd, hp0, hp1, z0, z1 =>
    obtain ⟨x', hx', hxp⟩ := hp1 j rfl
    subst hxp
    obtain ⟨hlen', hcell', hcc'⟩ := hget j (by omega)
    rw [labV_get l j _ hx'] at hcc'
    have hc0' := hcc' 0 (by omega)
    simp only [List.getElem?_cons_succ, List.getElem?_cons_zero, Nat.add_zero] at hc0'
    obtain ⟨i, hij⟩ : ∃ i, j + 1 = i := ⟨_, rfl⟩
    rw [hij] at e3 z0 z1 hlen t1 hlt
    have hwj : IntKind.i64.wrap ((i : Int) - 1) = (j : Int) := by rw [wrap_id (by omega) (by omega)]; omega
    have hwi' : IntKind.i64.wrap ((i : Int) + 1) = ((i + 1 : Nat) : Int) := by rw [wrap_id (by omega) (by omega)]; omega
    have s4 : ((0 : Int) < (i : Int)) = True := eq_true (by omega)
    have s4' : 0 < i := by omega
    have s5 : j < l.length := by omega
    have hle := leT_not xn x'.1
    simp only at hc
    cases c6 : ltT x'.1 xn with
    | false =>
      rw [c6, Bool.false_and] at hc
      rw [c6, Bool.not_false] at hle
      subst hc
      simp [go_sem, e0, e3, t1, hlt, hs, hlen, z0, z1, q4, q5, s4, s4', s5, hwj, hlen', hc0', hle]
    | true =>
      rw [c6, Bool.true_and] at hc
      rw [c6, Bool.not_true] at hle
      simp [go_sem, e0, e3, t1, hlt, hs, hlen, z0, z1, q4, q5, s4, s4', s5, hwj, hlen', hc0', hle, hwi']
      exact ⟨_, .rfl' _, ⟨rfl, i + 1, by simp, by omega, some xn, by rw [← hij]; exact hc, by omega, fun k hk => by rw [show k = j + 1 by omega]; exact ⟨xn, ⟨xv, hx⟩, rfl⟩⟩, by omega⟩
end
section
variable {W0 : World}
end
end Go.Proofs.YtflbapmjdfnhhaaGreat
set_option linter.unusedVariables false
set_option linter.unusedSimpArgs false
set_option maxRecDepth 100000
set_option maxHeartbeats 4000000
namespace Go.Proofs.YtflbapmjdfnhhaaGreat
open Go.RowKit (Below)
def notM (m : Mat) : Mat := .mk 7 ⟨#[]⟩ ⟨#[]⟩ [] [m]
def allZ : Mat := .mk 0 ⟨#[]⟩ ⟨#[]⟩ [] []
theorem kidsM_at : ∀ (ms : List Mat) (deep : Nat) (n b : Int), (kidsM ms deep n b).1 = true → ∀ k ∈ ms, ∃ n b, (holdsM k deep n b).1 = true
  | [], _, _, _, _, k, hk => by simp at hk
  | m :: ms, deep, n, b, h, k, hk => by
    unfold kidsM at h
    split at h
    · rename_i n' b' hm
      rcases List.mem_cons.1 hk with rfl | hk
      · exact ⟨n, b, by rw [hm]⟩
      · exact kidsM_at ms deep n' b' h k hk
    · cases h
theorem nice_holds : ∀ (d : Nat) (m : Mat) (deep : Nat) (n b : Int), NiceM d m → (holdsM m deep n b).1 = true → deep ≤ 8 ∧ NiceM (9 - deep) m
  | 0, m, deep, n, b, hn, _ => by unfold NiceM at hn; exact hn.elim
  | d + 1, .mk op name value vals kids, deep, n, b, hn, h => by
    unfold NiceM at hn
    obtain ⟨n1, n2, n3, n4, n5, n6⟩ := hn
    unfold holdsM at h
    split at h
    · cases h
    · rename_i hc
      have hd : deep ≤ 8 := by
        rcases Nat.lt_or_ge 8 deep with hh | hh
        · exact absurd (.inl hh) hc
        · exact hh
      refine ⟨hd, ?_⟩
      split at h
      · cases h
      · obtain ⟨e, he⟩ : ∃ e, 9 - deep = e + 1 := ⟨8 - deep, by omega⟩
        rw [he]
        unfold NiceM
        refine ⟨n1, n2, n3, n4, n5, fun k hk => ?_⟩
        obtain ⟨n', b', hk'⟩ := kidsM_at _ _ _ _ h k hk
        have := (nice_holds d k (deep + 1) n' b' (n6 k hk) hk').2
        rw [show 9 - (deep + 1) = e by omega] at this
        exact this
theorem nice_check {m : Mat} (hn : NiceM 12 m) (hc : checkM m = true) : NiceM 8 m := (nice_holds 12 m 1 64 4096 hn hc).2
theorem nice_not {m : Mat} (h : NiceM 8 m) : NiceM 9 (notM m) := by
  unfold notM NiceM
  exact ⟨by decide, by decide, by simp, by simp, by simp, fun k hk => by rw [List.mem_singleton.1 hk]; exact h⟩
theorem eval_not (m : Mat) (l : List Lab) : evalM (notM m) l = !evalM m l := by
  unfold notM
  rw [evalM]
  simp [headM]
theorem eval_allZ (l : List Lab) : evalM allZ l = true := by
  unfold allZ
  rw [evalM]
  simp
theorem nice_allZ : NiceM 1 allZ := by unfold allZ NiceM; exact ⟨by decide, by decide, by simp, by simp, by simp, by simp⟩
theorem check_allZ : checkM allZ = true := by decide +kernel
theorem notAt {st : Heap} {m : Mat} {ms : List Value} {nb n : Nat} (h : st nb = some (.cells true ms n (.ty 1))) (hm : MatAt st ms m) : MatAt st [Val.i 7, .string ⟨#[]⟩, .string ⟨#[]⟩, .slice none 0 0, .slice (some ⟨nb, 0, none⟩) 1 1] (notM m) := by
  have hl := hm.length
  unfold notM MatAt
  refine ⟨_, _, ms, rfl, RegF.nil, ⟨.ty 1, by intro g x r; simp, by simp [hl], _, _, rfl, by simp, .inr ⟨nb, 0, true, ms, n, rfl, h, by simp, by simp⟩⟩, ?_⟩
  unfold KidsAt
  refine ⟨by omega, by rw [List.take_of_length_le (by omega)]; exact hm, ?_⟩
  unfold KidsAt
  exact List.drop_eq_nil_of_le (by omega)
theorem allZ_at {st : Heap} : MatAt st [Val.i 0, .string ⟨#[]⟩, .string ⟨#[]⟩, .slice none 0 0, .slice none 0 0] allZ := by
  unfold allZ MatAt
  refine ⟨_, _, [], rfl, RegF.nil, RegF.nil, ?_⟩
  unfold KidsAt
  rfl
theorem sets_total (m : Mat) (frm to_ : Int) : ∀ rows : List RowD, totL (winL (rows.filter (keepR (evalM m))) frm to_) + totL (winL (rows.filter (keepR (evalM (notM m)))) frm to_) = totL (winL (rows.filter (keepR (evalM allZ))) frm to_)
  | [] => by simp [winL, totL]
  | r :: rows => by
    have ih := sets_total m frm to_ rows
    have hk : ∀ ev, keepR ev r = ((checkL r.labels && checkS r.s) && ev r.labels) := fun _ => rfl
    rw [List.filter_cons, List.filter_cons, List.filter_cons, hk, hk, hk, eval_not, eval_allZ]
    cases (checkL r.labels && checkS r.s) with
    | false => simpa using ih
    | true =>
      cases evalM m r.labels with
      | true => simp only [Bool.and_self, Bool.not_true, Bool.and_false, if_true, Bool.false_eq_true, if_false]; rw [winL_cons, winL_cons]; omega
      | false => simp only [Bool.and_false, Bool.not_false, Bool.and_self, if_true, Bool.false_eq_true, if_false]; rw [winL_cons, winL_cons]; omega
section
variable {W0 : World} {st : Heap}
theorem querySets_walk {ks : List Value} {m : Mat} {rv : Value} {rows : List RowD} {start step : Int} (hm : MatAt st ks m) (hrows : RowsAt st rv rows) (hlen : rows.length < 2 ^ 50) (hok : ∀ r ∈ rows, RowOK r) (bst : -2 ^ 63 ≤ start ∧ start < 2 ^ 63) (bstep : -2 ^ 63 ≤ step ∧ step < 2 ^ 63) :
    ICalls Tryz.prog W0 6 #[.agg ks.toArray, rv, Val.i start, Val.i step] st fun e st' => e = .returned (.bool true) := by
  obtain ⟨rb, rc, rfl⟩ := hrows.slice
  have awake : ∀ (sta : Heap) {K : Ending → Heap → Prop}, (∀ st', K (.returned (.bool true)) st') → ICalls Tryz.prog W0 10 #[] sta K := fun sta K hK => awake23_spec.mono fun e st' h => by rw [h.1]; exact hK st'
  obtain ⟨mo, mn, mv, mb1, mn1, mc1, kb1, kn1, kc1, rfl⟩ := hm.cells
  refine enter (args := [_, _, _, _]) Tryz.func6 rfl ?_
  refine IW_assoc ?_
  refine IW_cut' (fun E' st' => ∃ tb : Nat, (NiceM 12 m ∧ checkM m = true ∧ checkM (notM m) = true ∧ rows.length ≤ 30) ∧ New st st' ∧ E' 1 = .slice rb rows.length rc ∧ E' 2 = Val.i start ∧ E' 3 = Val.i step ∧ E' 4 = ptr tb ∧ st' tb = some (.cells true [Val.i mo, .string mn, .string mv, .slice mb1 mn1 mc1, .slice kb1 kn1 kc1] 5 (.ty 1))) ?_ ?_
  · simp [go_sem]
    unfold NewP
    intro tb htb
    refine ⟨.ty 1, ?_⟩
    have k1 := (New.refl st).add (b := tb) (o := .cells true [Val.i mo, .string mn, .string mv, .slice mb1 mn1 mc1, .slice kb1 kn1 kc1] 5 (.ty 1)) htb
    have g1 := upd_same st tb (.cells true [Val.i mo, .string mn, .string mv, .slice mb1 mn1 mc1, .slice kb1 kn1 kc1] 5 (.ty 1))
    try simp [go_sem]
    generalize upd st tb (.cells true [Val.i mo, .string mn, .string mv, .slice mb1 mn1 mc1, .slice kb1 kn1 kc1] 5 (.ty 1)) = st1 at *
    refine ICalls.mono (by simpa using Tiny_spec (W0 := W0) (hm.new k1)) ?_
    rintro e st2 ⟨rfl, k2⟩
    have g2 := k2 _ _ g1
    cases htn : (tinyM m 0 0).1 with
    | false =>
      simp [go_sem]
      refine awake _ fun st' => ?_
      simp [go_sem]
    | true =>
    have hN : NiceM 12 m := ((tinyM_spec m 0 0).2 htn).2
    simp [go_sem, g2]
    refine ICalls.mono (by simpa using refCheck_spec (W0 := W0) hN (by omega) (hm.new (k1.trans k2))) ?_
    rintro e st3 ⟨rfl, k3⟩
    have g3 := k3 _ _ g2
    cases hcm : checkM m with
    | false =>
      simp [go_sem]
      refine awake _ fun st' => ?_
      simp [go_sem]
    | true =>
    simp [go_sem, g3]
    unfold NewS
    intro nb hnb
    refine ⟨.ty 1, ?_⟩
    have k4 := (New.refl st3).add (b := nb) (o := .cells true [Val.i mo, .string mn, .string mv, .slice mb1 mn1 mc1, .slice kb1 kn1 kc1] 5 (.ty 1)) hnb
    have g4 := upd_same st3 nb (.cells true [Val.i mo, .string mn, .string mv, .slice mb1 mn1 mc1, .slice kb1 kn1 kc1] 5 (.ty 1))
    have g3' := k4 _ _ g3
    simp [go_sem]
    generalize upd st3 nb (.cells true [Val.i mo, .string mn, .string mv, .slice mb1 mn1 mc1, .slice kb1 kn1 kc1] 5 (.ty 1)) = st4 at *
    have k13 := (k1.trans k2).trans k3
    refine ICalls.mono (by simpa [notM] using refCheck_spec (W0 := W0) (nice_not (nice_check hN hcm)) (by omega) (notAt g4 (hm.new (k13.trans k4)))) ?_
    rintro e st5 ⟨rfl, k5⟩
    have g5 := k5 _ _ g3'
    have kk := (k13.trans k4).trans k5
    have hnm : checkM (Mat.mk 7 ⟨#[]⟩ ⟨#[]⟩ [] [m]) = checkM (notM m) := rfl
    cases hcn : checkM (notM m) with
    | false =>
      simp [go_sem, hnm, hcn]
      refine awake _ fun st' => ?_
      simp [go_sem]
    | true =>
    by_cases c1 : 30 < rows.length
    · have t1 : ((30 : Int) < rows.length) = True := eq_true (by omega)
      simp [go_sem, t1, c1, hnm, hcn]
      refine awake _ fun st' => ?_
      simp [go_sem]
    have t1 : ((30 : Int) < rows.length) = False := eq_false (by omega)
    simp [go_sem, t1, c1, hnm, hcn]
    exact ⟨⟨hN, by omega⟩, kk, g5⟩
  rintro E st1 ⟨tb, ⟨hN, hcm, hcn, hl30⟩, hk1, e1, e2, e3, e4, g4⟩
  -- each row's labels
  refine IW_cut' (fun E' st' => st1 = st' ∧ E' 1 = .slice rb rows.length rc ∧ E' 2 = Val.i start ∧ E' 3 = Val.i step ∧ E' 4 = ptr tb) ?_ ?_
  · simp [go_sem, e1, e2, e3, e4]
    refine ⟨fun E st' => st1 = st' ∧ E 1 = .slice rb rows.length rc ∧ E 2 = Val.i start ∧ E 3 = Val.i step ∧ E 4 = ptr tb ∧ ∃ i : Nat, E 9 = Val.i (i : Int) ∧ i ≤ rows.length, fun E _ => match E 9 with | .int _ z => rows.length - z.toNat | _ => 0,
      ⟨st1, .rfl' _, rfl, by simp [go_sem, e1], by simp [go_sem, e2], by simp [go_sem, e3], by simp [go_sem, e4], 0, by simp [go_sem], by omega⟩, ?_⟩
    clear e1 e2 e3 e4
    rintro E st' ⟨rfl, e1, e2, e3, e4, i, e9, hi⟩
    by_cases hlt : i < rows.length
    rotate_left
    · have : i = rows.length := by omega
      subst this
      simp [go_sem, e1, e2, e3, e4, e9]
    have t1 : ((i : Int) < rows.length) = True := eq_true (by omega)
    have hwi : IntKind.i64.wrap ((i : Int) + 1) = ((i + 1 : Nat) : Int) := by rw [wrap_id (by omega) (by omega)]; omega
    obtain ⟨mb, off, cap, rw_, zs, mm, g', cs, hv', hsm, hlen8, hcell, hrow⟩ := (hrows.new hk1).get hlt
    injection hv' with v1 v2 v3
    subst v1; subst v3
    have rok := hok _ (List.getElem_mem hlt)
    generalize rows[i] = r at *
    have hlab : RegF st1 2 (cs.getD 0 undef) (labV r.labels) r.labels.length := by
      obtain ⟨lv, ss, he, h1, _⟩ := id hrow
      rw [he]; exact h1
    have hz : zs[off + i * 8]? = some (cs.getD 0 undef) := by
      have h0 := congrArg (fun l : List Value => l[0]?) hcell
      obtain ⟨lv, ss, he, h1, _⟩ := id hrow
      rw [he] at h0 ⊢
      simpa using h0
    generalize cs.getD 0 undef = lv at *
    simp [go_sem, e1, e2, e3, e4, e9, t1, hlt, hsm, hlen8, hz]
    refine (refLabCheck_spec hlab (by have := rok.llen; omega) rok.sizes).mono ?_
    rintro e s2 ⟨rfl, rfl⟩
    cases checkL r.labels with
    | false =>
      simp [go_sem, e1, e2, e3, e4, e9]
      refine awake _ fun st' => ?_
      simp [go_sem]
    | true =>
      simp [go_sem, e1, e2, e3, e4, e9, hwi]
      exact ⟨_, .rfl' _, ⟨rfl, i + 1, by simp, by omega⟩, by omega⟩
  clear e1 e2 e3 e4
  rintro E st' ⟨rfl, e1, e2, e3, e4⟩
  -- the three questions
  iterate 4 refine IW_assoc ?_
  refine IW_cut (fun E' st' => ∃ (ta tb tc nb : Nat) (g2 : Tg) (sa sp : Int) (mo : Int) (mn mv : ByteArray) (mb1 : Option Addr) (mn1 mc1 : Nat) (kb1 : Option Addr) (kn1 kc1 : Nat), (0 ≤ sa ∧ sa < 1048576 ∧ 1 ≤ sp ∧ sp ≤ 1048576) ∧ New st st' ∧ E' 1 = .slice rb rows.length rc ∧ E' 10 = ptr ta ∧ E' 11 = ptr tb ∧ E' 12 = ptr tc ∧ st' ta = some (.cells true [Val.i mo, .string mn, .string mv, .slice mb1 mn1 mc1, .slice kb1 kn1 kc1, Val.i sa, Val.i sp, Val.i 1, Val.i 1, Val.u 0, Val.u 0] 11 (.ty 1)) ∧ st' tb = some (.cells true [Val.i 7, .string ⟨#[]⟩, .string ⟨#[]⟩, .slice none 0 0, .slice (some ⟨nb, 0, none⟩) 1 1, Val.i sa, Val.i sp, Val.i 1, Val.i 1, Val.u 0, Val.u 0] 11 g2) ∧ st' tc = some (.cells true [Val.i 0, .string ⟨#[]⟩, .string ⟨#[]⟩, .slice none 0 0, .slice none 0 0, Val.i sa, Val.i sp, Val.i 1, Val.i 1, Val.u 0, Val.u 0] 11 (.ty 1)) ∧ MatAt st' [Val.i mo, .string mn, .string mv, .slice mb1 mn1 mc1, .slice kb1 kn1 kc1] m ∧ MatAt st' [Val.i 7, .string ⟨#[]⟩, .string ⟨#[]⟩, .slice none 0 0, .slice (some ⟨nb, 0, none⟩) 1 1] (notM m)) ?_ ?_
  · simp [go_sem, e1, e2, e3, e4, g4]
    refine ICalls.mono (by simpa using Matcher_copy (W0 := W0) hN (hm.new hk1)) ?_
    rintro e s2 ⟨cs, rfl, hm2, k2⟩
    obtain ⟨xo, xn, xv, xb1, xn1, xc1, yb1, yn1, yc1, rfl⟩ := hm2.cells
    have g42 := k2 _ _ g4
    simp [go_sem, e1, e2, e3, e4]
    refine (Place_spec (k := 1048576) (by omega) (by omega)).mono ?_
    rintro e s3 ⟨⟨sa, hsa, rfl⟩, rfl⟩
    simp [go_sem, e1, e2, e3, e4]
    refine (Place_spec (k := 1048576) (by omega) (by omega)).mono ?_
    rintro e s4 ⟨⟨sp0, hsp, rfl⟩, rfl⟩
    obtain ⟨sp, hspe⟩ : ∃ sp : Int, (sp0 : Int) + 1 = sp := ⟨_, rfl⟩
    have hwp : IntKind.i64.wrap (1 + (sp0 : Int)) = sp := by rw [← hspe, Int.add_comm]; exact wrap_id (by omega) (by omega)
    have hsa0 : (0 : Int) ≤ sa := by omega
    obtain ⟨sai, hsai⟩ : ∃ x : Int, (sa : Int) = x := ⟨_, rfl⟩
    rw [hsai] at hsa hsa0
    simp [go_sem, e1, e2, e3, e4, hwp, hsai]
    unfold NewP
    intro ta hta
    refine ⟨.ty 1, ?_⟩
    obtain ⟨s5, hs5⟩ : ∃ s5, upd s4 ta (.cells true [Val.i xo, .string xn, .string xv, .slice xb1 xn1 xc1, .slice yb1 yn1 yc1, Val.i sai, Val.i sp, Val.i 1, Val.i 1, Val.u 0, Val.u 0] 11 (.ty 1)) = s5 := ⟨_, rfl⟩
    have k5 : New s4 s5 := by rw [← hs5]; exact (New.refl s4).put hta
    have ga5 : s5 ta = some (.cells true [Val.i xo, .string xn, .string xv, .slice xb1 xn1 xc1, .slice yb1 yn1 yc1, Val.i sai, Val.i sp, Val.i 1, Val.i 1, Val.u 0, Val.u 0] 11 (.ty 1)) := by rw [← hs5]; exact upd_same _ _ _
    have g45 := k5 _ _ g42
    simp [go_sem, e1, e2, e3, e4]
    rw [hs5]
    unfold NewP
    intro tb2 htb2
    refine ⟨.own tb2 0 28, ?_⟩
    have nab : ta ≠ tb2 := ne_of_new ga5 htb2
    have nba := Ne.symm nab
    have n4b : tb ≠ tb2 := ne_of_new g45 htb2
    obtain ⟨s6, hs6⟩ : ∃ s6, upd s5 tb2 (.cells true [Val.i xo, .string xn, .string xv, .slice xb1 xn1 xc1, .slice yb1 yn1 yc1, Val.i sai, Val.i sp, Val.i 1, Val.i 1, Val.u 0, Val.u 0] 11 (.own tb2 0 28)) = s6 := ⟨_, rfl⟩
    have k6 : New s5 s6 := by rw [← hs6]; exact (New.refl s5).put htb2
    have gb6 : s6 tb2 = some (.cells true [Val.i xo, .string xn, .string xv, .slice xb1 xn1 xc1, .slice yb1 yn1 yc1, Val.i sai, Val.i sp, Val.i 1, Val.i 1, Val.u 0, Val.u 0] 11 (.own tb2 0 28)) := by rw [← hs6]; exact upd_same _ _ _
    have ga6 := k6 _ _ ga5
    have g46 := k6 _ _ g45
    simp [go_sem, e1, e2, e3, e4, ga5, nab, nba]
    rw [hs6]
    simp [go_sem, e1, e2, e3, e4, g46]
    have k46 : New st1 s6 := (k2.trans k5).trans k6
    refine ICalls.mono (by simpa using Matcher_copy (W0 := W0) hN (hm.new (hk1.trans k46))) ?_
    rintro e s7 ⟨cs7, rfl, hm7, k7⟩
    obtain ⟨zo, zn, zv, zb1, zn1, zc1, wb1, wn1, wc1, rfl⟩ := hm7.cells
    simp [go_sem, e1, e2, e3, e4]
    unfold NewS
    intro nb hnb
    refine ⟨.ty 1, ?_⟩
    have k8 := (New.refl s7).add (b := nb) (o := .cells true [Val.i zo, .string zn, .string zv, .slice zb1 zn1 zc1, .slice wb1 wn1 wc1] 5 (.ty 1)) hnb
    have gn8 := upd_same s7 nb (.cells true [Val.i zo, .string zn, .string zv, .slice zb1 zn1 zc1, .slice wb1 wn1 wc1] 5 (.ty 1))
    simp [go_sem, e1, e2, e3, e4]
    generalize upd s7 nb (.cells true [Val.i zo, .string zn, .string zv, .slice zb1 zn1 zc1, .slice wb1 wn1 wc1] 5 (.ty 1)) = s8 at *
    have gb8 := k8 _ _ (k7 _ _ gb6)
    have ga8 := k8 _ _ (k7 _ _ ga6)
    have kk8 : New s4 s8 := ((k5.trans k6).trans k7).trans k8
    have kq8 : New s5 s8 := (k6.trans k7).trans k8
    obtain ⟨s9, hs9⟩ : ∃ s9, upd s8 tb2 (.cells true [Val.i 7, .string ⟨#[]⟩, .string ⟨#[]⟩, .slice none 0 0, .slice (some ⟨nb, 0, none⟩) 1 1, Val.i sai, Val.i sp, Val.i 1, Val.i 1, Val.u 0, Val.u 0] 11 (.own tb2 0 28)) = s9 := ⟨_, rfl⟩
    have k9 : New s5 s9 := by rw [← hs9]; exact kq8.put htb2
    have gb9 : s9 tb2 = some (.cells true [Val.i 7, .string ⟨#[]⟩, .string ⟨#[]⟩, .slice none 0 0, .slice (some ⟨nb, 0, none⟩) 1 1, Val.i sai, Val.i sp, Val.i 1, Val.i 1, Val.u 0, Val.u 0] 11 (.own tb2 0 28)) := by rw [← hs9]; exact upd_same _ _ _
    have ga9 := k9 _ _ ga5
    have gn9 : s9 nb = some (.cells true [Val.i zo, .string zn, .string zv, .slice zb1 zn1 zc1, .slice wb1 wn1 wc1] 5 (.ty 1)) := by
      rw [← hs9, upd_ne _ _ (by rintro rfl; rw [gb8] at gn8; injection gn8 with h1; injection h1 with _ _ h2; cases h2)]; exact gn8
    simp [go_sem, e1, e2, e3, e4, gb8, ga8, nab, nba]
    rw [hs9]
    unfold NewP
    intro tc htc
    refine ⟨.ty 1, ?_⟩
    have nac : ta ≠ tc := ne_of_new ga9 htc
    have nca := Ne.symm nac
    have nbc : tb2 ≠ tc := ne_of_new gb9 htc
    have ncb := Ne.symm nbc
    obtain ⟨s10, hs10⟩ : ∃ s10, upd s9 tc (.cells true [Val.i 0, .string ⟨#[]⟩, .string ⟨#[]⟩, .slice none 0 0, .slice none 0 0, Val.i sai, Val.i sp, Val.i 1, Val.i 1, Val.u 0, Val.u 0] 11 (.ty 1)) = s10 := ⟨_, rfl⟩
    have k10 : New s9 s10 := by rw [← hs10]; exact (New.refl s9).put htc
    have gc10 : s10 tc = some (.cells true [Val.i 0, .string ⟨#[]⟩, .string ⟨#[]⟩, .slice none 0 0, .slice none 0 0, Val.i sai, Val.i sp, Val.i 1, Val.i 1, Val.u 0, Val.u 0] 11 (.ty 1)) := by rw [← hs10]; exact upd_same _ _ _
    simp [go_sem, e1, e2, e3, e4, ga9, nac, nca, nbc, ncb]
    rw [hs10]
    have kf : Keep Free s8 s9 := by
      rw [← hs9]
      refine Keep.rfl'.old gb8 ?_
      intro g hg hp
      injection hg with hg
      subst hg
      exact hp _ _ _ rfl
    have hm9 := (hm7.new k8).free kf
    have hmx := hm2.new ((k5.trans k9).trans k10)
    exact ⟨ta, tb2, tc, nb, _, sai, sp, ⟨hsa0, hsa, by omega, by omega⟩, (((hk1.trans k2).trans k5).trans k9).trans k10, rfl, rfl, rfl, xo, xn, xv, xb1, xn1, xc1, yb1, yn1, yc1, k10 _ _ ga9, k10 _ _ gb9, gc10, hmx, notAt (k10 _ _ gn9) (hm9.new k10)⟩
  clear e1 e2 e3 e4 g4 hk1
  rintro E st2 ⟨ta, tb2, tc, nb, g2, sa, sp, mo, mn, mv, mb1, mn1, mc1, kb1, kn1, kc1, ⟨sa0, sa1, sp0, sp1⟩, hk1, e1, e10, e11, e12, ga, gb, gc, hma, hmb⟩
  obtain ⟨L1, hL1⟩ : ∃ L, rows.filter (keepR (evalM m)) = L := ⟨_, rfl⟩
  obtain ⟨L2, hL2⟩ : ∃ L, rows.filter (keepR (evalM (notM m))) = L := ⟨_, rfl⟩
  obtain ⟨L3, hL3⟩ : ∃ L, rows.filter (keepR (evalM allZ)) = L := ⟨_, rfl⟩
  have hlen1 : L1.length < 2 ^ 30 := by have := List.length_filter_le (keepR (evalM m)) rows; rw [hL1] at this; omega
  have hlen2 : L2.length < 2 ^ 30 := by have := List.length_filter_le (keepR (evalM (notM m))) rows; rw [hL2] at this; omega
  have hlen3 : L3.length < 2 ^ 30 := by have := List.length_filter_le (keepR (evalM allZ)) rows; rw [hL3] at this; omega
  have hokf1 : ∀ r ∈ L1, RowOK r := fun r hr => by rw [← hL1] at hr; exact hok r (List.mem_filter.1 hr).1
  have hokf2 : ∀ r ∈ L2, RowOK r := fun r hr => by rw [← hL2] at hr; exact hok r (List.mem_filter.1 hr).1
  have hokf3 : ∀ r ∈ L3, RowOK r := fun r hr => by rw [← hL3] at hr; exact hok r (List.mem_filter.1 hr).1
  have hck1 : ∀ r ∈ L1, checkS r.s = true := by rw [← hL1]; exact keepR_check
  have hck2 : ∀ r ∈ L2, checkS r.s = true := by rw [← hL2]; exact keepR_check
  have hck3 : ∀ r ∈ L3, checkS r.s = true := by rw [← hL3]; exact keepR_check
  have htot : totL (winL L1 sa (sa + sp)) + totL (winL L2 sa (sa + sp)) = totL (winL L3 sa (sa + sp)) := by rw [← hL1, ← hL2, ← hL3]; exact sets_total m sa (sa + sp) rows
  have aokX : ∀ m' : Mat, AskOK ⟨m', sa, sp, 1, 1, 0, 0⟩ := fun m' => ⟨by dsimp only; omega, by dsimp only; omega, by dsimp only; omega, by dsimp only; omega, by dsimp only; omega⟩
  have hwX : windowsN sa sp 1 = 1 := by
    unfold windowsN
    have hdv : 1 ≤ (1099511627776 - sa) / sp := (Int.le_ediv_iff_mul_le (by omega)).2 (by omega)
    rw [if_neg (by omega)]
    rfl
  obtain ⟨q1, hq1⟩ : ∃ q1 : AskD, q1 = ⟨m, sa, sp, 1, 1, 0, 0⟩ := ⟨_, rfl⟩
  obtain ⟨q2, hq2⟩ : ∃ q2 : AskD, q2 = ⟨notM m, sa, sp, 1, 1, 0, 0⟩ := ⟨_, rfl⟩
  obtain ⟨q3, hq3⟩ : ∃ q3 : AskD, q3 = ⟨allZ, sa, sp, 1, 1, 0, 0⟩ := ⟨_, rfl⟩
  have aok1 : AskOK q1 := by rw [hq1]; exact aokX _
  have aok2 : AskOK q2 := by rw [hq2]; exact aokX _
  have aok3 : AskOK q3 := by rw [hq3]; exact aokX _
  have hw1 : windowsN q1.start q1.step q1.n = 1 := by rw [hq1]; exact hwX
  have hw2 : windowsN q2.start q2.step q2.n = 1 := by rw [hq2]; exact hwX
  have hw3 : windowsN q3.start q3.step q3.n = 1 := by rw [hq3]; exact hwX
  have hN8 := nice_check hN hcm
  have hN9 := nice_not hN8
  obtain ⟨ka, hka⟩ : ∃ ka, [Val.i mo, .string mn, .string mv, .slice mb1 mn1 mc1, .slice kb1 kn1 kc1, Val.i sa, Val.i sp, Val.i 1, Val.i 1, Val.u 0, Val.u 0] = ka := ⟨_, rfl⟩
  obtain ⟨kb, hkb⟩ : ∃ kb, [Val.i 7, .string ⟨#[]⟩, .string ⟨#[]⟩, .slice none 0 0, .slice (some ⟨nb, 0, none⟩) 1 1, Val.i sa, Val.i sp, Val.i 1, Val.i 1, Val.u 0, Val.u 0] = kb := ⟨_, rfl⟩
  obtain ⟨kc, hkc⟩ : ∃ kc, [Val.i 0, .string ⟨#[]⟩, .string ⟨#[]⟩, .slice none 0 0, .slice none 0 0, Val.i sa, Val.i sp, Val.i 1, Val.i 1, Val.u 0, Val.u 0] = kc := ⟨_, rfl⟩
  have hkla : ka.length = 11 := by rw [← hka]; rfl
  have hklb : kb.length = 11 := by rw [← hkb]; rfl
  have hklc : kc.length = 11 := by rw [← hkc]; rfl
  have htka : ka.take 11 = ka := List.take_of_length_le (by omega)
  have htkb : kb.take 11 = kb := List.take_of_length_le (by omega)
  have htkc : kc.take 11 = kc := List.take_of_length_le (by omega)
  rw [hka] at ga
  rw [hkb] at gb
  rw [hkc] at gc
  refine IW_cut (fun E' st' => New st st' ∧ E' 1 = .slice rb rows.length rc ∧ E' 10 = ptr ta ∧ E' 11 = ptr tb2 ∧ E' 12 = ptr tc ∧ st' ta = some (.cells true ka 11 (.ty 1)) ∧ st' tb2 = some (.cells true kb 11 g2) ∧ st' tc = some (.cells true kc 11 (.ty 1)) ∧ MatAt st' [Val.i mo, .string mn, .string mv, .slice mb1 mn1 mc1, .slice kb1 kn1 kc1] m ∧ MatAt st' [Val.i 7, .string ⟨#[]⟩, .string ⟨#[]⟩, .slice none 0 0, .slice (some ⟨nb, 0, none⟩) 1 1] (notM m) ∧ ToldAt st' (E' 13) (ansOf q1 L1 q1.step) q1.start q1.step 1) ?_ ?_
  · simp [go_sem]
    refine drawV [0, 1, 2, 3, 4, 5] (fun i v st' => match i with
      | 0 => v = .agg ka.toArray
      | 1 => v = .slice rb rows.length rc
      | 2 => RowsAt st' v rows
      | 3 => AnsFn st' v [Val.i mo, .string mn, .string mv, .slice mb1 mn1 mc1, .slice kb1 kn1 kc1] q1 L1
      | 4 | 5 => ToldAt st' v (ansOf q1 L1 q1.step) q1.start q1.step 1
      | _ => True) (by kernel_rfl) (by kernel_rfl) ?_ ?_ ?_ ?_
    · intro i v sta stb hNw h
      match i with
      | 2 => exact h.new hNw
      | 3 => exact h.new hNw
      | 4 => exact h.new hNw
      | 5 => exact h.new hNw
      | 0 => exact h
      | 1 => exact h
      | i + 6 => exact h
    · intro i oo hi E sta hNw hd hE
      have ta := hNw _ _ ga
      have hro := hrows.new (hk1.trans hNw)
      match i with
      | 0 =>
        have x10 := hE 10 (oldB_spec (by kernel_rfl))
        injection hi with hi; subst hi
        simp [wantedE, go_sem, x10, e10, ta, hkla, htka]
        exact New.refl _
      | 1 =>
        have x1 := hE 1 (oldB_spec (by kernel_rfl))
        injection hi with hi; subst hi
        simp [wantedE, go_sem, x1, e1, ta, hkla, htka]
        exact New.refl _
      | 2 =>
        injection hi with hi; subst hi
        have d1 := hd { on := 1, ground := .data } (by simp) (by decide) _ _ rfl rfl
        simp only at d1
        simp [wantedE, go_sem, d1, ta, hkla, htka]
        refine (Rows_copy hro (by omega) hok).mono ?_
        rintro e s4 ⟨w4, rfl, hw4, n4⟩
        simp [go_sem]
        exact ⟨n4, hw4⟩
      | 3 =>
        injection hi with hi; subst hi
        have d0 := hd { on := 0, ground := .data } (by simp) (by decide) _ _ rfl rfl
        have d2 := hd { on := 2, ground := .data } (by simp) (by decide) _ _ rfl rfl
        simp only at d0 d2
        simp [wantedE, go_sem, d0, d2, ta, hkla, htka]
        rw [← hka]
        refine (answers_x (hma.new hNw) hN8 hcm d2 (by omega) hok).mono ?_
        rintro e s5 ⟨w5, rfl, hw5, n5⟩
        rw [hL1, ← hq1] at hw5
        simp [go_sem]
        exact ⟨n5, hw5⟩
      | 4 =>
        injection hi with hi; subst hi
        have d3 := hd { on := 3, ground := .data } (by simp) (by decide) _ _ rfl rfl
        simp only at d3
        simp [wantedE, go_sem, d3, ta, hkla, htka]
        refine (told_made (most := 5) d3 rfl aok1 hlen1 hokf1 hck1 (by omega) (by rw [hw1]; omega)).mono ?_
        rintro e s6 ⟨w6, rfl, hw6, n6⟩
        rw [hw1] at hw6
        simp [go_sem]
        exact ⟨n6, hw6⟩
      | 5 =>
        injection hi with hi; subst hi
        have d4 := hd { on := 4, ground := .data } (by simp) (by decide) _ _ rfl rfl
        simp only at d4
        simp [wantedE, go_sem, d4, ta, hkla, htka]
        exact New.refl _
      | i + 6 => simp at hi
    · intro E sta hNw hd hE
      have d5 := hd 5 _ 13 rfl rfl
      simp only at d5
      have y1 := hE 1 (noB_spec (by kernel_rfl))
      have y10 := hE 10 (noB_spec (by kernel_rfl))
      have y11 := hE 11 (noB_spec (by kernel_rfl))
      have y12 := hE 12 (noB_spec (by kernel_rfl))
      simp [y1, e1, y10, e10, y11, e11, y12, e12]
      exact ⟨hk1.trans hNw, hNw _ _ ga, hNw _ _ gb, hNw _ _ gc, hma.new hNw, hmb.new hNw, d5⟩
    · intro j oj hj
      match j with
      | 0 | 1 | 2 | 3 | 4 | 5 => simp at hj; subst hj; decide
      | j + 6 => simp at hj
  clear e1 e10 e11 e12 ga gb gc hma hmb hk1
  rintro E st3 ⟨hk1, e1, e10, e11, e12, ga, gb, gc, hma, hmb, h13⟩
  refine IW_cut (fun E' st' => New st st' ∧ E' 1 = .slice rb rows.length rc ∧ E' 10 = ptr ta ∧ E' 11 = ptr tb2 ∧ E' 12 = ptr tc ∧ st' ta = some (.cells true ka 11 (.ty 1)) ∧ st' tb2 = some (.cells true kb 11 g2) ∧ st' tc = some (.cells true kc 11 (.ty 1)) ∧ MatAt st' [Val.i mo, .string mn, .string mv, .slice mb1 mn1 mc1, .slice kb1 kn1 kc1] m ∧ MatAt st' [Val.i 7, .string ⟨#[]⟩, .string ⟨#[]⟩, .slice none 0 0, .slice (some ⟨nb, 0, none⟩) 1 1] (notM m) ∧ ToldAt st' (E' 13) (ansOf q1 L1 q1.step) q1.start q1.step 1 ∧ ToldAt st' (E' 14) (ansOf q2 L2 q2.step) q2.start q2.step 1) ?_ ?_
  · simp [go_sem]
    refine drawV [0, 1, 2, 3, 4, 5] (fun i v st' => match i with
      | 0 => v = .agg kb.toArray
      | 1 => v = .slice rb rows.length rc
      | 2 => RowsAt st' v rows
      | 3 => AnsFn st' v [Val.i 7, .string ⟨#[]⟩, .string ⟨#[]⟩, .slice none 0 0, .slice (some ⟨nb, 0, none⟩) 1 1] q2 L2
      | 4 | 5 => ToldAt st' v (ansOf q2 L2 q2.step) q2.start q2.step 1
      | _ => True) (by kernel_rfl) (by kernel_rfl) ?_ ?_ ?_ ?_
    · intro i v sta stb hNw h
      match i with
      | 2 => exact h.new hNw
      | 3 => exact h.new hNw
      | 4 => exact h.new hNw
      | 5 => exact h.new hNw
      | 0 => exact h
      | 1 => exact h
      | i + 6 => exact h
    · intro i oo hi E sta hNw hd hE
      have ta := hNw _ _ gb
      have hro := hrows.new (hk1.trans hNw)
      match i with
      | 0 =>
        have x11 := hE 11 (oldB_spec (by kernel_rfl))
        injection hi with hi; subst hi
        simp [wantedE, go_sem, x11, e11, ta, hklb, htkb]
        exact New.refl _
      | 1 =>
        have x1 := hE 1 (oldB_spec (by kernel_rfl))
        injection hi with hi; subst hi
        simp [wantedE, go_sem, x1, e1, ta, hklb, htkb]
        exact New.refl _
      | 2 =>
        injection hi with hi; subst hi
        have d1 := hd { on := 1, ground := .data } (by simp) (by decide) _ _ rfl rfl
        simp only at d1
        simp [wantedE, go_sem, d1, ta, hklb, htkb]
        refine (Rows_copy hro (by omega) hok).mono ?_
        rintro e s4 ⟨w4, rfl, hw4, n4⟩
        simp [go_sem]
        exact ⟨n4, hw4⟩
      | 3 =>
        injection hi with hi; subst hi
        have d0 := hd { on := 0, ground := .data } (by simp) (by decide) _ _ rfl rfl
        have d2 := hd { on := 2, ground := .data } (by simp) (by decide) _ _ rfl rfl
        simp only at d0 d2
        simp [wantedE, go_sem, d0, d2, ta, hklb, htkb]
        rw [← hkb]
        refine (answers_x (hmb.new hNw) hN9 hcn d2 (by omega) hok).mono ?_
        rintro e s5 ⟨w5, rfl, hw5, n5⟩
        rw [hL2, ← hq2] at hw5
        simp [go_sem]
        exact ⟨n5, hw5⟩
      | 4 =>
        injection hi with hi; subst hi
        have d3 := hd { on := 3, ground := .data } (by simp) (by decide) _ _ rfl rfl
        simp only at d3
        simp [wantedE, go_sem, d3, ta, hklb, htkb]
        refine (told_made (most := 5) d3 rfl aok2 hlen2 hokf2 hck2 (by omega) (by rw [hw2]; omega)).mono ?_
        rintro e s6 ⟨w6, rfl, hw6, n6⟩
        rw [hw2] at hw6
        simp [go_sem]
        exact ⟨n6, hw6⟩
      | 5 =>
        injection hi with hi; subst hi
        have d4 := hd { on := 4, ground := .data } (by simp) (by decide) _ _ rfl rfl
        simp only at d4
        simp [wantedE, go_sem, d4, ta, hklb, htkb]
        exact New.refl _
      | i + 6 => simp at hi
    · intro E sta hNw hd hE
      have d5 := hd 5 _ 14 rfl rfl
      simp only at d5
      have y1 := hE 1 (noB_spec (by kernel_rfl))
      have y10 := hE 10 (noB_spec (by kernel_rfl))
      have y11 := hE 11 (noB_spec (by kernel_rfl))
      have y12 := hE 12 (noB_spec (by kernel_rfl))
      have y13 := hE 13 (noB_spec (by kernel_rfl))
      simp [y1, e1, y10, e10, y11, e11, y12, e12, y13]
      exact ⟨hk1.trans hNw, hNw _ _ ga, hNw _ _ gb, hNw _ _ gc, hma.new hNw, hmb.new hNw, h13.new hNw, d5⟩
    · intro j oj hj
      match j with
      | 0 | 1 | 2 | 3 | 4 | 5 => simp at hj; subst hj; decide
      | j + 6 => simp at hj
  clear e1 e10 e11 e12 ga gb gc hma hmb hk1 h13
  rintro E st4 ⟨hk1, e1, e10, e11, e12, ga, gb, gc, hma, hmb, h13, h14⟩
  refine IW_cut (fun E' st' => New st st' ∧ E' 1 = .slice rb rows.length rc ∧ E' 10 = ptr ta ∧ E' 11 = ptr tb2 ∧ E' 12 = ptr tc ∧ st' ta = some (.cells true ka 11 (.ty 1)) ∧ st' tb2 = some (.cells true kb 11 g2) ∧ st' tc = some (.cells true kc 11 (.ty 1)) ∧ MatAt st' [Val.i mo, .string mn, .string mv, .slice mb1 mn1 mc1, .slice kb1 kn1 kc1] m ∧ MatAt st' [Val.i 7, .string ⟨#[]⟩, .string ⟨#[]⟩, .slice none 0 0, .slice (some ⟨nb, 0, none⟩) 1 1] (notM m) ∧ ToldAt st' (E' 13) (ansOf q1 L1 q1.step) q1.start q1.step 1 ∧ ToldAt st' (E' 14) (ansOf q2 L2 q2.step) q2.start q2.step 1 ∧ ToldAt st' (E' 15) (ansOf q3 L3 q3.step) q3.start q3.step 1) ?_ ?_
  · simp [go_sem]
    refine drawV [0, 1, 2, 3, 4, 5] (fun i v st' => match i with
      | 0 => v = .agg kc.toArray
      | 1 => v = .slice rb rows.length rc
      | 2 => RowsAt st' v rows
      | 3 => AnsFn st' v [Val.i 0, .string ⟨#[]⟩, .string ⟨#[]⟩, .slice none 0 0, .slice none 0 0] q3 L3
      | 4 | 5 => ToldAt st' v (ansOf q3 L3 q3.step) q3.start q3.step 1
      | _ => True) (by kernel_rfl) (by kernel_rfl) ?_ ?_ ?_ ?_
    · intro i v sta stb hNw h
      match i with
      | 2 => exact h.new hNw
      | 3 => exact h.new hNw
      | 4 => exact h.new hNw
      | 5 => exact h.new hNw
      | 0 => exact h
      | 1 => exact h
      | i + 6 => exact h
    · intro i oo hi E sta hNw hd hE
      have ta := hNw _ _ gc
      have hro := hrows.new (hk1.trans hNw)
      match i with
      | 0 =>
        have x12 := hE 12 (oldB_spec (by kernel_rfl))
        injection hi with hi; subst hi
        simp [wantedE, go_sem, x12, e12, ta, hklc, htkc]
        exact New.refl _
      | 1 =>
        have x1 := hE 1 (oldB_spec (by kernel_rfl))
        injection hi with hi; subst hi
        simp [wantedE, go_sem, x1, e1, ta, hklc, htkc]
        exact New.refl _
      | 2 =>
        injection hi with hi; subst hi
        have d1 := hd { on := 1, ground := .data } (by simp) (by decide) _ _ rfl rfl
        simp only at d1
        simp [wantedE, go_sem, d1, ta, hklc, htkc]
        refine (Rows_copy hro (by omega) hok).mono ?_
        rintro e s4 ⟨w4, rfl, hw4, n4⟩
        simp [go_sem]
        exact ⟨n4, hw4⟩
      | 3 =>
        injection hi with hi; subst hi
        have d0 := hd { on := 0, ground := .data } (by simp) (by decide) _ _ rfl rfl
        have d2 := hd { on := 2, ground := .data } (by simp) (by decide) _ _ rfl rfl
        simp only at d0 d2
        simp [wantedE, go_sem, d0, d2, ta, hklc, htkc]
        rw [← hkc]
        refine (answers_x allZ_at nice_allZ check_allZ d2 (by omega) hok).mono ?_
        rintro e s5 ⟨w5, rfl, hw5, n5⟩
        rw [hL3, ← hq3] at hw5
        simp [go_sem]
        exact ⟨n5, hw5⟩
      | 4 =>
        injection hi with hi; subst hi
        have d3 := hd { on := 3, ground := .data } (by simp) (by decide) _ _ rfl rfl
        simp only at d3
        simp [wantedE, go_sem, d3, ta, hklc, htkc]
        refine (told_made (most := 5) d3 rfl aok3 hlen3 hokf3 hck3 (by omega) (by rw [hw3]; omega)).mono ?_
        rintro e s6 ⟨w6, rfl, hw6, n6⟩
        rw [hw3] at hw6
        simp [go_sem]
        exact ⟨n6, hw6⟩
      | 5 =>
        injection hi with hi; subst hi
        have d4 := hd { on := 4, ground := .data } (by simp) (by decide) _ _ rfl rfl
        simp only at d4
        simp [wantedE, go_sem, d4, ta, hklc, htkc]
        exact New.refl _
      | i + 6 => simp at hi
    · intro E sta hNw hd hE
      have d5 := hd 5 _ 15 rfl rfl
      simp only at d5
      have y1 := hE 1 (noB_spec (by kernel_rfl))
      have y10 := hE 10 (noB_spec (by kernel_rfl))
      have y11 := hE 11 (noB_spec (by kernel_rfl))
      have y12 := hE 12 (noB_spec (by kernel_rfl))
      have y13 := hE 13 (noB_spec (by kernel_rfl))
      have y14 := hE 14 (noB_spec (by kernel_rfl))
      simp [y1, e1, y10, e10, y11, e11, y12, e12, y13, y14]
      exact ⟨hk1.trans hNw, hNw _ _ ga, hNw _ _ gb, hNw _ _ gc, hma.new hNw, hmb.new hNw, h13.new hNw, h14.new hNw, d5⟩
    · intro j oj hj
      match j with
      | 0 | 1 | 2 | 3 | 4 | 5 => simp at hj; subst hj; decide
      | j + 6 => simp at hj
  clear e1 e10 e11 e12 ga gb gc hma hmb hk1 h13 h14
  rintro E s ⟨-, -, -, -, -, -, -, -, -, -, h13, h14, h15⟩
  have ans : ∀ {q : AskD} {l : List RowD}, q.kind = 1 → (∀ r ∈ l, checkS r.s = true) → ansOf q l q.step sa = if 2 ^ 64 - 1 ≤ totL (winL l sa (sa + q.step)) then ⟨false, 0, 11⟩ else ⟨true, totL (winL l sa (sa + q.step)), 0⟩ := fun hk h => by
    unfold ansOf
    rw [hk]
    exact oneM_count (winL_check h _ _)
  obtain ⟨b1, c1, m1, e13, hb1, -, -, -, x11, x12, x13⟩ := h13.get (i := 0) (by omega)
  obtain ⟨b2, c2, m2, e14, hb2, -, -, -, x21, x22, x23⟩ := h14.get (i := 0) (by omega)
  obtain ⟨b3, c3, m3, e15, hb3, -, -, -, x31, x32, x33⟩ := h15.get (i := 0) (by omega)
  have hz1 : q1.start + ((0 : Nat) : Int) * q1.step = sa := by rw [hq1]; simp
  have hz2 : q2.start + ((0 : Nat) : Int) * q2.step = sa := by rw [hq2]; simp
  have hz3 : q3.start + ((0 : Nat) : Int) * q3.step = sa := by rw [hq3]; simp
  generalize ansL (ansOf q1 L1 q1.step) q1.start q1.step 1 = A1 at *
  generalize ansL (ansOf q2 L2 q2.step) q2.start q2.step 1 = A2 at *
  generalize ansL (ansOf q3 L3 q3.step) q3.start q3.step 1 = A3 at *
  rw [hz1, ans (by rw [hq1]) hck1] at x11 x12 x13
  rw [hz2, ans (by rw [hq2]) hck2] at x21 x22 x23
  rw [hz3, ans (by rw [hq3]) hck3] at x31 x32 x33
  have w1 : q1.step = sp := by rw [hq1]
  have w2 : q2.step = sp := by rw [hq2]
  have w3 : q3.step = sp := by rw [hq3]
  rw [w1] at x11 x12 x13
  rw [w2] at x21 x22 x23
  rw [w3, ← htot] at x31 x32 x33
  simp only [Nat.zero_mul, Nat.zero_add] at x11 x12 x13 x21 x22 x23 x31 x32 x33
  generalize totL (winL L1 sa (sa + sp)) = t1 at *
  generalize totL (winL L2 sa (sa + sp)) = t2 at *
  clear h13 h14 h15 ans htot hz1 hz2 hz3
  simp [go_sem, e13, e14, e15]
  refine draw [0, 1, 2, 3, 4, 5, 6, 7, 8, 9, 10, 11, 12, 13, 14, 15, 17, 18, 19, 16, 20, 21, 22, 23] (by kernel_rfl) ?_
  by_cases s1 : 2 ^ 64 - 1 ≤ t1
  · rw [if_pos s1] at x11 x12 x13
    rw [if_pos (by omega)] at x31 x32 x33
    simp [go_sem, e13, e14, e15, hb1, hb2, hb3, x11, x12, x13, x31, x32, x33]
    refine awake _ fun st' => ?_
    simp [go_sem]
  by_cases s2 : 2 ^ 64 - 1 ≤ t2
  · rw [if_neg s1] at x11 x12 x13
    rw [if_pos s2] at x21 x22 x23
    rw [if_pos (by omega)] at x31 x32 x33
    simp [go_sem, e13, e14, e15, hb1, hb2, hb3, x11, x12, x13, x21, x22, x23, x31, x32, x33]
    refine awake _ fun st' => ?_
    simp [go_sem]
  rw [if_neg s1] at x11 x12 x13
  rw [if_neg s2] at x21 x22 x23
  have hwu : IntKind.u64.wrap (18446744073709551615 - (t2 : Int)) = 18446744073709551615 - (t2 : Int) := wraps_u64 _ (by omega) (by omega)
  by_cases s3 : 2 ^ 64 - 1 ≤ t1 + t2
  · rw [if_pos s3] at x31 x32 x33
    have y3 : (18446744073709551615 - (t2 : Int) ≤ (t1 : Int)) = True := eq_true (by omega)
    simp [go_sem, e13, e14, e15, hb1, hb2, hb3, x11, x12, x13, x21, x22, x23, x31, x32, x33, hwu, y3]
    refine awake _ fun st' => ?_
    simp [go_sem]
  · rw [if_neg s3] at x31 x32 x33
    have y3 : (18446744073709551615 - (t2 : Int) ≤ (t1 : Int)) = False := eq_false (by omega)
    have hwa : IntKind.u64.wrap ((t1 : Int) + (t2 : Int)) = (t1 : Int) + (t2 : Int) := wraps_u64 _ (by omega) (by omega)
    simp [go_sem, e13, e14, e15, hb1, hb2, hb3, x11, x12, x13, x21, x22, x23, x31, x32, x33, hwu, y3]
    refine draw [0, 1, 2, 3, 4, 5, 6, 7, 9, 10, 11, 13, 14, 15, 8, 12, 16, 17, 18, 19, 20, 21, 22, 23] (by kernel_rfl) ?_
    simp [go_sem, e13, e14, e15, hb1, hb2, hb3, x11, x12, x13, x21, x22, x23, x31, x32, x33, hwa]
    refine awake _ fun st' => ?_
    simp [go_sem]
end
end Go.Proofs.YtflbapmjdfnhhaaGreat
