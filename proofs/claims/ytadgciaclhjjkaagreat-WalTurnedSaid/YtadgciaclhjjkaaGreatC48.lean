/- The document's bytes of a gauge, of a sketch, of labels, of a record: the walks. -/
import Derived.Test.YtadgciaclhjjkaaGreatC47
import Derived.Test.YtadgciaclhjjkaaGreatC41
set_option linter.unusedVariables false
set_option linter.unusedSimpArgs false
set_option maxRecDepth 100000
set_option maxHeartbeats 8000000
namespace Go.Proofs.YtadgciaclhjjkaaGreat
open Go.RowKit (Below)
def LabI (st s : Heap) (g : Tg) (l : List Lab) (x v : Value) : Prop := ∃ (i : Nat) (pre : Bs), i ≤ l.length ∧ x = Val.i i ∧ pre ++ (l.drop i).flatMap labB = labsB l ∧ Vec s g 1 v (bytesV pre) pre.length ∧ Fresh st v
section
variable {W0 : World} {st : Heap}
theorem put07_spec (g : Tg) {lv : Value} {l : List Bk} (hL : RegF st 2 lv (bkV l) l.length) (hc : checkB (-1) l = true) (hb : ∀ x ∈ l, x.2 < 2 ^ 64) : ICalls Tryz.prog W0 131 #[lv] st (MatPutR st g (formB l)) := by
  obtain ⟨lb, lc, rfl⟩ := hL.slice
  obtain ⟨hll, hs1, hs2⟩ := spar_bound hc hb
  refine enter (args := [_]) Tryz.func131 rfl ?_
  simp [Tryz.f131, go_sem]
  refine (sparse07_spec g hL hc hb).mono ?_
  rintro e s1 ⟨v1, rfl, hV1, hF1, hN1⟩
  obtain ⟨b1, c1, rfl⟩ := hV1.slice
  simp [go_sem]
  by_cases hne : l = []
  · have hd : ICalls Tryz.prog W0 187 #[.slice lb l.length lc] s1 fun e st' => e = .returned (.slice none 0 0) ∧ st' = s1 := by
      refine enter (args := [_]) Tryz.func187 rfl ?_
      have h0 : l.length = 0 := by rw [hne]; rfl
      rw [h0]
      simp [Tryz.f187, go_sem]
    refine hd.mono ?_
    rintro e s2 ⟨rfl, rfl⟩
    simp [go_sem]
    have hfb : formB l = sparB l := by unfold formB; rw [if_neg (by simp [hne])]
    rw [hfb]
    exact ⟨_, rfl, hV1, hF1, hN1⟩
  · refine (dense07_spec g (hL.new hN1) hc hb hne).mono ?_
    rintro e s2 ⟨v2, rfl, hV2, hF2, hN2⟩
    obtain ⟨b2, c2, rfl⟩ := hV2.slice
    have hdl : 0 < (densB l).length := by unfold densB; rw [List.length_append, vput1 (show (1 : Nat) < 128 by omega)]; omega
    have q1 : ((0 : Int) < ((densB l).length : Int)) = True := eq_true (by omega)
    by_cases hlt : (densB l).length < (sparB l).length
    · have q2 : (((densB l).length : Int) < ((sparB l).length : Int)) = True := eq_true (by omega)
      have hfb : formB l = densB l := by unfold formB; rw [if_pos ⟨hne, hlt⟩]
      rw [hfb]
      simp [go_sem, q1, q2, hdl, hlt]
      exact ⟨_, rfl, hV2, fun b off n c e => hN1.none (hF2 b off n c e), hN1.trans hN2⟩
    · have q2 : (((densB l).length : Int) < ((sparB l).length : Int)) = False := eq_false (by omega)
      have hfb : formB l = sparB l := by unfold formB; rw [if_neg (fun h => hlt h.2)]
      rw [hfb]
      simp [go_sem, q1, q2, hdl, hlt]
      exact ⟨_, rfl, hV1.new' hN2, hF1, hN1.trans hN2⟩
theorem put09_spec (g : Tg) {q : GauD} (hg9 : g ≠ .ty 9) (ok : GauOK q) : ICalls Tryz.prog W0 133 #[.agg q.cells.toArray] st (MatPutR st g (gauB q)) := by
  refine enter (args := [_]) Tryz.func133 rfl ?_
  have hn := ok.n
  have hns := ok.nans
  have hlo := ok.lo
  have hhi := ok.hi
  have b1 := vputM_len q.nans hns
  have b2 := vputM_len q.n hn
  simp [Tryz.f133, go_sem, GauD.cells]
  unfold NewP
  intro t1 ht1
  refine ⟨.ty 9, ?_⟩
  have k1 := (New.refl st).add (b := t1) (o := .cells true [Val.u q.n, Val.u q.nans, Val.u q.lo, Val.u q.hi] 4 (.ty 9)) ht1
  have g1 := upd_same st t1 (.cells true [Val.u q.n, Val.u q.nans, Val.u q.lo, Val.u q.hi] 4 (.ty 9))
  simp [go_sem]
  generalize upd st t1 (.cells true [Val.u q.n, Val.u q.nans, Val.u q.lo, Val.u q.hi] 4 (.ty 9)) = s1 at *
  generalize hE0 : (Env.set _ _ _ : Env) = E0
  have f1 : E0 1 = ptr t1 := by subst hE0; simp [go_sem]
  clear hE0
  refine drawX [0, 1, 2, 3, 4, 5, 6, 7] [2, 5, 6, 7] (fun ix vx => match ix with
    | 0 => vx = .pointer (some ⟨t1, 1, none⟩)
    | 1 => vx = Val.u q.nans
    | 3 => vx = ptr t1
    | 4 => vx = Val.u q.n
    | _ => True) (fun jx vals st' => New s1 st' ∧ st' t1 = some (.cells true [Val.u q.n, Val.u q.nans, Val.u q.lo, Val.u q.hi] 4 (.ty 9)) ∧ match jx with | 0 => True | 1 => Vec st' g 1 (vals 2) (bytesV (vputM q.nans)) (vputM q.nans).length ∧ Fresh s1 (vals 2) | 2 => Vec st' g 1 (vals 2) (bytesV (vputM q.nans)) (vputM q.nans).length ∧ Fresh s1 (vals 2) ∧ Vec st' (.ty 9) 1 (vals 5) (bytesV (vputM q.n)) (vputM q.n).length | 3 => Vec st' g 1 (vals 6) (bytesV (vputM q.nans ++ vputM q.n)) (vputM q.nans ++ vputM q.n).length ∧ Fresh s1 (vals 6) | _ => Vec st' g 1 (vals 7) (bytesV (vputM q.nans ++ vputM q.n)) (vputM q.nans ++ vputM q.n).length ∧ Fresh s1 (vals 7)) (by kernel_rfl) (by kernel_rfl) (by kernel_rfl) ?_ ?_ ?_ ?_ ?_
  · intro vals
    exact ⟨New.refl _, g1, trivial⟩
  · intro ix oo hnh hi jx vals E sta hC hd hE
    have gt := hC.2.1
    match ix with
    | 0 =>
      have x1 := hE 1 (oldB_spec (by kernel_rfl))
      injection hi with hi; subst hi
      simp [wantedE, go_sem, x1, f1, gt]
    | 1 =>
      injection hi with hi; subst hi
      have d0 := hd { on := 0, ground := .data } (by simp) (by decide) _ _ rfl rfl
      rw [if_neg (by decide)] at d0
      simp only at d0
      simp [wantedE, go_sem, d0, gt]
    | 2 =>
      exact absurd (by decide) hnh
    | 3 =>
      have x1 := hE 1 (oldB_spec (by kernel_rfl))
      injection hi with hi; subst hi
      simp [wantedE, go_sem, x1, f1, gt]
    | 4 =>
      injection hi with hi; subst hi
      have d3 := hd { on := 3, ground := .data } (by simp) (by decide) _ _ rfl rfl
      rw [if_neg (by decide)] at d3
      simp only at d3
      simp [wantedE, go_sem, d3, gt]
    | 5 =>
      exact absurd (by decide) hnh
    | 6 =>
      exact absurd (by decide) hnh
    | 7 =>
      exact absurd (by decide) hnh
    | ix + 8 => simp at hi
  · intro jx ix oo hj hi vals E sta hC hd hE
    have gt := hC.2.1
    match jx with
    | 0 =>
      injection hj with hj; subst hj
      injection hi with hi; subst hi
      have d1 := hd { on := 1, ground := .data } (by simp) (by decide) _ _ rfl rfl
      rw [if_neg (by decide)] at d1
      simp only at d1
      simp [wantedE, go_sem, d1, gt]
      refine (put04_spec g hns).mono ?_
      rintro e s2 ⟨v2, rfl, hV2, hF2, hN2⟩
      simp [go_sem]
      exact ⟨hC.1.trans hN2, hN2 _ _ hC.2.1, hV2, fun b off n c e => hC.1.none (hF2 b off n c e)⟩
    | 1 =>
      injection hj with hj; subst hj
      injection hi with hi; subst hi
      have d4 := hd { on := 4, ground := .data } (by simp) (by decide) _ _ rfl rfl
      rw [if_neg (by decide)] at d4
      simp only at d4
      simp [wantedE, go_sem, d4, gt]
      obtain ⟨c1, c2, c3, c4⟩ := hC
      refine (put04_spec (.ty 9) hn).mono ?_
      rintro e s2 ⟨v2, rfl, hV2, hF2, hN2⟩
      simp [go_sem]
      exact ⟨c1.trans hN2, hN2 _ _ c2, c3.new' hN2, c4, hV2⟩
    | 2 =>
      injection hj with hj; subst hj
      injection hi with hi; subst hi
      have d2 := hd { on := 2, ground := .data } (by simp) (by decide) _ _ rfl rfl
      rw [if_pos (by decide)] at d2
      have d2 := d2.1
      have d5 := hd { on := 5, ground := .data } (by simp) (by decide) _ _ rfl rfl
      rw [if_pos (by decide)] at d5
      have d5 := d5.1
      simp only at d2 d5
      simp [wantedE, go_sem, d2, d5, gt]
      obtain ⟨c1, c2, c3, c4, c5⟩ := hC
      refine appC (st0 := s1) si40 c3 c4 c1 c5.reg (by rw [List.length_append]; omega) ?_
      intro v3 s3 hV3 hF3 hN3 hk3
      exact ⟨hN3, hk3 _ _ c2 (by simp [HObj.tag]; exact fun h => hg9 h.symm), by simpa using hV3, hF3⟩
    | 3 =>
      injection hj with hj; subst hj
      injection hi with hi; subst hi
      have d6 := hd { on := 6, ground := .data } (by simp) (by decide) _ _ rfl rfl
      rw [if_pos (by decide)] at d6
      have d6 := d6.1
      simp only at d6
      simp [wantedE, go_sem, d6, gt]
      simpa [gt] using hC
    | jx + 4 => simp at hj
  · intro vals E sta hC hd hE
    obtain ⟨c1, c2, c3, c4⟩ := hC
    have z3 := hd 7 _ 3 rfl rfl
    rw [if_pos (by decide)] at z3
    have y1 := (hE 1 (noB_spec (by kernel_rfl))).trans f1
    generalize vals 7 = v7 at *
    clear hd hE
    have K1 := k1.trans c1
    have c4' : Fresh st v7 := fun b off n c e => k1.none (c4 b off n c e)
    simp [go_sem, y1, c2]
    unfold gauB
    by_cases hn0 : q.n = 0
    · have q0 : ((0 : Int) < (q.n : Int)) = False := eq_false (by omega)
      rw [if_pos hn0, List.append_nil]
      obtain ⟨T, hT⟩ : ∃ T, vputM q.n = T := ⟨_, rfl⟩
      rw [hT] at c3 ⊢
      simp [go_sem, q0, z3, hn0]
      exact ⟨_, rfl, by simpa using c3, c4', K1⟩
    have q0 : ((0 : Int) < (q.n : Int)) = True := eq_true (by omega)
    have q0' : 0 < q.n := by omega
    rw [if_neg hn0]
    simp [go_sem, q0, q0', z3]
    obtain ⟨B, hB⟩ : ∃ B, vputM q.nans ++ vputM q.n = B := ⟨_, rfl⟩
    rw [← List.append_assoc, hB]
    rw [hB] at c3
    have hBl : B.length ≤ 40 := by rw [← hB, List.length_append]; omega
    have l1 := leB_len 8 q.lo
    have l2 := leB_len 8 q.hi
    refine drawX [0, 1, 2, 3, 4, 5, 6, 7, 8, 9] [3, 4, 7, 8, 9] (fun ix vx => match ix with
      | 0 => vx = v7
      | 1 => vx = .pointer (some ⟨t1, 2, none⟩)
      | 2 => vx = Val.u q.lo
      | 5 => vx = .pointer (some ⟨t1, 3, none⟩)
      | 6 => vx = Val.u q.hi
      | _ => True) (fun jx vals st' => New st st' ∧ st' t1 = some (.cells true [Val.u q.n, Val.u q.nans, Val.u q.lo, Val.u q.hi] 4 (.ty 9)) ∧ match jx with | 0 => Vec st' g 1 v7 (bytesV B) B.length | 1 => Vec st' g 1 v7 (bytesV B) B.length ∧ Vec st' (.ty 9) 1 (vals 3) (bytesV (leB 8 q.lo)) (leB 8 q.lo).length | 2 => Vec st' g 1 (vals 4) (bytesV (B ++ leB 8 q.lo)) (B ++ leB 8 q.lo).length ∧ Fresh st (vals 4) | 3 => Vec st' g 1 (vals 4) (bytesV (B ++ leB 8 q.lo)) (B ++ leB 8 q.lo).length ∧ Fresh st (vals 4) ∧ Vec st' (.ty 9) 1 (vals 7) (bytesV (leB 8 q.hi)) (leB 8 q.hi).length | 4 => Vec st' g 1 (vals 8) (bytesV (B ++ (leB 8 q.lo ++ leB 8 q.hi))) (B ++ (leB 8 q.lo ++ leB 8 q.hi)).length ∧ Fresh st (vals 8) | _ => Vec st' g 1 (vals 9) (bytesV (B ++ (leB 8 q.lo ++ leB 8 q.hi))) (B ++ (leB 8 q.lo ++ leB 8 q.hi)).length ∧ Fresh st (vals 9)) (by kernel_rfl) (by kernel_rfl) (by kernel_rfl) ?_ ?_ ?_ ?_ ?_
    · intro vals
      exact ⟨K1, c2, c3⟩
    · intro ix oo hnh hi jx vals E sta hC hd hE
      have gt := hC.2.1
      match ix with
      | 0 =>
        have x3 := hE 3 (oldB_spec (by kernel_rfl))
        injection hi with hi; subst hi
        simp [wantedE, go_sem, x3, z3, gt]
      | 1 =>
        have x1 := hE 1 (oldB_spec (by kernel_rfl))
        injection hi with hi; subst hi
        simp [wantedE, go_sem, x1, y1, gt]
      | 2 =>
        injection hi with hi; subst hi
        have d1 := hd { on := 1, ground := .data } (by simp) (by decide) _ _ rfl rfl
        rw [if_neg (by decide)] at d1
        simp only at d1
        simp [wantedE, go_sem, d1, gt]
      | 3 =>
        exact absurd (by decide) hnh
      | 4 =>
        exact absurd (by decide) hnh
      | 5 =>
        have x1 := hE 1 (oldB_spec (by kernel_rfl))
        injection hi with hi; subst hi
        simp [wantedE, go_sem, x1, y1, gt]
      | 6 =>
        injection hi with hi; subst hi
        have d5 := hd { on := 5, ground := .data } (by simp) (by decide) _ _ rfl rfl
        rw [if_neg (by decide)] at d5
        simp only at d5
        simp [wantedE, go_sem, d5, gt]
      | 7 =>
        exact absurd (by decide) hnh
      | 8 =>
        exact absurd (by decide) hnh
      | 9 =>
        exact absurd (by decide) hnh
      | ix + 10 => simp at hi
    · intro jx ix oo hj hi vals E sta hC hd hE
      have gt := hC.2.1
      match jx with
      | 0 =>
        injection hj with hj; subst hj
        injection hi with hi; subst hi
        have d2 := hd { on := 2, ground := .data } (by simp) (by decide) _ _ rfl rfl
        rw [if_neg (by decide)] at d2
        simp only at d2
        simp [wantedE, go_sem, d2, gt]
        refine (eight09_spec (.ty 9) hlo).mono ?_
        rintro e s2 ⟨v2, rfl, hV2, hF2, hN2⟩
        simp [go_sem]
        exact ⟨hC.1.trans hN2, hN2 _ _ hC.2.1, hC.2.2.new' hN2, hV2⟩
      | 1 =>
        injection hj with hj; subst hj
        injection hi with hi; subst hi
        have d0 := hd { on := 0, ground := .data } (by simp) (by decide) _ _ rfl rfl
        rw [if_neg (by decide)] at d0
        have d3 := hd { on := 3, ground := .data } (by simp) (by decide) _ _ rfl rfl
        rw [if_pos (by decide)] at d3
        have d3 := d3.1
        simp only at d0 d3
        simp [wantedE, go_sem, d0, d3, gt]
        obtain ⟨e1, e2, e3, e4⟩ := hC
        refine appC (st0 := st) si40 e3 c4' e1 e4.reg (by rw [List.length_append]; omega) ?_
        intro v3 s3 hV3 hF3 hN3 hk3
        exact ⟨hN3, hk3 _ _ e2 (by simp [HObj.tag]; exact fun h => hg9 h.symm), by simpa using hV3, hF3⟩
      | 2 =>
        injection hj with hj; subst hj
        injection hi with hi; subst hi
        have d6 := hd { on := 6, ground := .data } (by simp) (by decide) _ _ rfl rfl
        rw [if_neg (by decide)] at d6
        simp only at d6
        simp [wantedE, go_sem, d6, gt]
        obtain ⟨e1, e2, e3, e4⟩ := hC
        refine (eight09_spec (.ty 9) hhi).mono ?_
        rintro e s2 ⟨v2, rfl, hV2, hF2, hN2⟩
        simp [go_sem]
        exact ⟨e1.trans hN2, hN2 _ _ e2, by simpa using e3.new' hN2, e4, hV2⟩
      | 3 =>
        injection hj with hj; subst hj
        injection hi with hi; subst hi
        have d4 := hd { on := 4, ground := .data } (by simp) (by decide) _ _ rfl rfl
        rw [if_pos (by decide)] at d4
        have d4 := d4.1
        have d7 := hd { on := 7, ground := .data } (by simp) (by decide) _ _ rfl rfl
        rw [if_pos (by decide)] at d7
        have d7 := d7.1
        simp only at d4 d7
        simp [wantedE, go_sem, d4, d7, gt]
        obtain ⟨e1, e2, e3, e4, e5⟩ := hC
        refine appC (st0 := st) si40 e3 e4 e1 e5.reg (by simp only [List.length_append]; omega) ?_
        intro v3 s3 hV3 hF3 hN3 hk3
        exact ⟨hN3, hk3 _ _ e2 (by simp [HObj.tag]; exact fun h => hg9 h.symm), by simpa using hV3, hF3⟩
      | 4 =>
        injection hj with hj; subst hj
        injection hi with hi; subst hi
        have d8 := hd { on := 8, ground := .data } (by simp) (by decide) _ _ rfl rfl
        rw [if_pos (by decide)] at d8
        have d8 := d8.1
        simp only at d8
        simp [wantedE, go_sem, d8, gt]
        simpa [gt] using hC
      | jx + 5 => simp at hj
    · intro vals E sta hC hd hE
      obtain ⟨e1, e2, e3, e4⟩ := hC
      have x3 := hd 9 _ 3 rfl rfl
      rw [if_pos (by decide)] at x3
      clear hd hE
      simp [go_sem, x3]
      exact ⟨_, rfl, e3, e4, e1⟩
    · intro j oj hj
      match j with
      | 0 | 1 | 2 | 3 | 4 | 5 | 6 | 7 | 8 | 9 => simp at hj; subst hj; decide
      | j + 10 => simp at hj
  · intro j oj hj
    match j with
    | 0 | 1 | 2 | 3 | 4 | 5 | 6 | 7 => simp at hj; subst hj; decide
    | j + 8 => simp at hj
theorem put11_spec (g : Tg) {lv : Value} {l : List Lab} (hL : RegF st 2 lv (labV l) l.length) (hc : checkL l = true) : ICalls Tryz.prog W0 65 #[lv] st (MatPutR st g (labsB l)) := by
  obtain ⟨lb, lc, rfl⟩ := hL.slice
  obtain ⟨h1, h8, hall⟩ := checkL_all hc
  have hbd := labs_bound hc
  refine enter (args := [_]) Tryz.func65 rfl ?_
  have hw : IntKind.u64.wrap (l.length : Int) = l.length := wraps_u64 _ (by omega) (by omega)
  simp [Tryz.f65, go_sem, hw]
  refine (put04_spec g (show l.length < 2 ^ 64 by omega)).mono ?_
  rintro e st2 ⟨v, rfl, hV, hF, hN⟩
  simp [go_sem]
  refine ⟨fun E s => E 0 = .slice lb l.length lc ∧ New st s ∧ LabI st s g l (E 4) (E 3),
    fun E _ => match E 4 with | .int _ j => l.length - j.toNat | _ => 0, ⟨st2, .rfl' _, by simp [go_sem], hN, 0, vputM l.length, by omega, by simp [go_sem], by rw [List.drop_zero]; rfl, by simpa [go_sem] using hV, by simpa [go_sem] using hF⟩, ?_⟩
  rintro E s ⟨e0, hN1, i, pre, hi, e4, hpre, hV1, hF1⟩
  have hpl := congrArg List.length hpre
  rw [List.length_append] at hpl
  obtain ⟨v3, e3⟩ : ∃ v, E 3 = v := ⟨_, rfl⟩
  rw [e3] at hV1 hF1
  obtain ⟨vb, vc, rfl⟩ := hV1.slice
  by_cases hlt : i < l.length
  · have q : ((i : Int) < l.length) = True := eq_true (by omega)
    have hwi : IntKind.i64.wrap ((i : Int) + 1) = (i : Int) + 1 := wrap_id (by omega) (by omega)
    obtain ⟨x, hx⟩ : ∃ x, l[i]? = some x := ⟨_, List.getElem?_eq_getElem hlt⟩
    have hxs := hall x (List.mem_of_getElem? hx)
    have hd : l.drop i = x :: l.drop (i + 1) := by rw [List.drop_eq_getElem_cons hlt]; congr 1; rw [List.getElem?_eq_getElem hlt] at hx; exact Option.some.inj hx
    rw [hd, List.flatMap_cons] at hpre
    have hpl2 := congrArg List.length hpre
    simp only [List.length_append, labB] at hpl2
    obtain ⟨gx1, gx2⟩ := labV_at hx
    obtain ⟨blk, off, rfl, hg⟩ := src_get (hL.new hN1).src (by omega)
    have g0 := hg (i * 2) (by omega)
    rw [gx1] at g0
    simp [go_sem, e0, e3, e4, q, hlt, g0]
    refine (text04_spec (.ty 9) (show x.1.size < 2 ^ 30 by omega)).mono ?_
    rintro e s3 ⟨w, rfl, hW, hFW, hN3⟩
    obtain ⟨wb, wc, rfl⟩ := hW.slice
    simp [go_sem]
    refine appB (st0 := st) si40 (hV1.new' hN3) hF1 (hN1.trans hN3) hW.reg (by rw [List.length_append]; omega) ?_
    intro v4 s4 hV4 hF4 hN4
    have hg4 : (cellsOf (s4 blk))[off + i * 2 + 1]? = some (.string x.2) := by
      obtain ⟨blk', off', he, hg'⟩ := src_get (hL.new hN4).src (by omega)
      injection he with he
      injection he with he1 he2
      subst he1; subst he2
      have := hg' (i * 2 + 1) (by omega)
      rw [gx2] at this
      exact this
    simp [go_sem, e0, e4, q, hlt, hg4]
    refine (text04_spec (.ty 9) (show x.2.size < 2 ^ 30 by omega)).mono ?_
    rintro e s5 ⟨w5, rfl, hW5, hFW5, hN5⟩
    obtain ⟨wb5, wc5, rfl⟩ := hW5.slice
    simp [go_sem]
    refine appB (st0 := st) si40 (hV4.new' hN5) hF4 (hN4.trans hN5) hW5.reg (by simp only [List.length_append]; omega) ?_
    intro v6 s6 hV6 hF6 hN6
    simp [go_sem, e4, hwi]
    refine ⟨_, .rfl' _, ⟨e0, hN6, i + 1, (pre ++ textB x.1) ++ textB x.2, by omega, by simp, ?_, hV6, hF6⟩, by omega⟩
    rw [← hpre]
    simp only [labB, List.append_assoc]
  · have hq : i = l.length := by omega
    subst hq
    have q : ((l.length : Int) < l.length) = False := eq_false (by omega)
    simp [go_sem, e0, e3, e4, q]
    rw [List.drop_length] at hpre
    have hpe : pre = labsB l := by simpa using hpre
    subst hpe
    exact ⟨_, rfl, hV1, hF1, hN1⟩
theorem put10_spec (g : Tg) (hg9 : g ≠ .ty 9) {cs : List Value} {s : SkD} (hS : SkAt st cs s) (ok : SkOK s) (hc : checkS s = true) : ICalls Tryz.prog W0 66 #[.agg cs.toArray] st (MatPutR st g (skB s)) := by
  have hsb := sk_bound ok hc
  obtain ⟨hv, kv, rfl, h1, h2⟩ := hS
  obtain ⟨hb, hcp, rfl⟩ := h1.slice
  obtain ⟨kb, kcp, rfl⟩ := h2.slice
  unfold checkS at hc
  simp only [Bool.and_eq_true] at hc
  obtain ⟨c1, c2, c3⟩ := hc
  unfold checkK at c2
  simp only [Bool.and_eq_true, decide_eq_true_eq] at c2
  refine enter (args := [_]) Tryz.func66 rfl ?_
  simp [Tryz.f66, go_sem]
  unfold NewP
  intro t1 ht1
  refine ⟨.ty 9, ?_⟩
  have k1 := (New.refl st).add (b := t1) (o := .cells true [.slice hb s.hist.length hcp, .slice kb s.hashes.length kcp, Val.u s.g.n, Val.u s.g.nans, Val.u s.g.lo, Val.u s.g.hi] 6 (.ty 9)) ht1
  have g1 := upd_same st t1 (.cells true [.slice hb s.hist.length hcp, .slice kb s.hashes.length kcp, Val.u s.g.n, Val.u s.g.nans, Val.u s.g.lo, Val.u s.g.hi] 6 (.ty 9))
  simp [go_sem]
  generalize upd st t1 (.cells true [.slice hb s.hist.length hcp, .slice kb s.hashes.length kcp, Val.u s.g.n, Val.u s.g.nans, Val.u s.g.lo, Val.u s.g.hi] 6 (.ty 9)) = s1 at *
  refine (put07_spec g (h1.new k1) c1 ok.hist).mono ?_
  rintro e s2 ⟨v2, rfl, hV2, hF2, hN2⟩
  have K2 := k1.trans hN2
  have g2 := hN2 _ _ g1
  have hF2' : Fresh st v2 := fun b off n c e => k1.none (hF2 b off n c e)
  simp [go_sem, g2]
  refine (rise04_spec (.ty 8) (h2.new K2) c2.2 ok.hashes (by omega)).mono ?_
  rintro e s3 ⟨v3, rfl, hV3, hF3, hN3⟩
  have K3 := K2.trans hN3
  simp [go_sem]
  unfold skB at hsb
  simp only [List.length_append] at hsb
  refine appC (st0 := st) si40 (hV2.new' hN3) hF2' K3 hV3.reg (by rw [List.length_append]; omega) ?_
  intro v4 s4 hV4 hF4 hN4 hk4
  have g4 := hk4 _ _ (hN3 _ _ g2) (by simp [HObj.tag]; exact fun h => hg9 h.symm)
  simp [go_sem, g4]
  refine ICalls.mono (by simpa [GauD.cells] using put09_spec (.ty 8) (q := s.g) (by simp) ok.g) ?_
  rintro e s5 ⟨v5, rfl, hV5, hF5, hN5⟩
  simp [go_sem]
  refine appB (st0 := st) si40 (hV4.new' hN5) hF4 (hN4.trans hN5) hV5.reg (by simp only [List.length_append]; omega) ?_
  intro v6 s6 hV6 hF6 hN6
  simp [go_sem]
  unfold skB
  exact ⟨_, rfl, by simpa using hV6, hF6, hN6⟩
end
end Go.Proofs.YtadgciaclhjjkaaGreat
set_option linter.unusedVariables false
set_option linter.unusedSimpArgs false
set_option maxRecDepth 100000
set_option maxHeartbeats 8000000
namespace Go.Proofs.YtadgciaclhjjkaaGreat
open Go.RowKit (Below)
section
variable {W0 : World} {st : Heap}
theorem putRec17_spec (g : Tg) (hg9 : g ≠ .ty 9) {cs : List Value} {r : RcD} (hR : RcAt st cs r) (hf : RcFits r) (hm : rcM r = true) : ICalls Tryz.prog W0 15 #[.agg cs.toArray] st (MatPutR st g (recB r)) := by
  obtain ⟨rs, tts, rfl, hRow, hTomb⟩ := hR
  obtain ⟨lv, ss, rfl, hLab, hS⟩ := hRow
  obtain ⟨lb, lc, rfl⟩ := hLab.slice
  have hS0 := hS
  obtain ⟨hv, kv, rfl, hHist, hHash⟩ := hS0
  obtain ⟨hb, hc, rfl⟩ := hHist.slice
  obtain ⟨kb, kc, rfl⟩ := hHash.slice
  obtain ⟨a0, a1, a2, a3, a4, rfl, hm8⟩ := hTomb.eight
  obtain ⟨op, n_, v_, b_, l_, c_, b', l', c', rfl, rfl, rfl, rfl, rfl⟩ := hm8.forms
  obtain ⟨seq, kind, ⟨labels, at_, sk⟩, ⟨tseq, tm, fro, to⟩⟩ := r
  obtain ⟨f1, f2, f3, f4, f5, f6⟩ := hf
  obtain ⟨r1, r2, r3, r4⟩ := f3
  simp only at *
  have hk12 := rc_kind hm
  simp only at hk12
  refine enter (args := [_]) Tryz.func15 rfl ?_
  simp [Tryz.f15, go_sem]
  unfold NewP
  intro t1 ht1
  refine ⟨.ty 9, ?_⟩
  obtain ⟨CC, hCC⟩ : ∃ c, HObj.cells true [Val.i seq, Val.i kind, Value.slice lb labels.length lc, Val.i at_, Value.slice hb sk.hist.length hc, Value.slice kb sk.hashes.length kc, Val.u sk.g.n, Val.u sk.g.nans, Val.u sk.g.lo, Val.u sk.g.hi, Val.i tseq, Val.i op, Value.string n_, Value.string v_, Value.slice b_ l_ c_, Value.slice b' l' c', Val.i fro, Val.i to] 18 (.ty 9) = c := ⟨_, rfl⟩
  simp [go_sem]
  obtain ⟨s1, hs1⟩ : ∃ s, upd st t1 (.cells true [Val.i seq, Val.i kind, Value.slice lb labels.length lc, Val.i at_, Value.slice hb sk.hist.length hc, Value.slice kb sk.hashes.length kc, Val.u sk.g.n, Val.u sk.g.nans, Val.u sk.g.lo, Val.u sk.g.hi, Val.i tseq, Val.i op, Value.string n_, Value.string v_, Value.slice b_ l_ c_, Value.slice b' l' c', Val.i fro, Val.i to] 18 (.ty 9)) = s := ⟨_, rfl⟩
  rw [hs1]
  have k1 : New st s1 := by rw [← hs1]; exact (New.refl st).add ht1
  have g1 : s1 t1 = some CC := by rw [← hs1, hCC]; exact upd_same _ _ _
  clear hs1
  generalize hE0 : (Env.set _ _ _ : Env) = E0
  have y1 : E0 1 = ptr t1 := by subst hE0; simp [go_sem]
  clear hE0
  have z1 := vputM_len (zz seq) (zz_lt f1.1 f1.2)
  obtain ⟨kn, hkn⟩ : ∃ kn : Nat, kind = kn := ⟨kind.toNat, by omega⟩
  have z2 := vputM_len kn (by omega)
  have hib : intB seq = vputM (zz seq) := rfl
  refine drawX [0, 1, 2, 3, 4, 5, 6, 7, 8] [2, 6, 7, 8] (fun ix vx => match ix with
    | 0 => vx = ptr t1
    | 1 => vx = Val.i seq
    | 3 => vx = .pointer (some ⟨t1, 1, none⟩)
    | 4 => vx = Val.i kind
    | 5 => vx = Val.u (kn : Int)
    | _ => True) (fun jx vals st' => New s1 st' ∧ st' t1 = some CC ∧ match jx with | 0 => True | 1 => Vec st' g 1 (vals 2) (bytesV (intB seq)) (intB seq).length ∧ Fresh s1 (vals 2) | 2 => Vec st' g 1 (vals 2) (bytesV (intB seq)) (intB seq).length ∧ Fresh s1 (vals 2) ∧ Vec st' (.ty 8) 1 (vals 6) (bytesV (vputM kn)) (vputM kn).length | 3 => Vec st' g 1 (vals 7) (bytesV (intB seq ++ vputM kn)) (intB seq ++ vputM kn).length ∧ Fresh s1 (vals 7) | _ => Vec st' g 1 (vals 8) (bytesV (intB seq ++ vputM kn)) (intB seq ++ vputM kn).length ∧ Fresh s1 (vals 8)) (by kernel_rfl) (by kernel_rfl) (by kernel_rfl) ?_ ?_ ?_ ?_ ?_
  · intro vals
    exact ⟨New.refl _, g1, trivial⟩
  · intro ix oo hnh hi jx vals E sta hC hd hE
    match ix with
    | 0 =>
      have x1 := hE 1 (oldB_spec (by kernel_rfl))
      injection hi with hi; subst hi
      simp [wantedE, go_sem, x1, y1]
    | 1 =>
      injection hi with hi; subst hi
      have d0 := hd { on := 0, ground := .data } (by simp) (by decide) _ _ rfl rfl
      rw [if_neg (by decide)] at d0
      simp only at d0
      have gt := hC.2.1.trans (congrArg some hCC.symm)
      simp [wantedE, go_sem, d0, gt]
    | 2 =>
      exact absurd (by decide) hnh
    | 3 =>
      have x1 := hE 1 (oldB_spec (by kernel_rfl))
      injection hi with hi; subst hi
      simp [wantedE, go_sem, x1, y1]
    | 4 =>
      injection hi with hi; subst hi
      have d3 := hd { on := 3, ground := .data } (by simp) (by decide) _ _ rfl rfl
      rw [if_neg (by decide)] at d3
      simp only at d3
      have gt := hC.2.1.trans (congrArg some hCC.symm)
      simp [wantedE, go_sem, d3, gt]
    | 5 =>
      injection hi with hi; subst hi
      have d4 := hd { on := 4, ground := .data } (by simp) (by decide) _ _ rfl rfl
      rw [if_neg (by decide)] at d4
      simp only at d4
      have hwk : IntKind.u64.wrap kind = (kn : Int) := by rw [hkn]; exact wraps_u64 _ (by omega) (by omega)
      simp [wantedE, go_sem, d4, hwk]
    | 6 =>
      exact absurd (by decide) hnh
    | 7 =>
      exact absurd (by decide) hnh
    | 8 =>
      exact absurd (by decide) hnh
    | ix + 9 => simp at hi
  · intro jx ix oo hj hi vals E sta hC hd hE
    match jx with
    | 0 =>
      injection hj with hj; subst hj
      injection hi with hi; subst hi
      have d1 := hd { on := 1, ground := .data } (by simp) (by decide) _ _ rfl rfl
      rw [if_neg (by decide)] at d1
      simp only at d1
      simp [wantedE, go_sem, d1]
      refine (int04_spec g f1.1 f1.2).mono ?_
      rintro e s2 ⟨v2, rfl, hV2, hF2, hN2⟩
      simp [go_sem]
      exact ⟨hC.1.trans hN2, hN2 _ _ hC.2.1, hV2, fun b off n c e => hC.1.none (hF2 b off n c e)⟩
    | 1 =>
      injection hj with hj; subst hj
      injection hi with hi; subst hi
      have d5 := hd { on := 5, ground := .data } (by simp) (by decide) _ _ rfl rfl
      rw [if_neg (by decide)] at d5
      simp only at d5
      simp [wantedE, go_sem, d5]
      obtain ⟨c1, c2, c3, c4⟩ := hC
      refine (put04_spec (.ty 8) (show kn < 2 ^ 64 by omega)).mono ?_
      rintro e s2 ⟨v2, rfl, hV2, hF2, hN2⟩
      simp [go_sem]
      exact ⟨c1.trans hN2, hN2 _ _ c2, c3.new' hN2, c4, hV2⟩
    | 2 =>
      injection hj with hj; subst hj
      injection hi with hi; subst hi
      have d2 := hd { on := 2, ground := .data } (by simp) (by decide) _ _ rfl rfl
      rw [if_pos (by decide)] at d2
      have d2 := d2.1
      have d6 := hd { on := 6, ground := .data } (by simp) (by decide) _ _ rfl rfl
      rw [if_pos (by decide)] at d6
      have d6 := d6.1
      simp only at d2 d6
      simp [wantedE, go_sem, d2, d6]
      obtain ⟨c1, c2, c3, c4, c5⟩ := hC
      refine appC (st0 := s1) si40 c3 c4 c1 c5.reg (by rw [List.length_append, hib]; omega) ?_
      intro v3 s3 hV3 hF3 hN3 hk3
      exact ⟨hN3, hk3 _ _ c2 (by rw [← hCC]; simp [HObj.tag]; exact fun h => hg9 h.symm), by simpa using hV3, hF3⟩
    | 3 =>
      injection hj with hj; subst hj
      injection hi with hi; subst hi
      have d7 := hd { on := 7, ground := .data } (by simp) (by decide) _ _ rfl rfl
      rw [if_pos (by decide)] at d7
      have d7 := d7.1
      simp only at d7
      simp [wantedE, go_sem, d7]
      simpa using hC
    | jx + 4 => simp at hj
  · intro vals E sta hC hd hE
    obtain ⟨c1, c2, c3, c4⟩ := hC
    have x3 := hd 8 _ 3 rfl rfl
    rw [if_pos (by decide)] at x3
    have w1 := (hE 1 (noB_spec (by kernel_rfl))).trans y1
    generalize vals 8 = v7 at *
    clear hd hE
    have K1 := k1.trans c1
    have c4' : Fresh st v7 := fun b off n c e => k1.none (c4 b off n c e)
    have gt := c2.trans (congrArg some hCC.symm)
    obtain ⟨B, hB⟩ : ∃ B, intB seq ++ vputM kn = B := ⟨_, rfl⟩
    rw [hB] at c3
    have hBl : B.length ≤ 40 := by rw [← hB, List.length_append, hib]; omega
    have hkeep : ∀ {s s' : Heap}, (∀ k o, s k = some o → o.tag ≠ some g → s' k = some o) → ∀ {o}, s t1 = some (HObj.cells true o 18 (.ty 9)) → s' t1 = some (HObj.cells true o 18 (.ty 9)) := fun h _ h2 => h _ _ h2 (by simp [HObj.tag]; exact fun h => hg9 h.symm)
    unfold recB
    simp only
    by_cases hk1 : kind = 1
    · rw [if_pos hk1]
      unfold rcM at hm
      simp only at hm
      rw [if_pos hk1] at hm
      simp only [Bool.and_eq_true] at hm
      have hlb := labs_bound hm.1
      have hsb := sk_bound r1 hm.2
      have zat := vputM_len (zz at_) (zz_lt r2.1 r2.2)
      have hia : intB at_ = vputM (zz at_) := rfl
      have hfin : intB seq ++ (vputM kind.toNat ++ rowB ⟨labels, at_, sk⟩) = ((B ++ labsB labels) ++ intB at_) ++ skB sk := by
        rw [← hB, hkn, Int.toNat_natCast]
        simp only [rowB, List.append_assoc]
      rw [hfin]
      simp [go_sem, w1, gt, hk1, x3]
      refine (put11_spec (.ty 8) (hLab.new K1) hm.1).mono ?_
      rintro e s2 ⟨v2, rfl, hV2, hF2, hN2⟩
      simp [go_sem]
      refine appC (st0 := st) si40 (c3.new' hN2) c4' (K1.trans hN2) hV2.reg (by rw [List.length_append]; omega) ?_
      intro v3 s3 hV3 hF3 hN3 hk3
      have g3 := hkeep hk3 (hN2 _ _ gt)
      simp [go_sem, w1, g3]
      refine (int04_spec (.ty 8) r2.1 r2.2).mono ?_
      rintro e s4 ⟨v4, rfl, hV4, hF4, hN4⟩
      simp [go_sem]
      refine appC (st0 := st) si40 (hV3.new' hN4) hF3 (hN3.trans hN4) hV4.reg (by simp only [List.length_append, hia]; omega) ?_
      intro v5 s5 hV5 hF5 hN5 hk5
      have g5 := hkeep hk5 (hN4 _ _ g3)
      simp [go_sem, w1, g5]
      refine ICalls.mono (by simpa using put10_spec (.ty 8) (by simp) (hS.new hN5) r1 hm.2) ?_
      rintro e s6 ⟨v6, rfl, hV6, hF6, hN6⟩
      simp [go_sem]
      refine appB (st0 := st) si40 (hV5.new' hN6) hF5 (hN5.trans hN6) hV6.reg (by simp only [List.length_append, hia]; omega) ?_
      intro v7 s7 hV7 hF7 hN7
      simp [go_sem]
      exact ⟨_, rfl, by simpa using hV7, hF7, hN7⟩
    · have hk2 : kind = 2 := by omega
      rw [if_neg hk1]
      unfold rcM at hm
      simp only at hm
      rw [if_neg hk1, if_pos hk2] at hm
      have hbd := (holdsM_bound tm 1 64 4096).2.2 hm
      have hsm := holdsM_small tm 1 64 4096 (by omega) hm
      have hed := holdsM_edge tm 1 64 4096 hm
      have hsm2 := hsm.2
      have z3 := vputM_len (zz fro) (zz_lt f5.1 f5.2)
      have z4 := vputM_len (zz to) (zz_lt f6.1 f6.2)
      have hi3 : intB fro = vputM (zz fro) := rfl
      have hi4 : intB to = vputM (zz to) := rfl
      have hml : (putM tm).length < 2 ^ 30 := by omega
      have hfin : intB seq ++ (vputM kind.toNat ++ delB ⟨tseq, tm, fro, to⟩) = ((B ++ putM tm) ++ intB fro) ++ intB to := by
        rw [← hB, hkn, Int.toNat_natCast]
        simp only [delB, List.append_assoc]
      rw [hfin]
      simp [go_sem, w1, gt, hk1, hk2, x3]
      refine ICalls.mono (by simpa using ref12Put_spec (W0 := W0) tm (.ty 8) hsm.1 hed (hm8.new K1) (by omega)) ?_
      rintro e s2 ⟨v2, rfl, hV2, hF2, hN2⟩
      simp [go_sem]
      refine appC (st0 := st) si40 (c3.new' hN2) c4' (K1.trans hN2) hV2.reg (by rw [List.length_append]; omega) ?_
      intro v3 s3 hV3 hF3 hN3 hk3
      have g3 := hkeep hk3 (hN2 _ _ gt)
      simp [go_sem, w1, g3]
      refine (int04_spec (.ty 8) f5.1 f5.2).mono ?_
      rintro e s4 ⟨v4, rfl, hV4, hF4, hN4⟩
      simp [go_sem]
      refine appC (st0 := st) si40 (hV3.new' hN4) hF3 (hN3.trans hN4) hV4.reg (by simp only [List.length_append, hi3]; omega) ?_
      intro v5 s5 hV5 hF5 hN5 hk5
      have g5 := hkeep hk5 (hN4 _ _ g3)
      simp [go_sem, w1, g5]
      refine (int04_spec (.ty 8) f6.1 f6.2).mono ?_
      rintro e s6 ⟨v6, rfl, hV6, hF6, hN6⟩
      simp [go_sem]
      refine appB (st0 := st) si40 (hV5.new' hN6) hF5 (hN5.trans hN6) hV6.reg (by simp only [List.length_append, hi3, hi4]; omega) ?_
      intro v7 s7 hV7 hF7 hN7
      simp [go_sem]
      exact ⟨_, rfl, by simpa using hV7, hF7, hN7⟩
  · intro j oj hj
    match j with
    | 0 | 1 | 2 | 3 | 4 | 5 | 6 | 7 | 8 => simp at hj; subst hj; decide
    | j + 9 => simp at hj
end
end Go.Proofs.YtadgciaclhjjkaaGreat
