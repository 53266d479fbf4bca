/- The law QueryAnswers, walked. -/
import Derived.Test.YtflbapmjdfnhhaaGreatC45
set_option linter.unusedVariables false
set_option linter.unusedSimpArgs false
set_option maxRecDepth 100000
set_option maxHeartbeats 4000000
namespace Go.Proofs.YtflbapmjdfnhhaaGreat
open Go.RowKit (Below)
section
variable {W0 : World} {st : Heap}
theorem refWin_neg {start step n : Int} (h0 : start < 0) : ICalls Tryz.prog W0 14 #[Val.i start, Val.i step, Val.i n] st fun e st' => e = .returned (Val.i 0) ∧ st' = st := by
  refine enter (args := [_, _, _]) Tryz.func14 rfl ?_
  have qc : (start < 0) = True := eq_true h0
  by_cases a : step < 1
  · have q := eq_true a
    simp [Tryz.f14, go_sem, q]
  have qa := eq_false a
  by_cases b : n < 1
  · have q := eq_true b
    simp [Tryz.f14, go_sem, qa, q]
  have qb := eq_false b
  simp [Tryz.f14, go_sem, qa, qb, qc]
theorem refWin_spec {start step n : Int} (h1 : start < 2 ^ 63) (hn : n ≤ 20) : ICalls Tryz.prog W0 14 #[Val.i start, Val.i step, Val.i n] st fun e st' => e = .returned (Val.i (windowsN start step n : Nat)) ∧ st' = st := by
  by_cases h0 : start < 0
  · have : windowsN start step n = 0 := by unfold windowsN; rw [if_pos (by omega)]
    rw [this]
    exact refWin_neg h0
  refine (refWindows_spec (by omega) h1).mono ?_
  rintro e st' ⟨rfl, rfl⟩
  have : windowsM start step n = (windowsN start step n : Nat) := by
    unfold windowsM windowsN
    have e40 : (2 : Int) ^ 40 = 1099511627776 := by decide
    rw [e40]
    by_cases c : step < 1 ∨ n < 1 ∨ start < 0 ∨ 1099511627776 < start
    · rw [if_pos (by omega), if_pos (by omega)]; rfl
    by_cases c2 : 1099511627776 < step
    · have hd : (1099511627776 - start) / step = 0 := Int.ediv_eq_zero_of_lt (by omega) (by omega)
      rw [if_pos (by omega), hd, if_pos (by omega)]; rfl
    · rw [if_neg (by omega)]
      by_cases c3 : (1099511627776 - start) / step < n
      · rw [if_pos c3, if_pos (by omega)]; rfl
      · rw [if_neg c3, if_neg (by omega)]; omega
  rw [this]
  exact ⟨rfl, rfl⟩
theorem queryAnswers_walk {ks : List Value} {q : AskD} {rv : Value} {rows : List RowD} {most : Int} (hq : AskW st ks q) (hrows : RowsAt st rv rows) (hlen : rows.length < 2 ^ 50) (hok : ∀ r ∈ rows, RowOK r) :
    ICalls Tryz.prog W0 3 #[.agg ks.toArray, rv, Val.i most] st fun e st' => e = .returned (.bool true) := by
  obtain ⟨⟨ms, hm, rfl⟩, aok⟩ := hq
  obtain ⟨rb, rc, rfl⟩ := hrows.slice
  have awake : ∀ (sta : Heap) {K : Ending → Heap → Prop}, (∀ st', K (.returned (.bool true)) st') → ICalls Tryz.prog W0 10 #[] sta K := fun sta K hK => awake23_spec.mono fun e st' h => by rw [h.1]; exact hK st'
  obtain ⟨a0, a1, a2, a3, a4, rfl⟩ := five hm.length
  refine enter (args := [_, _, _]) Tryz.func3 rfl ?_
  refine IW_assoc ?_
  refine IW_cut' (fun E' st' => ∃ tb : Nat, (NiceM 12 q.m ∧ checkM q.m = true ∧ rows.length ≤ 30) ∧ New st st' ∧ E' 1 = .slice rb rows.length rc ∧ E' 2 = Val.i most ∧ E' 3 = ptr tb ∧ st tb = none ∧ st' tb = some (.cells true [a0, a1, a2, a3, a4, Val.i q.start, Val.i q.step, Val.i q.n, Val.i q.kind, Val.u q.a, Val.u q.b] 11 (.ty 1))) ?_ ?_
  · simp [go_sem, AskD.tail]
    unfold NewP
    intro tb htb
    refine ⟨.ty 1, ?_⟩
    have k1 := (New.refl st).add (b := tb) (o := .cells true [a0, a1, a2, a3, a4, Val.i q.start, Val.i q.step, Val.i q.n, Val.i q.kind, Val.u q.a, Val.u q.b] 11 (.ty 1)) htb
    have g1 := upd_same st tb (.cells true [a0, a1, a2, a3, a4, Val.i q.start, Val.i q.step, Val.i q.n, Val.i q.kind, Val.u q.a, Val.u q.b] 11 (.ty 1))
    try simp [go_sem]
    generalize upd st tb (.cells true [a0, a1, a2, a3, a4, Val.i q.start, Val.i q.step, Val.i q.n, Val.i q.kind, Val.u q.a, Val.u q.b] 11 (.ty 1)) = st1 at *
    refine ICalls.mono (by simpa using Tiny_spec (W0 := W0) (hm.new k1)) ?_
    rintro e st2 ⟨rfl, k2⟩
    have g2 := k2 _ _ g1
    cases htn : (tinyM q.m 0 0).1 with
    | false =>
      simp [go_sem]
      refine awake _ fun st' => ?_
      simp [go_sem]
    | true =>
    have hN : NiceM 12 q.m := ((tinyM_spec q.m 0 0).2 htn).2
    simp [go_sem, g2]
    refine ICalls.mono (by simpa using refCheck_spec (W0 := W0) hN (by omega) (hm.new (k1.trans k2))) ?_
    rintro e st3 ⟨rfl, k3⟩
    have g3 := k3 _ _ g2
    cases hcm : checkM q.m with
    | false =>
      simp [go_sem]
      refine awake _ fun st' => ?_
      simp [go_sem]
    | true =>
    have kk := (k1.trans k2).trans k3
    by_cases c1 : 30 < rows.length
    · have t1 : ((30 : Int) < rows.length) = True := eq_true (by omega)
      simp [go_sem, g3, t1, c1]
      refine awake _ fun st' => ?_
      simp [go_sem]
    have t1 : ((30 : Int) < rows.length) = False := eq_false (by omega)
    simp [go_sem, g3, t1, c1]
    exact ⟨⟨hN, by omega⟩, kk, htb⟩
  rintro E st1 ⟨tb, ⟨hN, hcm, hl30⟩, hk1, e1, e2, e3, htb, g3⟩
  obtain ⟨n, hn⟩ : ∃ n : Int, (if 20 < q.n then (20 : Int) else q.n) = n := ⟨_, rfl⟩
  have hn20 : n ≤ 20 := by rw [← hn]; split <;> omega
  have hnb : -2 ^ 63 ≤ n := by have := aok.n; rw [← hn]; split <;> omega
  obtain ⟨L, hL⟩ : ∃ L, rows.filter (keepR (evalM q.m)) = L := ⟨_, rfl⟩
  have hLl : L.length ≤ 30 := by
    have := List.length_filter_le (keepR (evalM q.m)) rows
    rw [hL] at this
    omega
  have hLok : ∀ r ∈ L, RowOK r := fun r hr => by rw [← hL] at hr; exact hok r (List.mem_filter.1 hr).1
  have hck : ∀ r ∈ L, checkS r.s = true := by rw [← hL]; exact keepR_check
  obtain ⟨q1, hq1⟩ : ∃ q1 : AskD, q1 = ⟨q.m, q.start, q.step, n, q.kind, q.a, q.b⟩ := ⟨_, rfl⟩
  have hq1m : q1.m = q.m := by rw [hq1]
  have hq1s : q1.start = q.start := by rw [hq1]
  have hq1p : q1.step = q.step := by rw [hq1]
  have aok1 : AskOK q1 := by
    rw [hq1]
    exact ⟨aok.start, aok.step, ⟨by dsimp only; omega, by dsimp only; omega⟩, aok.a, aok.b⟩
  obtain ⟨N, hN1⟩ : ∃ N, windowsN q1.start q1.step q1.n = N := ⟨_, rfl⟩
  have hN2 : windowsN q.start q.step n = N := by rw [← hN1, hq1]
  have hw1 : N ≤ 20 := by
    rw [← hN2]
    unfold windowsN
    split <;> omega
  have hwin : ∀ (s : Heap) (i : Nat), New st s → i < N → ICalls Tryz.prog W0 17 #[.agg #[a0, a1, a2, a3, a4, Val.i q.start, Val.i q.step, Val.i n, Val.i q.kind, Val.u q.a, Val.u q.b], .slice rb rows.length rc, Val.i (q.start + (i : Int) * q.step)] s fun e st' => e = .returned (.agg ((ansOf q1 L q1.step (q.start + (i : Int) * q.step)).cells (q.start + (i : Int) * q.step)).toArray) ∧ New s st' := fun s i hs hi => by
    have ee : (#[a0, a1, a2, a3, a4, Val.i q.start, Val.i q.step, Val.i n, Val.i q.kind, Val.u q.a, Val.u q.b] : Array Value) = ([a0, a1, a2, a3, a4] ++ q1.tail).toArray := by rw [hq1]; rfl
    obtain ⟨w1, w2, w3, w4, w5, w6⟩ := windowsN_le (start := q.start) (step := q.step) (n := n) (by omega)
    have hb := w6 i (by omega)
    have hi0 : 0 ≤ (i : Int) * q.step := Int.mul_nonneg (by omega) (by omega)
    rw [ee, ← hL, ← hq1m]
    refine refWindow_spec (d := 12) (by rw [hq1m]; exact hm.new hs) (by rw [hq1m]; exact hN) (by rw [hq1m]; exact HoldM.of_check hcm) aok1 (hrows.new hs) (by omega) hok (by omega) (by rw [hq1p]; omega) (by rw [hq1p]; omega)
  -- what is asked
  iterate 3 refine IW_assoc ?_
  refine IW_cut (fun E' st' => ∃ (x fv : Value) (ns : List Value), New st st' ∧ E' 1 = .slice rb rows.length rc ∧ E' 2 = Val.i most ∧ E' 3 = ptr tb ∧ st' tb = some (.cells true [a0, a1, a2, a3, a4, Val.i q.start, Val.i q.step, Val.i n, Val.i q.kind, Val.u q.a, Val.u q.b] 11 (.ty 1)) ∧ E' 7 = x ∧ RowsAt st' x rows ∧ E' 8 = fv ∧ ns.length = 5 ∧ AnsFn st' fv ns q1 L ∧ E' 9 = Val.i (N : Int)) ?_ ?_
  · simp [go_sem, e1, e2, e3, g3, hn]
    obtain ⟨s2, hs2⟩ : ∃ s2, upd st1 tb (.cells true [a0, a1, a2, a3, a4, Val.i q.start, Val.i q.step, Val.i n, Val.i q.kind, Val.u q.a, Val.u q.b] 11 (.ty 1)) = s2 := ⟨_, rfl⟩
    have hk2 : New st s2 := by rw [← hs2]; exact hk1.put htb
    have g4 : s2 tb = some (.cells true [a0, a1, a2, a3, a4, Val.i q.start, Val.i q.step, Val.i n, Val.i q.kind, Val.u q.a, Val.u q.b] 11 (.ty 1)) := by rw [← hs2]; exact upd_same _ _ _
    rw [hs2]
    refine (Rows_copy (hrows.new hk2) (by omega) hok).mono ?_
    rintro e s4 ⟨w4, rfl, hw4, k4⟩
    simp [go_sem, e1, e2, e3, k4 _ _ g4]
    refine (ask_x hN (hm.new (hk2.trans k4))).mono ?_
    rintro e s3 ⟨mo, mn, mv, mb1, mn1, mc1, kb1, kn1, kc1, rfl, hm3, k3⟩
    simp [go_sem, e1, e2, e3]
    refine (answers_x hm3 hN hcm (hw4.new k3) (by omega) hok).mono ?_
    rintro e s5 ⟨fv, rfl, hf5, k5⟩
    rw [hL, ← hq1] at hf5
    have kk := (k4.trans k3).trans k5
    have g5 := kk _ _ g4
    simp [go_sem, e1, e2, e3, g5]
    refine (refWin_spec (by have := aok.start; omega) hn20).mono ?_
    rintro e s6 ⟨rfl, rfl⟩
    rw [hN2]
    simp [go_sem, e1, e2, e3]
    exact ⟨hk2.trans kk, g5, hw4.new (k3.trans k5), _, rfl, hf5⟩
  clear e1 e2 e3 g3 hk1
  rintro E st2 ⟨x, fv, ns, hk1, e1, e2, e3, g3, e7, hx, e8, hns, hfv, e9⟩
  have hN5 : ∀ (i : Nat), i < N → IntKind.i64.wrap ((i : Int) * q.step) = (i : Int) * q.step ∧ IntKind.i64.wrap (q.start + (i : Int) * q.step) = q.start + (i : Int) * q.step := fun i hi => by
    obtain ⟨w1, w2, w3, w4, w5, w6⟩ := windowsN_le (start := q.start) (step := q.step) (n := n) (by omega)
    have hb := w6 i (by omega)
    have hi0 : 0 ≤ (i : Int) * q.step := Int.mul_nonneg (by omega) (by omega)
    exact ⟨wrap_id (by omega) (by omega), wrap_id (by omega) (by omega)⟩
  -- asked twice
  refine IW_cut (fun E' st' => New st2 st' ∧ E' 1 = .slice rb rows.length rc ∧ E' 7 = x) ?_ ?_
  · simp [go_sem]
    refine ⟨fun E s => New st2 s ∧ E 1 = .slice rb rows.length rc ∧ E 2 = Val.i most ∧ E 3 = ptr tb ∧ E 7 = x ∧ E 8 = fv ∧ E 9 = Val.i (N : Int) ∧ ∃ r : Nat, E 10 = Val.i (r : Int) ∧ r ≤ 2, fun E _ => match E 10 with | .int _ z => 2 - z.toNat | _ => 0,
      ⟨st2, .rfl' _, New.refl _, by simp [go_sem, e1], by simp [go_sem, e2], by simp [go_sem, e3], by simp [go_sem, e7], by simp [go_sem, e8], by simp [go_sem, e9], 0, by simp [go_sem], by omega⟩, ?_⟩
    clear e1 e2 e3 e7 e8 e9
    rintro E s ⟨k0, e1, e2, e3, e7, e8, e9, r, e10, hr⟩
    have hr' : r = 0 ∨ r = 1 ∨ r = 2 := by omega
    rcases hr' with rfl | rfl | rfl
    · -- the first round
      simp [go_sem, e1, e2, e3, e7, e8, e9, e10]
      refine (Place_spec (k := 9) (by omega) (by omega)).mono ?_
      rintro e s5 ⟨⟨m, hm9, rfl⟩, rfl⟩
      have hwm : IntKind.i64.wrap (1 + (m : Int)) = (m : Int) + 1 := by rw [Int.add_comm]; exact wrap_id (by omega) (by omega)
      simp [go_sem, e1, e2, e3, e7, e8, e9, e10, hwm]
      obtain ⟨M, hM⟩ : ∃ M, min N (Int.toNat ((m : Int) + 1)) = M := ⟨_, rfl⟩
      have hmin : (if (N : Int) < ((m : Int) + 1) then (N : Int) else ((m : Int) + 1)) = (M : Int) := by rw [← hM]; split <;> omega
      refine (told_made (most := ((m : Int) + 1)) (hfv.new k0) hns aok1 (by omega) hLok hck (by omega) (by rw [hN1]; omega)).mono ?_
      rintro e s6 ⟨v6, rfl, hv6, k6⟩
      rw [hN1, hM] at hv6
      obtain ⟨b6, c6, rfl⟩ := hv6.slice
      simp [go_sem, e1, e2, e3, e7, e8, e9, e10, hmin]
      have k06 := k0.trans k6
      refine ⟨fun E s => New st2 s ∧ E 1 = .slice rb rows.length rc ∧ E 2 = Val.i most ∧ E 3 = ptr tb ∧ E 7 = x ∧ E 8 = fv ∧ E 9 = Val.i (N : Int) ∧ E 10 = Val.i 0 ∧ E 12 = .slice b6 M c6 ∧ New s6 s ∧ ∃ i : Nat, E 13 = Val.i (i : Int) ∧ i ≤ M, fun E _ => match E 13 with | .int _ z => M - z.toNat | _ => 0,
        ⟨s6, .rfl' _, k06, by simp [go_sem, e1], by simp [go_sem, e2], by simp [go_sem, e3], by simp [go_sem, e7], by simp [go_sem, e8], by simp [go_sem, e9], by simp [go_sem, e10], by simp [go_sem], New.refl _, 0, by simp [go_sem], by omega⟩, ?_⟩
      clear e1 e2 e3 e7 e8 e9 e10
      rintro E s7 ⟨k9, e1, e2, e3, e7, e8, e9, e10, e12, k7, j, e13, hi⟩
      by_cases hlt : j < M
      rotate_left
      · have : j = M := by omega
        subst this
        simp [go_sem, e1, e2, e3, e7, e8, e9, e10, e12, e13, show IntKind.i64.wrap 1 = 1 from wrap_id (by omega) (by omega)]
        exact ⟨_, .rfl' _, k9, 1, rfl, by omega⟩
      have t1 : ((j : Int) < M) = True := eq_true (by omega)
      have hwi : IntKind.i64.wrap ((j : Int) + 1) = ((j + 1 : Nat) : Int) := by rw [wrap_id (by omega) (by omega)]; omega
      have hiN : j < N := by omega
      obtain ⟨hwa, hwb⟩ := hN5 j hiN
      have hks : New st s7 := hk1.trans k9
      have gtb := k9 _ _ g3
      obtain ⟨bx, cx, mx, hvx, hbx, hlx, hgx, -, -, -, -⟩ := (hv6.new k7).get hlt
      injection hvx with v1 v2 v3
      subst v1; subst v3
      generalize ansL (ansOf q1 L q1.step) q1.start q1.step M = A at *
      obtain ⟨B, hB⟩ : ∃ B, ansOf q1 L q1.step (q.start + (j : Int) * q.step) = B := ⟨_, rfl⟩
      rw [show q1.start + (j : Int) * q1.step = q.start + (j : Int) * q.step by rw [hq1s, hq1p], hB] at hgx
      have hne : binV Tryz.prog .neq 43 (.agg (B.cells (q.start + (j : Int) * q.step)).toArray) (.agg (B.cells (q.start + (j : Int) * q.step)).toArray) = some (.bool false) := neq_ans B _
      simp [go_sem, e12, e13, t1, hlt]
      refine drawV [0, 1, 2, 3, 4, 5, 6, 7, 8, 9, 10, 11, 12, 13, 14] (fun i v st' => match i with
        | 0 => v = .slice (some ⟨bx, 0, none⟩) M c6
        | 1 | 8 => v = Val.i (j : Int)
        | 2 => v = .pointer (some ⟨bx, j * 4, none⟩)
        | 3 | 13 => v = .agg (B.cells (q.start + (j : Int) * q.step)).toArray
        | 4 => v = .agg #[a0, a1, a2, a3, a4, Val.i q.start, Val.i q.step, Val.i n, Val.i q.kind, Val.u q.a, Val.u q.b]
        | 5 => v = .slice rb rows.length rc
        | 6 => v = .pointer (some ⟨tb, 5, none⟩)
        | 7 => v = Val.i q.start
        | 9 => v = .pointer (some ⟨tb, 6, none⟩)
        | 10 => v = Val.i q.step
        | 11 => v = Val.i ((j : Int) * q.step)
        | 12 => v = Val.i (q.start + (j : Int) * q.step)
        | 14 => v = .bool false
        | _ => True) (by kernel_rfl) (by kernel_rfl) ?_ ?_ ?_ ?_
      · intro i v sta stb hNw h
        match i with
        | 0 => exact h
        | 1 => exact h
        | 2 => exact h
        | 3 => exact h
        | 4 => exact h
        | 5 => exact h
        | 6 => exact h
        | 7 => exact h
        | 8 => exact h
        | 9 => exact h
        | 10 => exact h
        | 11 => exact h
        | 12 => exact h
        | 13 => exact h
        | 14 => exact h
        | i + 15 => exact h
      · intro i oo hi E sta hNw hd hE
        have ta := hNw _ _ gtb
        have hb1 := hNw _ _ hbx
        match i with
        | 0 =>
          have x12 := hE 12 (oldB_spec (by kernel_rfl))
          injection hi with hi; subst hi
          simp [wantedE, go_sem, x12, e12, ta, hb1, hlx, hgx, hwa, hwb, hne, hlt, t1]
          exact New.refl _
        | 1 =>
          have x13 := hE 13 (oldB_spec (by kernel_rfl))
          injection hi with hi; subst hi
          simp [wantedE, go_sem, x13, e13, ta, hb1, hlx, hgx, hwa, hwb, hne, hlt, t1]
          exact New.refl _
        | 2 =>
          injection hi with hi; subst hi
          have d0 := hd { on := 0, ground := .data } (by simp) (by decide) _ _ rfl rfl
          have d1 := hd { on := 1, ground := .data } (by simp) (by decide) _ _ rfl rfl
          simp only at d0 d1
          simp [wantedE, go_sem, d0, d1, ta, hb1, hlx, hgx, hwa, hwb, hne, hlt, t1]
          exact New.refl _
        | 3 =>
          injection hi with hi; subst hi
          have d2 := hd { on := 2, ground := .data } (by simp) (by decide) _ _ rfl rfl
          simp only at d2
          simp [wantedE, go_sem, d2, ta, hb1, hlx, hgx, hwa, hwb, hne, hlt, t1]
          exact New.refl _
        | 4 =>
          have x3 := hE 3 (oldB_spec (by kernel_rfl))
          injection hi with hi; subst hi
          simp [wantedE, go_sem, x3, e3, ta, hb1, hlx, hgx, hwa, hwb, hne, hlt, t1]
          exact New.refl _
        | 5 =>
          have x1 := hE 1 (oldB_spec (by kernel_rfl))
          injection hi with hi; subst hi
          simp [wantedE, go_sem, x1, e1, ta, hb1, hlx, hgx, hwa, hwb, hne, hlt, t1]
          exact New.refl _
        | 6 =>
          have x3 := hE 3 (oldB_spec (by kernel_rfl))
          injection hi with hi; subst hi
          simp [wantedE, go_sem, x3, e3, ta, hb1, hlx, hgx, hwa, hwb, hne, hlt, t1]
          exact New.refl _
        | 7 =>
          injection hi with hi; subst hi
          have d6 := hd { on := 6, ground := .data } (by simp) (by decide) _ _ rfl rfl
          simp only at d6
          simp [wantedE, go_sem, d6, ta, hb1, hlx, hgx, hwa, hwb, hne, hlt, t1]
          exact New.refl _
        | 8 =>
          have x13 := hE 13 (oldB_spec (by kernel_rfl))
          injection hi with hi; subst hi
          simp [wantedE, go_sem, x13, e13, ta, hb1, hlx, hgx, hwa, hwb, hne, hlt, t1]
          exact New.refl _
        | 9 =>
          have x3 := hE 3 (oldB_spec (by kernel_rfl))
          injection hi with hi; subst hi
          simp [wantedE, go_sem, x3, e3, ta, hb1, hlx, hgx, hwa, hwb, hne, hlt, t1]
          exact New.refl _
        | 10 =>
          injection hi with hi; subst hi
          have d9 := hd { on := 9, ground := .data } (by simp) (by decide) _ _ rfl rfl
          simp only at d9
          simp [wantedE, go_sem, d9, ta, hb1, hlx, hgx, hwa, hwb, hne, hlt, t1]
          exact New.refl _
        | 11 =>
          injection hi with hi; subst hi
          have d8 := hd { on := 8, ground := .data } (by simp) (by decide) _ _ rfl rfl
          have d10 := hd { on := 10, ground := .data } (by simp) (by decide) _ _ rfl rfl
          simp only at d8 d10
          simp [wantedE, go_sem, d8, d10, ta, hb1, hlx, hgx, hwa, hwb, hne, hlt, t1]
          exact New.refl _
        | 12 =>
          injection hi with hi; subst hi
          have d7 := hd { on := 7, ground := .data } (by simp) (by decide) _ _ rfl rfl
          have d11 := hd { on := 11, ground := .data } (by simp) (by decide) _ _ rfl rfl
          simp only at d7 d11
          simp [wantedE, go_sem, d7, d11, ta, hb1, hlx, hgx, hwa, hwb, hne, hlt, t1]
          exact New.refl _
        | 13 =>
          injection hi with hi; subst hi
          have d4 := hd { on := 4, ground := .data } (by simp) (by decide) _ _ rfl rfl
          have d5 := hd { on := 5, ground := .data } (by simp) (by decide) _ _ rfl rfl
          have d12 := hd { on := 12, ground := .data } (by simp) (by decide) _ _ rfl rfl
          simp only at d4 d5 d12
          simp [wantedE, go_sem, d4, d5, d12, ta, hb1, hlx, hgx, hwa, hwb, hne, hlt, t1]
          refine (hwin _ j (hks.trans hNw) hiN).mono ?_
          rintro e s9 ⟨rfl, n9⟩
          rw [hB]
          simp [go_sem]
          exact n9
        | 14 =>
          injection hi with hi; subst hi
          have d3 := hd { on := 3, ground := .data } (by simp) (by decide) _ _ rfl rfl
          have d13 := hd { on := 13, ground := .data } (by simp) (by decide) _ _ rfl rfl
          simp only at d3 d13
          simp [wantedE, go_sem, d3, d13, ta, hb1, hlx, hgx, hwa, hwb, hne, hlt, t1]
          exact New.refl _
        | i + 15 => simp at hi
      · intro E sta hNw hd hE
        have d14 := hd 14 _ 85 rfl rfl
        simp only at d14
        have y1 : E 1 = .slice rb rows.length rc := by rw [hE 1 (noB_spec (by kernel_rfl))]; simp [go_sem, e1]
        have y2 : E 2 = Val.i most := by rw [hE 2 (noB_spec (by kernel_rfl))]; simp [go_sem, e2]
        have y3 : E 3 = ptr tb := by rw [hE 3 (noB_spec (by kernel_rfl))]; simp [go_sem, e3]
        have y7 : E 7 = x := by rw [hE 7 (noB_spec (by kernel_rfl))]; simp [go_sem, e7]
        have y8 : E 8 = fv := by rw [hE 8 (noB_spec (by kernel_rfl))]; simp [go_sem, e8]
        have y9 : E 9 = Val.i (N : Int) := by rw [hE 9 (noB_spec (by kernel_rfl))]; simp [go_sem, e9]
        have y10 : E 10 = Val.i 0 := by rw [hE 10 (noB_spec (by kernel_rfl))]; simp [go_sem, e10]
        have y12 : E 12 = .slice (some ⟨bx, 0, none⟩) M c6 := by rw [hE 12 (noB_spec (by kernel_rfl))]; simp [go_sem, e12]
        have y13 : E 13 = Val.i (j : Int) := by rw [hE 13 (noB_spec (by kernel_rfl))]; simp [go_sem, e13]
        simp [go_sem, d14, y13, hwi]
        exact ⟨_, .rfl' _, ⟨k9.trans hNw, y1, y2, y3, y7, y8, y9, y10, y12, k7.trans hNw, j + 1, by simp, by omega⟩, by omega⟩
      · intro j oj hj
        match j with
        | 0 | 1 | 2 | 3 | 4 | 5 | 6 | 7 | 8 | 9 | 10 | 11 | 12 | 13 | 14 => simp at hj; subst hj; decide
        | j + 15 => simp at hj
    · -- the second round
      simp [go_sem, e1, e2, e3, e7, e8, e9, e10]
      refine (Place_spec (k := 9) (by omega) (by omega)).mono ?_
      rintro e s5 ⟨⟨m, hm9, rfl⟩, rfl⟩
      simp [go_sem, e1, e2, e3, e7, e8, e9, e10]
      obtain ⟨M, hM⟩ : ∃ M, min N (Int.toNat (100 : Int)) = M := ⟨_, rfl⟩
      have hmin : (if (N : Int) < (100 : Int) then (N : Int) else (100 : Int)) = (M : Int) := by rw [← hM]; split <;> omega
      refine (told_made (most := (100 : Int)) (hfv.new k0) hns aok1 (by omega) hLok hck (by omega) (by rw [hN1]; omega)).mono ?_
      rintro e s6 ⟨v6, rfl, hv6, k6⟩
      rw [hN1, hM] at hv6
      obtain ⟨b6, c6, rfl⟩ := hv6.slice
      simp [go_sem, e1, e2, e3, e7, e8, e9, e10, hmin]
      have k06 := k0.trans k6
      refine ⟨fun E s => New st2 s ∧ E 1 = .slice rb rows.length rc ∧ E 2 = Val.i most ∧ E 3 = ptr tb ∧ E 7 = x ∧ E 8 = fv ∧ E 9 = Val.i (N : Int) ∧ E 10 = Val.i 1 ∧ E 12 = .slice b6 M c6 ∧ New s6 s ∧ ∃ i : Nat, E 13 = Val.i (i : Int) ∧ i ≤ M, fun E _ => match E 13 with | .int _ z => M - z.toNat | _ => 0,
        ⟨s6, .rfl' _, k06, by simp [go_sem, e1], by simp [go_sem, e2], by simp [go_sem, e3], by simp [go_sem, e7], by simp [go_sem, e8], by simp [go_sem, e9], by simp [go_sem, e10], by simp [go_sem], New.refl _, 0, by simp [go_sem], by omega⟩, ?_⟩
      clear e1 e2 e3 e7 e8 e9 e10
      rintro E s7 ⟨k9, e1, e2, e3, e7, e8, e9, e10, e12, k7, j, e13, hi⟩
      by_cases hlt : j < M
      rotate_left
      · have : j = M := by omega
        subst this
        simp [go_sem, e1, e2, e3, e7, e8, e9, e10, e12, e13, show IntKind.i64.wrap 2 = 2 from wrap_id (by omega) (by omega)]
        exact ⟨_, .rfl' _, k9, 2, rfl, by omega⟩
      have t1 : ((j : Int) < M) = True := eq_true (by omega)
      have hwi : IntKind.i64.wrap ((j : Int) + 1) = ((j + 1 : Nat) : Int) := by rw [wrap_id (by omega) (by omega)]; omega
      have hiN : j < N := by omega
      obtain ⟨hwa, hwb⟩ := hN5 j hiN
      have hks : New st s7 := hk1.trans k9
      have gtb := k9 _ _ g3
      obtain ⟨bx, cx, mx, hvx, hbx, hlx, hgx, -, -, -, -⟩ := (hv6.new k7).get hlt
      injection hvx with v1 v2 v3
      subst v1; subst v3
      generalize ansL (ansOf q1 L q1.step) q1.start q1.step M = A at *
      obtain ⟨B, hB⟩ : ∃ B, ansOf q1 L q1.step (q.start + (j : Int) * q.step) = B := ⟨_, rfl⟩
      rw [show q1.start + (j : Int) * q1.step = q.start + (j : Int) * q.step by rw [hq1s, hq1p], hB] at hgx
      have hne : binV Tryz.prog .neq 43 (.agg (B.cells (q.start + (j : Int) * q.step)).toArray) (.agg (B.cells (q.start + (j : Int) * q.step)).toArray) = some (.bool false) := neq_ans B _
      simp [go_sem, e12, e13, t1, hlt]
      refine drawV [0, 1, 2, 3, 4, 5, 6, 7, 8, 9, 10, 11, 12, 13, 14] (fun i v st' => match i with
        | 0 => v = .slice (some ⟨bx, 0, none⟩) M c6
        | 1 | 8 => v = Val.i (j : Int)
        | 2 => v = .pointer (some ⟨bx, j * 4, none⟩)
        | 3 | 13 => v = .agg (B.cells (q.start + (j : Int) * q.step)).toArray
        | 4 => v = .agg #[a0, a1, a2, a3, a4, Val.i q.start, Val.i q.step, Val.i n, Val.i q.kind, Val.u q.a, Val.u q.b]
        | 5 => v = .slice rb rows.length rc
        | 6 => v = .pointer (some ⟨tb, 5, none⟩)
        | 7 => v = Val.i q.start
        | 9 => v = .pointer (some ⟨tb, 6, none⟩)
        | 10 => v = Val.i q.step
        | 11 => v = Val.i ((j : Int) * q.step)
        | 12 => v = Val.i (q.start + (j : Int) * q.step)
        | 14 => v = .bool false
        | _ => True) (by kernel_rfl) (by kernel_rfl) ?_ ?_ ?_ ?_
      · intro i v sta stb hNw h
        match i with
        | 0 => exact h
        | 1 => exact h
        | 2 => exact h
        | 3 => exact h
        | 4 => exact h
        | 5 => exact h
        | 6 => exact h
        | 7 => exact h
        | 8 => exact h
        | 9 => exact h
        | 10 => exact h
        | 11 => exact h
        | 12 => exact h
        | 13 => exact h
        | 14 => exact h
        | i + 15 => exact h
      · intro i oo hi E sta hNw hd hE
        have ta := hNw _ _ gtb
        have hb1 := hNw _ _ hbx
        match i with
        | 0 =>
          have x12 := hE 12 (oldB_spec (by kernel_rfl))
          injection hi with hi; subst hi
          simp [wantedE, go_sem, x12, e12, ta, hb1, hlx, hgx, hwa, hwb, hne, hlt, t1]
          exact New.refl _
        | 1 =>
          have x13 := hE 13 (oldB_spec (by kernel_rfl))
          injection hi with hi; subst hi
          simp [wantedE, go_sem, x13, e13, ta, hb1, hlx, hgx, hwa, hwb, hne, hlt, t1]
          exact New.refl _
        | 2 =>
          injection hi with hi; subst hi
          have d0 := hd { on := 0, ground := .data } (by simp) (by decide) _ _ rfl rfl
          have d1 := hd { on := 1, ground := .data } (by simp) (by decide) _ _ rfl rfl
          simp only at d0 d1
          simp [wantedE, go_sem, d0, d1, ta, hb1, hlx, hgx, hwa, hwb, hne, hlt, t1]
          exact New.refl _
        | 3 =>
          injection hi with hi; subst hi
          have d2 := hd { on := 2, ground := .data } (by simp) (by decide) _ _ rfl rfl
          simp only at d2
          simp [wantedE, go_sem, d2, ta, hb1, hlx, hgx, hwa, hwb, hne, hlt, t1]
          exact New.refl _
        | 4 =>
          have x3 := hE 3 (oldB_spec (by kernel_rfl))
          injection hi with hi; subst hi
          simp [wantedE, go_sem, x3, e3, ta, hb1, hlx, hgx, hwa, hwb, hne, hlt, t1]
          exact New.refl _
        | 5 =>
          have x1 := hE 1 (oldB_spec (by kernel_rfl))
          injection hi with hi; subst hi
          simp [wantedE, go_sem, x1, e1, ta, hb1, hlx, hgx, hwa, hwb, hne, hlt, t1]
          exact New.refl _
        | 6 =>
          have x3 := hE 3 (oldB_spec (by kernel_rfl))
          injection hi with hi; subst hi
          simp [wantedE, go_sem, x3, e3, ta, hb1, hlx, hgx, hwa, hwb, hne, hlt, t1]
          exact New.refl _
        | 7 =>
          injection hi with hi; subst hi
          have d6 := hd { on := 6, ground := .data } (by simp) (by decide) _ _ rfl rfl
          simp only at d6
          simp [wantedE, go_sem, d6, ta, hb1, hlx, hgx, hwa, hwb, hne, hlt, t1]
          exact New.refl _
        | 8 =>
          have x13 := hE 13 (oldB_spec (by kernel_rfl))
          injection hi with hi; subst hi
          simp [wantedE, go_sem, x13, e13, ta, hb1, hlx, hgx, hwa, hwb, hne, hlt, t1]
          exact New.refl _
        | 9 =>
          have x3 := hE 3 (oldB_spec (by kernel_rfl))
          injection hi with hi; subst hi
          simp [wantedE, go_sem, x3, e3, ta, hb1, hlx, hgx, hwa, hwb, hne, hlt, t1]
          exact New.refl _
        | 10 =>
          injection hi with hi; subst hi
          have d9 := hd { on := 9, ground := .data } (by simp) (by decide) _ _ rfl rfl
          simp only at d9
          simp [wantedE, go_sem, d9, ta, hb1, hlx, hgx, hwa, hwb, hne, hlt, t1]
          exact New.refl _
        | 11 =>
          injection hi with hi; subst hi
          have d8 := hd { on := 8, ground := .data } (by simp) (by decide) _ _ rfl rfl
          have d10 := hd { on := 10, ground := .data } (by simp) (by decide) _ _ rfl rfl
          simp only at d8 d10
          simp [wantedE, go_sem, d8, d10, ta, hb1, hlx, hgx, hwa, hwb, hne, hlt, t1]
          exact New.refl _
        | 12 =>
          injection hi with hi; subst hi
          have d7 := hd { on := 7, ground := .data } (by simp) (by decide) _ _ rfl rfl
          have d11 := hd { on := 11, ground := .data } (by simp) (by decide) _ _ rfl rfl
          simp only at d7 d11
          simp [wantedE, go_sem, d7, d11, ta, hb1, hlx, hgx, hwa, hwb, hne, hlt, t1]
          exact New.refl _
        | 13 =>
          injection hi with hi; subst hi
          have d4 := hd { on := 4, ground := .data } (by simp) (by decide) _ _ rfl rfl
          have d5 := hd { on := 5, ground := .data } (by simp) (by decide) _ _ rfl rfl
          have d12 := hd { on := 12, ground := .data } (by simp) (by decide) _ _ rfl rfl
          simp only at d4 d5 d12
          simp [wantedE, go_sem, d4, d5, d12, ta, hb1, hlx, hgx, hwa, hwb, hne, hlt, t1]
          refine (hwin _ j (hks.trans hNw) hiN).mono ?_
          rintro e s9 ⟨rfl, n9⟩
          rw [hB]
          simp [go_sem]
          exact n9
        | 14 =>
          injection hi with hi; subst hi
          have d3 := hd { on := 3, ground := .data } (by simp) (by decide) _ _ rfl rfl
          have d13 := hd { on := 13, ground := .data } (by simp) (by decide) _ _ rfl rfl
          simp only at d3 d13
          simp [wantedE, go_sem, d3, d13, ta, hb1, hlx, hgx, hwa, hwb, hne, hlt, t1]
          exact New.refl _
        | i + 15 => simp at hi
      · intro E sta hNw hd hE
        have d14 := hd 14 _ 85 rfl rfl
        simp only at d14
        have y1 : E 1 = .slice rb rows.length rc := by rw [hE 1 (noB_spec (by kernel_rfl))]; simp [go_sem, e1]
        have y2 : E 2 = Val.i most := by rw [hE 2 (noB_spec (by kernel_rfl))]; simp [go_sem, e2]
        have y3 : E 3 = ptr tb := by rw [hE 3 (noB_spec (by kernel_rfl))]; simp [go_sem, e3]
        have y7 : E 7 = x := by rw [hE 7 (noB_spec (by kernel_rfl))]; simp [go_sem, e7]
        have y8 : E 8 = fv := by rw [hE 8 (noB_spec (by kernel_rfl))]; simp [go_sem, e8]
        have y9 : E 9 = Val.i (N : Int) := by rw [hE 9 (noB_spec (by kernel_rfl))]; simp [go_sem, e9]
        have y10 : E 10 = Val.i 1 := by rw [hE 10 (noB_spec (by kernel_rfl))]; simp [go_sem, e10]
        have y12 : E 12 = .slice (some ⟨bx, 0, none⟩) M c6 := by rw [hE 12 (noB_spec (by kernel_rfl))]; simp [go_sem, e12]
        have y13 : E 13 = Val.i (j : Int) := by rw [hE 13 (noB_spec (by kernel_rfl))]; simp [go_sem, e13]
        simp [go_sem, d14, y13, hwi]
        exact ⟨_, .rfl' _, ⟨k9.trans hNw, y1, y2, y3, y7, y8, y9, y10, y12, k7.trans hNw, j + 1, by simp, by omega⟩, by omega⟩
      · intro j oj hj
        match j with
        | 0 | 1 | 2 | 3 | 4 | 5 | 6 | 7 | 8 | 9 | 10 | 11 | 12 | 13 | 14 => simp at hj; subst hj; decide
        | j + 15 => simp at hj
    · simp [go_sem, e1, e2, e3, e7, e8, e9, e10]
      exact k0
  clear e1 e2 e3 e7 e8 e9
  rintro E s ⟨k0, e1, e7⟩
  simp [go_sem, e1, e7]
  refine (SameRows_spec (hx.new k0) ((hrows.new hk1).new k0) (by omega) hok).mono ?_
  rintro e s5 ⟨rfl, k5⟩
  simp [go_sem]
  refine awake _ fun st' => ?_
  simp [go_sem]
end
end Go.Proofs.YtflbapmjdfnhhaaGreat
