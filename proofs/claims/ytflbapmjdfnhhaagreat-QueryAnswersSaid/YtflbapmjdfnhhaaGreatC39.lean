/- The document's merges of gauges and of sketches; a window's sum. -/
import Derived.Test.YtflbapmjdfnhhaaGreatC38
import Derived.Test.YtflbapmjdfnhhaaGreatC11
import Derived.Test.YtflbapmjdfnhhaaGreatC18
set_option linter.unusedVariables false
set_option linter.unusedSimpArgs false
set_option maxRecDepth 100000
set_option maxHeartbeats 4000000
namespace Go.Proofs.YtflbapmjdfnhhaaGreat
open Go.RowKit (Below)
section
variable {W0 : World} {st : Heap}
theorem refGaugeMerge_spec {a b : GauD} (oa : GauOK a) (ob : GauOK b) : ICalls Tryz.prog W0 58 #[.agg a.cells.toArray, .agg b.cells.toArray] st fun e st' => e = .returned (.agg (mergeG a b).cells.toArray) ∧ New st st' := by
  obtain ⟨an, ax, al, ah⟩ := a
  obtain ⟨bn, bx, bl, bh⟩ := b
  obtain ⟨oan, oax, oal, oah⟩ := oa
  obtain ⟨obn, obx, obl, obh⟩ := ob
  simp only at oan oax oal oah obn obx obl obh
  refine enter (args := [_, _]) Tryz.func58 rfl ?_
  refine IW_cut (fun E' st' => ∃ ta tb tc : Nat, New st st' ∧ E' 2 = ptr ta ∧ E' 3 = ptr tb ∧ E' 4 = ptr tc ∧ st tc = none ∧ ta ≠ tc ∧ tb ≠ tc ∧ st' ta = some (.cells true [Val.u an, Val.u ax, Val.u al, Val.u ah] 4 (.ty 1)) ∧ st' tb = some (.cells true [Val.u bn, Val.u bx, Val.u bl, Val.u bh] 4 (.ty 1)) ∧ st' tc = some (.cells true [Val.u 0, Val.u 0, Val.u 0, Val.u 0] 4 (.ty 1))) ?_ ?_
  · simp [go_sem, GauD.cells]
    unfold NewP
    intro ta hta
    refine ⟨.ty 1, ?_⟩
    have k1 := (New.refl st).add (b := ta) (o := .cells true [Val.u an, Val.u ax, Val.u al, Val.u ah] 4 (.ty 1)) hta
    have ga := upd_same st ta (.cells true [Val.u an, Val.u ax, Val.u al, Val.u ah] 4 (.ty 1))
    simp [go_sem]
    generalize upd st ta (.cells true [Val.u an, Val.u ax, Val.u al, Val.u ah] 4 (.ty 1)) = st1 at *
    unfold NewP
    intro tb htb
    refine ⟨.ty 1, ?_⟩
    have k2 := (New.refl st1).add (b := tb) (o := .cells true [Val.u bn, Val.u bx, Val.u bl, Val.u bh] 4 (.ty 1)) htb
    have gb := upd_same st1 tb (.cells true [Val.u bn, Val.u bx, Val.u bl, Val.u bh] 4 (.ty 1))
    have ga2 := k2 _ _ ga
    simp [go_sem]
    generalize upd st1 tb (.cells true [Val.u bn, Val.u bx, Val.u bl, Val.u bh] 4 (.ty 1)) = st2 at *
    unfold NewP
    intro tc htc
    refine ⟨.ty 1, ?_⟩
    have k3 := (New.refl st2).add (b := tc) (o := .cells true [Val.u 0, Val.u 0, Val.u 0, Val.u 0] 4 (.ty 1)) htc
    have gc := upd_same st2 tc (.cells true [Val.u 0, Val.u 0, Val.u 0, Val.u 0] 4 (.ty 1))
    simp [go_sem]
    generalize upd st2 tc (.cells true [Val.u 0, Val.u 0, Val.u 0, Val.u 0] 4 (.ty 1)) = st3 at *
    repeat' apply And.intro
    all_goals first | exact (k1.trans k2).trans k3 | exact (k1.trans k2).none htc | exact ne_of_new ga2 htc | exact ne_of_new gb htc | exact k3 _ _ ga2 | exact k3 _ _ gb | exact gc | rfl
  rintro E st1 ⟨ta, tb, tc, k1, e2, e3, e4, htc, nac, nbc, ga, gb, gc⟩
  refine IW_cut (fun E' st' => ∃ td : Nat, New st st' ∧ E' 2 = ptr ta ∧ E' 3 = ptr tb ∧ E' 4 = ptr tc ∧ E' 5 = ptr td ∧ st td = none ∧ ta ≠ td ∧ tb ≠ td ∧ tc ≠ td ∧ st' ta = some (.cells true [Val.u an, Val.u ax, Val.u al, Val.u ah] 4 (.ty 1)) ∧ st' tb = some (.cells true [Val.u bn, Val.u bx, Val.u bl, Val.u bh] 4 (.ty 1)) ∧ st' tc = some (.cells true [Val.u 0, Val.u 0, Val.u 0, Val.u 0] 4 (.ty 1)) ∧ st' td = some (.cells true [Val.u (satAdd an bn : Nat), Val.u (satAdd ax bx : Nat), Val.u al, Val.u ah] 4 (.ty 1))) ?_ ?_
  · simp [go_sem]
    refine drawT 16 [0, 1, 2, 3, 4, 5, 6, 7, 8, 9, 10, 11, 12, 13, 14, 15, 16] (fun ix v st' => match ix with
      | 0 => v = .pointer (some ⟨ta, 0, none⟩)
      | 1 => v = Val.u an
      | 2 => v = .pointer (some ⟨tb, 0, none⟩)
      | 3 => v = Val.u bn
      | 4 => v = Val.u (satAdd an bn : Nat)
      | 5 => v = .pointer (some ⟨ta, 1, none⟩)
      | 6 => v = Val.u ax
      | 7 => v = .pointer (some ⟨tb, 1, none⟩)
      | 8 => v = Val.u bx
      | 9 => v = Val.u (satAdd ax bx : Nat)
      | 10 => v = .pointer (some ⟨ta, 2, none⟩)
      | 11 => v = Val.u al
      | 12 => v = .pointer (some ⟨ta, 3, none⟩)
      | 13 => v = Val.u ah
      | 14 => v = .agg #[Val.u (satAdd an bn : Nat), Val.u (satAdd ax bx : Nat), Val.u al, Val.u ah]
      | 15 => ∃ td, v = ptr td ∧ st1 td = none ∧ st' td = some (.cells true [Val.u 0, Val.u 0, Val.u 0, Val.u 0] 4 (.ty 1))
      | _ => True) (by kernel_rfl) (by kernel_rfl) (by kernel_rfl) (by decide) ?_ ?_ ?_ ?_
    · intro ix v sta stb hNw h
      match ix with
      | 15 => obtain ⟨td, h1, h2, h3⟩ := h; exact ⟨td, h1, h2, hNw _ _ h3⟩
      | 0 => exact h
      | 1 => exact h
      | 2 => exact h
      | 3 => exact h
      | 4 => exact h
      | 5 => exact h
      | 6 => exact h
      | 7 => exact h
      | 8 => exact h
      | 9 => exact h
      | 10 => exact h
      | 11 => exact h
      | 12 => exact h
      | 13 => exact h
      | 14 => exact h
      | ix + 16 => exact h
    · intro ix oo hin hi E sta hNw hd hE
      have ga1 := hNw _ _ ga
      have gb1 := hNw _ _ gb
      match ix with
      | 0 =>
        have x2 := hE 2 (oldT_spec (by kernel_rfl))
        injection hi with hi; subst hi
        simp [wantedE, go_sem, x2, e2, ga1, gb1]
        exact New.refl _
      | 1 =>
        injection hi with hi; subst hi
        have d0 := hd { on := 0, ground := .data } (by simp) (by decide) _ _ rfl rfl
        simp only at d0
        simp [wantedE, go_sem, d0, ga1, gb1]
        exact New.refl _
      | 2 =>
        have x3 := hE 3 (oldT_spec (by kernel_rfl))
        injection hi with hi; subst hi
        simp [wantedE, go_sem, x3, e3, ga1, gb1]
        exact New.refl _
      | 3 =>
        injection hi with hi; subst hi
        have d2 := hd { on := 2, ground := .data } (by simp) (by decide) _ _ rfl rfl
        simp only at d2
        simp [wantedE, go_sem, d2, ga1, gb1]
        exact New.refl _
      | 4 =>
        injection hi with hi; subst hi
        have d1 := hd { on := 1, ground := .data } (by simp) (by decide) _ _ rfl rfl
        have d3 := hd { on := 3, ground := .data } (by simp) (by decide) _ _ rfl rfl
        simp only at d1 d3
        simp [wantedE, go_sem, d1, d3, ga1, gb1]
        refine (refAdd_spec oan obn).mono ?_
        rintro e s5 ⟨rfl, rfl⟩
        simp [go_sem]
        exact New.refl _
      | 5 =>
        have x2 := hE 2 (oldT_spec (by kernel_rfl))
        injection hi with hi; subst hi
        simp [wantedE, go_sem, x2, e2, ga1, gb1]
        exact New.refl _
      | 6 =>
        injection hi with hi; subst hi
        have d5 := hd { on := 5, ground := .data } (by simp) (by decide) _ _ rfl rfl
        simp only at d5
        simp [wantedE, go_sem, d5, ga1, gb1]
        exact New.refl _
      | 7 =>
        have x3 := hE 3 (oldT_spec (by kernel_rfl))
        injection hi with hi; subst hi
        simp [wantedE, go_sem, x3, e3, ga1, gb1]
        exact New.refl _
      | 8 =>
        injection hi with hi; subst hi
        have d7 := hd { on := 7, ground := .data } (by simp) (by decide) _ _ rfl rfl
        simp only at d7
        simp [wantedE, go_sem, d7, ga1, gb1]
        exact New.refl _
      | 9 =>
        injection hi with hi; subst hi
        have d6 := hd { on := 6, ground := .data } (by simp) (by decide) _ _ rfl rfl
        have d8 := hd { on := 8, ground := .data } (by simp) (by decide) _ _ rfl rfl
        simp only at d6 d8
        simp [wantedE, go_sem, d6, d8, ga1, gb1]
        refine (refAdd_spec oax obx).mono ?_
        rintro e s5 ⟨rfl, rfl⟩
        simp [go_sem]
        exact New.refl _
      | 10 =>
        have x2 := hE 2 (oldT_spec (by kernel_rfl))
        injection hi with hi; subst hi
        simp [wantedE, go_sem, x2, e2, ga1, gb1]
        exact New.refl _
      | 11 =>
        injection hi with hi; subst hi
        have d10 := hd { on := 10, ground := .data } (by simp) (by decide) _ _ rfl rfl
        simp only at d10
        simp [wantedE, go_sem, d10, ga1, gb1]
        exact New.refl _
      | 12 =>
        have x2 := hE 2 (oldT_spec (by kernel_rfl))
        injection hi with hi; subst hi
        simp [wantedE, go_sem, x2, e2, ga1, gb1]
        exact New.refl _
      | 13 =>
        injection hi with hi; subst hi
        have d12 := hd { on := 12, ground := .data } (by simp) (by decide) _ _ rfl rfl
        simp only at d12
        simp [wantedE, go_sem, d12, ga1, gb1]
        exact New.refl _
      | 14 =>
        injection hi with hi; subst hi
        have d4 := hd { on := 4, ground := .data } (by simp) (by decide) _ _ rfl rfl
        have d9 := hd { on := 9, ground := .data } (by simp) (by decide) _ _ rfl rfl
        have d11 := hd { on := 11, ground := .data } (by simp) (by decide) _ _ rfl rfl
        have d13 := hd { on := 13, ground := .data } (by simp) (by decide) _ _ rfl rfl
        simp only at d4 d9 d11 d13
        simp [wantedE, go_sem, d4, d9, d11, d13, ga1, gb1]
        exact New.refl _
      | 15 =>
        injection hi with hi; subst hi
        simp [wantedE, go_sem, ga1, gb1]
        unfold NewP
        intro td htd
        refine ⟨.ty 1, ?_⟩
        simp [go_sem]
        exact ⟨(New.refl _).add htd, hNw.none htd⟩
      | ix + 16 => omega
    · intro E sta hNw hd hE
      obtain ⟨td, h15, htd, hn15⟩ := hd 15 _ 5 (by omega) rfl rfl
      have d14 := hd 14 _ 20 (by omega) rfl rfl
      simp only at d14
      have y2 := hE 2 (noT_spec (by kernel_rfl))
      have y3 := hE 3 (noT_spec (by kernel_rfl))
      have y4 := hE 4 (noT_spec (by kernel_rfl))
      rw [e2] at y2
      rw [e3] at y3
      rw [e4] at y4
      have nad := ne_of_new ga htd
      have nbd := ne_of_new gb htd
      have ncd := ne_of_new gc htd
      have htd0 := k1.none htd
      simp [go_sem, h15, d14, hn15, y2, y3, y4]
      repeat' apply And.intro
      all_goals first | exact (k1.trans hNw).put htd0 | exact htd0 | exact nad | exact nbd | exact ncd | (rw [upd_ne _ _ nad]; exact hNw _ _ ga) | (rw [upd_ne _ _ nbd]; exact hNw _ _ gb) | (rw [upd_ne _ _ ncd]; exact hNw _ _ gc) | exact upd_same _ _ _ | rfl
    · intro j oj hj
      match j with
      | 0 | 1 | 2 | 3 | 4 | 5 | 6 | 7 | 8 | 9 | 10 | 11 | 12 | 13 | 14 | 15 | 16 => simp at hj; subst hj; decide
      | j + 17 => simp at hj
  clear e2 e3 e4 ga gb gc k1
  rintro E s0 ⟨td, k1, e2, e3, e4, e5, htd, nad, nbd, ncd, ga, gb, gc, gd⟩
  have fin : ∀ (lo hi : Nat), True := fun _ _ => trivial
  have hl1 := refLess_spec (W0 := W0) (st := s0) obl oal
  by_cases ca : an = 0
  · have hm : (mergeG ⟨an, ax, al, ah⟩ ⟨bn, bx, bl, bh⟩).cells = [Val.u (satAdd an bn : Nat), Val.u (satAdd ax bx : Nat), Val.u bl, Val.u bh] := by
      unfold mergeG GauD.cells
      rw [if_pos (.inl ca), if_pos ca]
    rw [hm]
    subst ca
    simp [go_sem, e2, e3, e4, e5, ga, gb, gc, gd, nad, nbd, ncd, Ne.symm nad, Ne.symm nbd, Ne.symm ncd, upd_ne]
    refine RetI_cell ?_
    simp [go_sem, e4, upd_same]
    exact (k1.put htd).put htc
  have qa : ((an : Int) = 0) = False := eq_false (by omega)
  by_cases cb : bn = 0
  · have hm : (mergeG ⟨an, ax, al, ah⟩ ⟨bn, bx, bl, bh⟩).cells = [Val.u (satAdd an bn : Nat), Val.u (satAdd ax bx : Nat), Val.u al, Val.u ah] := by
      unfold mergeG GauD.cells
      rw [if_pos (.inr cb), if_neg ca]
    rw [hm]
    subst cb
    simp [go_sem, e2, e3, e4, e5, ga, gb, gc, gd, nad, nbd, ncd, Ne.symm nad, Ne.symm nbd, Ne.symm ncd, upd_ne, ca]
    refine RetI_cell ?_
    simp [go_sem, e4, upd_same]
    exact k1.put htc
  have hm : (mergeG ⟨an, ax, al, ah⟩ ⟨bn, bx, bl, bh⟩).cells = [Val.u (satAdd an bn : Nat), Val.u (satAdd ax bx : Nat), Val.u (if lessN bl al then bl else al : Nat), Val.u (if lessN ah bh then bh else ah : Nat)] := by
    unfold mergeG GauD.cells
    rw [if_neg (by simp only; omega)]
  rw [hm]
  simp [go_sem, e2, e3, e4, e5, ga, gb, gc, gd, nad, nbd, ncd, Ne.symm nad, Ne.symm nbd, Ne.symm ncd, upd_ne, ca, cb]
  refine hl1.mono ?_
  rintro e s1 ⟨rfl, rfl⟩
  cases c1 : lessN bl al with
  | true =>
    simp [go_sem, e2, e3, e4, e5, ga, gb, gc, gd, nad, nbd, ncd, Ne.symm nad, Ne.symm nbd, Ne.symm ncd, upd_ne]
    refine (refLess_spec oah obh).mono ?_
    rintro e s2 ⟨rfl, rfl⟩
    cases c2 : lessN ah bh with
    | true =>
      simp [go_sem, e2, e3, e4, e5, ga, gb, gc, gd, nad, nbd, ncd, Ne.symm nad, Ne.symm nbd, Ne.symm ncd, upd_ne]
      refine RetI_cell ?_
      simp [go_sem, e4, upd_same]
      exact (k1.put htd).put htc
    | false =>
      simp [go_sem, e2, e3, e4, e5, ga, gb, gc, gd, nad, nbd, ncd, Ne.symm nad, Ne.symm nbd, Ne.symm ncd, upd_ne]
      refine RetI_cell ?_
      simp [go_sem, e4, upd_same]
      exact (k1.put htd).put htc
  | false =>
    simp [go_sem, e2, e3, e4, e5, ga, gb, gc, gd, nad, nbd, ncd, Ne.symm nad, Ne.symm nbd, Ne.symm ncd, upd_ne]
    refine (refLess_spec oah obh).mono ?_
    rintro e s2 ⟨rfl, rfl⟩
    cases c2 : lessN ah bh with
    | true =>
      simp [go_sem, e2, e3, e4, e5, ga, gb, gc, gd, nad, nbd, ncd, Ne.symm nad, Ne.symm nbd, Ne.symm ncd, upd_ne]
      refine RetI_cell ?_
      simp [go_sem, e4, upd_same]
      exact (k1.put htd).put htc
    | false =>
      simp [go_sem, e2, e3, e4, e5, ga, gb, gc, gd, nad, nbd, ncd, Ne.symm nad, Ne.symm nbd, Ne.symm ncd, upd_ne]
      refine RetI_cell ?_
      simp [go_sem, e4, upd_same]
      exact k1.put htc
theorem refSkMerge_spec {ca cb : List Value} {a b : SkD} (ha : SkAt st ca a) (hb : SkAt st cb b) (oa : SkOK a) (ob : SkOK b) (la : a.hist.length < 2 ^ 30 ∧ a.hashes.length < 2 ^ 30) (lb : b.hist.length < 2 ^ 30 ∧ b.hashes.length < 2 ^ 30) :
    ICalls Tryz.prog W0 33 #[.agg ca.toArray, .agg cb.toArray] st fun e st' => ∃ cs, e = .returned (.agg cs.toArray) ∧ SkAt st' cs (mergeSk a b) ∧ New st st' := by
  obtain ⟨av, au, rfl, ha1, ha2⟩ := ha
  obtain ⟨bv, bu, rfl, hb1, hb2⟩ := hb
  obtain ⟨avb, avc, rfl⟩ := ha1.slice
  obtain ⟨aub, auc, rfl⟩ := ha2.slice
  obtain ⟨bvb, bvc, rfl⟩ := hb1.slice
  obtain ⟨bub, buc, rfl⟩ := hb2.slice
  refine enter (args := [_, _]) Tryz.func33 rfl ?_
  refine IW_cut (fun E' st' => ∃ ta tb tc : Nat, New st st' ∧ E' 2 = ptr ta ∧ E' 3 = ptr tb ∧ E' 4 = ptr tc ∧ st tc = none ∧ ta ≠ tc ∧ tb ≠ tc ∧ st' ta = some (.cells true [.slice avb a.hist.length avc, .slice aub a.hashes.length auc, Val.u a.g.n, Val.u a.g.nans, Val.u a.g.lo, Val.u a.g.hi] 6 (.ty 1)) ∧ st' tb = some (.cells true [.slice bvb b.hist.length bvc, .slice bub b.hashes.length buc, Val.u b.g.n, Val.u b.g.nans, Val.u b.g.lo, Val.u b.g.hi] 6 (.ty 1)) ∧ ∃ z : List Value, z.length = 6 ∧ st' tc = some (.cells true z 6 (.own tc 0 55))) ?_ ?_
  · simp [go_sem]
    unfold NewP
    intro ta hta
    refine ⟨.ty 1, ?_⟩
    have k1 := (New.refl st).add (b := ta) (o := .cells true [.slice avb a.hist.length avc, .slice aub a.hashes.length auc, Val.u a.g.n, Val.u a.g.nans, Val.u a.g.lo, Val.u a.g.hi] 6 (.ty 1)) hta
    have ga := upd_same st ta (.cells true [.slice avb a.hist.length avc, .slice aub a.hashes.length auc, Val.u a.g.n, Val.u a.g.nans, Val.u a.g.lo, Val.u a.g.hi] 6 (.ty 1))
    simp [go_sem]
    generalize upd st ta (.cells true [.slice avb a.hist.length avc, .slice aub a.hashes.length auc, Val.u a.g.n, Val.u a.g.nans, Val.u a.g.lo, Val.u a.g.hi] 6 (.ty 1)) = st1 at *
    unfold NewP
    intro tb htb
    refine ⟨.ty 1, ?_⟩
    have k2 := (New.refl st1).add (b := tb) (o := .cells true [.slice bvb b.hist.length bvc, .slice bub b.hashes.length buc, Val.u b.g.n, Val.u b.g.nans, Val.u b.g.lo, Val.u b.g.hi] 6 (.ty 1)) htb
    have gb := upd_same st1 tb (.cells true [.slice bvb b.hist.length bvc, .slice bub b.hashes.length buc, Val.u b.g.n, Val.u b.g.nans, Val.u b.g.lo, Val.u b.g.hi] 6 (.ty 1))
    have ga2 := k2 _ _ ga
    simp [go_sem]
    generalize upd st1 tb (.cells true [.slice bvb b.hist.length bvc, .slice bub b.hashes.length buc, Val.u b.g.n, Val.u b.g.nans, Val.u b.g.lo, Val.u b.g.hi] 6 (.ty 1)) = st2 at *
    unfold NewP
    intro tc htc
    refine ⟨.own tc 0 55, ?_⟩
    have k3 := (New.refl st2).add (b := tc) (o := .cells true [.slice none 0 0, .slice none 0 0, Val.u 0, Val.u 0, Val.u 0, Val.u 0] 6 (.own tc 0 55)) htc
    have gc := upd_same st2 tc (.cells true [.slice none 0 0, .slice none 0 0, Val.u 0, Val.u 0, Val.u 0, Val.u 0] 6 (.own tc 0 55))
    simp [go_sem]
    generalize upd st2 tc (.cells true [.slice none 0 0, .slice none 0 0, Val.u 0, Val.u 0, Val.u 0, Val.u 0] 6 (.own tc 0 55)) = st3 at *
    repeat' apply And.intro
    all_goals first | exact (k1.trans k2).trans k3 | exact (k1.trans k2).none htc | exact ne_of_new ga2 htc | exact ne_of_new gb htc | exact k3 _ _ ga2 | exact k3 _ _ gb | exact ⟨[.slice none 0 0, .slice none 0 0, Val.u 0, Val.u 0, Val.u 0, Val.u 0], rfl, gc⟩ | rfl
  rintro E st1 ⟨ta, tb, tc, k1, e2, e3, e4, htc, nac, nbc, ga, gb, z, hz, gc⟩
  simp [go_sem]
  obtain ⟨RL, hRL⟩ : ∃ RL, (mrU a.hashes b.hashes).take 1024 = RL := ⟨_, rfl⟩
  refine drawT 15 [0, 1, 2, 3, 4, 5, 6, 7, 8, 9, 10, 11, 12, 13, 14, 15, 16] (fun ix v st' => match ix with
    | 0 => v = .pointer (some ⟨ta, 0, none⟩)
    | 1 => v = .slice avb a.hist.length avc
    | 2 => v = .pointer (some ⟨tb, 0, none⟩)
    | 3 => v = .slice bvb b.hist.length bvc
    | 4 => ∃ cb cc, v = .slice cb (mhB a.hist b.hist).length cc ∧ RegF st' 2 v (bkV (mhB a.hist b.hist)) (mhB a.hist b.hist).length
    | 5 => v = .pointer (some ⟨ta, 1, none⟩)
    | 6 => v = .slice aub a.hashes.length auc
    | 7 => v = .pointer (some ⟨tb, 1, none⟩)
    | 8 => v = .slice bub b.hashes.length buc
    | 9 => ∃ cb cc, v = .slice cb RL.length cc ∧ RegF st' 1 v (cellsU RL) RL.length
    | 10 => v = .pointer (some ⟨ta, 2, none⟩)
    | 11 => v = .agg a.g.cells.toArray
    | 12 => v = .pointer (some ⟨tb, 2, none⟩)
    | 13 => v = .agg b.g.cells.toArray
    | 14 => v = .agg (mergeG a.g b.g).cells.toArray
    | _ => True) (by kernel_rfl) (by kernel_rfl) (by kernel_rfl) (by decide) ?_ ?_ ?_ ?_
  · intro ix v sta stb hNw h
    match ix with
    | 4 => obtain ⟨x, y, h1, h2⟩ := h; exact ⟨x, y, h1, h2.new hNw⟩
    | 9 => obtain ⟨x, y, h1, h2⟩ := h; exact ⟨x, y, h1, h2.new hNw⟩
    | 0 => exact h
    | 1 => exact h
    | 2 => exact h
    | 3 => exact h
    | 5 => exact h
    | 6 => exact h
    | 7 => exact h
    | 8 => exact h
    | 10 => exact h
    | 11 => exact h
    | 12 => exact h
    | 13 => exact h
    | 14 => exact h
    | ix + 15 => exact h
  · intro ix oo hin hi E sta hNw hd hE
    have ga1 := hNw _ _ ga
    have gb1 := hNw _ _ gb
    match ix with
    | 0 =>
      have x2 := hE 2 (oldT_spec (by kernel_rfl))
      injection hi with hi; subst hi
      simp [wantedE, go_sem, x2, e2, ga1, gb1, GauD.cells]
      exact New.refl _
    | 1 =>
      injection hi with hi; subst hi
      have d0 := hd { on := 0, ground := .data } (by simp) (by decide) _ _ rfl rfl
      simp only at d0
      simp [wantedE, go_sem, d0, ga1, gb1, GauD.cells]
      exact New.refl _
    | 2 =>
      have x3 := hE 3 (oldT_spec (by kernel_rfl))
      injection hi with hi; subst hi
      simp [wantedE, go_sem, x3, e3, ga1, gb1, GauD.cells]
      exact New.refl _
    | 3 =>
      injection hi with hi; subst hi
      have d2 := hd { on := 2, ground := .data } (by simp) (by decide) _ _ rfl rfl
      simp only at d2
      simp [wantedE, go_sem, d2, ga1, gb1, GauD.cells]
      exact New.refl _
    | 4 =>
      injection hi with hi; subst hi
      have d1 := hd { on := 1, ground := .data } (by simp) (by decide) _ _ rfl rfl
      have d3 := hd { on := 3, ground := .data } (by simp) (by decide) _ _ rfl rfl
      simp only at d1 d3
      simp [wantedE, go_sem, d1, d3, ga1, gb1, GauD.cells]
      refine (refHistMerge_spec (ha1.new (k1.trans hNw)) (hb1.new (k1.trans hNw)) la.1 lb.1 oa.hist ob.hist).mono ?_
      rintro e s5 ⟨w, rfl, hw, -, n5⟩
      obtain ⟨x, y, rfl⟩ := hw.slice
      simp [go_sem]
      exact ⟨n5, hw⟩
    | 5 =>
      have x2 := hE 2 (oldT_spec (by kernel_rfl))
      injection hi with hi; subst hi
      simp [wantedE, go_sem, x2, e2, ga1, gb1, GauD.cells]
      exact New.refl _
    | 6 =>
      injection hi with hi; subst hi
      have d5 := hd { on := 5, ground := .data } (by simp) (by decide) _ _ rfl rfl
      simp only at d5
      simp [wantedE, go_sem, d5, ga1, gb1, GauD.cells]
      exact New.refl _
    | 7 =>
      have x3 := hE 3 (oldT_spec (by kernel_rfl))
      injection hi with hi; subst hi
      simp [wantedE, go_sem, x3, e3, ga1, gb1, GauD.cells]
      exact New.refl _
    | 8 =>
      injection hi with hi; subst hi
      have d7 := hd { on := 7, ground := .data } (by simp) (by decide) _ _ rfl rfl
      simp only at d7
      simp [wantedE, go_sem, d7, ga1, gb1, GauD.cells]
      exact New.refl _
    | 9 =>
      injection hi with hi; subst hi
      have d6 := hd { on := 6, ground := .data } (by simp) (by decide) _ _ rfl rfl
      have d8 := hd { on := 8, ground := .data } (by simp) (by decide) _ _ rfl rfl
      simp only at d6 d8
      simp [wantedE, go_sem, d6, d8, ga1, gb1, GauD.cells]
      refine (refHashMerge_spec (ha2.new (k1.trans hNw)) (hb2.new (k1.trans hNw)) la.2 lb.2).mono ?_
      rintro e s5 ⟨w, rfl, hw, -, n5⟩
      rw [hRL] at hw
      obtain ⟨x, y, rfl⟩ := hw.slice
      simp [go_sem]
      exact ⟨n5, hw⟩
    | 10 =>
      have x2 := hE 2 (oldT_spec (by kernel_rfl))
      injection hi with hi; subst hi
      simp [wantedE, go_sem, x2, e2, ga1, gb1, GauD.cells]
      exact New.refl _
    | 11 =>
      injection hi with hi; subst hi
      have d10 := hd { on := 10, ground := .data } (by simp) (by decide) _ _ rfl rfl
      simp only at d10
      simp [wantedE, go_sem, d10, ga1, gb1, GauD.cells]
      exact New.refl _
    | 12 =>
      have x3 := hE 3 (oldT_spec (by kernel_rfl))
      injection hi with hi; subst hi
      simp [wantedE, go_sem, x3, e3, ga1, gb1, GauD.cells]
      exact New.refl _
    | 13 =>
      injection hi with hi; subst hi
      have d12 := hd { on := 12, ground := .data } (by simp) (by decide) _ _ rfl rfl
      simp only at d12
      simp [wantedE, go_sem, d12, ga1, gb1, GauD.cells]
      exact New.refl _
    | 14 =>
      injection hi with hi; subst hi
      have d11 := hd { on := 11, ground := .data } (by simp) (by decide) _ _ rfl rfl
      have d13 := hd { on := 13, ground := .data } (by simp) (by decide) _ _ rfl rfl
      simp only at d11 d13
      simp [wantedE, go_sem, d11, d13, ga1, gb1, GauD.cells]
      refine (refGaugeMerge_spec oa.g ob.g).mono ?_
      rintro e s5 ⟨rfl, n5⟩
      simp [go_sem]
      exact ⟨n5, rfl⟩
    | ix + 15 => omega
  · intro E sta hNw hd hE
    obtain ⟨c4b, c4c, h4, hr4⟩ := hd 4 _ 9 (by omega) rfl rfl
    obtain ⟨c9b, c9c, h9, hr9⟩ := hd 9 _ 14 (by omega) rfl rfl
    have d14 := hd 14 _ 19 (by omega) rfl rfl
    simp only at d14
    have y4 := hE 4 (noT_spec (by kernel_rfl))
    rw [e4] at y4
    rw [h4] at hr4
    rw [h9] at hr9
    have gc1 := hNw _ _ gc
    match z, hz with
    | [z0, z1, z2, z3, z4, z5], _ =>
    simp [go_sem, h4, h9, d14, GauD.cells, y4, gc1]
    refine RetI_cell ?_
    simp [go_sem, y4, upd_same]
    have kf : New st (upd sta tc (.cells true [.slice c4b (mhB a.hist b.hist).length c4c, .slice c9b RL.length c9c, Val.u (mergeG a.g b.g).n, Val.u (mergeG a.g b.g).nans, Val.u (mergeG a.g b.g).lo, Val.u (mergeG a.g b.g).hi] 6 (.own tc 0 55))) := (k1.trans hNw).put htc
    have kk : Keep Free sta (upd sta tc (.cells true [.slice c4b (mhB a.hist b.hist).length c4c, .slice c9b RL.length c9c, Val.u (mergeG a.g b.g).n, Val.u (mergeG a.g b.g).nans, Val.u (mergeG a.g b.g).lo, Val.u (mergeG a.g b.g).hi] 6 (.own tc 0 55))) := by
      refine Keep.rfl'.old gc1 ?_
      intro g hg hp
      injection hg with hg
      subst hg
      exact hp _ _ _ rfl
    refine ⟨⟨_, _, rfl, hr4.free kk, ?_⟩, kf⟩
    have : (mergeSk a b).hashes = RL := hRL
    rw [this]
    exact hr9.free kk
  · intro j oj hj
    match j with
    | 0 | 1 | 2 | 3 | 4 | 5 | 6 | 7 | 8 | 9 | 10 | 11 | 12 | 13 | 14 | 15 | 16 => simp at hj; subst hj; decide
    | j + 17 => simp at hj
end
end Go.Proofs.YtflbapmjdfnhhaaGreat
