/- What an iterator of answers tells, at most so many. -/
import Derived.Test.YtembgehpgommgaaGreatC28
import Derived.Test.YtembgehpgommgaaGreatC26
import Derived.Test.YtembgehpgommgaaGreatC29
import Derived.Test.YtembgehpgommgaaGreatC24
set_option linter.unusedVariables false
set_option linter.unusedSimpArgs false
set_option maxRecDepth 100000
set_option maxHeartbeats 800000
namespace Go.Proofs.YtembgehpgommgaaGreat
open Go.RowKit (Below)
section
variable {W0 : World} {st : Heap}
theorem told_gen {a r : Nat} {cs : List Value} {start step n : Int} {k6 k7 k8 rv : Value} {most : Int} {ga gr : Tg} {f : Int → AnsD} (hcs : cs.length = 5) (hbn : -2 ^ 63 ≤ n ∧ n < 2 ^ 63) (hbs : -2 ^ 63 ≤ start ∧ start < 2 ^ 63)
    (ha : st a = some (.cells true (cs ++ [Val.i start, Val.i step, Val.i n, k6, k7, k8]) 11 ga)) (hr : st r = some (.cells true [rv] 1 gr)) (hmost : 1 ≤ most) (hsmall : windowsN start step n < 2 ^ 30)
    (hwin : ∀ s, New st s → ∀ frm : Int, 0 ≤ frm → frm + step ≤ 2 ^ 40 → 1 ≤ step → ICalls Tryz.prog W0 61 #[.agg (cs ++ [Val.i start, Val.i step, Val.i n, k6, k7, k8]).toArray, rv, Val.i frm, Val.i (frm + step)] s fun e s' => New s s' ∧ e = .returned (.agg ((f frm).cells frm).toArray)) :
    ICalls Tryz.prog W0 26 #[.func (.func 59) #[] #[ptr a, ptr r], Val.i most] st fun e st' => New st st' ∧ ∃ v, e = .returned v ∧ Vec st' (.ty 1) 4 v (ansL f start step (min (windowsN start step n) most.toNat)) (min (windowsN start step n) most.toNat) ∧ Fresh st v := by
  refine enter (args := [_, _]) Tryz.func26 rfl ?_
  simp [Tryz.f26, go_sem]
  unfold NewP
  intro mc hmc
  refine ⟨.ty 1, ?_⟩
  have k1 := (New.refl st).add (b := mc) (o := .cells true [Val.i most] 1 (.ty 1)) hmc
  have g1 := upd_same st mc (.cells true [Val.i most] 1 (.ty 1))
  simp [go_sem]
  generalize upd st mc (.cells true [Val.i most] 1 (.ty 1)) = st1 at *
  intro lc hl
  refine ⟨.ty 1, ?_⟩
  have k2 := (New.refl st1).add (b := lc) (o := .cells true [.slice none 0 0] 1 (.ty 1)) hl
  have g2 := upd_same st1 lc (.cells true [.slice none 0 0] 1 (.ty 1))
  generalize upd st1 lc (.cells true [.slice none 0 0] 1 (.ty 1)) = st2 at *
  have kk := k1.trans k2
  have hlc : st lc = none := k1.none hl
  have g1' := k2 _ _ g1
  have hne : mc ≠ lc := by rintro rfl; rw [g1] at hl; cases hl
  have q : (most < 1) = False := eq_false (by omega)
  have hsame : ∀ {s : Heap}, (∀ j, j ≠ lc → st2 j ≠ none → s j = st2 j) → New st s := fun hs k o hk => by
    have h2 := kk _ _ hk
    rw [hs k (by rintro rfl; rw [hlc] at hk; cases hk) (by rw [h2]; simp)]
    exact h2
  simp [go_sem, g1', q, eqB]
  refine ICalls.mono (answers1_gen (W0 := W0) (f := f) (most := most) hcs hbn hbs (kk _ _ ha) (kk _ _ hr) g1' hmost g2 (by rintro rfl; rw [hlc] at ha; cases ha) (by rintro rfl; rw [hlc] at hr; cases hr) hne hsmall (fun s hs => hwin s (hsame hs))) ?_
  rintro e st3 ⟨rfl, h3, h4, v, g, v1, v2, v3⟩
  simp [go_sem, v1]
  exact ⟨hsame h3, v2, fun b off n' c hv => kk.none (v3 b off n' c hv)⟩
end
end Go.Proofs.YtembgehpgommgaaGreat
set_option linter.unusedVariables false
set_option linter.unusedSimpArgs false
set_option maxRecDepth 100000
set_option maxHeartbeats 800000
namespace Go.Proofs.YtembgehpgommgaaGreat
open Go.RowKit (Below)
section
variable {W0 : World} {st : Heap}
def matZ : Mat := .mk 0 ByteArray.empty ByteArray.empty [] []
def cellsZ : List Value := [Val.i 0, .string ByteArray.empty, .string ByteArray.empty, .slice none 0 0, .slice none 0 0]
theorem matZ_at {st : Heap} : MatAt st cellsZ matZ := by
  unfold MatAt matZ
  exact ⟨.slice none 0 0, .slice none 0 0, [], rfl, ⟨.ty 0, by intro g x r; simp, by simpa using Reg.nil⟩, ⟨.ty 0, by intro g x r; simp, by simpa using Reg.nil⟩, by unfold KidsAt; rfl⟩
theorem awake23_spec : ICalls Tryz.prog W0 13 #[] st fun e st' => e = .returned (.bool true) ∧ New st st' := by
  refine enter (args := []) Tryz.func13 rfl ?_
  simp [Tryz.f13, go_sem]
  unfold NewP
  intro ta hta
  refine ⟨.ty 1, ?_⟩
  simp [go_sem]
  obtain ⟨zc, hzc⟩ : ∃ zc : List Value, zc = cellsZ ++ [Val.i 0, Val.i 1, Val.i 1, Val.i 1, Val.u 0, Val.u 0] := ⟨_, rfl⟩
  have k1 := (New.refl st).add (b := ta) (o := .cells true zc 11 (.ty 1)) hta
  have g1 := upd_same st ta (.cells true zc 11 (.ty 1))
  have hzc' : zc = [Value.int .i64 0, Value.string { data := #[] }, Value.string { data := #[] }, Value.slice none 0 0,
          Value.slice none 0 0, Value.int .i64 0, Value.int .i64 1, Value.int .i64 1,
          Value.int .i64 1, Value.int .u64 0, Value.int .u64 0] := by rw [hzc]; rfl
  rw [← hzc']
  generalize upd st ta (.cells true zc 11 (.ty 1)) = st1 at *
  refine ICalls.mono (by simpa [hzc, cellsZ, ByteArray.empty, ByteArray.emptyWithCapacity] using answers_spec (W0 := W0) (st := st1) (cs := cellsZ) (ds := [Val.i 0, Val.i 1, Val.i 1, Val.i 1, Val.u 0, Val.u 0]) rfl rfl) ?_
  rintro e st2 ⟨qa, qr, rfl, k2, hqn, ⟨ga, hqa⟩, ⟨gr, hqr⟩⟩
  simp [go_sem]
  refine ICalls.mono (told_gen (W0 := W0) (cs := cellsZ) (start := 0) (step := 1) (n := 1) (k6 := Val.i 1) (k7 := Val.u 0) (k8 := Val.u 0) (most := 9) (f := fun _ => ⟨true, 0, 0⟩) rfl (by omega) (by omega) hqa hqr (by omega) (by decide) ?_) ?_
  · intro s hs frm _ _ _
    refine ICalls.mono (by simpa [cellsZ] using windowNil_spec (W0 := W0) (st := s) (lo := frm) (hi := frm + 1)) ?_
    rintro e s' ⟨h1, rfl⟩
    exact ⟨h1, rfl⟩
  rintro e st3 ⟨k3, v, rfl, hv, -⟩
  have hn1 : windowsN 0 1 1 = 1 := by decide
  rw [hn1] at hv
  have hal : ansL (fun _ => ⟨true, 0, 0⟩) 0 1 1 = [Val.i 0, .bool true, Val.u 0, Val.i 0] := by rfl
  have hv1 : Vec st3 (.ty 1) 4 v [Val.i 0, .bool true, Val.u 0, Val.i 0] 1 := hv
  clear hv
  obtain ⟨hvl, vb, vc, rfl, hvc, hvv⟩ := hv1
  obtain ⟨b, nn, rfl, hb⟩ : ∃ b nn, vb = some ⟨b, 0, none⟩ ∧ st3 b = some (.cells true [Val.i 0, .bool true, Val.u 0, Val.i 0] nn (.ty 1)) := by
    rcases hvv with ⟨b, nn, rfl, hb, -⟩ | ⟨rfl, rfl⟩
    · exact ⟨b, nn, rfl, hb⟩
    · omega
  simp [go_sem]
  have kk := (k1.trans k2).trans k3
  have g3 := k3 _ _ (k2 _ _ g1)
  unfold NewP
  intro tc htc
  refine ⟨.ty 1, ?_⟩
  simp [go_sem]
  have hne : ta ≠ tc := by rintro rfl; rw [g3] at htc; cases htc
  have k4 := (New.refl st3).add (b := tc) (o := .cells true [Val.i 0, Val.i 1, Val.i 1, Val.i 1, Val.i 1] 5 (.ty 1)) htc
  have g4 := upd_same st3 tc (.cells true [Val.i 0, Val.i 1, Val.i 1, Val.i 1, Val.i 1] 5 (.ty 1))
  generalize upd st3 tc (.cells true [Val.i 0, Val.i 1, Val.i 1, Val.i 1, Val.i 1] 5 (.ty 1)) = st4 at *
  have g3' := k4 _ _ g3
  have hb4 := k4 _ _ hb
  have hlz : zc.length = 11 := by rw [hzc]; rfl
  have htz : zc.take 11 = zc := List.take_of_length_le (by omega)
  simp [go_sem, hb4, g4, g3', hlz, htz]
  have c1 : queryM (checkM matZ) 1 0 1 1 0 0 0 1 1 1 1 = 0 := by decide +kernel
  have c2 : queryM (checkM matZ) 0 0 0 0 0 0 0 1 1 1 1 = 5 := by decide +kernel
  have hq : ∀ (s : Heap), ICalls Tryz.prog W0 14 #[.agg #[Val.i 0, Val.i 1, Val.i 1, Val.i 1, Val.i 1], Val.i 0, .agg zc.toArray] s fun e s' => e = .returned (Val.i 0) ∧ New s s' := fun s => by
    rw [hzc]
    refine ICalls.mono (queryCheck_spec (m := matZ) matZ_at (by omega) (by omega) (by simp)) ?_
    rintro e s' ⟨rfl, h⟩
    rw [c1]
    exact ⟨rfl, h⟩
  have hq2 : ∀ (s : Heap), ICalls Tryz.prog W0 14 #[.agg #[Val.i 0, Val.i 1, Val.i 1, Val.i 1, Val.i 1], Val.i 0, .agg (cellsZ ++ [Val.i 0, Val.i 0, Val.i 0, Val.i 0, Val.u 0, Val.u 0]).toArray] s fun e s' => e = .returned (Val.i 5) ∧ New s s' := fun s => by
    refine ICalls.mono (queryCheck_spec (m := matZ) matZ_at (by omega) (by omega) (by simp)) ?_
    rintro e s' ⟨rfl, h⟩
    rw [c2]
    exact ⟨rfl, h⟩
  refine (hq _).mono ?_
  rintro e st5 ⟨rfl, k5⟩
  simp [go_sem, k5 _ _ g4]
  refine ICalls.mono (hq2 st5) ?_
  rintro e st6 ⟨rfl, k6⟩
  simp [go_sem]
  exact ((kk.trans k4).trans k5).trans k6
end
end Go.Proofs.YtembgehpgommgaaGreat
set_option linter.unusedVariables false
set_option linter.unusedSimpArgs false
set_option maxRecDepth 100000
set_option maxHeartbeats 1000000
namespace Go.Proofs.YtembgehpgommgaaGreat
open Go.RowKit (Below)
theorem eq_ans (A : AnsD) (f : Int) : binV Tryz.prog .eql 47 (.agg (A.cells f).toArray) (.agg (A.cells f).toArray) = some (.bool true) := by
  have hs : Tryz.prog.stoodInHeld 47 = false := by kernel_rfl
  have hg : Tryz.prog.eqGuardType Tryz.prog.depth 47 = false := by kernel_rfl
  unfold binV eqBin aggEqB AnsD.cells
  simp only [Tryz.underlying47, hs, hg]
  simp [fieldsEq, Tryz.underlying3, Tryz.underlying4, Tryz.underlying29, Tryz.underlying35]
section
variable {W0 : World} {st : Heap}
theorem one_spec' {ms cs : List Value} {q : AskD} {s : SkD} (hms : ms.length = 5) (h : SkAt st cs s) (ok : SkOK s) (hc : checkS s = true) (aok : AskOK q) : ICalls Tryz.prog W0 18 #[.agg (ms ++ q.tail).toArray, .agg cs.toArray] st fun e st' => New st st' ∧ e = .returned (.agg ((oneM q.kind q.a.toNat q.b.toNat s).cells 0).toArray) := by
  match ms, hms with
  | [m0, m1, m2, m3, m4], _ =>
    have h1 := aok.a
    have h2 := aok.b
    have e1 : ((q.a.toNat : Nat) : Int) = q.a := Int.toNat_of_nonneg h1.1
    have e2 : ((q.b.toNat : Nat) : Int) = q.b := Int.toNat_of_nonneg h2.1
    have := one_spec (W0 := W0) (st := st) (c0 := m0) (c1 := m1) (c2 := m2) (c3 := m3) (c4 := m4) (c5 := Val.i q.start) (c6 := Val.i q.step) (c7 := Val.i q.n) (kind := q.kind) (a := q.a.toNat) (b := q.b.toNat) h ok hc (by omega) (by omega)
    rw [e1, e2] at this
    exact this
theorem refOne_spec' {ms cs : List Value} {q : AskD} {s : SkD} (hms : ms.length = 5) (h : SkAt st cs s) (ok : SkOK s) (hc : checkS s = true) (aok : AskOK q) : ICalls Tryz.prog W0 20 #[.agg (ms ++ q.tail).toArray, .agg cs.toArray] st fun e st' => New st st' ∧ e = .returned (.agg ((oneM q.kind q.a.toNat q.b.toNat s).cells 0).toArray) := by
  match ms, hms with
  | [m0, m1, m2, m3, m4], _ =>
    have h1 := aok.a
    have h2 := aok.b
    have e1 : ((q.a.toNat : Nat) : Int) = q.a := Int.toNat_of_nonneg h1.1
    have e2 : ((q.b.toNat : Nat) : Int) = q.b := Int.toNat_of_nonneg h2.1
    have := refOne_spec (W0 := W0) (st := st) (c0 := m0) (c1 := m1) (c2 := m2) (c3 := m3) (c4 := m4) (c5 := Val.i q.start) (c6 := Val.i q.step) (c7 := Val.i q.n) (kind := q.kind) (a := q.a.toNat) (b := q.b.toNat) h ok hc (by omega) (by omega)
    rw [e1, e2] at this
    exact this
theorem queryOnes_walk {ks cs : List Value} {q : AskD} {s : SkD} (hq : AskW st ks q) (hs : SkAt st cs s) (sok : SkOK s) : ICalls Tryz.prog W0 4 #[.agg ks.toArray, .agg cs.toArray] st fun e st' => e = .returned (.bool true) := by
  obtain ⟨⟨ms, hm, hka'⟩, aok⟩ := hq
  have hml := hm.length
  obtain ⟨ka, hka⟩ : ∃ ka, ms ++ q.tail = ka := ⟨_, rfl⟩
  have hkl : ka.length = 11 := by rw [← hka, List.length_append, hml]; rfl
  have hcl := hs.length
  have htka : ka.take 11 = ka := List.take_of_length_le (by omega)
  have htcs : cs.take 6 = cs := List.take_of_length_le (by omega)
  have ht5 : ka.take 5 = ms := by rw [← hka, ← hml]; exact List.take_left
  rw [hka'] at *
  rw [hka]
  clear hka'
  obtain ⟨A, hA⟩ : ∃ A, oneM q.kind q.a.toNat q.b.toNat s = A := ⟨_, rfl⟩
  refine enter (args := [_, _]) Tryz.func4 rfl ?_
  simp [Tryz.f4, go_sem]
  unfold NewP
  intro ta hta0
  refine ⟨.ty 1, ?_⟩
  rw [hkl]
  have k1 := (New.refl st).add (b := ta) (o := .cells true ka 11 (.ty 1)) hta0
  have g1 := upd_same st ta (.cells true ka 11 (.ty 1))
  simp [go_sem]
  generalize upd st ta (.cells true ka 11 (.ty 1)) = st1 at *
  unfold NewP
  intro tb htb0
  refine ⟨.ty 1, ?_⟩
  rw [hcl]
  have k2 := (New.refl st1).add (b := tb) (o := .cells true cs 6 (.ty 1)) htb0
  have g2 := upd_same st1 tb (.cells true cs 6 (.ty 1))
  have g1' := k2 _ _ g1
  have kk := k1.trans k2
  simp [go_sem]
  generalize upd st1 tb (.cells true cs 6 (.ty 1)) = st2 at *
  have awake : ∀ (sta : Heap) {K : Ending → Heap → Prop}, (∀ st', K (.returned (.bool true)) st') → ICalls Tryz.prog W0 13 #[] sta K := fun sta K hK => awake23_spec.mono fun e st' h => by rw [h.1]; exact hK st'
  simp [go_sem, g1', g2, hcl, htcs]
  refine (refSkCheck_spec (hs.new kk) sok).mono ?_
  rintro e st3 ⟨rfl, k3⟩
  have g13 := k3 _ _ g1'
  have g23 := k3 _ _ g2
  cases hck : checkS s with
  | false =>
    simp [go_sem]
    refine awake _ fun st' => ?_
    simp [go_sem]
  | true =>
  simp [go_sem, g13, hkl, ht5]
  refine (Tiny_spec (hm.new (kk.trans k3))).mono ?_
  rintro e st4 ⟨rfl, k4⟩
  cases htn : (tinyM q.m 0 0).1 with
  | false =>
    simp [go_sem]
    refine awake _ fun st' => ?_
    simp [go_sem]
  | true =>
  have hN : NiceM 12 q.m := ((tinyM_spec q.m 0 0).2 htn).2
  have hta := k4 _ _ g13
  have htb := k4 _ _ g23
  have hk2 := (kk.trans k3).trans k4
  simp [go_sem]
  refine drawV [0, 1, 2, 3, 4, 5, 6, 7, 8, 9, 10, 11, 12] (fun i v st' => match i with
    | 0 | 5 => v = .agg ka.toArray
    | 1 => AskV st' q.tail q.m v
    | 2 | 6 => v = .agg cs.toArray
    | 3 => ∃ ds : List Value, v = .agg ds.toArray ∧ SkAt st' ds s
    | 4 | 7 => v = .agg (A.cells 0).toArray
    | 8 | 9 | 10 | 11 | 12 => v = .bool true
    | _ => True) (by kernel_rfl) (by kernel_rfl) ?_ ?_ ?_ ?_
  · intro i v sta stb hNw h
    match i with
    | 1 => obtain ⟨cs', h1, h2⟩ := h; exact ⟨cs', h1, h2.new hNw⟩
    | 3 => obtain ⟨cs', h1, h2⟩ := h; exact ⟨cs', h1, h2.new hNw⟩
    | 0 => exact h
    | 2 => exact h
    | 4 => exact h
    | 5 => exact h
    | 6 => exact h
    | 7 => exact h
    | 8 => exact h
    | 9 => exact h
    | 10 => exact h
    | 11 => exact h
    | 12 => exact h
    | i + 13 => exact h
  · intro i oo hi E sta hNw hd hE
    have ta3 := hNw _ _ hta
    have tb3 := hNw _ _ htb
    match i with
    | 0 =>
      have x2 := hE 2 (oldB_spec (by kernel_rfl))
      injection hi with hi; subst hi
      simp [wantedE, go_sem, x2, ta3, tb3, hkl, hcl, htka, htcs, eq_ans]
      exact New.refl _
    | 1 =>
      injection hi with hi; subst hi
      have d0 := hd { on := 0, ground := .data } (by simp) (by decide) _ _ rfl rfl
      simp only at d0
      simp [wantedE, go_sem, d0, ta3, tb3, hkl, hcl, htka, htcs, eq_ans]
      rw [← hka]
      refine (ask_copy hN (hm.new (hk2.trans hNw))).mono ?_
      rintro e st4 ⟨cs', rfl, hm4, hN4⟩
      simp [go_sem]
      exact ⟨hN4, cs', rfl, hm4⟩
    | 2 =>
      have x3 := hE 3 (oldB_spec (by kernel_rfl))
      injection hi with hi; subst hi
      simp [wantedE, go_sem, x3, ta3, tb3, hkl, hcl, htka, htcs, eq_ans]
      exact New.refl _
    | 3 =>
      injection hi with hi; subst hi
      have d2 := hd { on := 2, ground := .data } (by simp) (by decide) _ _ rfl rfl
      simp only at d2
      simp [wantedE, go_sem, d2, ta3, tb3, hkl, hcl, htka, htcs, eq_ans]
      refine (Sketch_copy (hs.new (hk2.trans hNw)) sok).mono ?_
      rintro e st4 ⟨ds, rfl, hm4, hN4⟩
      simp [go_sem]
      exact ⟨hN4, hm4⟩
    | 4 =>
      injection hi with hi; subst hi
      have d1 := hd { on := 1, ground := .data } (by simp) (by decide) _ _ rfl rfl
      have d3 := hd { on := 3, ground := .data } (by simp) (by decide) _ _ rfl rfl
      simp only at d1 d3
      obtain ⟨cs', d1, hm4⟩ := d1
      obtain ⟨ds, d3, hs4⟩ := d3
      simp [wantedE, go_sem, d1, d3, ta3, tb3, hkl, hcl, htka, htcs, eq_ans]
      refine (one_spec' hm4.length hs4 sok hck aok).mono ?_
      rintro e st4 ⟨hN4, rfl⟩
      rw [hA]
      simp [go_sem]
      exact hN4
    | 5 =>
      have x2 := hE 2 (oldB_spec (by kernel_rfl))
      injection hi with hi; subst hi
      simp [wantedE, go_sem, x2, ta3, tb3, hkl, hcl, htka, htcs, eq_ans]
      exact New.refl _
    | 6 =>
      have x3 := hE 3 (oldB_spec (by kernel_rfl))
      injection hi with hi; subst hi
      simp [wantedE, go_sem, x3, ta3, tb3, hkl, hcl, htka, htcs, eq_ans]
      exact New.refl _
    | 7 =>
      injection hi with hi; subst hi
      have d5 := hd { on := 5, ground := .data } (by simp) (by decide) _ _ rfl rfl
      have d6 := hd { on := 6, ground := .data } (by simp) (by decide) _ _ rfl rfl
      simp only at d5 d6
      simp [wantedE, go_sem, d5, d6, ta3, tb3, hkl, hcl, htka, htcs, eq_ans]
      rw [← hka]
      refine (refOne_spec' hml (hs.new (hk2.trans hNw)) sok hck aok).mono ?_
      rintro e st4 ⟨hN4, rfl⟩
      rw [hA]
      simp [go_sem]
      exact hN4
    | 8 =>
      injection hi with hi; subst hi
      have d4 := hd { on := 4, ground := .data } (by simp) (by decide) _ _ rfl rfl
      have d7 := hd { on := 7, ground := .data } (by simp) (by decide) _ _ rfl rfl
      simp only at d4 d7
      simp [wantedE, go_sem, d4, d7, ta3, tb3, hkl, hcl, htka, htcs, eq_ans]
      exact New.refl _
    | 9 =>
      injection hi with hi; subst hi
      have d8 := hd { on := 8, ground := .data } (by simp) (by decide) _ _ rfl rfl
      simp only at d8
      simp [wantedE, go_sem, d8, ta3, tb3, hkl, hcl, htka, htcs, eq_ans]
      exact New.refl _
    | 10 =>
      injection hi with hi; subst hi
      have d9 := hd { on := 9, ground := .chain } (by simp) (by decide) _ _ rfl rfl
      simp only at d9
      simp [wantedE, go_sem, d9, ta3, tb3, hkl, hcl, htka, htcs, eq_ans]
      refine awake23_spec.mono ?_
      rintro e st4 ⟨rfl, hN4⟩
      simp [go_sem]
      exact hN4
    | 11 =>
      injection hi with hi; subst hi
      have d9 := hd { on := 9, ground := .data } (by simp) (by decide) _ _ rfl rfl
      have d10 := hd { on := 10, ground := .data } (by simp) (by decide) _ _ rfl rfl
      simp only at d9 d10
      simp [wantedE, go_sem, d9, d10, ta3, tb3, hkl, hcl, htka, htcs, eq_ans]
      exact New.refl _
    | 12 =>
      injection hi with hi; subst hi
      have d11 := hd { on := 11, ground := .data } (by simp) (by decide) _ _ rfl rfl
      simp only at d11
      simp [wantedE, go_sem, d11, ta3, tb3, hkl, hcl, htka, htcs, eq_ans]
      exact New.refl _
    | i + 13 => simp at hi
  · intro E sta hNw hd hE
    have d12 := hd 12 _ _ rfl rfl
    simp only at d12
    simp [go_sem, d12]
  · intro j oj hj
    match j with
    | 0 | 1 | 2 | 3 | 4 | 5 | 6 | 7 | 8 | 9 | 10 | 11 | 12 => simp at hj; subst hj; decide
    | j + 13 => simp at hj
end
end Go.Proofs.YtembgehpgommgaaGreat
