/- What an iterator of answers tells, at most so many. -/
import Derived.Test.YtflbapmjdfnhhaaGreatC30
import Derived.Test.YtflbapmjdfnhhaaGreatC28
import Derived.Test.YtflbapmjdfnhhaaGreatC33
import Derived.Test.YtflbapmjdfnhhaaGreatC20
set_option linter.unusedVariables false
set_option linter.unusedSimpArgs false
set_option maxRecDepth 100000
set_option maxHeartbeats 800000
namespace Go.Proofs.YtflbapmjdfnhhaaGreat
open Go.RowKit (Below)
section
variable {W0 : World} {st : Heap}
theorem told_gen {a r : Nat} {cs : List Value} {start step n : Int} {k6 k7 k8 rv : Value} {most : Int} {ga gr : Tg} {f : Int → AnsD} (hcs : cs.length = 5) (hbn : -2 ^ 63 ≤ n ∧ n < 2 ^ 63) (hbs : -2 ^ 63 ≤ start ∧ start < 2 ^ 63)
    (ha : st a = some (.cells true (cs ++ [Val.i start, Val.i step, Val.i n, k6, k7, k8]) 11 ga)) (hr : st r = some (.cells true [rv] 1 gr)) (hmost : 1 ≤ most) (hsmall : windowsN start step n < 2 ^ 30)
    (hwin : ∀ s, New st s → ∀ frm : Int, 0 ≤ frm → frm + step ≤ 2 ^ 40 → 1 ≤ step → ICalls Tryz.prog W0 29 #[.agg (cs ++ [Val.i start, Val.i step, Val.i n, k6, k7, k8]).toArray, rv, Val.i frm, Val.i (frm + step)] s fun e s' => New s s' ∧ e = .returned (.agg ((f frm).cells frm).toArray)) :
    ICalls Tryz.prog W0 16 #[.func (.func 27) #[] #[ptr a, ptr r], Val.i most] st fun e st' => New st st' ∧ ∃ v, e = .returned v ∧ Vec st' (.ty 1) 4 v (ansL f start step (min (windowsN start step n) most.toNat)) (min (windowsN start step n) most.toNat) ∧ Fresh st v := by
  refine enter (args := [_, _]) Tryz.func16 rfl ?_
  simp [Tryz.f16, go_sem]
  unfold NewP
  intro mc hmc
  refine ⟨.ty 1, ?_⟩
  have k1 := (New.refl st).add (b := mc) (o := .cells true [Val.i most] 1 (.ty 1)) hmc
  have g1 := upd_same st mc (.cells true [Val.i most] 1 (.ty 1))
  simp [go_sem]
  generalize upd st mc (.cells true [Val.i most] 1 (.ty 1)) = st1 at *
  intro lc hl
  refine ⟨.ty 1, ?_⟩
  have k2 := (New.refl st1).add (b := lc) (o := .cells true [.slice none 0 0] 1 (.ty 1)) hl
  have g2 := upd_same st1 lc (.cells true [.slice none 0 0] 1 (.ty 1))
  generalize upd st1 lc (.cells true [.slice none 0 0] 1 (.ty 1)) = st2 at *
  have kk := k1.trans k2
  have hlc : st lc = none := k1.none hl
  have g1' := k2 _ _ g1
  have hne : mc ≠ lc := by rintro rfl; rw [g1] at hl; cases hl
  have q : (most < 1) = False := eq_false (by omega)
  have hsame : ∀ {s : Heap}, (∀ j, j ≠ lc → st2 j ≠ none → s j = st2 j) → New st s := fun hs k o hk => by
    have h2 := kk _ _ hk
    rw [hs k (by rintro rfl; rw [hlc] at hk; cases hk) (by rw [h2]; simp)]
    exact h2
  simp [go_sem, g1', q, eqB]
  refine ICalls.mono (answers1_gen (W0 := W0) (f := f) (most := most) hcs hbn hbs (kk _ _ ha) (kk _ _ hr) g1' hmost g2 (by rintro rfl; rw [hlc] at ha; cases ha) (by rintro rfl; rw [hlc] at hr; cases hr) hne hsmall (fun s hs => hwin s (hsame hs))) ?_
  rintro e st3 ⟨rfl, h3, h4, v, g, v1, v2, v3⟩
  simp [go_sem, v1]
  exact ⟨hsame h3, v2, fun b off n' c hv => kk.none (v3 b off n' c hv)⟩
end
end Go.Proofs.YtflbapmjdfnhhaaGreat
set_option linter.unusedVariables false
set_option linter.unusedSimpArgs false
set_option maxRecDepth 100000
set_option maxHeartbeats 800000
namespace Go.Proofs.YtflbapmjdfnhhaaGreat
open Go.RowKit (Below)
section
variable {W0 : World} {st : Heap}
def matZ : Mat := .mk 0 ByteArray.empty ByteArray.empty [] []
def cellsZ : List Value := [Val.i 0, .string ByteArray.empty, .string ByteArray.empty, .slice none 0 0, .slice none 0 0]
theorem matZ_at {st : Heap} : MatAt st cellsZ matZ := by
  unfold MatAt matZ
  exact ⟨.slice none 0 0, .slice none 0 0, [], rfl, ⟨.ty 0, by intro g x r; simp, by simpa using Reg.nil⟩, ⟨.ty 0, by intro g x r; simp, by simpa using Reg.nil⟩, by unfold KidsAt; rfl⟩
theorem awake23_spec : ICalls Tryz.prog W0 10 #[] st fun e st' => e = .returned (.bool true) ∧ New st st' := by
  refine enter (args := []) Tryz.func10 rfl ?_
  simp [Tryz.f10, go_sem]
  unfold NewP
  intro ta hta
  refine ⟨.ty 1, ?_⟩
  simp [go_sem]
  obtain ⟨zc, hzc⟩ : ∃ zc : List Value, zc = cellsZ ++ [Val.i 0, Val.i 1, Val.i 1, Val.i 1, Val.u 0, Val.u 0] := ⟨_, rfl⟩
  have k1 := (New.refl st).add (b := ta) (o := .cells true zc 11 (.ty 1)) hta
  have g1 := upd_same st ta (.cells true zc 11 (.ty 1))
  have hzc' : zc = [Value.int .i64 0, Value.string { data := #[] }, Value.string { data := #[] }, Value.slice none 0 0,
          Value.slice none 0 0, Value.int .i64 0, Value.int .i64 1, Value.int .i64 1,
          Value.int .i64 1, Value.int .u64 0, Value.int .u64 0] := by rw [hzc]; rfl
  rw [← hzc']
  generalize upd st ta (.cells true zc 11 (.ty 1)) = st1 at *
  refine ICalls.mono (by simpa [hzc, cellsZ, ByteArray.empty, ByteArray.emptyWithCapacity] using answers_spec (W0 := W0) (st := st1) (cs := cellsZ) (ds := [Val.i 0, Val.i 1, Val.i 1, Val.i 1, Val.u 0, Val.u 0]) rfl rfl) ?_
  rintro e st2 ⟨qa, qr, rfl, k2, hqn, ⟨ga, hqa⟩, ⟨gr, hqr⟩⟩
  simp [go_sem]
  refine ICalls.mono (told_gen (W0 := W0) (cs := cellsZ) (start := 0) (step := 1) (n := 1) (k6 := Val.i 1) (k7 := Val.u 0) (k8 := Val.u 0) (most := 9) (f := fun _ => ⟨true, 0, 0⟩) rfl (by omega) (by omega) hqa hqr (by omega) (by decide) ?_) ?_
  · intro s hs frm _ _ _
    refine ICalls.mono (by simpa [cellsZ] using windowNil_spec (W0 := W0) (st := s) (lo := frm) (hi := frm + 1)) ?_
    rintro e s' ⟨h1, rfl⟩
    exact ⟨h1, rfl⟩
  rintro e st3 ⟨k3, v, rfl, hv, -⟩
  have hn1 : windowsN 0 1 1 = 1 := by decide
  rw [hn1] at hv
  have hal : ansL (fun _ => ⟨true, 0, 0⟩) 0 1 1 = [Val.i 0, .bool true, Val.u 0, Val.i 0] := by rfl
  have hv1 : Vec st3 (.ty 1) 4 v [Val.i 0, .bool true, Val.u 0, Val.i 0] 1 := hv
  clear hv
  obtain ⟨hvl, vb, vc, rfl, hvc, hvv⟩ := hv1
  obtain ⟨b, nn, rfl, hb⟩ : ∃ b nn, vb = some ⟨b, 0, none⟩ ∧ st3 b = some (.cells true [Val.i 0, .bool true, Val.u 0, Val.i 0] nn (.ty 1)) := by
    rcases hvv with ⟨b, nn, rfl, hb, -⟩ | ⟨rfl, rfl⟩
    · exact ⟨b, nn, rfl, hb⟩
    · omega
  simp [go_sem]
  have kk := (k1.trans k2).trans k3
  have g3 := k3 _ _ (k2 _ _ g1)
  unfold NewP
  intro tc htc
  refine ⟨.ty 1, ?_⟩
  simp [go_sem]
  have hne : ta ≠ tc := by rintro rfl; rw [g3] at htc; cases htc
  have k4 := (New.refl st3).add (b := tc) (o := .cells true [Val.i 0, Val.i 1, Val.i 1, Val.i 1, Val.i 1] 5 (.ty 1)) htc
  have g4 := upd_same st3 tc (.cells true [Val.i 0, Val.i 1, Val.i 1, Val.i 1, Val.i 1] 5 (.ty 1))
  generalize upd st3 tc (.cells true [Val.i 0, Val.i 1, Val.i 1, Val.i 1, Val.i 1] 5 (.ty 1)) = st4 at *
  have g3' := k4 _ _ g3
  have hb4 := k4 _ _ hb
  have hlz : zc.length = 11 := by rw [hzc]; rfl
  have htz : zc.take 11 = zc := List.take_of_length_le (by omega)
  simp [go_sem, hb4, g4, g3', hlz, htz]
  have c1 : queryM (checkM matZ) 1 0 1 1 0 0 0 1 1 1 1 = 0 := by decide +kernel
  have c2 : queryM (checkM matZ) 0 0 0 0 0 0 0 1 1 1 1 = 5 := by decide +kernel
  have hq : ∀ (s : Heap), ICalls Tryz.prog W0 23 #[.agg #[Val.i 0, Val.i 1, Val.i 1, Val.i 1, Val.i 1], Val.i 0, .agg zc.toArray] s fun e s' => e = .returned (Val.i 0) ∧ New s s' := fun s => by
    rw [hzc]
    refine ICalls.mono (queryCheck_spec (m := matZ) matZ_at (by omega) (by omega) (by simp)) ?_
    rintro e s' ⟨rfl, h⟩
    rw [c1]
    exact ⟨rfl, h⟩
  have hq2 : ∀ (s : Heap), ICalls Tryz.prog W0 23 #[.agg #[Val.i 0, Val.i 1, Val.i 1, Val.i 1, Val.i 1], Val.i 0, .agg (cellsZ ++ [Val.i 0, Val.i 0, Val.i 0, Val.i 0, Val.u 0, Val.u 0]).toArray] s fun e s' => e = .returned (Val.i 5) ∧ New s s' := fun s => by
    refine ICalls.mono (queryCheck_spec (m := matZ) matZ_at (by omega) (by omega) (by simp)) ?_
    rintro e s' ⟨rfl, h⟩
    rw [c2]
    exact ⟨rfl, h⟩
  refine (hq _).mono ?_
  rintro e st5 ⟨rfl, k5⟩
  simp [go_sem, k5 _ _ g4]
  refine ICalls.mono (hq2 st5) ?_
  rintro e st6 ⟨rfl, k6⟩
  simp [go_sem]
  exact ((kk.trans k4).trans k5).trans k6
end
end Go.Proofs.YtflbapmjdfnhhaaGreat
set_option linter.unusedVariables false
set_option linter.unusedSimpArgs false
set_option maxRecDepth 100000
set_option maxHeartbeats 400000
namespace Go.Proofs.YtflbapmjdfnhhaaGreat
open Go.RowKit (Below)
section
variable {W0 : World} {st : Heap}
theorem rowMay_spec {cs : List Value} {r : RowD} (h : RowAt st cs r) (ok : RowOK r) : ICalls Tryz.prog W0 47 #[.agg cs.toArray] st fun e st' => e = .returned (.bool (checkL r.labels && checkS r.s)) ∧ New st st' := by
  have hcl := h.length
  obtain ⟨lv, ss, rfl, h1, h2⟩ := h
  obtain ⟨lb, lc, rfl⟩ := h1.slice
  have hsl := h2.length
  have hst : ss.take 6 = ss := List.take_of_length_le (by omega)
  refine enter (args := [_]) Tryz.func47 rfl ?_
  simp [Tryz.f47, go_sem]
  unfold NewP
  intro a ha
  refine ⟨.ty 1, ?_⟩
  obtain ⟨C, hC⟩ : ∃ C : List Value, .slice lb r.labels.length lc :: Val.i r.at_ :: ss = C := ⟨_, rfl⟩
  have hCl : C.length = 8 := by rw [← hC]; simp [hsl]
  have hC0 : C[0]? = some (.slice lb r.labels.length lc) := by rw [← hC]; rfl
  have hC2 : (C.drop 2).take 6 = ss := by rw [← hC]; simpa using hst
  simp only [hC]
  rw [hCl]
  have k1 := (New.refl st).add (b := a) (o := .cells true C 8 (.ty 1)) ha
  have g1 := upd_same st a (.cells true C 8 (.ty 1))
  simp [go_sem]
  generalize upd st a (.cells true C 8 (.ty 1)) = st1 at *
  simp [go_sem, g1, hC0]
  refine (labelCheck_spec (h1.new k1) (by have := ok.llen; omega)).mono ?_
  rintro e st2 ⟨rfl, k2⟩
  have g2 := k2 _ _ g1
  have kk := k1.trans k2
  cases c : checkL r.labels with
  | false =>
    simp [go_sem]
    exact kk
  | true =>
  simp [go_sem, g2, hCl, hC2]
  refine (skCheck_spec (h2.new kk) ok.s).mono ?_
  rintro e st3 ⟨rfl, k3⟩
  simp [go_sem]
  exact kk.trans k3
end
end Go.Proofs.YtflbapmjdfnhhaaGreat
set_option linter.unusedVariables false
set_option linter.unusedSimpArgs false
set_option maxRecDepth 100000
set_option maxHeartbeats 1000000
namespace Go.Proofs.YtflbapmjdfnhhaaGreat
open Go.RowKit (Below)
structure GO (ta : Nat) (lv : Value) (at_ : Int) (s : SkD) (s0 : Heap) (hb : Option Addr) (hc : Nat) (kb : Option Addr) (kc : Nat) (done : List Nat) (st : Heap) : Prop where
  pre : 10 ∉ done → New s0 st
  mid : 10 ∈ done → 13 ∉ done → But1 ta s0 st ∧ ∃ hv, st ta = some (.cells true [lv, Val.i at_, hv, .slice kb s.hashes.length kc, Val.u s.g.n, Val.u s.g.nans, Val.u s.g.lo, Val.u s.g.hi] 8 (.ty 1)) ∧ Vec st (.ty 1) 2 hv (bkV s.hist) s.hist.length ∧ Fresh s0 hv
  post : 13 ∈ done → But1 ta s0 st ∧ ∃ hv kv, st ta = some (.cells true [lv, Val.i at_, hv, kv, Val.u s.g.n, Val.u s.g.nans, Val.u s.g.lo, Val.u s.g.hi] 8 (.ty 1)) ∧ Vec st (.ty 1) 2 hv (bkV s.hist) s.hist.length ∧ Fresh s0 hv ∧ Vec st (.ty 1) 1 kv (cellsU s.hashes) s.hashes.length ∧ Fresh s0 kv
theorem GO.skip {ta : Nat} {lv : Value} {at_ : Int} {s : SkD} {s0 : Heap} {hb : Option Addr} {hc : Nat} {kb : Option Addr} {kc : Nat} {done : List Nat} {st : Heap} {i : Nat} (h : GO ta lv at_ s s0 hb hc kb kc done st) (hi : i ≠ 10 ∧ i ≠ 13) : GO ta lv at_ s s0 hb hc kb kc (i :: done) st :=
  ⟨fun h1 => h.pre fun h2 => h1 (List.mem_cons_of_mem _ h2), fun h1 h2 => h.mid ((List.mem_cons.1 h1).resolve_left (Ne.symm hi.1)) (fun h3 => h2 (List.mem_cons_of_mem _ h3)), fun h1 => h.post ((List.mem_cons.1 h1).resolve_left (Ne.symm hi.2))⟩
section
variable {W0 : World} {st : Heap}
theorem ListL_spec {v : Value} {l : List Lab} (h : RegF st 2 v (labV l) l.length) (hl : l.length * 32 ≤ 140737488355328) : ICalls Tryz.prog W0 70 #[v] st fun e st' => ∃ w, e = .returned w ∧ Vec st' (.ty 1) 2 w (labV l) l.length ∧ Fresh st w ∧ New st st' := by
  refine enter (args := [_]) Tryz.func70 rfl ?_
  simp [Tryz.f70, go_sem]
  refine AppI_newg (.ty 1) si49 h.src hl ?_
  intro base cap st' hV hF hk
  simp [go_sem]
  exact ⟨hV, hF, hk⟩
theorem ListB_spec {v : Value} {l : List (Int × Nat)} (h : RegF st 2 v (bkV l) l.length) (hl : l.length * 16 ≤ 140737488355328) : ICalls Tryz.prog W0 71 #[v] st fun e st' => ∃ w, e = .returned w ∧ Vec st' (.ty 1) 2 w (bkV l) l.length ∧ Fresh st w ∧ New st st' := by
  refine enter (args := [_]) Tryz.func71 rfl ?_
  simp [Tryz.f71, go_sem]
  refine AppI_newg (.ty 1) si50 h.src hl ?_
  intro base cap st' hV hF hk
  simp [go_sem]
  exact ⟨hV, hF, hk⟩
theorem ListU_spec {v : Value} {l : List Nat} (h : RegF st 1 v (cellsU l) l.length) (hl : l.length * 8 ≤ 140737488355328) : ICalls Tryz.prog W0 72 #[v] st fun e st' => ∃ w, e = .returned w ∧ Vec st' (.ty 1) 1 w (cellsU l) l.length ∧ Fresh st w ∧ New st st' := by
  refine enter (args := [_]) Tryz.func72 rfl ?_
  simp [Tryz.f72, go_sem]
  refine AppI_newg (.ty 1) si51 h.src hl ?_
  intro base cap st' hV hF hk
  simp [go_sem]
  exact ⟨hV, hF, hk⟩
theorem rowOne_spec {cs : List Value} {r : RowD} (h : RowAt st cs r) (ok : RowOK r) : ICalls Tryz.prog W0 46 #[.agg cs.toArray] st fun e st' => ∃ ds, e = .returned (.agg ds.toArray) ∧ RowAt st' ds r ∧ New st st' := by
  obtain ⟨lv0, ss, rfl, hl0, hs0⟩ := h
  obtain ⟨lb, lc, rfl⟩ := hl0.slice
  obtain ⟨hv0, kv0, rfl, h1, h2⟩ := hs0
  obtain ⟨hb, hc, rfl⟩ := h1.slice
  obtain ⟨kb, kc, rfl⟩ := h2.slice
  obtain ⟨o1, o2, o3, o4, o5⟩ := ok.s
  have hlsz := ok.llen
  obtain ⟨s, hs⟩ : ∃ s, r.s = s := ⟨_, rfl⟩
  obtain ⟨at_, hat⟩ : ∃ a, r.at_ = a := ⟨_, rfl⟩
  rw [hs] at h1 h2 o1 o2 o3 o4 o5 ⊢
  rw [hat]
  refine enter (args := [_]) Tryz.func46 rfl ?_
  simp [Tryz.f46, go_sem]
  unfold NewP
  intro ta hta
  refine ⟨.ty 1, ?_⟩
  have k1 := (New.refl st).add (b := ta) (o := .cells true [.slice lb r.labels.length lc, Val.i at_, .slice hb s.hist.length hc, .slice kb s.hashes.length kc, Val.u s.g.n, Val.u s.g.nans, Val.u s.g.lo, Val.u s.g.hi] 8 (.ty 1)) hta
  have g1 := upd_same st ta (.cells true [.slice lb r.labels.length lc, Val.i at_, .slice hb s.hist.length hc, .slice kb s.hashes.length kc, Val.u s.g.n, Val.u s.g.nans, Val.u s.g.lo, Val.u s.g.hi] 8 (.ty 1))
  simp [go_sem]
  generalize upd st ta (.cells true [.slice lb r.labels.length lc, Val.i at_, .slice hb s.hist.length hc, .slice kb s.hashes.length kc, Val.u s.g.n, Val.u s.g.nans, Val.u s.g.lo, Val.u s.g.hi] 8 (.ty 1)) = st1 at *
  unfold NewP
  intro tz htz
  refine ⟨.ty 1, ?_⟩
  have k2 := (New.refl st1).add (b := tz) (o := .cells true [.slice none 0 0, Val.i 0, .slice none 0 0, .slice none 0 0, Val.u 0, Val.u 0, Val.u 0, Val.u 0] 8 (.ty 1)) htz
  have gz := upd_same st1 tz (.cells true [.slice none 0 0, Val.i 0, .slice none 0 0, .slice none 0 0, Val.u 0, Val.u 0, Val.u 0, Val.u 0] 8 (.ty 1))
  have nab : ta ≠ tz := by rintro rfl; rw [g1] at htz; cases htz
  have htan : st ta = none := hta
  have htzn : st tz = none := k1.none htz
  have g2 := k2 _ _ g1
  simp [go_sem]
  generalize upd st1 tz (.cells true [.slice none 0 0, Val.i 0, .slice none 0 0, .slice none 0 0, Val.u 0, Val.u 0, Val.u 0, Val.u 0] 8 (.ty 1)) = st2 at *
  have kk := k1.trans k2
  simp [go_sem, g2]
  refine (ListL_spec (hl0.new kk) hlsz).mono ?_
  rintro e st3 ⟨lv, rfl, hlvV, hlvF, k3⟩
  obtain ⟨wb, wc, rfl⟩ := hlvV.slice
  have g3 := k3 _ _ g2
  have gz3 := k3 _ _ gz
  simp [go_sem, g3]
  obtain ⟨lv, hlve⟩ : ∃ lv : Value, .slice wb r.labels.length wc = lv := ⟨_, rfl⟩
  rw [hlve] at hlvV hlvF ⊢
  obtain ⟨s0, hs0⟩ : ∃ s0, upd st3 ta (.cells true [lv, Val.i at_, .slice hb s.hist.length hc, .slice kb s.hashes.length kc, Val.u s.g.n, Val.u s.g.nans, Val.u s.g.lo, Val.u s.g.hi] 8 (.ty 1)) = s0 := ⟨_, rfl⟩
  rw [hs0]
  have gt0 : s0 ta = some (.cells true [lv, Val.i at_, .slice hb s.hist.length hc, .slice kb s.hashes.length kc, Val.u s.g.n, Val.u s.g.nans, Val.u s.g.lo, Val.u s.g.hi] 8 (.ty 1)) := by rw [← hs0]; exact upd_same _ _ _
  have gz0 : s0 tz = some (.cells true [.slice none 0 0, Val.i 0, .slice none 0 0, .slice none 0 0, Val.u 0, Val.u 0, Val.u 0, Val.u 0] 8 (.ty 1)) := by rw [← hs0, upd_ne _ _ (Ne.symm nab)]; exact gz3
  have k00 : New st s0 := by rw [← hs0]; exact (kk.trans k3).put hta
  have hlvf : ∀ b off n c, lv = .slice (some ⟨b, off, none⟩) n c → b ≠ ta ∧ b ≠ tz := fun b off n c he => by
    have := hlvF b off n c he
    exact ⟨(by rintro rfl; rw [g2] at this; cases this), (by rintro rfl; rw [gz] at this; cases this)⟩
  have hlv : Vec s0 (.ty 1) 2 lv (labV r.labels) r.labels.length := by rw [← hs0]; exact hlvV.away fun b off n c he => upd_ne _ _ (hlvf _ _ _ _ he).1
  have hl0' := h1.new k00
  replace h1 := h1.new k00
  replace h2 := h2.new k00
  have hR0 : ∀ a, But1 ta a a := fun a => But1.refl ta a
  have hG0 : GO ta lv at_ s s0 hb hc kb kc [] s0 := ⟨fun _ => New.refl _, fun h => absurd h (by simp), fun h => absurd h (by simp)⟩
  have vecS : ∀ {a b : Heap} {v : Value} {size len : Nat} {xs : List Value}, But1 ta a b → Fresh s0 v → Vec a (.ty 1) size v xs len → Vec b (.ty 1) size v xs len := by
    intro a b v size len xs hb hF hV
    obtain ⟨w1, wb, wc, w2, w3, w4⟩ := hV
    refine ⟨w1, wb, wc, w2, w3, ?_⟩
    rcases w4 with ⟨bb, n, rfl, hbb, hn⟩ | h0
    · refine .inl ⟨bb, n, rfl, hb bb _ ?_ hbb, hn⟩
      rintro rfl
      have := hF _ _ _ _ w2
      rw [gt0] at this
      cases this
    · exact .inr h0
  have vecT : ∀ {a b : Heap} {v : Value} {size len : Nat} {xs : List Value}, But1 ta a b → (∀ b off n c, v = .slice (some ⟨b, off, none⟩) n c → b ≠ ta ∧ b ≠ tz) → Vec a (.ty 1) size v xs len → Vec b (.ty 1) size v xs len := by
    intro a b v size len xs hb hF hV
    obtain ⟨w1, wb, wc, w2, w3, w4⟩ := hV
    refine ⟨w1, wb, wc, w2, w3, ?_⟩
    rcases w4 with ⟨bb, n, rfl, hbb, hn⟩ | h0
    · exact .inl ⟨bb, n, rfl, hb bb _ (hF _ _ _ _ w2).1 hbb, hn⟩
    · exact .inr h0
  generalize hE0 : (Env.set _ _ _ : Env) = E0
  have e1 : E0 1 = ptr ta := by subst hE0; simp [go_sem]
  have e2 : E0 2 = ptr tz := by subst hE0; simp [go_sem]
  refine drawH [0, 1, 2, 3, 4, 5, 6, 7, 8, 9, 10, 11, 12, 13] (But1 ta) (fun i v st' => match i with
    | 0 | 1 | 4 | 8 | 9 | 11 => v = .pointer (some ⟨ta, 2, none⟩)
    | 2 => v = .slice hb s.hist.length hc
    | 3 => Vec st' (.ty 1) 2 v (bkV s.hist) s.hist.length ∧ Fresh s0 v
    | 5 | 12 => v = .pointer (some ⟨ta, 3, none⟩)
    | 6 => v = .slice kb s.hashes.length kc
    | 7 => Vec st' (.ty 1) 1 v (cellsU s.hashes) s.hashes.length ∧ Fresh s0 v
    | _ => True) (GO ta lv at_ s s0 hb hc kb kc) (by kernel_rfl) (by kernel_rfl) ?_ ?_ ?_ ?_ ?_
  · exact hG0
  · intro i v sta stb hNw h
    match i with
    | 3 => exact ⟨vecS hNw h.2 h.1, h.2⟩
    | 7 => exact ⟨vecS hNw h.2 h.1, h.2⟩
    | 0 => exact h
    | 1 => exact h
    | 2 => exact h
    | 4 => exact h
    | 5 => exact h
    | 6 => exact h
    | 8 => exact h
    | 9 => exact h
    | 10 => exact h
    | 11 => exact h
    | 12 => exact h
    | 13 => exact h
    | i + 14 => exact h
  · intro i oo hi done E sta hnd hG hdp hcl hd hE
    match i with
    | 0 =>
      have x1 := hE 1 (oldB_spec (by kernel_rfl))
      injection hi with hi; subst hi
      simp [wantedE, go_sem, x1, e1]
      exact ⟨hR0 _, hG.skip (by decide)⟩
    | 1 =>
      injection hi with hi; subst hi
      have d0 := hd { on := 0, ground := .data } (by simp) (by decide) _ _ rfl rfl
      simp only at d0
      simp [wantedE, go_sem, d0]
      exact ⟨hR0 _, hG.skip (by decide)⟩
    | 2 =>
      injection hi with hi; subst hi
      have d1 := hd { on := 1, ground := .data } (by simp) (by decide) _ _ rfl rfl
      simp only at d1
      have n10 : 10 ∉ done := fun h => hnd (hcl 3 _ (hcl 10 _ h rfl { on := 3, ground := .data } (by simp) (by decide)) rfl { on := 2, ground := .data } (by simp) (by decide))
      have gt7 := hG.pre n10 _ _ gt0
      simp [wantedE, go_sem, d1]
      simp [go_sem, gt7]
      exact ⟨hR0 _, hG.skip (by decide)⟩
    | 3 =>
      injection hi with hi; subst hi
      have d2 := hd { on := 2, ground := .data } (by simp) (by decide) _ _ rfl rfl
      simp only at d2
      have n10 : 10 ∉ done := fun h => hnd (hcl 10 _ h rfl { on := 3, ground := .data } (by simp) (by decide))
      have hN := hG.pre n10
      have n13 : 13 ∉ done := fun h => n10 (hcl 13 _ h rfl { on := 10, ground := .chain } (by simp) (by decide))
      simp [wantedE, go_sem, d2]
      refine (ListB_spec (h1.new hN) o2).mono ?_
      rintro e st' ⟨v, rfl, hV, hF, k1⟩
      simp [go_sem]
      exact ⟨k1.but ta, ⟨hV, fun b off n c he => hN.none (hF b off n c he)⟩, ⟨fun _ => hN.trans k1, fun h => absurd h (by simp [n10]), fun h => absurd h (by simp [n13])⟩⟩
    | 4 =>
      have x1 := hE 1 (oldB_spec (by kernel_rfl))
      injection hi with hi; subst hi
      simp [wantedE, go_sem, x1, e1]
      exact ⟨hR0 _, hG.skip (by decide)⟩
    | 5 =>
      injection hi with hi; subst hi
      have d4 := hd { on := 4, ground := .data } (by simp) (by decide) _ _ rfl rfl
      simp only at d4
      simp [wantedE, go_sem, d4]
      exact ⟨hR0 _, hG.skip (by decide)⟩
    | 6 =>
      injection hi with hi; subst hi
      have d5 := hd { on := 5, ground := .data } (by simp) (by decide) _ _ rfl rfl
      simp only at d5
      have n10 : 10 ∉ done := fun h => hnd (hcl 10 _ h rfl { on := 6, ground := .phase } (by simp) (by decide))
      have gt7 := hG.pre n10 _ _ gt0
      simp [wantedE, go_sem, d5]
      simp [go_sem, gt7]
      exact ⟨hR0 _, hG.skip (by decide)⟩
    | 7 =>
      injection hi with hi; subst hi
      have d6 := hd { on := 6, ground := .data } (by simp) (by decide) _ _ rfl rfl
      simp only at d6
      have n10 : 10 ∉ done := fun h => hnd (hcl 10 _ h rfl { on := 7, ground := .chain } (by simp) (by decide))
      have hN := hG.pre n10
      have n13 : 13 ∉ done := fun h => n10 (hcl 13 _ h rfl { on := 10, ground := .chain } (by simp) (by decide))
      simp [wantedE, go_sem, d6]
      refine (ListU_spec (h2.new hN) o4).mono ?_
      rintro e st' ⟨v, rfl, hV, hF, k1⟩
      simp [go_sem]
      exact ⟨k1.but ta, ⟨hV, fun b off n c he => hN.none (hF b off n c he)⟩, ⟨fun _ => hN.trans k1, fun h => absurd h (by simp [n10]), fun h => absurd h (by simp [n13])⟩⟩
    | 8 =>
      have x1 := hE 1 (oldB_spec (by kernel_rfl))
      injection hi with hi; subst hi
      simp [wantedE, go_sem, x1, e1]
      exact ⟨hR0 _, hG.skip (by decide)⟩
    | 9 =>
      injection hi with hi; subst hi
      have d8 := hd { on := 8, ground := .data } (by simp) (by decide) _ _ rfl rfl
      simp only at d8
      simp [wantedE, go_sem, d8]
      exact ⟨hR0 _, hG.skip (by decide)⟩
    | 10 =>
      injection hi with hi; subst hi
      have d9 := hd { on := 9, ground := .data } (by simp) (by decide) _ _ rfl rfl
      have d3 := hd { on := 3, ground := .data } (by simp) (by decide) _ _ rfl rfl
      simp only at d9 d3
      have n13 : 13 ∉ done := fun h => hnd (hcl 13 _ h rfl { on := 10, ground := .chain } (by simp) (by decide))
      have hN := hG.pre hnd
      have gt7 := hN _ _ gt0
      obtain ⟨d3, d3f⟩ := d3
      obtain ⟨b3, c3, hve⟩ := d3.slice
      rw [hve] at d3 d3f
      simp [wantedE, go_sem, d9, d3]
      simp [go_sem, gt7, hve]
      have hb1 := (But1.refl ta sta).put (o := .cells true [lv, Val.i at_, .slice b3 s.hist.length c3, .slice kb s.hashes.length kc, Val.u s.g.n, Val.u s.g.nans, Val.u s.g.lo, Val.u s.g.hi] 8 (.ty 1))
      exact ⟨hb1, ⟨fun h => absurd (by simp) h, fun _ _ => ⟨(hN.but ta).trans hb1, _, upd_same _ _ _, vecS hb1 d3f d3, d3f⟩, fun h => absurd h (by simp [n13])⟩⟩
    | 11 =>
      have x1 := hE 1 (oldB_spec (by kernel_rfl))
      injection hi with hi; subst hi
      simp [wantedE, go_sem, x1, e1]
      exact ⟨hR0 _, hG.skip (by decide)⟩
    | 12 =>
      injection hi with hi; subst hi
      have d11 := hd { on := 11, ground := .data } (by simp) (by decide) _ _ rfl rfl
      simp only at d11
      simp [wantedE, go_sem, d11]
      exact ⟨hR0 _, hG.skip (by decide)⟩
    | 13 =>
      injection hi with hi; subst hi
      have d12 := hd { on := 12, ground := .data } (by simp) (by decide) _ _ rfl rfl
      have d7 := hd { on := 7, ground := .data } (by simp) (by decide) _ _ rfl rfl
      simp only at d12 d7
      have i10 : 10 ∈ done := hdp { on := 10, ground := .chain } (by simp) (by decide)
      obtain ⟨m1, hv, m2, m3, m4⟩ := hG.mid i10 hnd
      obtain ⟨d7, d7f⟩ := d7
      obtain ⟨b3, c3, hve⟩ := d7.slice
      rw [hve] at d7 d7f
      obtain ⟨b4, c4, rfl⟩ := m3.slice
      simp [wantedE, go_sem, d12, d7]
      simp [go_sem, m2, hve]
      have hb1 := (But1.refl ta sta).put (o := .cells true [lv, Val.i at_, .slice b4 s.hist.length c4, .slice b3 s.hashes.length c3, Val.u s.g.n, Val.u s.g.nans, Val.u s.g.lo, Val.u s.g.hi] 8 (.ty 1))
      exact ⟨hb1, ⟨fun h => absurd (List.mem_cons_of_mem _ i10) h, fun _ h => absurd (by simp) h, fun _ => ⟨m1.trans hb1, _, _, upd_same _ _ _, vecS hb1 m4 m3, m4, vecS hb1 d7f d7, d7f⟩⟩⟩
    | i + 14 => simp at hi
  · intro done E sta hall hG hd hE
    obtain ⟨b1, hv, kv, b2, b3, b4, b5, b6⟩ := hG.post (hall 13 (by simp))
    have x1 := (hE 1 (noB_spec (by kernel_rfl))).trans e1
    have x2 := (hE 2 (noB_spec (by kernel_rfl))).trans e2
    have gt9 := b1 _ _ (Ne.symm nab) gz0
    obtain ⟨b7, c7, rfl⟩ := b3.slice
    obtain ⟨b8, c8, rfl⟩ := b5.slice
    obtain ⟨b9, c9, rfl⟩ := hlv.slice
    simp [go_sem, x1, x2, b2, gt9]
    refine RetI_cell ?_
    simp [go_sem, x2]
    have hnew : New st sta := fun k o hk => b1 k o (by rintro rfl; rw [htan] at hk; cases hk) (k00 k o hk)
    have hoff : ∀ {v : Value} {size len : Nat} {xs : List Value}, Fresh s0 v → Vec sta (.ty 1) size v xs len → Vec (upd sta tz (.cells true [.slice b9 r.labels.length c9, Val.i at_, .slice b7 s.hist.length c7, .slice b8 s.hashes.length c8, Val.u s.g.n, Val.u s.g.nans, Val.u s.g.lo, Val.u s.g.hi] 8 (.ty 1))) (.ty 1) size v xs len := fun hF hV => hV.away fun b off n c he => upd_ne _ _ (by rintro rfl; have := hF _ _ _ _ he; rw [gz0] at this; cases this)
    have hlv' : Vec sta (.ty 1) 2 (.slice b9 r.labels.length c9) (labV r.labels) r.labels.length := vecT b1 hlvf hlv
    have hlv'' : Vec (upd sta tz (.cells true [.slice b9 r.labels.length c9, Val.i at_, .slice b7 s.hist.length c7, .slice b8 s.hashes.length c8, Val.u s.g.n, Val.u s.g.nans, Val.u s.g.lo, Val.u s.g.hi] 8 (.ty 1))) (.ty 1) 2 (.slice b9 r.labels.length c9) (labV r.labels) r.labels.length := hlv'.away fun b off n c he => upd_ne _ _ (by rintro rfl; exact (hlvf _ _ _ _ he).2 rfl)
    subst hs
    subst hat
    exact ⟨⟨_, _, rfl, ⟨.ty 1, (by intro g x r; simp), hlv''.reg⟩, _, _, rfl, ⟨.ty 1, (by intro g x r; simp), (hoff b4 b3).reg⟩, ⟨.ty 1, (by intro g x r; simp), (hoff b6 b5).reg⟩⟩, hnew.put htzn⟩
  · intro j oj hj
    match j with
    | 0 | 1 | 2 | 3 | 4 | 5 | 6 | 7 | 8 | 9 | 10 | 11 | 12 | 13 => simp at hj; subst hj; decide
    | j + 14 => simp at hj
end
end Go.Proofs.YtflbapmjdfnhhaaGreat
set_option linter.unusedVariables false
set_option linter.unusedSimpArgs false
set_option maxRecDepth 100000
set_option maxHeartbeats 1000000
namespace Go.Proofs.YtflbapmjdfnhhaaGreat
open Go.RowKit (Below)
def RowsIn (st : Heap) (ys : List Value) (l : List RowD) : Prop := ys.length = l.length * 8 ∧ ∀ (i : Nat) r, l[i]? = some r → RowAt st ((ys.drop (i * 8)).take 8) r
def RowsAt (st : Heap) (v : Value) (l : List RowD) : Prop := ∃ ys, RegF st 8 v ys l.length ∧ RowsIn st ys l
theorem RowsIn.new {st st' : Heap} {ys : List Value} {l : List RowD} (h : RowsIn st ys l) (hk : New st st') : RowsIn st' ys l := ⟨h.1, fun i r hi => (h.2 i r hi).new hk⟩
theorem RowAt.ext {st st' : Heap} {g : Tg} {cs : List Value} {r : RowD} (h : RowAt st cs r) (hk : Ext g st st') : RowAt st' cs r := by
  obtain ⟨lv, ss, e, h1, hv, kv, e2, h2, h3⟩ := h
  exact ⟨lv, ss, e, h1.ext hk, hv, kv, e2, h2.ext hk, h3.ext hk⟩
theorem RowsIn.ext {st st' : Heap} {g : Tg} {ys : List Value} {l : List RowD} (h : RowsIn st ys l) (hk : Ext g st st') : RowsIn st' ys l := ⟨h.1, fun i r hi => (h.2 i r hi).ext hk⟩
theorem RowsAt.new {st st' : Heap} {v : Value} {l : List RowD} (h : RowsAt st v l) (hk : New st st') : RowsAt st' v l := by
  obtain ⟨ys, h1, h2⟩ := h
  exact ⟨ys, h1.new hk, h2.new hk⟩
theorem RowsIn.nil {st : Heap} : RowsIn st [] [] := ⟨rfl, fun i r h => by simp at h⟩
theorem RowsIn.snoc {st : Heap} {ys cs : List Value} {l : List RowD} {r : RowD} (h : RowsIn st ys l) (hr : RowAt st cs r) : RowsIn st (ys ++ cs) (l ++ [r]) := by
  have hcl := hr.length
  refine ⟨by simp [h.1, hcl]; omega, fun i x hi => ?_⟩
  by_cases hlt : i < l.length
  · rw [List.getElem?_append_left hlt] at hi
    have := h.2 i x hi
    have h8 : i * 8 + 8 ≤ ys.length := by rw [h.1]; omega
    rw [List.drop_append_of_le_length (by omega), List.take_append_of_le_length (by rw [List.length_drop]; omega)]
    exact this
  · rw [List.getElem?_append_right (by omega)] at hi
    have hi0 : i - l.length = 0 := by
      rcases Nat.eq_zero_or_pos (i - l.length) with h | h
      · exact h
      · rw [List.getElem?_eq_none (by simp; omega)] at hi; cases hi
    rw [hi0] at hi
    injection hi with hi
    subst hi
    have : i * 8 = ys.length := by rw [h.1]; omega
    rw [this, List.drop_left, List.take_of_length_le (by omega)]
    exact hr
theorem RowsAt.slice {st : Heap} {v : Value} {l : List RowD} (h : RowsAt st v l) : ∃ b c, v = .slice b l.length c := by
  obtain ⟨ys, h1, _⟩ := h
  exact h1.slice
theorem RowsAt.get {st : Heap} {v : Value} {l : List RowD} (h : RowsAt st v l) {i : Nat} (hi : i < l.length) : ∃ mb off cap rw_ zs mm g cs, v = .slice (some ⟨mb, off, none⟩) l.length cap ∧ st mb = some (.cells rw_ zs mm g) ∧ off + i * 8 + 8 ≤ zs.length ∧ (zs.drop (off + i * 8)).take 8 = cs ∧ RowAt st cs l[i] := by
  obtain ⟨ys, h1, h2⟩ := h
  obtain ⟨mb, off, cap, rw_, zs, mm, g', hv, hs, hget⟩ := rows_get h1 (by omega)
  obtain ⟨hlen, hcell, _⟩ := hget i hi
  exact ⟨mb, off, cap, rw_, zs, mm, g', _, hv, hs, hlen, hcell, h2.2 i _ (List.getElem?_eq_getElem hi)⟩
theorem RowAt.cells {st : Heap} {cs : List Value} {r : RowD} (h : RowAt st cs r) : ∃ lb lc hb hc kb kc, cs = [.slice lb r.labels.length lc, Val.i r.at_, .slice hb r.s.hist.length hc, .slice kb r.s.hashes.length kc, Val.u r.s.g.n, Val.u r.s.g.nans, Val.u r.s.g.lo, Val.u r.s.g.hi] := by
  obtain ⟨lv, ss, rfl, h1, hv, kv, rfl, h2, h3⟩ := h
  obtain ⟨lb, lc, rfl⟩ := h1.slice
  obtain ⟨hb, hc, rfl⟩ := h2.slice
  obtain ⟨kb, kc, rfl⟩ := h3.slice
  exact ⟨_, _, _, _, _, _, rfl⟩
/-- Is a row meant? -/
def keepR (ev : List Lab → Bool) (r : RowD) : Bool := (checkL r.labels && checkS r.s) && ev r.labels
section
variable {W0 : World} {st : Heap}
theorem own_spec {v : Value} {l : List RowD} (hv : RowsAt st v l) (hl : l.length < 2 ^ 30) (hok : ∀ r ∈ l, RowOK r) : ICalls Tryz.prog W0 25 #[v] st fun e st' => ∃ w, e = .returned w ∧ RowsAt st' w l ∧ New st st' := by
  obtain ⟨tb, tc, rfl⟩ := hv.slice
  refine enter (args := [_]) Tryz.func25 rfl ?_
  simp [Tryz.f25, go_sem]
  refine ⟨fun E st' => New st st' ∧ E 6 = .slice tb l.length tc ∧ E 7 = Val.i l.length ∧ ∃ (k : Nat) (w : Value) (ys : List Value), E 8 = Val.i (k : Int) ∧ k ≤ l.length ∧ E 3 = w ∧ Vec st' (.ty 1) 8 w ys k ∧ Fresh st w ∧ RowsIn st' ys (l.take k), fun E _ => match E 8 with | .int _ z => l.length - z.toNat | _ => 0,
    ⟨st, .rfl' _, New.refl _, by simp [go_sem], by simp [go_sem], 0, .slice none 0 0, [], by simp [go_sem], by omega, by simp [go_sem], Vec.nil, Fresh.none, RowsIn.nil⟩, ?_⟩
  rintro E s0 ⟨k0, e6, e7, k, w, ys, e8, hk, e3, hV, hF, hR⟩
  obtain ⟨wb, wc, rfl⟩ := hV.slice
  by_cases hlt : k < l.length
  · have t1 : ((k : Int) < l.length) = True := eq_true (by omega)
    have hwk : IntKind.i64.wrap ((k : Int) + 1) = (k : Int) + 1 := wrap_id (by omega) (by omega)
    obtain ⟨mb, off, cap, rw_, zs, mm, g', cs, hv', hsm, hlen, hcell, hrow⟩ := (hv.new k0).get hlt
    injection hv' with v1 v2 v3
    subst v1; subst v3
    have rok := hok _ (List.getElem_mem hlt)
    have htk : l.take (k + 1) = l.take k ++ [l[k]] := by rw [List.take_add_one, List.getElem?_eq_getElem hlt]; rfl
    generalize l[k] = r at *
    obtain ⟨lb, lc, hb, hc, kb, kc, rfl⟩ := hrow.cells
    simp [go_sem, e3, e6, e7, e8, t1, hlt, hsm, hlen, hcell]
    unfold NewP
    intro t5 ht5
    refine ⟨.ty 1, ?_⟩
    have n1 := (New.refl s0).add (b := t5) (o := .cells true [.slice lb r.labels.length lc, Val.i r.at_, .slice hb r.s.hist.length hc, .slice kb r.s.hashes.length kc, Val.u r.s.g.n, Val.u r.s.g.nans, Val.u r.s.g.lo, Val.u r.s.g.hi] 8 (.ty 1)) ht5
    have g5 := upd_same s0 t5 (.cells true [.slice lb r.labels.length lc, Val.i r.at_, .slice hb r.s.hist.length hc, .slice kb r.s.hashes.length kc, Val.u r.s.g.n, Val.u r.s.g.nans, Val.u r.s.g.lo, Val.u r.s.g.hi] 8 (.ty 1))
    simp [go_sem, e3, e6, e7, e8]
    generalize upd s0 t5 (.cells true [.slice lb r.labels.length lc, Val.i r.at_, .slice hb r.s.hist.length hc, .slice kb r.s.hashes.length kc, Val.u r.s.g.n, Val.u r.s.g.nans, Val.u r.s.g.lo, Val.u r.s.g.hi] 8 (.ty 1)) = s1 at *
    refine ICalls.mono (by simpa using rowOne_spec (W0 := W0) (st := s1) (hrow.new n1) rok) ?_
    rintro e s2 ⟨ds, rfl, hd, n2⟩
    obtain ⟨lb', lc', hb', hc', kb', kc', rfl⟩ := hd.cells
    simp [go_sem, e3, e6, e7, e8]
    unfold NewS
    intro nb hnb
    refine ⟨.ty 1, ?_⟩
    have n3 := (New.refl s2).add (b := nb) (o := .cells true [.slice lb' r.labels.length lc', Val.i r.at_, .slice hb' r.s.hist.length hc', .slice kb' r.s.hashes.length kc', Val.u r.s.g.n, Val.u r.s.g.nans, Val.u r.s.g.lo, Val.u r.s.g.hi] 8 (.ty 1)) hnb
    simp [go_sem, e3, e6, e7, e8]
    have nn := (n1.trans n2).trans n3
    refine AppI_new (st0 := st) (g := .ty 1) (m := 1) (ys := [.slice lb' r.labels.length lc', Val.i r.at_, .slice hb' r.s.hist.length hc', .slice kb' r.s.hashes.length kc', Val.u r.s.g.n, Val.u r.s.g.nans, Val.u r.s.g.lo, Val.u r.s.g.hi]) si29 (hV.new' nn) hF (k0.trans nn) (by simp [srcCells, lkN_mk, upd_same, cellsOf]) (by simp [Value.oneCell']) (by omega) ?_
    intro base cap st4 hV4 hF4 k4 hx4
    simp [go_sem, e3, e6, e7, e8, hwk]
    refine ⟨st4, .rfl' _, ⟨k4, k + 1, by simp, by omega, _, hV4, hF4, ?_⟩, by omega⟩
    rw [htk]
    exact ((hR.new nn).ext hx4).snoc ((hd.new n3).ext hx4)
  · have : k = l.length := by omega
    subst this
    rw [List.take_length] at hR
    simp [go_sem, e3, e6, e7, e8]
    exact ⟨⟨ys, ⟨.ty 1, (by intro g x r; simp), hV.reg⟩, hR⟩, k0⟩
theorem meant_spec {mcs : List Value} {v : Value} {l : List RowD} {ev : List Lab → Bool} (hm : mcs.length = 5) (hv : RowsAt st v l) (hl : l.length < 2 ^ 30) (hok : ∀ r ∈ l, RowOK r) (hev : ∀ s, New st s → ∀ (lv : Value) (l : List Lab), RegF s 2 lv (labV l) l.length → l.length < 2 ^ 50 → (∀ x ∈ l, x.1.size < 2 ^ 60 ∧ x.2.size < 2 ^ 60) → ICalls Tryz.prog W0 48 #[.agg mcs.toArray, lv] s fun e s' => e = .returned (.bool (ev l)) ∧ New s s') :
    ICalls Tryz.prog W0 26 #[.agg mcs.toArray, v] st fun e st' => ∃ w, e = .returned w ∧ RowsAt st' w (l.filter (keepR ev)) ∧ New st st' := by
  obtain ⟨tb, tc, rfl⟩ := hv.slice
  refine enter (args := [_, _]) Tryz.func26 rfl ?_
  simp [Tryz.f26, go_sem]
  unfold NewP
  intro tm htm
  refine ⟨.ty 1, ?_⟩
  rw [hm]
  have km := (New.refl st).add (b := tm) (o := .cells true mcs 5 (.ty 1)) htm
  have gm := upd_same st tm (.cells true mcs 5 (.ty 1))
  have hmt : mcs.take 5 = mcs := List.take_of_length_le (by omega)
  simp [go_sem]
  generalize upd st tm (.cells true mcs 5 (.ty 1)) = sm at *
  refine ⟨fun E st' => New sm st' ∧ E 2 = ptr tm ∧ E 8 = .slice tb l.length tc ∧ E 9 = Val.i l.length ∧ ∃ (k n : Nat) (w : Value) (ys : List Value), E 10 = Val.i (k : Int) ∧ k ≤ l.length ∧ n ≤ k ∧ E 5 = w ∧ Vec st' (.ty 1) 8 w ys n ∧ Fresh sm w ∧ n = ((l.take k).filter (keepR ev)).length ∧ RowsIn st' ys ((l.take k).filter (keepR ev)), fun E _ => match E 10 with | .int _ z => l.length - z.toNat | _ => 0,
    ⟨sm, .rfl' _, New.refl _, by simp [go_sem], by simp [go_sem], by simp [go_sem], 0, 0, .slice none 0 0, [], by simp [go_sem], by omega, by omega, by simp [go_sem], Vec.nil, Fresh.none, rfl, RowsIn.nil⟩, ?_⟩
  rintro E s0 ⟨k0, e2, e8, e9, k, n, w, ys, e10, hk, hnk, e5, hV, hF, hn, hR⟩
  obtain ⟨wb, wc, rfl⟩ := hV.slice
  by_cases hlt : k < l.length
  · have t1 : ((k : Int) < l.length) = True := eq_true (by omega)
    have hwk : IntKind.i64.wrap ((k : Int) + 1) = (k : Int) + 1 := wrap_id (by omega) (by omega)
    obtain ⟨mb, off, cap, rw_, zs, mm, g', cs, hv', hsm, hlen, hcell, hrow⟩ := (hv.new (km.trans k0)).get hlt
    injection hv' with v1 v2 v3
    subst v1; subst v3
    have rok := hok _ (List.getElem_mem hlt)
    have htk : l.take (k + 1) = l.take k ++ [l[k]] := by rw [List.take_add_one, List.getElem?_eq_getElem hlt]; rfl
    generalize l[k] = r at *
    obtain ⟨lb, lc, hb, hc, kb, kc, rfl⟩ := hrow.cells
    have hlab : RegF s0 2 (.slice lb r.labels.length lc) (labV r.labels) r.labels.length := by
      obtain ⟨lv, ss, he, h1, _⟩ := id hrow
      injection he with he1 he2
      rw [he1]; exact h1
    simp [go_sem, e2, e5, e8, e9, e10, t1, hlt, hsm, hlen, hcell]
    unfold NewP
    intro t5 ht5
    refine ⟨.ty 1, ?_⟩
    have n1 := (New.refl s0).add (b := t5) (o := .cells true [.slice lb r.labels.length lc, Val.i r.at_, .slice hb r.s.hist.length hc, .slice kb r.s.hashes.length kc, Val.u r.s.g.n, Val.u r.s.g.nans, Val.u r.s.g.lo, Val.u r.s.g.hi] 8 (.ty 1)) ht5
    have g5 := upd_same s0 t5 (.cells true [.slice lb r.labels.length lc, Val.i r.at_, .slice hb r.s.hist.length hc, .slice kb r.s.hashes.length kc, Val.u r.s.g.n, Val.u r.s.g.nans, Val.u r.s.g.lo, Val.u r.s.g.hi] 8 (.ty 1))
    simp [go_sem, e2, e5, e8, e9, e10]
    generalize upd s0 t5 (.cells true [.slice lb r.labels.length lc, Val.i r.at_, .slice hb r.s.hist.length hc, .slice kb r.s.hashes.length kc, Val.u r.s.g.n, Val.u r.s.g.nans, Val.u r.s.g.lo, Val.u r.s.g.hi] 8 (.ty 1)) = s1 at *
    refine ICalls.mono (by simpa using rowMay_spec (W0 := W0) (st := s1) (hrow.new n1) rok) ?_
    rintro e s2 ⟨rfl, n2⟩
    have g52 := n2 _ _ g5
    have n12 := n1.trans n2
    have gm2 := (k0.trans n12) _ _ gm
    have nok : (keepR ev r = false) → (l.take (k + 1)).filter (keepR ev) = (l.take k).filter (keepR ev) := fun h => by rw [htk, List.filter_append]; simp [h]
    have yok : (keepR ev r = true) → (l.take (k + 1)).filter (keepR ev) = (l.take k).filter (keepR ev) ++ [r] := fun h => by rw [htk, List.filter_append]; simp [h]
    cases c1 : (checkL r.labels && checkS r.s) with
    | false =>
      have hkr : keepR ev r = false := by unfold keepR; rw [c1]; rfl
      simp [go_sem, e2, e5, e8, e9, e10, c1, hwk]
      refine ⟨s2, .rfl' _, ⟨k0.trans n12, k + 1, by simp, by omega, n, by omega, _, hV.new' n12, hF, ?_⟩, by omega⟩
      rw [nok hkr]
      exact ⟨hn, hR.new n12⟩
    | true =>
    simp [go_sem, e2, e5, e8, e9, e10, c1, gm2, hm, hmt, g52]
    refine (hev s2 (km.trans (k0.trans n12)) _ _ (hlab.new n12) (by have := rok.llen; omega) rok.sizes).mono ?_
    rintro e s3 ⟨rfl, n3⟩
    have g53 := n3 _ _ g52
    have n13 := n12.trans n3
    cases c2 : ev r.labels with
    | false =>
      have hkr : keepR ev r = false := by unfold keepR; rw [c1, c2]; rfl
      simp [go_sem, e2, e5, e8, e9, e10, hwk]
      refine ⟨s3, .rfl' _, ⟨k0.trans n13, k + 1, by simp, by omega, n, by omega, _, hV.new' n13, hF, ?_⟩, by omega⟩
      rw [nok hkr]
      exact ⟨hn, hR.new n13⟩
    | true =>
    have hkr : keepR ev r = true := by unfold keepR; rw [c1, c2]; rfl
    simp [go_sem, e2, e5, e8, e9, e10, g53]
    unfold NewS
    intro nb hnb
    refine ⟨.ty 1, ?_⟩
    have n4 := (New.refl s3).add (b := nb) (o := .cells true [.slice lb r.labels.length lc, Val.i r.at_, .slice hb r.s.hist.length hc, .slice kb r.s.hashes.length kc, Val.u r.s.g.n, Val.u r.s.g.nans, Val.u r.s.g.lo, Val.u r.s.g.hi] 8 (.ty 1)) hnb
    simp [go_sem, e2, e5, e8, e9, e10]
    have nn := n13.trans n4
    refine AppI_new (st0 := sm) (g := .ty 1) (m := 1) (ys := [.slice lb r.labels.length lc, Val.i r.at_, .slice hb r.s.hist.length hc, .slice kb r.s.hashes.length kc, Val.u r.s.g.n, Val.u r.s.g.nans, Val.u r.s.g.lo, Val.u r.s.g.hi]) si29 (hV.new' nn) hF (k0.trans nn) (by simp [srcCells, lkN_mk, upd_same, cellsOf]) (by simp [Value.oneCell']) (by omega) ?_
    intro base cap st4 hV4 hF4 k4 hx4
    simp [go_sem, e2, e5, e8, e9, e10, hwk]
    refine ⟨st4, .rfl' _, ⟨k4, k + 1, by simp, by omega, n + 1, by omega, _, hV4, hF4, ?_⟩, by omega⟩
    rw [yok hkr]
    exact ⟨by simp [hn], ((hR.new nn).ext hx4).snoc ((hrow.new nn).ext hx4)⟩
  · have : k = l.length := by omega
    subst this
    rw [List.take_length] at hR hn
    simp [go_sem, e2, e5, e8, e9, e10]
    subst hn
    exact ⟨⟨ys, ⟨.ty 1, (by intro g x r; simp), hV.reg⟩, hR⟩, km.trans k0⟩
end
end Go.Proofs.YtflbapmjdfnhhaaGreat
