/- The sketch of names: no hash at all sorted. -/
import Derived.Test.YtflbapmjdfnhhaaGreatC22
import Derived.Test.YtflbapmjdfnhhaaGreatC16
import Derived.Test.YtflbapmjdfnhhaaGreatC09
import Derived.Test.YtflbapmjdfnhhaaGreatC13
import Derived.Test.YtflbapmjdfnhhaaGreatC14
import Derived.Test.YtflbapmjdfnhhaaGreatC11
import Derived.Test.YtflbapmjdfnhhaaGreatC18
set_option linter.unusedVariables false
set_option linter.unusedSimpArgs false
set_option maxRecDepth 100000
set_option maxHeartbeats 400000
namespace Go.Proofs.YtflbapmjdfnhhaaGreat
open Go.RowKit (Below)
section
variable {W0 : World} {st : Heap}
theorem insertNil_spec : ICalls Tryz.prog W0 127 #[.slice none 0 0, Val.i 0, Val.i 0] st fun e st' => (∃ v, e = .returned v) ∧ st' = st := by
  refine enter (args := [_, _, _]) Tryz.func127 rfl ?_
  have hw : IntKind.i64.wrap 1 = 1 := wrap_id (by omega) (by omega)
  simp [Tryz.f127, go_sem, hw]
  refine ⟨fun E st' => st' = st ∧ E 2 = Val.i 0 ∧ E 6 = Val.i 1, fun _ _ => 0, ⟨st, .rfl' _, rfl, by simp [go_sem], by simp [go_sem]⟩, ?_⟩
  rintro E st' ⟨rfl, e2, e6⟩
  simp [go_sem, e2, e6]
theorem pdqNil_spec {lim : Int} : ICalls Tryz.prog W0 119 #[.slice none 0 0, Val.i 0, Val.i 0, Val.i lim] st fun e st' => (∃ v, e = .returned v) ∧ st' = st := by
  refine enter (args := [_, _, _, _]) Tryz.func119 rfl ?_
  have hw : IntKind.i64.wrap 0 = 0 := wrap_id (by omega) (by omega)
  simp [Tryz.f119, go_sem, hw]
  refine ⟨fun E st' => st' = st ∧ E 0 = .slice none 0 0 ∧ E 1 = Val.i 0 ∧ E 2 = Val.i 0, fun _ _ => 0, ⟨st, .rfl' _, rfl, by simp [go_sem], by simp [go_sem], by simp [go_sem]⟩, ?_⟩
  rintro E st' ⟨rfl, e0, e1, e2⟩
  simp [go_sem, e0, e1, e2, hw]
  refine insertNil_spec.mono ?_
  rintro e st2 ⟨⟨v, rfl⟩, rfl⟩
  simp [go_sem]
theorem sortNil_spec : ICalls Tryz.prog W0 103 #[.slice none 0 0] st fun e st' => (∃ v, e = .returned v) ∧ st' = st := by
  refine enter (args := [_]) Tryz.func103 rfl ?_
  have hw : IntKind.u64.wrap 0 = 0 := wraps_u64 _ (by omega) (by omega)
  simp [Tryz.f103, go_sem, hw]
  refine (Len_small (n := 0) (by omega) (by omega)).mono ?_
  rintro e st1 ⟨⟨k, rfl⟩, rfl⟩
  simp [go_sem]
  refine pdqNil_spec.mono ?_
  rintro e st2 ⟨⟨v, rfl⟩, rfl⟩
  simp [go_sem]
theorem kmvNew_spec : ICalls Tryz.prog W0 77 #[] st fun e st' => ∃ r m, e = .returned (ptr r) ∧ st r = none ∧ st m = none ∧ New st st' ∧ r ≠ m ∧ (∃ g, st' r = some (.cells true [.map (some m), .int .u64 0] 2 g)) ∧ (∃ g, st' m = some (.map g [])) := by
  refine enter (args := []) Tryz.func77 rfl ?_
  simp [Tryz.f77, go_sem]
  unfold NewM
  intro m hm
  refine ⟨.ty 1, ?_⟩
  have h1 := (New.refl st).add (b := m) (o := .map (.ty 1) []) hm
  have gm := upd_same st m (.map (.ty 1) [])
  simp [go_sem]
  generalize upd st m (.map (.ty 1) []) = st1 at *
  unfold NewP
  intro r hr
  refine ⟨.ty 1, ?_⟩
  have h2 := (New.refl st1).add (b := r) (o := .cells true [.map (some m), .int .u64 0] 2 (.ty 1)) hr
  have gr := upd_same st1 r (.cells true [.map (some m), .int .u64 0] 2 (.ty 1))
  have hne : r ≠ m := by rintro rfl; rw [gm] at hr; cases hr
  simp [go_sem]
  generalize upd st1 r (.cells true [.map (some m), .int .u64 0] 2 (.ty 1)) = st2 at *
  exact ⟨h1.none hr, m, hm, h1.trans h2, hne, rfl, ⟨_, h2 _ _ gm⟩⟩
end
end Go.Proofs.YtflbapmjdfnhhaaGreat
set_option linter.unusedVariables false
set_option linter.unusedSimpArgs false
set_option maxRecDepth 100000
set_option maxHeartbeats 400000
namespace Go.Proofs.YtflbapmjdfnhhaaGreat
open Go.RowKit (Below)
section
variable {W0 : World} {st : Heap}
theorem kmvCheckNil_spec : ICalls Tryz.prog W0 84 #[.slice none 0 0] st fun e st' => e = .returned (.bool true) ∧ st' = st :=
  ICalls.mono (kmvCheck_spec (l := []) ⟨.ty 1, (by intro g x r; simp), Reg.nil⟩ (by simp)) fun e st' h => h
theorem gaugeCheckNil_spec : ICalls Tryz.prog W0 85 #[.agg #[Val.u 0, Val.u 0, Val.u 0, Val.u 0]] st fun e st' => e = .returned (.bool true) ∧ New st st' := by
  have hq : binV Tryz.prog .eql 53 (.agg #[Val.u 0, Val.u 0, Val.u 0, Val.u 0]) (.agg #[.int .u64 0, Val.u 0, .int .u64 0, .int .u64 0]) = some (.bool true) := by kernel_rfl
  refine enter (args := [_]) Tryz.func85 rfl ?_
  simp [Tryz.f85, go_sem]
  unfold NewP
  intro a ha
  refine ⟨.ty 1, ?_⟩
  simp [go_sem, hq]
  exact (New.refl st).add ha
end
end Go.Proofs.YtflbapmjdfnhhaaGreat
set_option linter.unusedVariables false
set_option linter.unusedSimpArgs false
set_option maxRecDepth 100000
set_option maxHeartbeats 400000
namespace Go.Proofs.YtflbapmjdfnhhaaGreat
open Go.RowKit (Below)
section
variable {W0 : World} {st : Heap}
theorem hashesNil_spec {r m : Nat} {g0 g : Tg} {x : Value} (hr : st r = some (.cells true [.map (some m), x] 2 g0)) (hm : st m = some (.map g [])) : ICalls Tryz.prog W0 82 #[ptr r] st fun e st' => e = .returned (.slice none 0 0) ∧ New st st' := by
  refine enter (args := [_]) Tryz.func82 rfl ?_
  simp [Tryz.f82, go_sem, hr]
  refine RangeI_start hm ?_
  intro b st1 hb hi ho
  simp [go_sem]
  have hmb := ne_of_new hm hb
  refine ⟨fun E st' => E 12 = ptr' b ∧ E 3 = .slice none 0 0 ∧ Iter st' m b [] [] ∧ ∀ k, k ≠ m → k ≠ b → st' k = st k, fun _ _ => 0, ⟨st1, .rfl' _, by simp [go_sem], by simp [go_sem], hi, ho⟩, ?_⟩
  rintro E st' ⟨e12, e3, hi', ho'⟩
  simp [go_sem, e12]
  refine NextI_step g hmb hi' ?_ ?_
  case refine_2 =>
    intro k v st5 hm5
    cases hm5
  intro _
  simp [go_sem, e12, e3]
  refine sortNil_spec.mono ?_
  rintro e st6 ⟨⟨v, rfl⟩, rfl⟩
  simp [go_sem, e3]
  intro k o hk
  by_cases hkm : k = m
  · subst hkm
    rw [upd_same, ← hm, hk]
  · rw [upd_ne _ _ hkm, ho' k hkm (ne_of_new hk hb)]
    exact hk
end
end Go.Proofs.YtflbapmjdfnhhaaGreat
set_option linter.unusedVariables false
set_option linter.unusedSimpArgs false
set_option maxRecDepth 100000
set_option maxHeartbeats 400000
namespace Go.Proofs.YtflbapmjdfnhhaaGreat
open Go.RowKit (Below)
section
variable {W0 : World} {st : Heap}
theorem bktL_zero : ∀ k, bktL (List.replicate 7424 0) k = []
  | 0 => rfl
  | k + 1 => by
    unfold bktL
    have : (List.replicate 7424 0).getD k 0 = 0 := by
      rw [List.getD_eq_getElem?_getD, List.getElem?_replicate]
      split <;> rfl
    rw [this, if_neg (by omega)]
    exact bktL_zero k
theorem bucketsNil_spec {r : Nat} {h : List Nat} (hr : HistAt st r h) (hz : ∀ n ∈ h, n = 0) : ICalls Tryz.prog W0 81 #[ptr r] st fun e st' => e = .returned (.slice none 0 0) ∧ st' = st := by
  obtain ⟨hb, hl, hn⟩ := hr
  have hcl : (cellsU h).length = 7424 := by simp [cellsU, hl]
  have htk : (cellsU h).take 7424 = cellsU h := by rw [← hcl]; exact List.take_length
  refine enter (args := [_]) Tryz.func81 rfl ?_
  simp [-List.reduceReplicate, Tryz.f81, go_sem, hb, htk, hcl]
  refine ⟨fun E st' => st' = st ∧ E 12 = .agg (cellsU h).toArray ∧ E 3 = .slice none 0 0 ∧ ∃ k : Nat, E 13 = Val.i k ∧ k ≤ 7424, fun E _ => match E 13 with | .int _ z => 7424 - z.toNat | _ => 0, ⟨st, .rfl' _, rfl, by simp [go_sem], by simp [go_sem], 0, by simp [go_sem], by omega⟩, ?_⟩
  rintro E st' ⟨rfl, e12, e3, k, e13, hk⟩
  by_cases hlt : k < 7424
  · have hkl : k < h.length := by omega
    have q1 : ((k : Int) < 7424) = True := eq_true (by omega)
    have hget : (cellsU h)[k]? = some (.int .u64 0) := by simp [cellsU, List.getElem?_eq_getElem hkl, hz _ (List.getElem_mem hkl)]
    have hwk : IntKind.i64.wrap ((k : Int) + 1) = (k : Int) + 1 := wrap_id (by omega) (by omega)
    simp [-List.reduceReplicate, go_sem, e3, e12, e13, hget, q1, hlt, hwk]
    exact ⟨st', .rfl' _, ⟨rfl, k + 1, by simp, by omega⟩, by omega⟩
  · have hk' : k = 7424 := by omega
    subst hk'
    simp [-List.reduceReplicate, go_sem, e3, e12, e13]
theorem sumNil_spec : ICalls Tryz.prog W0 50 #[.slice none 0 0] st fun e st' => New st st' ∧ e = .returned (.tuple #[.agg #[.slice none 0 0, .slice none 0 0, Val.u 0, Val.u 0, Val.u 0, Val.u 0], Val.i 0]) := by
  refine enter (args := [_]) Tryz.func50 rfl ?_
  simp [-List.reduceReplicate, Tryz.f50, go_sem]
  unfold NewP
  intro s hs
  refine ⟨.ty 1, ?_⟩
  simp [-List.reduceReplicate, go_sem]
  have k1 := (New.refl st).add (b := s) (o := .cells true [.slice none 0 0, .slice none 0 0, Val.u 0, Val.u 0, Val.u 0, Val.u 0] 6 (.ty 1)) hs
  have g1 := upd_same st s (.cells true [.slice none 0 0, .slice none 0 0, Val.u 0, Val.u 0, Val.u 0, Val.u 0] 6 (.ty 1))
  generalize upd st s (.cells true [.slice none 0 0, .slice none 0 0, Val.u 0, Val.u 0, Val.u 0, Val.u 0] 6 (.ty 1)) = st1 at *
  refine histNew_spec.mono ?_
  rintro e st2 ⟨r, rfl, hr, k2, hh⟩
  simp [-List.reduceReplicate, go_sem]
  refine kmvNew_spec.mono ?_
  rintro e st3 ⟨q, m, rfl, hq, hm, k3, hqm, ⟨t1, gq⟩, ⟨t2, gm⟩⟩
  simp [-List.reduceReplicate, go_sem]
  unfold NewP
  intro t ht
  refine ⟨.ty 1, ?_⟩
  simp [-List.reduceReplicate, go_sem]
  have k4 := (New.refl st3).add (b := t) (o := .cells true [Val.u 0, Val.u 0, Val.u 0, Val.u 0] 4 (.ty 1)) ht
  have g4 := upd_same st3 t (.cells true [Val.u 0, Val.u 0, Val.u 0, Val.u 0] 4 (.ty 1))
  generalize upd st3 t (.cells true [Val.u 0, Val.u 0, Val.u 0, Val.u 0] 4 (.ty 1)) = st4 at *
  refine ⟨fun E st' => st' = st4 ∧ E 2 = ptr s ∧ E 4 = ptr r ∧ E 5 = ptr q ∧ E 6 = ptr t ∧ E 13 = Val.i 0 ∧ E 14 = Val.i 0, fun _ _ => 0, ⟨st4, .rfl' _, rfl, by simp [go_sem], by simp [go_sem], by simp [go_sem], by simp [go_sem], by simp [go_sem], by simp [go_sem]⟩, ?_⟩
  rintro E st5 ⟨rfl, e2, e4, e5, e6, e13, e14⟩
  simp [-List.reduceReplicate, go_sem, e2, e4, e5, e6, e13, e14]
  have gs := k4 _ _ (k3 _ _ (k2 _ _ g1))
  have hhZ : ∀ st', New st5 st' → HistAt st' r (List.replicate 7424 0) := fun st' h => ⟨h _ _ (k4 _ _ (k3 _ _ hh.1)), hh.2⟩
  refine drawV [0, 1, 2, 3, 4, 5, 6, 7] (fun i v st' => match i with
    | 0 => v = ptr r
    | 1 | 3 => v = .slice none 0 0
    | 2 => v = ptr q
    | 4 => v = .agg #[Val.u 0, Val.u 0, Val.u 0, Val.u 0]
    | 5 => v = .agg #[.slice none 0 0, .slice none 0 0, Val.u 0, Val.u 0, Val.u 0, Val.u 0]
    | 6 => True
    | _ => v = Val.i 0) (by kernel_rfl) (by kernel_rfl) ?_ ?_ ?_ ?_
  · intro i v sa sb hNw h
    match i with
    | 0 | 1 | 2 | 3 | 4 | 5 | 6 => exact h
    | i + 7 => exact h
  · intro i oo hi E6 st6 hNw hd hE
    match i with
    | 0 =>
      have x0 := hE 4 (oldB_spec (by kernel_rfl))
      injection hi with hi; subst hi
      simp [wantedE, go_sem, x0, e2, e4, e5, e6]
      exact New.refl _
    | 1 =>
      injection hi with hi; subst hi
      have d0 := hd { on := 0, ground := .data } (by simp) (by decide) _ _ rfl rfl
      simp only at d0
      simp [wantedE, go_sem, d0]
      refine (bucketsNil_spec (hhZ _ hNw) (fun n hn => List.eq_of_mem_replicate hn)).mono ?_
      rintro e st7 ⟨rfl, rfl⟩
      simp [go_sem]
      exact New.refl _
    | 2 =>
      have x0 := hE 5 (oldB_spec (by kernel_rfl))
      injection hi with hi; subst hi
      simp [wantedE, go_sem, x0, e2, e4, e5, e6]
      exact New.refl _
    | 3 =>
      injection hi with hi; subst hi
      have d0 := hd { on := 2, ground := .data } (by simp) (by decide) _ _ rfl rfl
      simp only at d0
      simp [wantedE, go_sem, d0]
      refine (hashesNil_spec (hNw _ _ (k4 _ _ gq)) (hNw _ _ (k4 _ _ gm))).mono ?_
      rintro e st7 ⟨rfl, hk7⟩
      simp [go_sem]
      exact hk7
    | 4 =>
      have x0 := hE 6 (oldB_spec (by kernel_rfl))
      injection hi with hi; subst hi
      simp [wantedE, go_sem, x0, e6, hNw _ _ g4]
      exact New.refl _
    | 5 =>
      injection hi with hi; subst hi
      have d0 := hd { on := 1, ground := .data } (by simp) (by decide) _ _ rfl rfl
      have d1 := hd { on := 3, ground := .data } (by simp) (by decide) _ _ rfl rfl
      have d2 := hd { on := 4, ground := .data } (by simp) (by decide) _ _ rfl rfl
      simp only at d0 d1 d2
      simp [wantedE, go_sem, d0, d1, d2]
      exact New.refl _
    | 6 =>
      have x0 := hE 2 (oldB_spec (by kernel_rfl))
      injection hi with hi; subst hi
      have d0 := hd { on := 5, ground := .data } (by simp) (by decide) _ _ rfl rfl
      simp only at d0
      have hs7 := hNw _ _ gs
      simp [wantedE, go_sem, x0, e2, d0, hs7]
      rw [upd_self hs7]
      exact New.refl _
    | 7 =>
      injection hi with hi; subst hi
      simp [wantedE, go_sem]
      exact New.refl _
    | i + 8 => simp at hi
  · intro E6 st6 hNw hd hE
    have d7 := hd 7 _ _ rfl rfl
    have x2 := hE 2 (noB_spec (by kernel_rfl))
    simp only at d7
    have hs7 := hNw _ _ gs
    simp [go_sem]
    refine RetI_cell_tmp ?_
    simp [go_sem, x2, e2, hs7, d7]
    exact (((k1.trans k2).trans k3).trans k4).trans hNw
  · intro j oj hj
    match j with
    | 0 | 1 | 2 | 3 | 4 | 5 | 6 | 7 => simp at hj; subst hj; decide
    | j + 8 => simp at hj
end
end Go.Proofs.YtflbapmjdfnhhaaGreat
set_option linter.unusedVariables false
set_option linter.unusedSimpArgs false
set_option maxRecDepth 100000
set_option maxHeartbeats 400000
namespace Go.Proofs.YtflbapmjdfnhhaaGreat
open Go.RowKit (Below)
theorem sumZero : ∀ k, (List.replicate k 0).foldl satAdd 0 = 0
  | 0 => rfl
  | k + 1 => by
    rw [List.replicate_succ, List.foldl_cons]
    exact sumZero k
section
variable {W0 : World} {st : Heap}
theorem oneNil_spec {c0 c1 c2 c3 c4 c5 c6 c7 c9 c10 : Value} : ICalls Tryz.prog W0 51 #[.agg #[c0, c1, c2, c3, c4, c5, c6, c7, Val.i 1, c9, c10], .agg #[.slice none 0 0, .slice none 0 0, Val.u 0, Val.u 0, Val.u 0, Val.u 0]] st fun e st' => New st st' ∧ e = .returned (.agg #[Val.i 0, .bool true, Val.u 0, Val.i 0]) := by
  refine enter (args := [_, _]) Tryz.func51 rfl ?_
  simp [-List.reduceReplicate, Tryz.f51, go_sem]
  unfold NewP
  intro a ha
  refine ⟨.ty 1, ?_⟩
  have k1 := (New.refl st).add (b := a) (o := .cells true [c0, c1, c2, c3, c4, c5, c6, c7, Val.i 1, c9, c10] 11 (.ty 1)) ha
  have g1 := upd_same st a (.cells true [c0, c1, c2, c3, c4, c5, c6, c7, Val.i 1, c9, c10] 11 (.ty 1))
  simp [go_sem]
  generalize upd st a (.cells true [c0, c1, c2, c3, c4, c5, c6, c7, Val.i 1, c9, c10] 11 (.ty 1)) = st1 at *
  unfold NewP
  intro b hb
  refine ⟨.ty 1, ?_⟩
  have k2 := (New.refl st1).add (b := b) (o := .cells true [.slice none 0 0, .slice none 0 0, Val.u 0, Val.u 0, Val.u 0, Val.u 0] 6 (.ty 1)) hb
  have g2 := upd_same st1 b (.cells true [.slice none 0 0, .slice none 0 0, Val.u 0, Val.u 0, Val.u 0, Val.u 0] 6 (.ty 1))
  simp [go_sem]
  generalize upd st1 b (.cells true [.slice none 0 0, .slice none 0 0, Val.u 0, Val.u 0, Val.u 0, Val.u 0] 6 (.ty 1)) = st2 at *
  unfold NewP
  intro c hc
  refine ⟨.ty 1, ?_⟩
  have k3 := (New.refl st2).add (b := c) (o := .cells true [Val.i 0, .bool false, Val.u 0, Val.i 0] 4 (.ty 1)) hc
  have g3 := upd_same st2 c (.cells true [Val.i 0, .bool false, Val.u 0, Val.i 0] 4 (.ty 1))
  simp [go_sem]
  generalize upd st2 c (.cells true [Val.i 0, .bool false, Val.u 0, Val.i 0] 4 (.ty 1)) = st3 at *
  unfold NewP
  intro d hd
  refine ⟨.ty 1, ?_⟩
  have k4 := (New.refl st3).add (b := d) (o := .cells true [Val.i 0, .bool false, Val.u 0, Val.i 0] 4 (.ty 1)) hd
  have g4 := upd_same st3 d (.cells true [Val.i 0, .bool false, Val.u 0, Val.i 0] 4 (.ty 1))
  have hcd : c ≠ d := by rintro rfl; rw [g3] at hd; cases hd
  have hbd : b ≠ d := by rintro rfl; rw [k3 _ _ g2] at hd; cases hd
  have had : a ≠ d := by rintro rfl; rw [k3 _ _ (k2 _ _ g1)] at hd; cases hd
  have hbc : b ≠ c := by rintro rfl; rw [g2] at hc; cases hc
  have hac : a ≠ c := by rintro rfl; rw [k2 _ _ g1] at hc; cases hc
  have g1' := k4 _ _ (k3 _ _ (k2 _ _ g1))
  have g2' := k4 _ _ (k3 _ _ g2)
  have g3' := k4 _ _ g3
  have sd : st3 d = none := hd
  have sc : st2 c = none := hc
  simp [go_sem, g1', g2', g3']
  generalize upd st3 d (.cells true [Val.i 0, .bool false, Val.u 0, Val.i 0] 4 (.ty 1)) = st4 at *
  have k0 := ((k1.trans k2).trans k3).trans k4
  refine (histFrom_spec (l := []) ⟨.ty 1, (by intro g x r; simp), Reg.nil⟩ (by simp) (by simp)).mono ?_
  rintro e st5 ⟨k5, hR⟩
  rw [if_pos (show checkB (-1) [] = true from rfl)] at hR
  obtain ⟨r, rfl, hr, hh⟩ := hR
  have g1'' := k5 _ _ g1'
  have g2'' := k5 _ _ g2'
  simp [-List.reduceReplicate, go_sem, g2'']
  refine kmvCheckNil_spec.mono ?_
  rintro e st6 ⟨rfl, rfl⟩
  simp [-List.reduceReplicate, go_sem, g2'']
  refine gaugeCheckNil_spec.mono ?_
  rintro e st7 ⟨rfl, k7⟩
  have h1 := k7 _ _ g1''
  have h3 := k7 _ _ (k5 _ _ g3')
  have h4 := k7 _ _ (k5 _ _ g4)
  simp [-List.reduceReplicate, go_sem, h1, h3, h4]
  refine (histCount_spec (h := List.replicate 7424 0) ⟨k7 _ _ hh.1, hh.2⟩).mono ?_
  rintro e st8 ⟨rfl, rfl⟩
  rw [sumZero]
  have hcn : st c = none := (k1.trans k2).none sc
  have hdn : st d = none := ((k1.trans k2).trans k3).none sd
  have kN := k0.trans (k5.trans k7)
  simp [-List.reduceReplicate, go_sem, h1, h3, h4, hcd, Ne.symm hcd, had, hac, upd_same, upd_ne]
  refine RetI_cell ?_
  simp [-List.reduceReplicate, go_sem, h1, h3, h4, hcd, Ne.symm hcd, had, hac, upd_same, upd_ne]
  first | exact (kN.put hdn).put hcn | exact ((kN.put hdn).put hdn).put hcn
end
end Go.Proofs.YtflbapmjdfnhhaaGreat
set_option linter.unusedVariables false
set_option linter.unusedSimpArgs false
set_option maxRecDepth 100000
set_option maxHeartbeats 400000
namespace Go.Proofs.YtflbapmjdfnhhaaGreat
open Go.RowKit (Below)
section
variable {W0 : World} {st : Heap}
theorem windowNil_spec {c0 c1 c2 c3 c4 c5 c6 c7 c9 c10 : Value} {lo hi : Int} : ICalls Tryz.prog W0 29 #[.agg #[c0, c1, c2, c3, c4, c5, c6, c7, Val.i 1, c9, c10], .slice none 0 0, Val.i lo, Val.i hi] st fun e st' => New st st' ∧ e = .returned (.agg #[Val.i lo, .bool true, Val.u 0, Val.i 0]) := by
  refine enter (args := [_, _, _, _]) Tryz.func29 rfl ?_
  simp [Tryz.f29, go_sem]
  unfold NewP
  intro a ha
  refine ⟨.ty 1, ?_⟩
  have k1 := (New.refl st).add (b := a) (o := .cells true [c0, c1, c2, c3, c4, c5, c6, c7, Val.i 1, c9, c10] 11 (.ty 1)) ha
  have g1 := upd_same st a (.cells true [c0, c1, c2, c3, c4, c5, c6, c7, Val.i 1, c9, c10] 11 (.ty 1))
  simp [go_sem]
  generalize upd st a (.cells true [c0, c1, c2, c3, c4, c5, c6, c7, Val.i 1, c9, c10] 11 (.ty 1)) = st1 at *
  unfold NewP
  intro c hc
  refine ⟨.ty 1, ?_⟩
  have k2 := (New.refl st1).add (b := c) (o := .cells true [Val.i 0, .bool false, Val.u 0, Val.i 0] 4 (.ty 1)) hc
  have g2 := upd_same st1 c (.cells true [Val.i 0, .bool false, Val.u 0, Val.i 0] 4 (.ty 1))
  simp [go_sem]
  generalize upd st1 c (.cells true [Val.i 0, .bool false, Val.u 0, Val.i 0] 4 (.ty 1)) = st2 at *
  refine ⟨fun E st' => st' = st2 ∧ E 2 = Val.i lo ∧ E 4 = ptr a ∧ E 8 = ptr c ∧ E 9 = .slice none 0 0 ∧ E 16 = Val.i 0 ∧ E 17 = Val.i 0, fun _ _ => 0, ⟨st2, .rfl' _, rfl, by simp [go_sem], by simp [go_sem], by simp [go_sem], by simp [go_sem], by simp [go_sem], by simp [go_sem]⟩, ?_⟩
  rintro E st3 ⟨rfl, e2, e4, e8, e9, e16, e17⟩
  simp [go_sem, e2, e4, e8, e9, e16, e17]
  refine sumNil_spec.mono ?_
  rintro e st4 ⟨k4, rfl⟩
  simp [go_sem, e2, e4, e8]
  unfold NewP
  intro b hb
  refine ⟨.ty 1, ?_⟩
  have k5 := (New.refl st4).add (b := b) (o := .cells true [.slice none 0 0, .slice none 0 0, Val.u 0, Val.u 0, Val.u 0, Val.u 0] 6 (.ty 1)) hb
  have g5 := upd_same st4 b (.cells true [.slice none 0 0, .slice none 0 0, Val.u 0, Val.u 0, Val.u 0, Val.u 0] 6 (.ty 1))
  have g1' := k5 _ _ (k4 _ _ (k2 _ _ g1))
  have g2' := k5 _ _ (k4 _ _ g2)
  simp [go_sem, e2, e4, e8, g1']
  generalize upd st4 b (.cells true [.slice none 0 0, .slice none 0 0, Val.u 0, Val.u 0, Val.u 0, Val.u 0] 6 (.ty 1)) = st5 at *
  refine oneNil_spec.mono ?_
  rintro e st6 ⟨k6, rfl⟩
  simp [go_sem, e2, e4, e8]
  unfold NewP
  intro d hd
  refine ⟨.ty 1, ?_⟩
  have g3' := k6 _ _ g2'
  have hcd : c ≠ d := by rintro rfl; rw [g3'] at hd; cases hd
  have kN := (((k1.trans k2).trans k4).trans k5).trans k6
  have hcn : st c = none := k1.none hc
  have hdn : st d = none := kN.none hd
  simp [go_sem, e2, e4, e8, hcd, Ne.symm hcd, upd_same, upd_ne, g3']
  refine RetI_cell ?_
  simp [go_sem, e8, hcd, Ne.symm hcd, upd_same, upd_ne, g3']
  first | exact (kN.put hdn).put hcn | exact ((kN.put hdn).put hdn).put hcn
end
end Go.Proofs.YtflbapmjdfnhhaaGreat
