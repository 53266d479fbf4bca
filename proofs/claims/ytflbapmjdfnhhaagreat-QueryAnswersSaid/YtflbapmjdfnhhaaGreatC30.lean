/- Answers' iterator, in general: each window's answer is told to the ear, till it wants no more. -/
import Derived.Test.YtflbapmjdfnhhaaGreatC29
set_option linter.unusedVariables false
set_option linter.unusedSimpArgs false
set_option maxRecDepth 100000
set_option maxHeartbeats 800000
namespace Go.Proofs.YtflbapmjdfnhhaaGreat
open Go.RowKit (Below)
section
variable {P : Program} {W0 : World} {N : Nat} {Q : MPost} {E : Env} {M : List Nat} {st : Heap}
@[go_sem ↓] theorem IWR_seq (x y : Code) : IWR P W0 N (.seq x y) Q E M st = IWR P W0 N x (fun e E' M' st' => match e with | .normal => IWR P W0 N y Q E' M' st' | e => Q e E' M' st') E M st := (rfl)
@[go_sem ↓] theorem IWR_block (id : Nat) (c : Code) : IWR P W0 N (.block id c) Q E M st = IWR P W0 N c (fun e E' M' st' => match e with | .exit id' => if id' = id then Q .normal E' M' st' else Q (.exit id') E' M' st' | e => Q e E' M' st') E M st := (rfl)
@[go_sem ↓] theorem IWR_scope (c : Code) : IWR P W0 N (.scope c) Q E M st = IWR P W0 N c (fun e E' M' st' => match e with | .goto _ => False | e => Q e E' M' st') E M st := (rfl)
@[go_sem ↓] theorem IWR_region (id : Nat) (l : List Oper) : IWR P W0 N (.region id l.toArray false) Q E M st = IL P W0 l.toArray (fun e E' st' => Q e E' M st') (fun _ _ => False) l E st := (rfl)
@[go_sem ↓] theorem IWR_label (l : Nat) : IWR P W0 N (.label l) Q E M st = Q .normal E M st := (rfl)
@[go_sem ↓] theorem IWR_ret : IWR P W0 N .ret Q E M st = Q .ret E M st := (rfl)
@[go_sem ↓] theorem IWR_skip : IWR P W0 N .skip Q E M st = Q .normal E M st := (rfl)
@[go_sem ↓] theorem IWR_exit (id : Nat) : IWR P W0 N (.exit id) Q E M st = Q (.exit id) E M st := (rfl)
@[go_sem ↓] theorem IWR_range (g : Operand) (ps : Array Tmp) (a b : Code) : IWR P W0 N (.rangeFunc g ps a b) Q E M st = RangeR P W0 N g ps a b Q E M st := (rfl)
end
structure AnsD where
  has : Bool
  val : Nat
  err : Int
def AnsD.cells (a : AnsD) (frm : Int) : List Value := [Val.i frm, .bool a.has, Val.u a.val, Val.i a.err]
/-- The first answers. -/
def ansL (f : Int → AnsD) (start step : Int) (k : Nat) : List Value := (List.range k).flatMap fun (i : Nat) => (f (start + (i : Int) * step)).cells (start + (i : Int) * step)
theorem ansL_succ (f : Int → AnsD) (start step : Int) (k : Nat) : ansL f start step (k + 1) = ansL f start step k ++ (f (start + k * step)).cells (start + k * step) := by
  simp [ansL, List.range_succ]
theorem ansL_length (f : Int → AnsD) (start step : Int) : ∀ k, (ansL f start step k).length = k * 4
  | 0 => rfl
  | k + 1 => by rw [ansL_succ, List.length_append, ansL_length]; simp [AnsD.cells]; omega
/-- A round's own record is all that differs. -/
def Same2 (st0 : Heap) (l lc : Nat) (s : Heap) : Prop := ∀ j, j ≠ l → j ≠ lc → st0 j ≠ none → s j = st0 j
structure GT (B : Heap → Prop) (s0 : Heap) (F : Heap → Prop) (done : List Nat) (s : Heap) : Prop where
  base : B s
  pre : 6 ∉ done → New s0 s
  post : 6 ∈ done → F s
theorem GT.skip {B : Heap → Prop} {s0 : Heap} {F : Heap → Prop} {done : List Nat} {s : Heap} {i : Nat} (h : GT B s0 F done s) (hi : i ≠ 6) : GT B s0 F (i :: done) s :=
  ⟨h.base, fun h1 => h.pre fun h2 => h1 (List.mem_cons_of_mem _ h2), fun h1 => h.post ((List.mem_cons.1 h1).resolve_left (Ne.symm hi))⟩
section
variable {W0 : World} {st : Heap}
theorem answers1_gen {a r lc mc : Nat} {cs : List Value} {start step n : Int} {k6 k7 k8 rv : Value} {most : Int} {ga gr gm : Tg} {f : Int → AnsD} (hcs : cs.length = 5) (hbn : -2 ^ 63 ≤ n ∧ n < 2 ^ 63) (hbs : -2 ^ 63 ≤ start ∧ start < 2 ^ 63)
    (ha : st a = some (.cells true (cs ++ [Val.i start, Val.i step, Val.i n, k6, k7, k8]) 11 ga)) (hr : st r = some (.cells true [rv] 1 gr)) (hm : st mc = some (.cells true [Val.i most] 1 gm)) (hmost : 1 ≤ most) {gl : Tg} (hlc : st lc = some (.cells true [.slice none 0 0] 1 gl)) (hal : a ≠ lc) (hrl : r ≠ lc) (hml : mc ≠ lc) (hsmall : windowsN start step n < 2 ^ 30)
    (hwin : ∀ s, (∀ j, j ≠ lc → st j ≠ none → s j = st j) → ∀ frm : Int, 0 ≤ frm → frm + step ≤ 2 ^ 40 → 1 ≤ step → ICalls Tryz.prog W0 29 #[.agg (cs ++ [Val.i start, Val.i step, Val.i n, k6, k7, k8]).toArray, rv, Val.i frm, Val.i (frm + step)] s fun e s' => New s s' ∧ e = .returned (.agg ((f frm).cells frm).toArray)) :
    ICalls Tryz.prog W0 27 #[.func (.func 30) #[] #[ptr lc, ptr mc], ptr a, ptr r] st fun e st' => e = .returned (.tuple #[]) ∧ Same1 st lc st st' ∧ Dom st st' ∧ Ear st lc (ansL f start step (min (windowsN start step n) most.toNat)) (min (windowsN start step n) most.toNat) st' := by
  refine ICalls_range (args := [_, _, _]) (by kernel_rfl) Tryz.func27 rfl (by simp [Tryz.f27]) (by kernel_rfl) ?_
  simp [Tryz.f27, go_sem]
  unfold NewP
  intro tb htb
  refine ⟨.ty 1, ?_⟩
  obtain ⟨ear, hear⟩ : ∃ ear : Value, Value.func (.func 30) #[] #[ptr lc, ptr mc] = ear := ⟨_, rfl⟩
  have k1 := (New.refl st).add (b := tb) (o := .cells true [ear] 1 (.ty 1)) htb
  have g1 := upd_same st tb (.cells true [ear] 1 (.ty 1))
  have ha1 := k1 _ _ ha
  simp [go_sem, hear, upd_ne, hcs]
  generalize upd st tb (.cells true [ear] 1 (.ty 1)) = st1 at *
  simp [go_sem, hear, ha1, hcs, List.getElem?_append_right]
  refine windows_spec.mono ?_
  rintro e st2 ⟨wa, wb, wc, rfl, k2, ⟨gwa, hwa⟩, ⟨gwb, hwb⟩, ⟨gwc, hwc⟩⟩
  simp [go_sem]
  refine ⟨49, #[ptr wb, ptr wc, ptr wa], by simp [go_sem], by kernel_rfl, ?_⟩
  intro D l T fn hD hDl hl hrec hT
  generalize hE0 : (Env.set _ _ _ : Env) = E0 at hT
  have e0 : E0 0 = ear := by subst hE0; simp [go_sem]
  have e1 : E0 1 = ptr a := by subst hE0; simp [go_sem]
  have e2 : E0 2 = ptr r := by subst hE0; simp [go_sem]
  have e3 : E0 3 = ptr tb := by subst hE0; simp [go_sem]
  generalize hR0 : ({ state := .ready, pending := none, fn := fn, tmps := T, params := #[13, 14], assign := _, body := _, defers := D } : Loop) = R0
  obtain ⟨st3, hst3⟩ : ∃ st3, upd (upd st2 D (.other (.deferred (some [])))) l (.other (.loop R0)) = st3 := ⟨_, rfl⟩
  rw [hst3]
  have k3 : New st2 st3 := by rw [← hst3]; exact ((New.refl st2).add hD).add (by rw [upd_ne _ _ (Ne.symm hDl)]; exact hl)
  have hl3 : st3 l = some (.other (.loop R0)) := by rw [← hst3]; exact upd_same _ _ _
  have hD3 : st3 D = some (.other (.deferred (some []))) := by rw [← hst3, upd_ne _ _ hDl]; exact upd_same _ _ _
  have kk := (k1.trans k2).trans k3
  have hlc2 := k2 _ _ (k1 _ _ hlc)
  have hlc3 := k3 _ _ hlc2
  have hllc : l ≠ lc := by rintro rfl; rw [hlc2] at hl; cases hl
  have hDlc : D ≠ lc := by rintro rfl; rw [hlc2] at hD; cases hD
  have ha3 := k3 _ _ (k2 _ _ ha1)
  have hr3 := kk _ _ hr
  have hm3 := kk _ _ hm
  have g3 := k3 _ _ (k2 _ _ g1)
  have hwa3 := k3 _ _ hwa
  have hwb3 := k3 _ _ hwb
  have hwc3 := k3 _ _ hwc
  have ne : ∀ {j : Nat} {o : HObj}, st2 j = some o → j ≠ l ∧ j ≠ D := fun h => ⟨(by rintro rfl; rw [h] at hl; cases hl), (by rintro rfl; rw [h] at hD; cases hD)⟩
  have hlcn : st lc ≠ none := by rw [hlc]; simp
  obtain ⟨n', hn'⟩ : ∃ n', windowsN start step n = n' := ⟨_, rfl⟩
  rw [hn'] at hsmall ⊢
  have hF : ∀ st' : Heap, (∃ R1 : Loop, R1.state ≠ .busy ∧ (R1.pending = none ∨ R1.pending = some (.exit 0)) ∧ st' l = some (.other (.loop R1))) → Same2 st3 l lc st' → Dom st3 st' → Ear st3 lc (ansL f start step (min n' most.toNat)) (min n' most.toNat) st' → ∃ R1 : Loop, st' l = some (.other (.loop R1)) ∧ R1.state ≠ .busy ∧ (R1.pending = none ∨ R1.pending = some (.exit 0)) ∧
      (([D] : List Nat).Nodup ∧ (∀ D' ∈ [D], upd st' l (.other (.loop { R1 with state := .exhausted })) D' = some (.other (.deferred (some [])))) ∧ Same1 st lc st (shutM [D] (upd st' l (.other (.loop { R1 with state := .exhausted })))) ∧ Dom st (shutM [D] (upd st' l (.other (.loop { R1 with state := .exhausted })))) ∧ Ear st lc (ansL f start step (min n' most.toNat)) (min n' most.toNat) (shutM [D] (upd st' l (.other (.loop { R1 with state := .exhausted }))))) := by
    rintro st' ⟨R1, h1, h2, h3⟩ h4 h5 ⟨v, g, v1, v2, v3⟩
    refine ⟨R1, h3, h1, h2, by simp, ?_, ?_, ?_, ?_⟩
    · intro D' hD'
      simp only [List.mem_cons, List.not_mem_nil, or_false] at hD'
      subst hD'
      rw [upd_ne _ _ hDl, h4 _ hDl hDlc (by rw [hD3]; simp)]
      exact hD3
    · intro j hj hjn
      obtain ⟨o, ho⟩ : ∃ o, st j = some o := Option.ne_none_iff_exists'.1 hjn
      obtain ⟨n1, n2⟩ := ne (k2 _ _ (k1 _ _ ho))
      simp only [shutM]
      rw [upd_ne _ _ n2, upd_ne _ _ n1, h4 _ n1 hj (by rw [kk _ _ ho]; simp), kk _ _ ho, ho]
    · simp only [shutM]
      exact ((kk.dom.trans h5).upd).upd
    · refine ⟨v, g, ?_, ?_, fun b off n c hv => kk.none (v3 b off n c hv)⟩
      · simp only [shutM]
        rw [upd_ne _ _ (Ne.symm hDlc), upd_ne _ _ (Ne.symm hllc)]
        exact v1
      · refine v2.off fun b off n c hv => ?_
        have hb := v3 b off n c hv
        simp only [shutM]
        rw [upd_ne _ _ (by rintro rfl; rw [hD3] at hb; cases hb), upd_ne _ _ (by rintro rfl; rw [hl3] at hb; cases hb)]
  have hR0s : R0.state = .ready := by rw [← hR0]
  have hR0p : R0.pending = none := by rw [← hR0]
  refine ICalls.mono (windows1_gen (l := l) (start := start) (step := step) (n := n) (a := wa) (b := wb) (c := wc) (I := fun k s => s l = some (.other (.loop R0)) ∧ Same2 st3 l lc s ∧ Dom st3 s ∧ Ear st3 lc (ansL f start step k) k s ∧ (k : Int) < most)
    (D := fun s => ∃ k : Nat, k < n' ∧ (k : Int) + 1 = most ∧ s l = some (.other (.loop { R0 with state := .done, pending := some (.exit 0) })) ∧ Same2 st3 l lc s ∧ Dom st3 s ∧ Ear st3 lc (ansL f start step (k + 1)) (k + 1) s) hbn hbs ?_ ?_ ?_) ?_
  · rintro k s ⟨i1, i2, i3, i4, i5⟩
    have c1 : wa ≠ lc := by rintro rfl; rw [hlc2] at hwa; injection hwa with hwa; cases hwa
    have c2 : wb ≠ lc := by rintro rfl; rw [hlc2] at hwb; injection hwb with hwb; cases hwb
    have c3 : wc ≠ lc := by rintro rfl; rw [hlc2] at hwc; injection hwc with hwc; cases hwc
    refine ⟨⟨gwa, ?_⟩, ⟨gwb, ?_⟩, ⟨gwc, ?_⟩⟩
    · rw [i2 _ (ne hwa).1 c1 (by rw [hwa3]; simp)]; exact hwa3
    · rw [i2 _ (ne hwb).1 c2 (by rw [hwb3]; simp)]; exact hwb3
    · rw [i2 _ (ne hwc).1 c3 (by rw [hwc3]; simp)]; exact hwc3
  · exact ⟨hl3, fun _ _ _ _ => rfl, Dom.refl _, ⟨_, _, hlc3, Vec.nil, Fresh.none⟩, by omega⟩
  · rintro k s hk ⟨i1, i2, i3, i4, i5⟩ K Kp hKt hKf
    rw [hn'] at hk
    obtain ⟨frm, hfrm⟩ : ∃ frm, start + (k : Int) * step = frm := ⟨_, rfl⟩
    rw [hfrm]
    have hTs := hrec.1
    unfold YieldI callX
    refine ⟨R0, i1, by rw [← hR0]; simp, ?_⟩
    have hRf : R0.fn = fn ∧ R0.tmps = T ∧ R0.params = #[13, 14] := by rw [← hR0]; exact ⟨rfl, rfl, rfl⟩
    have hRa := congrArg Loop.assign hR0
    have hRb := congrArg Loop.body hR0
    simp only at hRa hRb
    rw [← hRa, ← hRb, hRf.1, hRf.2.1, hRf.2.2]
    obtain ⟨_, q1, q2, q3, q4, _⟩ := hrec
    simp
    refine RoundI_of (by kernel_rfl) (by simpa [hTs] using q1) (by simpa [hTs] using q2) q3 q4 ?_
    generalize hE1 : (fun t => ((T.setIfInBounds 13 (Val.i frm)).setIfInBounds 14 (Val.i (frm + step))).getD t undef : Env) = E1
    have f13 : E1 13 = Val.i frm := by rw [← hE1]; simp [Array.getD_eq_getD_getElem?, Array.getElem?_setIfInBounds, hTs]
    have f14 : E1 14 = Val.i (frm + step) := by rw [← hE1]; simp [Array.getD_eq_getD_getElem?, Array.getElem?_setIfInBounds, hTs]
    have fx : ∀ t, t ≠ 13 → t ≠ 14 → E1 t = E0 t := fun t h1 h2 => by
      rw [← hT t, ← hE1]
      simp [Array.getD_eq_getD_getElem?, Array.getElem?_setIfInBounds, Ne.symm h1, Ne.symm h2]
    have f1 : E1 1 = ptr a := by rw [fx 1 (by decide) (by decide), e1]
    have f2 : E1 2 = ptr r := by rw [fx 2 (by decide) (by decide), e2]
    have f3 : E1 3 = ptr tb := by rw [fx 3 (by decide) (by decide), e3]
    clear hE1 fx hRa hRb
    simp [go_sem, f13, f14]
    refine ⟨R0, i1, hR0s, ?_⟩
    generalize hR2 : ({ state := .busy, pending := R0.pending, fn := R0.fn, tmps := R0.tmps, params := R0.params, assign := R0.assign, body := R0.body, defers := R0.defers } : Loop) = R2
    obtain ⟨s0, hs0⟩ : ∃ s0, upd s l (.other (.loop R2)) = s0 := ⟨_, rfl⟩
    rw [hs0]
    have tbn : tb ≠ l ∧ tb ≠ lc := ⟨(ne (k2 _ _ g1)).1, by rintro rfl; rw [hlc] at htb; cases htb⟩
    have an : a ≠ l := (ne (k2 _ _ ha1)).1
    have rn : r ≠ l := (ne (k2 _ _ (k1 _ _ hr))).1
    have mn : mc ≠ l := (ne (k2 _ _ (k1 _ _ hm))).1
    have hs0l : s0 l = some (.other (.loop R2)) := by rw [← hs0]; exact upd_same _ _ _
    have hs0j : ∀ j, j ≠ l → s0 j = s j := fun j hj => by rw [← hs0]; exact upd_ne _ _ hj
    have hs03 : ∀ j, j ≠ l → j ≠ lc → st3 j ≠ none → s0 j = st3 j := fun j h1 h2 h3 => (hs0j j h1).trans (i2 j h1 h2 h3)
    have hDd : Dom st3 s0 := by rw [← hs0]; exact i3.upd
    have hle := windowsN_le (start := start) (step := step) (n := n) (by omega)
    have hks : 0 ≤ (k : Int) * step := Int.mul_nonneg (by omega) (by omega)
    have hf0 : 0 ≤ frm := by omega
    have hf1 : frm + step ≤ 2 ^ 40 := by
      have := hle.2.2.2.2.2 k (by omega)
      omega
    have hf2 : 1 ≤ step := hle.1
    have hlas : ∀ {s' : Heap}, New s0 s' → ∀ j, j ≠ l → j ≠ lc → st3 j ≠ none → s' j = st3 j := fun hN j h1 h2 h3 => by
      have h4 := hs03 j h1 h2 h3
      obtain ⟨o, ho⟩ := Option.ne_none_iff_exists'.1 h3
      rw [ho] at h4 ⊢
      exact hN _ _ h4
    have hst : ∀ {s' : Heap}, New s0 s' → ∀ j, j ≠ lc → st j ≠ none → s' j = st j := fun hN j h1 h2 => by
      obtain ⟨o, ho⟩ := Option.ne_none_iff_exists'.1 h2
      have h3 := kk _ _ ho
      rw [hlas hN j (ne (k2 _ _ (k1 _ _ ho))).1 h1 (by rw [h3]; simp), h3, ho]
    obtain ⟨B, hB⟩ : ∃ B : Heap → Prop, B = fun s' => s' tb = some (.cells true [ear] 1 (.ty 1)) ∧ s' a = some (.cells true (cs ++ [Val.i start, Val.i step, Val.i n, k6, k7, k8]) 11 ga) ∧ s' r = some (.cells true [rv] 1 gr) := ⟨_, rfl⟩
    have hBn : ∀ {a b : Heap}, New a b → B a → B b := fun hN h => by rw [hB] at h ⊢; exact ⟨hN _ _ h.1, hN _ _ h.2.1, hN _ _ h.2.2⟩
    have hB0 : B s0 := by
      rw [hB]
      exact ⟨(hs03 _ tbn.1 tbn.2 (by rw [g3]; simp)).trans g3, (hs03 _ an hal (by rw [ha3]; simp)).trans ha3, (hs03 _ rn hrl (by rw [hr3]; simp)).trans hr3⟩
    have hEar : ∀ {s' : Heap}, New s0 s' → Ear st3 lc (ansL f start step k) k s' := fun hN => by
      obtain ⟨v, g, v1, v2, v3⟩ := i4
      refine ⟨v, g, hN _ _ ((hs0j _ (Ne.symm hllc)).trans v1), Vec.new' (v2.off fun b off n c hv => hs0j _ ?_) hN, v3⟩
      rintro rfl
      have := v3 _ _ _ _ hv
      rw [hl3] at this
      cases this
    have hmm : ∀ {s' : Heap}, New s0 s' → s' mc = some (.cells true [Val.i most] 1 gm) := fun hN => (hlas hN _ mn hml (by rw [hm3]; simp)).trans hm3
    obtain ⟨FN, hFN⟩ : ∃ FN : Heap → Prop, FN = fun s' => s' l = some (.other (.loop R2)) ∧ Same2 st3 l lc s' ∧ Dom st3 s' ∧ Ear st3 lc (ansL f start step (k + 1)) (k + 1) s' := ⟨_, rfl⟩
    have hans : ansL f start step (k + 1) = ansL f start step k ++ [Val.i frm, .bool (f frm).has, Val.u (f frm).val, Val.i (f frm).err] := by rw [ansL_succ, hfrm]; rfl
    have hlast : ∀ {done : List Nat} {s' s'' : Heap}, New s0 s' → Same1 st3 lc s' s'' → Dom s' s'' → Ear st3 lc (ansL f start step k ++ [Val.i frm, .bool (f frm).has, Val.u (f frm).val, Val.i (f frm).err]) (k + 1) s'' → GT B s0 FN (6 :: done) s'' := fun hN z1 z2 z3 => by
      rw [← hans] at z3
      have h1 : ∀ j, j ≠ l → j ≠ lc → st3 j ≠ none → _ = st3 j := fun j h1 h2 h3 => (z1 j h2 h3).trans (hlas hN j h1 h2 h3)
      refine ⟨?_, fun h => absurd (by simp) h, fun _ => ?_⟩
      · rw [hB]
        exact ⟨(h1 _ tbn.1 tbn.2 (by rw [g3]; simp)).trans g3, (h1 _ an hal (by rw [ha3]; simp)).trans ha3, (h1 _ rn hrl (by rw [hr3]; simp)).trans hr3⟩
      · rw [hFN]
        exact ⟨(z1 l hllc (by rw [hl3]; simp)).trans (hN _ _ hs0l), h1, (hDd.trans hN.dom).trans z2, z3⟩
    have hG0 : GT B s0 FN [] s0 := ⟨hB0, fun _ => New.refl _, fun h => absurd h (by simp)⟩
    refine drawG [0, 1, 2, 3, 4, 5, 6, 7] (fun i v => match i with
      | 0 => v = ear
      | 1 => v = .agg (cs ++ [Val.i start, Val.i step, Val.i n, k6, k7, k8]).toArray
      | 2 => v = rv
      | 3 => v = Val.i frm
      | 4 => v = Val.i (frm + step)
      | 5 => v = .agg ((f frm).cells frm).toArray
      | 6 => v = .bool (decide ((k : Int) + 1 < most))
      | 7 => v = .bool (!decide ((k : Int) + 1 < most))
      | _ => True) (GT B s0 FN) (by kernel_rfl) (by kernel_rfl) ?_ ?_ ?_ ?_
    · exact hG0
    · intro i oo hi done E sta hnd hG hdp hcl hd hE
      have hg := hG.base
      rw [hB] at hg
      obtain ⟨b1, b2, b3⟩ := hg
      match i with
      | 0 =>
        have x3 := hE 3 (oldB_spec (by kernel_rfl))
        injection hi with hi; subst hi
        simp [wantedE, go_sem, x3, f3, b1, b2, b3, hcs]
        exact hG.skip (by decide)
      | 1 =>
        have x1 := hE 1 (oldB_spec (by kernel_rfl))
        injection hi with hi; subst hi
        simp [wantedE, go_sem, x1, f1, b1, b2, b3, hcs]
        exact ⟨List.take_of_length_le (by simp [hcs]), hG.skip (by decide)⟩
      | 2 =>
        have x2 := hE 2 (oldB_spec (by kernel_rfl))
        injection hi with hi; subst hi
        simp [wantedE, go_sem, x2, f2, b1, b2, b3, hcs]
        exact hG.skip (by decide)
      | 3 =>
        have x4 := hE 4 (oldB_spec (by kernel_rfl))
        injection hi with hi; subst hi
        simp [wantedE, go_sem, x4, f13, b1, b2, b3, hcs]
        exact hG.skip (by decide)
      | 4 =>
        have x5 := hE 5 (oldB_spec (by kernel_rfl))
        injection hi with hi; subst hi
        simp [wantedE, go_sem, x5, f14, b1, b2, b3, hcs]
        exact hG.skip (by decide)
      | 5 =>
        injection hi with hi; subst hi
        have d1 := hd { on := 1, ground := .data } (by simp) (by decide) _ _ rfl rfl
        have d2 := hd { on := 2, ground := .data } (by simp) (by decide) _ _ rfl rfl
        have d3 := hd { on := 3, ground := .data } (by simp) (by decide) _ _ rfl rfl
        have d4 := hd { on := 4, ground := .data } (by simp) (by decide) _ _ rfl rfl
        simp only at d1 d2 d3 d4
        have n6 : 6 ∉ done := fun h => hnd (hcl 6 _ h rfl { on := 5, ground := .data } (by simp) (by decide))
        have hN := hG.pre n6
        simp [wantedE, go_sem, d1, d2, d3, d4, b1, b2, b3, hcs]
        refine ICalls.mono (by simpa using hwin sta (hst hN) frm hf0 hf1 hf2) ?_
        rintro e st' ⟨hN', rfl⟩
        exact ⟨rfl, ⟨hBn hN' hG.base, fun _ => hN.trans hN', fun h => absurd h (by simp [n6])⟩⟩
      | 6 =>
        injection hi with hi; subst hi
        have d0 := hd { on := 0, ground := .data } (by simp) (by decide) _ _ rfl rfl
        have d5 := hd { on := 5, ground := .data } (by simp) (by decide) _ _ rfl rfl
        simp only at d0 d5
        have hN := hG.pre hnd
        simp [wantedE, go_sem, d0, d5, b1, b2, b3, hcs]
        rw [← hear]
        simp [go_sem]
        refine ICalls.mono (by simpa [AnsD.cells] using told1_gen (st0 := st3) (x0 := Val.i frm) (x1 := .bool (f frm).has) (x2 := Val.u (f frm).val) (x3 := Val.i (f frm).err) hml (by simp [Value.oneCell']) (hEar hN) (by rw [hlc3]; simp) (by rw [hm3]; simp) (hmm hN) (hDd.trans hN.dom) (by omega)) ?_
        rintro e st' ⟨rfl, z1, z2, z3⟩
        exact ⟨rfl, hlast hN z1 z2 z3⟩
      | 7 =>
        injection hi with hi; subst hi
        have d6 := hd { on := 6, ground := .data } (by simp) (by decide) _ _ rfl rfl
        simp only at d6
        simp [wantedE, go_sem, d6, b1, b2, b3, hcs]
        exact hG.skip (by decide)
      | i + 8 => simp at hi
    · intro done E sta hall hG hd hE
      have d7 := hd 7 _ _ rfl rfl
      simp only at d7
      have hP := hG.post (hall 6 (by simp))
      rw [hFN] at hP
      obtain ⟨p1, p2, p3, p4⟩ := hP
      have hR2e : ∀ x y, ({ R2 with state := x, pending := y } : Loop) = { R0 with state := x, pending := y } := fun x y => by rw [← hR2]
      by_cases hgo : (k : Int) + 1 < most
      · have hgo' := eq_true hgo
        simp [go_sem, d7, hgo']
        refine ⟨R2, p1, ?_⟩
        rw [hR2e]
        have hR00 : ({ R0 with state := .ready, pending := none } : Loop) = R0 := by rw [← hR0]
        rw [hR00]
        refine hKt _ ⟨upd_same _ _ _, fun j h1 h2 h3 => by rw [upd_ne _ _ h1]; exact p2 j h1 h2 h3, p3.upd, ?_, by omega⟩
        obtain ⟨v, g, v1, v2, v3⟩ := p4
        refine ⟨v, g, by rw [upd_ne _ _ (Ne.symm hllc)]; exact v1, v2.off fun b off n c hv => upd_ne _ _ ?_, v3⟩
        rintro rfl
        have := v3 _ _ _ _ hv
        rw [hl3] at this
        cases this
      · have hgo' := eq_false hgo
        simp [go_sem, d7, hgo']
        refine ⟨R2, p1, ?_⟩
        rw [hR2e]
        refine hKf _ ⟨k, hk, by omega, upd_same _ _ _, fun j h1 h2 h3 => by rw [upd_ne _ _ h1]; exact p2 j h1 h2 h3, p3.upd, ?_⟩
        obtain ⟨v, g, v1, v2, v3⟩ := p4
        refine ⟨v, g, by rw [upd_ne _ _ (Ne.symm hllc)]; exact v1, v2.off fun b off n c hv => upd_ne _ _ ?_, v3⟩
        rintro rfl
        have := v3 _ _ _ _ hv
        rw [hl3] at this
        cases this
    · intro j oj hj
      match j with
      | 0 | 1 | 2 | 3 | 4 | 5 | 6 | 7 => simp at hj; subst hj; decide
      | j + 8 => simp at hj
  · rintro e st' ⟨rfl, ⟨i1, i2, i3, i4, i5⟩ | ⟨k, j1, j2, j3, j4, j5, j6⟩⟩
    · rw [hn'] at i4 i5
      have hmin : min n' most.toNat = n' := by omega
      rw [← hmin] at i4
      obtain ⟨R1, r1, r2, r3, r4, r5, r6, r7, r8⟩ := hF st' ⟨R0, by rw [hR0s]; simp, .inl hR0p, i1⟩ i2 i3 i4
      refine ⟨R1, r1, r2, ?_⟩
      obtain ⟨y1, y2, y3, y4, y5, y6, y7, y8⟩ := R1
      simp only at r3
      rcases r3 with rfl | rfl
      · refine ⟨r4, r5, ?_⟩
        simp [go_sem]
        exact ⟨r6, r7, r8⟩
      · simp only [if_true]
        refine ⟨r4, r5, ?_⟩
        simp [go_sem]
        exact ⟨r6, r7, r8⟩
    · have hmin : min n' most.toNat = k + 1 := by omega
      rw [← hmin] at j6
      obtain ⟨R1, r1, r2, r3, r4, r5, r6, r7, r8⟩ := hF st' ⟨{ R0 with state := .done, pending := some (.exit 0) }, by simp, .inr rfl, j3⟩ j4 j5 j6
      refine ⟨R1, r1, r2, ?_⟩
      obtain ⟨y1, y2, y3, y4, y5, y6, y7, y8⟩ := R1
      simp only at r3
      rcases r3 with rfl | rfl
      · refine ⟨r4, r5, ?_⟩
        simp [go_sem]
        exact ⟨r6, r7, r8⟩
      · simp only [if_true]
        refine ⟨r4, r5, ?_⟩
        simp [go_sem]
        exact ⟨r6, r7, r8⟩
end
end Go.Proofs.YtflbapmjdfnhhaaGreat
