/- A remainder from 0 on; bytes in new memory. -/
import Derived.Test.YtflbapmjdfnhhaaGreatCTab
import Derived.Test.YtflbapmjdfnhhaaGreatC09
import Derived.Test.YtflbapmjdfnhhaaGreatC37
import Derived.Test.YtflbapmjdfnhhaaGreatC38
set_option linter.unusedVariables false
set_option linter.unusedSimpArgs false
set_option maxRecDepth 100000
set_option maxHeartbeats 1000000
namespace Go.Proofs.YtflbapmjdfnhhaaGreat
open Go.RowKit (Below)
section
variable {W0 : World} {st : Heap}
theorem Place_spec {n k : Int} (hk : 0 < k) (hk2 : k < 2 ^ 40) : ICalls Tryz.prog W0 15 #[Val.i n, Val.i k] st fun e st' => (∃ m : Nat, (m : Int) < k ∧ e = .returned (Val.i m)) ∧ st' = st := by
  refine enter (args := [_, _]) Tryz.func15 rfl ?_
  have hk0 : ¬ k = 0 := by omega
  have h1 := Int.tmod_lt_of_pos n hk
  have h2 : -k < n.tmod k := by
    have := Int.lt_tmod_of_pos n hk
    omega
  have hw1 : IntKind.i64.wrap (n.tmod k) = n.tmod k := wrap_id (by omega) (by omega)
  by_cases hneg : n.tmod k < 0
  · have hw2 : IntKind.i64.wrap (n.tmod k + k) = n.tmod k + k := wrap_id (by omega) (by omega)
    simp [Tryz.f15, go_sem, hk0, hneg, hw1, hw2]
    refine ⟨(n.tmod k + k).toNat, by omega, by omega⟩
  · simp [Tryz.f15, go_sem, hk0, hneg, hw1]
    refine ⟨(n.tmod k).toNat, by omega, by omega⟩
end
end Go.Proofs.YtflbapmjdfnhhaaGreat
set_option linter.unusedVariables false
set_option linter.unusedSimpArgs false
set_option maxRecDepth 100000
set_option maxHeartbeats 1000000
namespace Go.Proofs.YtflbapmjdfnhhaaGreat
open Go.RowKit (Below)
structure GoodL (l : List Lab) : Prop where
  ck : checkL l = true
  len : l.length ≤ 8
  sizes : ∀ x ∈ l, x.1.size < 2 ^ 60 ∧ x.2.size < 2 ^ 60
section
variable {W0 : World} {st : Heap}
end
end Go.Proofs.YtflbapmjdfnhhaaGreat
set_option linter.unusedVariables false
set_option linter.unusedSimpArgs false
set_option maxRecDepth 100000
set_option maxHeartbeats 4000000
namespace Go.Proofs.YtflbapmjdfnhhaaGreat
open Go.RowKit (Below)
theorem niceZ : NiceM 12 matZ := by unfold matZ NiceM; simp
theorem checkZ : checkM matZ = true := by decide +kernel
section
variable {W0 : World} {st : Heap}
theorem queryParts_walk {rv : Value} {rows : List RowD} {at_ step : Int} (hrows : RowsAt st rv rows) (hlen : rows.length < 2 ^ 50) (hok : ∀ r ∈ rows, RowOK r) (bat : -2 ^ 63 ≤ at_ ∧ at_ < 2 ^ 63) (bstep : -2 ^ 63 ≤ step ∧ step < 2 ^ 63) :
    ICalls Tryz.prog W0 7 #[rv, Val.i at_, Val.i step] st fun e st' => e = .returned (.bool true) := by
  obtain ⟨rb, rc, rfl⟩ := hrows.slice
  have awake : ∀ (sta : Heap) {K : Ending → Heap → Prop}, (∀ st', K (.returned (.bool true)) st') → ICalls Tryz.prog W0 10 #[] sta K := fun sta K hK => awake23_spec.mono fun e st' h => by rw [h.1]; exact hK st'
  refine enter (args := [_, _, _]) Tryz.func7 rfl ?_
  iterate 3 refine IW_assoc ?_
  refine IW_cut' (fun E' st' => ∃ (tb k : Nat) (w : Int), rows.length ≤ 30 ∧ k ≤ rows.length ∧ 1 ≤ w ∧ w ≤ 1073741824 ∧ New st st' ∧ E' 0 = .slice rb rows.length rc ∧ E' 7 = ptr tb ∧ E' 8 = Val.i k ∧ st' tb = some (.cells true (cellsZ ++ (AskD.tail ⟨matZ, 0, w, 1, 1, 0, 0⟩)) 11 (.ty 1))) ?_ ?_
  · by_cases c30 : 30 < rows.length
    · have t30 : ((30 : Int) < rows.length) = True := eq_true (by omega)
      simp [go_sem, t30, c30]
      refine awake _ fun st' => ?_
      simp [go_sem]
    have t30 : ((30 : Int) < rows.length) = False := eq_false (by omega)
    simp [go_sem, t30, c30]
    refine (Place_spec (k := 1073741824) (by omega) (by omega)).mono ?_
    rintro e st1 ⟨⟨m, hm, rfl⟩, rfl⟩
    obtain ⟨w, hw⟩ : ∃ w : Int, (m : Int) + 1 = w := ⟨_, rfl⟩
    have hww : IntKind.i64.wrap (1 + (m : Int)) = w := by rw [← hw, Int.add_comm]; exact wrap_id (by omega) (by omega)
    have hwl : IntKind.i64.wrap ((rows.length : Int) + 1) = (rows.length : Int) + 1 := wrap_id (by omega) (by omega)
    simp [go_sem, hww, hwl]
    unfold NewP
    intro tb htb
    refine ⟨.ty 1, ?_⟩
    have k1 := (New.refl st1).put (o := .cells true (cellsZ ++ (AskD.tail ⟨matZ, 0, w, 1, 1, 0, 0⟩)) 11 (.ty 1)) htb
    simp [go_sem, hwl]
    refine (Place_spec (k := (rows.length : Int) + 1) (by omega) (by omega)).mono ?_
    rintro e st2 ⟨⟨k, hk, rfl⟩, rfl⟩
    simp [go_sem]
    exact ⟨by omega, tb, k, by omega, w, by omega, by omega, k1, rfl, rfl, upd_same _ _ _⟩
  rintro E st1 ⟨tb, k, w, hl30, hk, hw0, hw1, hk1, e0, e7, e8, g7⟩
  obtain ⟨q, hq⟩ : ∃ q : AskD, q = ⟨matZ, 0, w, 1, 1, 0, 0⟩ := ⟨_, rfl⟩
  rw [← hq] at g7
  have hqm : q.m = matZ := by rw [hq]
  have hqk : q.kind = 1 := by rw [hq]
  have hqs : q.start = 0 := by rw [hq]
  have aok : AskOK q := by rw [hq]; exact ⟨by dsimp only; omega, by dsimp only; omega, by dsimp only; omega, by dsimp only; omega, by dsimp only; omega⟩
  have hqw : windowsN q.start q.step q.n = 1 := by
    rw [hq]
    unfold windowsN
    dsimp only
    have hdv : 1 ≤ (1099511627776 - 0) / w := (Int.le_ediv_iff_mul_le (by omega)).2 (by omega)
    rw [if_neg (by omega)]
    rfl
  obtain ⟨ka, hka⟩ : ∃ ka, cellsZ ++ q.tail = ka := ⟨_, rfl⟩
  have hkl : ka.length = 11 := by rw [← hka]; rfl
  have htka : ka.take 11 = ka := List.take_of_length_le (by omega)
  rw [hka] at g7
  have hcap : rows.length ≤ rc := by
    obtain ⟨ys, ⟨g, hg, hr⟩, _⟩ := hrows
    exact hr.cap
  have hok5 : ∀ r ∈ rows.take k, RowOK r := fun r hr => hok r (List.mem_of_mem_take hr)
  have hok6 : ∀ r ∈ rows.drop k, RowOK r := fun r hr => hok r (List.mem_of_mem_drop hr)
  have hok7 := hok
  clear hq
  refine IW_cut (fun E' st' => New st st' ∧ E' 0 = .slice rb rows.length rc ∧ E' 7 = ptr tb ∧ E' 8 = Val.i k ∧ st' tb = some (.cells true ka 11 (.ty 1)) ∧ ToldAt st' (E' 9) (ansOf q ((rows.take k).filter (keepR (evalM matZ))) q.step) q.start q.step 1) ?_ ?_
  · simp [go_sem]
    refine drawV [0, 1, 2, 3, 4, 5, 6, 7] (fun i v st' => match i with
      | 0 => v = .agg ka.toArray
      | 1 => v = .slice rb rows.length rc
      | 2 => v = Val.i k
      | 3 | 4 => RowsAt st' v (rows.take k)
      | 5 => AnsFn st' v cellsZ q ((rows.take k).filter (keepR (evalM matZ)))
      | 6 | 7 => ToldAt st' v (ansOf q ((rows.take k).filter (keepR (evalM matZ))) q.step) q.start q.step 1
      | _ => True) (by kernel_rfl) (by kernel_rfl) ?_ ?_ ?_ ?_
    · intro i v sta stb hNw h
      match i with
      | 3 => exact h.new hNw
      | 4 => exact h.new hNw
      | 5 => exact h.new hNw
      | 6 => exact h.new hNw
      | 7 => exact h.new hNw
      | 0 => exact h
      | 1 => exact h
      | 2 => exact h
      | i + 8 => exact h
    · intro i oo hi E sta hNw hd hE
      have ta := hNw _ _ g7
      have hro := hrows.new (hk1.trans hNw)
      match i with
      | 0 =>
        have x7 := hE 7 (oldB_spec (by kernel_rfl))
        injection hi with hi; subst hi
        simp [wantedE, go_sem, x7, e7, ta, hkl, htka]
        exact New.refl _
      | 1 =>
        have x0 := hE 0 (oldB_spec (by kernel_rfl))
        injection hi with hi; subst hi
        simp [wantedE, go_sem, x0, e0, ta, hkl, htka]
        exact New.refl _
      | 2 =>
        have x8 := hE 8 (oldB_spec (by kernel_rfl))
        injection hi with hi; subst hi
        simp [wantedE, go_sem, x8, e8, ta, hkl, htka]
        exact New.refl _
      | 3 =>
        injection hi with hi; subst hi
        have d1 := hd { on := 1, ground := .data } (by simp) (by decide) _ _ rfl rfl
        have d2 := hd { on := 2, ground := .data } (by simp) (by decide) _ _ rfl rfl
        simp only at d1 d2
        have hkc : k ≤ rc := by omega
        have hki : (k : Int) ≤ rows.length := by omega
        have hkn : k ≤ rows.length := hk
        simp [wantedE, go_sem, d1, d2, ta, hkl, htka]
        exact ⟨hkc, New.refl _, RowsAt.take hro rfl hk (fun _ => rfl) hkc⟩
      | 4 =>
        injection hi with hi; subst hi
        have d3 := hd { on := 3, ground := .data } (by simp) (by decide) _ _ rfl rfl
        simp only at d3
        simp [wantedE, go_sem, d3, ta, hkl, htka]
        refine (Rows_copy d3 (by simp; omega) hok5).mono ?_
        rintro e s4 ⟨w4, rfl, hw4, n4⟩
        simp [go_sem]
        exact ⟨n4, hw4⟩
      | 5 =>
        injection hi with hi; subst hi
        have d0 := hd { on := 0, ground := .data } (by simp) (by decide) _ _ rfl rfl
        have d4 := hd { on := 4, ground := .data } (by simp) (by decide) _ _ rfl rfl
        simp only at d0 d4
        simp [wantedE, go_sem, d0, d4, ta, hkl, htka]
        rw [← hka]
        refine (answers_made (q := q) (ms := cellsZ) (by rw [hqm]; exact matZ_at) (by rw [hqm]; exact niceZ) (by rw [hqm]; exact checkZ) d4 (by simp; omega) hok5).mono ?_
        rintro e s5 ⟨w5, rfl, hw5, n5⟩
        rw [hqm] at hw5
        simp [go_sem]
        exact ⟨n5, hw5⟩
      | 6 =>
        injection hi with hi; subst hi
        have d5 := hd { on := 5, ground := .data } (by simp) (by decide) _ _ rfl rfl
        simp only at d5
        simp [wantedE, go_sem, d5, ta, hkl, htka]
        refine (told_made (q := q) (most := 2) d5 rfl aok (by have := List.length_filter_le (keepR (evalM matZ)) (rows.take k); simp at this; omega) (fun r hr => hok5 r (List.mem_filter.1 hr).1) keepR_check (by omega) (by rw [hqw]; omega)).mono ?_
        rintro e s6 ⟨w6, rfl, hw6, n6⟩
        rw [hqw] at hw6
        simp [go_sem]
        exact ⟨n6, hw6⟩
      | 7 =>
        injection hi with hi; subst hi
        have d6 := hd { on := 6, ground := .data } (by simp) (by decide) _ _ rfl rfl
        simp only at d6
        simp [wantedE, go_sem, d6, ta, hkl, htka]
        exact New.refl _
      | i + 8 => simp at hi
    · intro E sta hNw hd hE
      have d7 := hd 7 _ 9 rfl rfl
      simp only at d7
      have y0 := hE 0 (noB_spec (by kernel_rfl))
      have y7 := hE 7 (noB_spec (by kernel_rfl))
      have y8 := hE 8 (noB_spec (by kernel_rfl))
      simp [y0, e0, y7, e7, y8, e8]
      exact ⟨hk1.trans hNw, hNw _ _ g7, d7⟩
    · intro j oj hj
      match j with
      | 0 | 1 | 2 | 3 | 4 | 5 | 6 | 7 => simp at hj; subst hj; decide
      | j + 8 => simp at hj
  clear e0 e7 e8 g7 hk1
  rintro E st2 ⟨hk1, e0, e7, e8, g7, h9⟩
  refine IW_cut (fun E' st' => New st st' ∧ E' 0 = .slice rb rows.length rc ∧ E' 7 = ptr tb ∧ E' 8 = Val.i k ∧ st' tb = some (.cells true ka 11 (.ty 1)) ∧ ToldAt st' (E' 9) (ansOf q ((rows.take k).filter (keepR (evalM matZ))) q.step) q.start q.step 1 ∧ ToldAt st' (E' 10) (ansOf q ((rows.drop k).filter (keepR (evalM matZ))) q.step) q.start q.step 1) ?_ ?_
  · simp [go_sem]
    refine drawV [0, 1, 2, 3, 4, 5, 6, 7] (fun i v st' => match i with
      | 0 => v = .agg ka.toArray
      | 1 => v = .slice rb rows.length rc
      | 2 => v = Val.i k
      | 3 | 4 => RowsAt st' v (rows.drop k)
      | 5 => AnsFn st' v cellsZ q ((rows.drop k).filter (keepR (evalM matZ)))
      | 6 | 7 => ToldAt st' v (ansOf q ((rows.drop k).filter (keepR (evalM matZ))) q.step) q.start q.step 1
      | _ => True) (by kernel_rfl) (by kernel_rfl) ?_ ?_ ?_ ?_
    · intro i v sta stb hNw h
      match i with
      | 3 => exact h.new hNw
      | 4 => exact h.new hNw
      | 5 => exact h.new hNw
      | 6 => exact h.new hNw
      | 7 => exact h.new hNw
      | 0 => exact h
      | 1 => exact h
      | 2 => exact h
      | i + 8 => exact h
    · intro i oo hi E sta hNw hd hE
      have ta := hNw _ _ g7
      have hro := hrows.new (hk1.trans hNw)
      match i with
      | 0 =>
        have x7 := hE 7 (oldB_spec (by kernel_rfl))
        injection hi with hi; subst hi
        simp [wantedE, go_sem, x7, e7, ta, hkl, htka]
        exact New.refl _
      | 1 =>
        have x0 := hE 0 (oldB_spec (by kernel_rfl))
        injection hi with hi; subst hi
        simp [wantedE, go_sem, x0, e0, ta, hkl, htka]
        exact New.refl _
      | 2 =>
        have x8 := hE 8 (oldB_spec (by kernel_rfl))
        injection hi with hi; subst hi
        simp [wantedE, go_sem, x8, e8, ta, hkl, htka]
        exact New.refl _
      | 3 =>
        injection hi with hi; subst hi
        have d1 := hd { on := 1, ground := .data } (by simp) (by decide) _ _ rfl rfl
        have d2 := hd { on := 2, ground := .data } (by simp) (by decide) _ _ rfl rfl
        simp only at d1 d2
        have hkc : k ≤ rc := by omega
        have hki : (k : Int) ≤ rows.length := by omega
        have hkn : k ≤ rows.length := hk
        simp [wantedE, go_sem, d1, d2, ta, hkl, htka]
        exact ⟨hk, New.refl _, RowsAt.drop hro rfl hk rfl (fun h0 => by rw [if_neg (by omega)]) (by omega)⟩
      | 4 =>
        injection hi with hi; subst hi
        have d3 := hd { on := 3, ground := .data } (by simp) (by decide) _ _ rfl rfl
        simp only at d3
        simp [wantedE, go_sem, d3, ta, hkl, htka]
        refine (Rows_copy d3 (by simp; omega) hok6).mono ?_
        rintro e s4 ⟨w4, rfl, hw4, n4⟩
        simp [go_sem]
        exact ⟨n4, hw4⟩
      | 5 =>
        injection hi with hi; subst hi
        have d0 := hd { on := 0, ground := .data } (by simp) (by decide) _ _ rfl rfl
        have d4 := hd { on := 4, ground := .data } (by simp) (by decide) _ _ rfl rfl
        simp only at d0 d4
        simp [wantedE, go_sem, d0, d4, ta, hkl, htka]
        rw [← hka]
        refine (answers_made (q := q) (ms := cellsZ) (by rw [hqm]; exact matZ_at) (by rw [hqm]; exact niceZ) (by rw [hqm]; exact checkZ) d4 (by simp; omega) hok6).mono ?_
        rintro e s5 ⟨w5, rfl, hw5, n5⟩
        rw [hqm] at hw5
        simp [go_sem]
        exact ⟨n5, hw5⟩
      | 6 =>
        injection hi with hi; subst hi
        have d5 := hd { on := 5, ground := .data } (by simp) (by decide) _ _ rfl rfl
        simp only at d5
        simp [wantedE, go_sem, d5, ta, hkl, htka]
        refine (told_made (q := q) (most := 2) d5 rfl aok (by have := List.length_filter_le (keepR (evalM matZ)) (rows.drop k); simp at this; omega) (fun r hr => hok6 r (List.mem_filter.1 hr).1) keepR_check (by omega) (by rw [hqw]; omega)).mono ?_
        rintro e s6 ⟨w6, rfl, hw6, n6⟩
        rw [hqw] at hw6
        simp [go_sem]
        exact ⟨n6, hw6⟩
      | 7 =>
        injection hi with hi; subst hi
        have d6 := hd { on := 6, ground := .data } (by simp) (by decide) _ _ rfl rfl
        simp only at d6
        simp [wantedE, go_sem, d6, ta, hkl, htka]
        exact New.refl _
      | i + 8 => simp at hi
    · intro E sta hNw hd hE
      have d7 := hd 7 _ 10 rfl rfl
      simp only at d7
      have y0 := hE 0 (noB_spec (by kernel_rfl))
      have y7 := hE 7 (noB_spec (by kernel_rfl))
      have y8 := hE 8 (noB_spec (by kernel_rfl))
      have y9 := hE 9 (noB_spec (by kernel_rfl))
      simp [y0, e0, y7, e7, y8, e8, y9]
      exact ⟨hk1.trans hNw, hNw _ _ g7, h9.new hNw, d7⟩
    · intro j oj hj
      match j with
      | 0 | 1 | 2 | 3 | 4 | 5 | 6 | 7 => simp at hj; subst hj; decide
      | j + 8 => simp at hj
  clear e0 e7 e8 g7 hk1
  obtain ⟨v9, h9'⟩ : ∃ v, E 9 = v := ⟨_, rfl⟩
  clear h9' v9 h9
  rintro E st3 ⟨hk1, e0, e7, e8, g7, h9, h10⟩
  refine IW_cut (fun E' st' => New st st' ∧ E' 0 = .slice rb rows.length rc ∧ E' 7 = ptr tb ∧ E' 8 = Val.i k ∧ st' tb = some (.cells true ka 11 (.ty 1)) ∧ ToldAt st' (E' 9) (ansOf q ((rows.take k).filter (keepR (evalM matZ))) q.step) q.start q.step 1 ∧ ToldAt st' (E' 10) (ansOf q ((rows.drop k).filter (keepR (evalM matZ))) q.step) q.start q.step 1 ∧ ToldAt st' (E' 11) (ansOf q (rows.filter (keepR (evalM matZ))) q.step) q.start q.step 1) ?_ ?_
  · simp [go_sem]
    refine drawV [0, 1, 2, 3, 4, 5] (fun i v st' => match i with
      | 0 => v = .agg ka.toArray
      | 1 => v = .slice rb rows.length rc
      | 2 => RowsAt st' v rows
      | 3 => AnsFn st' v cellsZ q (rows.filter (keepR (evalM matZ)))
      | 4 | 5 => ToldAt st' v (ansOf q (rows.filter (keepR (evalM matZ))) q.step) q.start q.step 1
      | _ => True) (by kernel_rfl) (by kernel_rfl) ?_ ?_ ?_ ?_
    · intro i v sta stb hNw h
      match i with
      | 2 => exact h.new hNw
      | 3 => exact h.new hNw
      | 4 => exact h.new hNw
      | 5 => exact h.new hNw
      | 0 => exact h
      | 1 => exact h
      | i + 6 => exact h
    · intro i oo hi E sta hNw hd hE
      have ta := hNw _ _ g7
      have hro := hrows.new (hk1.trans hNw)
      match i with
      | 0 =>
        have x7 := hE 7 (oldB_spec (by kernel_rfl))
        injection hi with hi; subst hi
        simp [wantedE, go_sem, x7, e7, ta, hkl, htka]
        exact New.refl _
      | 1 =>
        have x0 := hE 0 (oldB_spec (by kernel_rfl))
        injection hi with hi; subst hi
        simp [wantedE, go_sem, x0, e0, ta, hkl, htka]
        exact New.refl _
      | 2 =>
        injection hi with hi; subst hi
        have d1 := hd { on := 1, ground := .data } (by simp) (by decide) _ _ rfl rfl
        simp only at d1
        simp [wantedE, go_sem, d1, ta, hkl, htka]
        refine (Rows_copy hro (by omega) hok7).mono ?_
        rintro e s4 ⟨w4, rfl, hw4, n4⟩
        simp [go_sem]
        exact ⟨n4, hw4⟩
      | 3 =>
        injection hi with hi; subst hi
        have d0 := hd { on := 0, ground := .data } (by simp) (by decide) _ _ rfl rfl
        have d2 := hd { on := 2, ground := .data } (by simp) (by decide) _ _ rfl rfl
        simp only at d0 d2
        simp [wantedE, go_sem, d0, d2, ta, hkl, htka]
        rw [← hka]
        refine (answers_made (q := q) (ms := cellsZ) (by rw [hqm]; exact matZ_at) (by rw [hqm]; exact niceZ) (by rw [hqm]; exact checkZ) d2 (by omega) hok7).mono ?_
        rintro e s5 ⟨w5, rfl, hw5, n5⟩
        rw [hqm] at hw5
        simp [go_sem]
        exact ⟨n5, hw5⟩
      | 4 =>
        injection hi with hi; subst hi
        have d3 := hd { on := 3, ground := .data } (by simp) (by decide) _ _ rfl rfl
        simp only at d3
        simp [wantedE, go_sem, d3, ta, hkl, htka]
        refine (told_made (q := q) (most := 2) d3 rfl aok (by have := List.length_filter_le (keepR (evalM matZ)) rows; omega) (fun r hr => hok7 r (List.mem_filter.1 hr).1) keepR_check (by omega) (by rw [hqw]; omega)).mono ?_
        rintro e s6 ⟨w6, rfl, hw6, n6⟩
        rw [hqw] at hw6
        simp [go_sem]
        exact ⟨n6, hw6⟩
      | 5 =>
        injection hi with hi; subst hi
        have d4 := hd { on := 4, ground := .data } (by simp) (by decide) _ _ rfl rfl
        simp only at d4
        simp [wantedE, go_sem, d4, ta, hkl, htka]
        exact New.refl _
      | i + 6 => simp at hi
    · intro E sta hNw hd hE
      have d5 := hd 5 _ 11 rfl rfl
      simp only at d5
      have y0 := hE 0 (noB_spec (by kernel_rfl))
      have y7 := hE 7 (noB_spec (by kernel_rfl))
      have y8 := hE 8 (noB_spec (by kernel_rfl))
      have y9 := hE 9 (noB_spec (by kernel_rfl))
      have y10 := hE 10 (noB_spec (by kernel_rfl))
      simp [y0, e0, y7, e7, y8, e8, y9, y10]
      exact ⟨hk1.trans hNw, hNw _ _ g7, h9.new hNw, h10.new hNw, d5⟩
    · intro j oj hj
      match j with
      | 0 | 1 | 2 | 3 | 4 | 5 => simp at hj; subst hj; decide
      | j + 6 => simp at hj
  clear e0 e7 e8 g7 hk1 h9 h10
  rintro E s ⟨hk1, e0, e7, e8, g7, h9, h10, h11⟩
  clear e0 e7 e8 g7 hk1
  obtain ⟨L, hL⟩ : ∃ L, rows.filter (keepR (evalM matZ)) = L := ⟨_, rfl⟩
  obtain ⟨L1, hL1⟩ : ∃ L, (rows.take k).filter (keepR (evalM matZ)) = L := ⟨_, rfl⟩
  obtain ⟨L2, hL2⟩ : ∃ L, (rows.drop k).filter (keepR (evalM matZ)) = L := ⟨_, rfl⟩
  have hcat : L = L1 ++ L2 := by rw [← hL, ← hL1, ← hL2, ← List.filter_append, List.take_append_drop]
  have hck1 : ∀ r ∈ L1, checkS r.s = true := by rw [← hL1]; exact keepR_check
  have hck2 : ∀ r ∈ L2, checkS r.s = true := by rw [← hL2]; exact keepR_check
  have hck : ∀ r ∈ L, checkS r.s = true := by rw [← hL]; exact keepR_check
  rw [hL] at h11
  rw [hL1] at h9
  rw [hL2] at h10
  have ans : ∀ {l : List RowD}, (∀ r ∈ l, checkS r.s = true) → ansOf q l q.step 0 = if 2 ^ 64 - 1 ≤ totL (winL l 0 (0 + q.step)) then ⟨false, 0, 11⟩ else ⟨true, totL (winL l 0 (0 + q.step)), 0⟩ := fun h => by
    unfold ansOf
    rw [hqk]
    exact oneM_count (winL_check h _ _)
  obtain ⟨b1, c1, m1, e9, hb1, -, -, -, x11, x12, x13⟩ := h9.get (i := 0) (by omega)
  obtain ⟨b2, c2, m2, e10, hb2, -, -, -, x21, x22, x23⟩ := h10.get (i := 0) (by omega)
  obtain ⟨b3, c3, m3, e11, hb3, -, -, -, x31, x32, x33⟩ := h11.get (i := 0) (by omega)
  have hz : q.start + ((0 : Nat) : Int) * q.step = 0 := by rw [hqs]; simp
  rw [hz] at x11 x12 x13 x21 x22 x23 x31 x32 x33
  rw [ans hck1] at x11 x12 x13
  rw [ans hck2] at x21 x22 x23
  rw [ans hck] at x31 x32 x33
  have ht : totL (winL L 0 (0 + q.step)) = totL (winL L1 0 (0 + q.step)) + totL (winL L2 0 (0 + q.step)) := by rw [hcat, winL_append, totL_append]
  rw [ht] at x31 x32 x33
  simp only [Nat.zero_mul, Nat.zero_add] at x11 x12 x13 x21 x22 x23 x31 x32 x33
  generalize totL (winL L1 0 (0 + q.step)) = t1 at *
  generalize totL (winL L2 0 (0 + q.step)) = t2 at *
  generalize ansL (ansOf q L1 q.step) q.start q.step 1 = A1 at *
  generalize ansL (ansOf q L2 q.step) q.start q.step 1 = A2 at *
  generalize ansL (ansOf q L q.step) q.start q.step 1 = A3 at *
  clear h9 h10 h11 ans ht hcat hck hck1 hck2 hL hL1 hL2
  simp [go_sem, e9, e10, e11]
  refine draw [0, 1, 2, 3, 4, 5, 6, 7, 8, 9, 10, 11, 12, 13, 14, 15, 17, 18, 19, 16, 20, 21, 22, 23] (by kernel_rfl) ?_
  have fin : ∀ (P : Prop), P → P := fun _ h => h
  by_cases s1 : 2 ^ 64 - 1 ≤ t1
  · rw [if_pos s1] at x11 x12 x13
    rw [if_pos (by omega)] at x31 x32 x33
    simp [go_sem, e9, e10, e11, hb1, hb2, hb3, x11, x12, x13, x31, x32, x33]
    refine awake _ fun st' => ?_
    simp [go_sem]
  by_cases s2 : 2 ^ 64 - 1 ≤ t2
  · rw [if_neg s1] at x11 x12 x13
    rw [if_pos s2] at x21 x22 x23
    rw [if_pos (by omega)] at x31 x32 x33
    simp [go_sem, e9, e10, e11, hb1, hb2, hb3, x11, x12, x13, x21, x22, x23, x31, x32, x33]
    refine awake _ fun st' => ?_
    simp [go_sem]
  rw [if_neg s1] at x11 x12 x13
  rw [if_neg s2] at x21 x22 x23
  have hwu : IntKind.u64.wrap (18446744073709551615 - (t2 : Int)) = 18446744073709551615 - (t2 : Int) := wraps_u64 _ (by omega) (by omega)
  by_cases s3 : 2 ^ 64 - 1 ≤ t1 + t2
  · rw [if_pos s3] at x31 x32 x33
    have q3 : (18446744073709551615 - (t2 : Int) ≤ (t1 : Int)) = True := eq_true (by omega)
    simp [go_sem, e9, e10, e11, hb1, hb2, hb3, x11, x12, x13, x21, x22, x23, x31, x32, x33, hwu, q3]
    refine awake _ fun st' => ?_
    simp [go_sem]
  · rw [if_neg s3] at x31 x32 x33
    have q3 : (18446744073709551615 - (t2 : Int) ≤ (t1 : Int)) = False := eq_false (by omega)
    have hwa : IntKind.u64.wrap ((t1 : Int) + (t2 : Int)) = (t1 : Int) + (t2 : Int) := wraps_u64 _ (by omega) (by omega)
    simp [go_sem, e9, e10, e11, hb1, hb2, hb3, x11, x12, x13, x21, x22, x23, x31, x32, x33, hwu, q3]
    refine draw [0, 1, 2, 3, 4, 5, 6, 7, 9, 10, 11, 13, 14, 15, 8, 12, 16, 17, 18, 19, 20, 21, 22, 23] (by kernel_rfl) ?_
    simp [go_sem, e9, e10, e11, hb1, hb2, hb3, x11, x12, x13, x21, x22, x23, x31, x32, x33, hwa]
    refine awake _ fun st' => ?_
    simp [go_sem]
end
end Go.Proofs.YtflbapmjdfnhhaaGreat
