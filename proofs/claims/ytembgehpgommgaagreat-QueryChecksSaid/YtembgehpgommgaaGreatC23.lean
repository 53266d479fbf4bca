/- May a question be asked: the document's answer. -/
import Derived.Test.YtembgehpgommgaaGreatC22
import Derived.Test.YtembgehpgommgaaGreatC18
import Derived.Test.YtembgehpgommgaaGreatC10
import Derived.Test.YtembgehpgommgaaGreatC20
set_option linter.unusedVariables false
set_option linter.unusedSimpArgs false
set_option maxRecDepth 100000
set_option maxHeartbeats 4000000
namespace Go.Proofs.YtembgehpgommgaaGreat
open Go.RowKit (Below)
section
variable {W0 : World} {st : Heap}
theorem refQuery_spec {slack k0 k1 k2 k3 now start step n kind a b : Int} {cs : List Value} {m : Mat} (hs : start < 9223372036854775808) (hN0 : NiceM 12 m) (hm : MatAt st cs m) (h0 : 0 ≤ now) (h1 : now ≤ 2 ^ 40) (hk : ∀ k ∈ [k0, k1, k2, k3], 1 ≤ k ∧ k ≤ 100000) :
    ICalls Tryz.prog W0 16 #[.agg #[Val.i slack, Val.i k0, Val.i k1, Val.i k2, Val.i k3], Val.i now, .agg (cs ++ [Val.i start, Val.i step, Val.i n, Val.i kind, Val.u a, Val.u b]).toArray] st fun e st' => e = .returned (Val.i (queryM (checkM m) kind start step n a b now k0 k1 k2 k3)) ∧ New st st' := by
  generalize hRES : queryM (checkM m) kind start step n a b now k0 k1 k2 k3 = RES
  unfold queryM at hRES
  match m with
  | .mk op name value vals kids =>
  have hm0 := hm
  unfold MatAt at hm
  obtain ⟨vv, kv, ks, rfl, hv, hk', hkids⟩ := hm
  obtain ⟨vb, vc, rfl⟩ := hv.slice
  obtain ⟨kb, kc, rfl⟩ := hk'.slice
  refine enter (args := [_, _, _]) Tryz.func16 rfl ?_
  refine IW_cut (fun E' st' => ∃ tc ta, New st st' ∧ E' 1 = Val.i now ∧ E' 3 = ptr tc ∧ E' 5 = ptr ta ∧ st' tc = some (.cells true [Val.i slack, Val.i k0, Val.i k1, Val.i k2, Val.i k3] 5 (.ty 0)) ∧
    st' ta = some (.cells true [Val.i op, .string name, .string value, .slice vb vals.length vc, .slice kb kids.length kc, Val.i start, Val.i step, Val.i n, Val.i kind, Val.u a, Val.u b] 11 (.ty 0))) ?_ ?_
  · simp [go_sem]
    unfold NewP
    intro tc htc
    refine ⟨.ty 0, ?_⟩
    simp [go_sem]
    unfold NewP
    intro ta hta
    refine ⟨.ty 0, ?_⟩
    have hne : tc ≠ ta := by
      rintro rfl
      rw [upd_same] at hta
      cases hta
    simp [go_sem, hne]
    exact ((New.refl _).add htc).add hta
  rintro E1 st1 ⟨tc, ta, hk1, e1, e3, e5, htc, hta⟩
  refine IW_cut' (fun E' st' => (¬ askBadM (checkM (.mk op name value vals kids)) kind start step n a b) ∧ New st st' ∧ E' 1 = Val.i now ∧ E' 3 = ptr tc ∧ E' 5 = ptr ta ∧ st' tc = some (.cells true [Val.i slack, Val.i k0, Val.i k1, Val.i k2, Val.i k3] 5 (.ty 0)) ∧ st' ta = some (.cells true [Val.i op, .string name, .string value, .slice vb vals.length vc, .slice kb kids.length kc, Val.i start, Val.i step, Val.i n, Val.i kind, Val.u a, Val.u b] 11 (.ty 0))) ?_ ?_
  · simp [go_sem, e1, e3, e5, hta]
    refine (refCheck_spec hN0 (Nat.le_refl 12) (hm0.new hk1)).mono ?_
    rintro e st2 ⟨rfl, hk2⟩
    have htc2 := hk2 _ _ htc
    have hta2 := hk2 _ _ hta
    have hk3 := hk1.trans hk2
    have hbad : askBadM (checkM (.mk op name value vals kids)) kind start step n a b → RES = 5 := fun h => by rw [← hRES, if_pos h]
    have hgood : ¬ askBadM (checkM (.mk op name value vals kids)) kind start step n a b → (if askBigM start step n then (10 : Int) else if start < horizonM now ([k0, k1, k2, k3].getD (bestM start step 4) 0) then 9 else 0) = RES := fun h => by rw [← hRES, if_neg h]
    clear hRES
    unfold askBadM at hbad hgood
    cases hmok : checkM (.mk op name value vals kids) with
    | false =>
      have := hbad (.inl hmok)
      subst this
      simp [go_sem, e1, e3, e5, hta2]
      exact hk3
    | true =>
    by_cases c1 : kind < 1
    · have q1 := eq_true c1
      have := hbad (by omega)
      subst this
      simp [go_sem, e1, e3, e5, hta2, q1]
      exact hk3
    have q1 := eq_false c1
    by_cases c2 : 6 < kind
    · have q2 := eq_true c2
      have := hbad (by omega)
      subst this
      simp [go_sem, e1, e3, e5, hta2, q1, q2]
      exact hk3
    have q2 := eq_false c2
    have hab : (kind = 2 ∧ (b = 0 ∨ b < a)) ∨ ((kind = 2) = False) ∨ ((kind = 2) = True ∧ (b = 0) = False ∧ (b < a) = False) := by
      by_cases x : kind = 2
      · by_cases y : b = 0 ∨ b < a
        · exact .inl ⟨x, y⟩
        · exact .inr (.inr ⟨eq_true x, eq_false (fun h => y (.inl h)), eq_false (fun h => y (.inr h))⟩)
      · exact .inr (.inl (eq_false x))
    rcases hab with ⟨x, y⟩ | qk | ⟨qk, qb, qa⟩
    · have qk := eq_true x
      have := hbad (by omega)
      subst this
      by_cases y0 : b = 0
      · have qb := eq_true y0
        simp [go_sem, e1, e3, e5, hta2, q1, q2, qk, qb]
        exact hk3
      · have qb := eq_false y0
        have qa : (b < a) = True := eq_true (by omega)
        simp [go_sem, e1, e3, e5, hta2, q1, q2, qk, qb, qa]
        exact hk3
    · have hx : kind ≠ 2 := of_eq_false qk
      by_cases c3 : start < 0
      · have q3 := eq_true c3
        have := hbad (by omega)
        subst this
        simp [go_sem, e1, e3, e5, hta2, q1, q2, qk, q3]
        exact hk3
      have q3 := eq_false c3
      by_cases c4 : step < 1
      · have q4 := eq_true c4
        have := hbad (by omega)
        subst this
        simp [go_sem, e1, e3, e5, hta2, q1, q2, qk, q3, q4]
        exact hk3
      have q4 := eq_false c4
      by_cases c5 : n < 1
      · have q5 := eq_true c5
        have := hbad (by omega)
        subst this
        simp [go_sem, e1, e3, e5, hta2, q1, q2, qk, q3, q4, q5]
        exact hk3
      have q5 := eq_false c5
      have hgb : ¬ askBadM true kind start step n a b := by unfold askBadM; intro h; rcases h with h | h; exact absurd h (by simp); omega
      simp [go_sem, e1, e3, e5, hta2, q1, q2, qk, q3, q4, q5]
      exact ⟨hgb, hk3, htc2⟩
    · have hx : kind = 2 := of_eq_true qk
      have hy : b ≠ 0 := of_eq_false qb
      have hz : ¬ b < a := of_eq_false qa
      by_cases c3 : start < 0
      · have q3 := eq_true c3
        have := hbad (by omega)
        subst this
        simp [go_sem, e1, e3, e5, hta2, q1, q2, qk, qb, qa, q3]
        exact hk3
      have q3 := eq_false c3
      by_cases c4 : step < 1
      · have q4 := eq_true c4
        have := hbad (by omega)
        subst this
        simp [go_sem, e1, e3, e5, hta2, q1, q2, qk, qb, qa, q3, q4]
        exact hk3
      have q4 := eq_false c4
      by_cases c5 : n < 1
      · have q5 := eq_true c5
        have := hbad (by omega)
        subst this
        simp [go_sem, e1, e3, e5, hta2, q1, q2, qk, qb, qa, q3, q4, q5]
        exact hk3
      have q5 := eq_false c5
      have hgb : ¬ askBadM true kind start step n a b := by unfold askBadM; intro h; rcases h with h | h; exact absurd h (by simp); omega
      simp [go_sem, e1, e3, e5, hta2, q1, q2, qk, qb, qa, q3, q4, q5]
      exact ⟨hgb, hk3, htc2⟩
  clear htc hta e1 e3 e5
  rintro E2 st2 ⟨hgb, hk2, e1, e3, e5, htc, hta⟩
  rw [if_neg hgb] at hRES
  unfold askBadM at hgb
  have hwin : windowsM start step n = 0 ↔ (1099511627776 < start ∨ 1099511627776 < n ∨ (1099511627776 - start) / step < n) := by
    unfold windowsM
    have e40 : (2 : Int) ^ 40 = 1099511627776 := by decide
    rw [e40]
    constructor
    · intro h
      split at h
      · rename_i h2
        have : step ≤ 1099511627776 ∨ (1099511627776 < step ∧ start ≤ 1099511627776) ∨ 1099511627776 < start := by omega
        rcases this with h3 | ⟨h3, h4⟩ | h3
        · omega
        · right; right
          rw [Int.ediv_eq_zero_of_lt (by omega) (by omega)]; omega
        · exact .inl h3
      · split at h
        · rename_i h2; exact .inr (.inr h2)
        · omega
    · intro h
      split
      · rfl
      · rename_i h2
        rw [if_pos]
        omega
  refine IW_cut' (fun E' st' => (¬ askBigM start step n) ∧ New st st' ∧ E' 1 = Val.i now ∧ E' 3 = ptr tc ∧ E' 5 = ptr ta ∧ st' tc = some (.cells true [Val.i slack, Val.i k0, Val.i k1, Val.i k2, Val.i k3] 5 (.ty 0)) ∧ st' ta = some (.cells true [Val.i op, .string name, .string value, .slice vb vals.length vc, .slice kb kids.length kc, Val.i start, Val.i step, Val.i n, Val.i kind, Val.u a, Val.u b] 11 (.ty 0))) ?_ ?_
  · by_cases d1 : 1000 < n
    · have p1 := eq_true d1
      have : RES = 10 := by rw [← hRES, if_pos (.inl d1)]
      subst this
      simp [go_sem, e1, e3, e5, hta, p1]
      exact hk2
    have p1 := eq_false d1
    simp [go_sem, e1, e3, e5, hta, p1]
    refine (refWindows_spec (by omega) (by omega)).mono ?_
    rintro e st3 ⟨rfl, rfl⟩
    by_cases wz : windowsM start step n = 0
    · have p2 := eq_true wz
      have : RES = 10 := by rw [← hRES, if_pos]; unfold askBigM; have := hwin.1 wz; omega
      subst this
      simp [go_sem, e1, e3, e5, hta, p1, p2]
      exact hk2
    · have p2 := eq_false wz
      simp [go_sem, e1, e3, e5, hta, p1, p2]
      refine ⟨?_, hk2, htc⟩
      unfold askBigM
      intro h
      refine wz (hwin.2 ?_)
      omega
  clear htc hta hk2 e1 e3 e5
  rintro E3 st2' ⟨hbig, hk3, e1, e3, e5, htc2, hta2⟩
  rw [if_neg hbig] at hRES
  unfold askBigM at hbig
  have hst : step ≤ 1099511627776 := by
    rcases Int.lt_or_le 1099511627776 step with h | h
    · exact absurd (show (1099511627776 - start) / step < n by rw [Int.ediv_eq_zero_of_lt (by omega) (by omega)]; omega) (by omega)
    · exact h
  have hR := hRES
  simp [go_sem]
  obtain ⟨hor, hhor⟩ : ∃ h, horizonM now ([k0, k1, k2, k3].getD (bestM start step 4) 0) = h := ⟨_, rfl⟩
  rw [hhor] at hR
  refine drawV [0, 1, 2, 3, 4, 5, 6, 7, 8, 9, 10] (fun i v st' => match i with
    | 0 => v = .pointer (some ⟨ta, 5, none⟩)
    | 1 => v = Val.i start
    | 2 => v = .agg #[Val.i slack, Val.i k0, Val.i k1, Val.i k2, Val.i k3]
    | 3 => v = Val.i now
    | 4 => v = .pointer (some ⟨ta, 5, none⟩)
    | 5 => v = Val.i start
    | 6 => v = .pointer (some ⟨ta, 6, none⟩)
    | 7 => v = Val.i step
    | 8 => v = Val.i (bestM start step 4)
    | 9 => v = Val.i hor
    | _ => v = .bool (decide (start < hor))) (by kernel_rfl) (by kernel_rfl) ?_ ?_ ?_ ?_
  · intro i v st3 st4 hN h
    exact h
  · intro i oo hi E st3 hN hd hE
    have hta3 := hN _ _ hta2
    have htc3 := hN _ _ htc2
    match i with
    | 0 =>
      have x0 := hE 5 (oldB_spec (by kernel_rfl))
      simp at hi; subst hi
      simp [wantedE, go_sem, x0, e5]
      exact New.refl _
    | 1 =>
      simp at hi; subst hi
      have d1 := hd { on := 0, ground := .data } (by simp) (by decide) _ _ rfl rfl
      simp at d1
      simp [wantedE, go_sem, d1, hta3]
      exact New.refl _
    | 2 =>
      have x0 := hE 3 (oldB_spec (by kernel_rfl))
      simp at hi; subst hi
      simp [wantedE, go_sem, x0, e3, htc3]
      exact New.refl _
    | 3 =>
      have x0 := hE 1 (oldB_spec (by kernel_rfl))
      simp at hi; subst hi
      simp [wantedE, go_sem, x0, e1]
      exact New.refl _
    | 4 =>
      have x0 := hE 5 (oldB_spec (by kernel_rfl))
      simp at hi; subst hi
      simp [wantedE, go_sem, x0, e5]
      exact New.refl _
    | 5 =>
      simp at hi; subst hi
      have d1 := hd { on := 4, ground := .data } (by simp) (by decide) _ _ rfl rfl
      simp at d1
      simp [wantedE, go_sem, d1, hta3]
      exact New.refl _
    | 6 =>
      have x0 := hE 5 (oldB_spec (by kernel_rfl))
      simp at hi; subst hi
      simp [wantedE, go_sem, x0, e5]
      exact New.refl _
    | 7 =>
      simp at hi; subst hi
      have d1 := hd { on := 6, ground := .data } (by simp) (by decide) _ _ rfl rfl
      simp at d1
      simp [wantedE, go_sem, d1, hta3]
      exact New.refl _
    | 8 =>
      simp at hi; subst hi
      have d1 := hd { on := 5, ground := .data } (by simp) (by decide) _ _ rfl rfl
      have d2 := hd { on := 7, ground := .data } (by simp) (by decide) _ _ rfl rfl
      simp at d1 d2
      simp [wantedE, go_sem, d1, d2]
      refine (refCoarsest_spec (by omega) (by omega) (by omega) (by omega)).mono ?_
      rintro e st4 ⟨rfl, rfl⟩
      simp [go_sem]
      exact New.refl _
    | 9 =>
      simp at hi; subst hi
      have d1 := hd { on := 2, ground := .data } (by simp) (by decide) _ _ rfl rfl
      have d2 := hd { on := 3, ground := .data } (by simp) (by decide) _ _ rfl rfl
      have d3 := hd { on := 8, ground := .data } (by simp) (by decide) _ _ rfl rfl
      simp at d1 d2 d3
      simp [wantedE, go_sem, d1, d2, d3]
      refine (refHorizon_spec (bestM_lt _ _ 4 (by omega)) h0 h1 hk).mono ?_
      rintro e st4 ⟨rfl, hN4⟩
      rw [hhor]
      simp [go_sem]
      exact hN4
    | 10 =>
      simp at hi; subst hi
      have d1 := hd { on := 1, ground := .data } (by simp) (by decide) _ _ rfl rfl
      have d2 := hd { on := 9, ground := .data } (by simp) (by decide) _ _ rfl rfl
      simp at d1 d2
      simp [wantedE, go_sem, d1, d2]
      exact New.refl _
    | i + 11 => simp at hi
  · intro E st3 hN hd hE
    have d11 := hd 10 _ _ rfl rfl
    simp at d11
    by_cases z : start < hor
    · rw [if_pos z] at hR
      subst hR
      simp [go_sem, d11, z]
      exact hk3.trans hN
    · rw [if_neg z] at hR
      subst hR
      simp [go_sem, d11, z]
      exact hk3.trans hN
  · intro j oj hj
    match j with
    | 0 | 1 | 2 | 3 | 4 | 5 | 6 | 7 | 8 | 9 | 10 => simp at hj; subst hj; decide
    | j + 11 => simp at hj
end
end Go.Proofs.YtembgehpgommgaaGreat
set_option linter.unusedVariables false
set_option linter.unusedSimpArgs false
set_option maxRecDepth 100000
set_option maxHeartbeats 4000000
namespace Go.Proofs.YtembgehpgommgaaGreat
open Go.ChangeShapes Go.WideShapes Go.ChangeAt Go.RowKit
section
variable {W0 : World} {st : Heap}
theorem refConf_spec {slack k0 k1 k2 k3 : Int} : ICalls Tryz.prog W0 11 #[.agg #[Val.i slack, Val.i k0, Val.i k1, Val.i k2, Val.i k3]] st fun e st' => ∃ b : Bool, e = .returned (.bool b) ∧ (b = true → ∀ k ∈ [k0, k1, k2, k3], 1 ≤ k ∧ k ≤ 100000) ∧ New st st' := by
  refine enter (args := [_]) Tryz.func11 rfl ?_
  refine IW_cut (fun E' st' => ∃ tc, New st st' ∧ E' 1 = ptr tc ∧ st' tc = some (.cells true [Val.i slack, Val.i k0, Val.i k1, Val.i k2, Val.i k3] 5 (.ty 0))) ?_ ?_
  · simp [go_sem]
    unfold NewP
    intro tb htb
    refine ⟨.ty 0, ?_⟩
    simp [go_sem]
    exact (New.refl _).add htb
  rintro E1 st1 ⟨tc, hk, e1, ht⟩
  refine IW_cut' (fun E' st' => st' = st1 ∧ E' 1 = ptr tc) ?_ ?_
  · by_cases h1 : slack < 0
    · have q1 := eq_true h1
      simp [go_sem, e1, ht, q1]
      exact hk
    have q1 := eq_false h1
    by_cases h2 : 8640000 < slack
    · have q2 := eq_true h2
      simp [go_sem, e1, ht, q1, q2]
      exact hk
    have q2 := eq_false h2
    simp [go_sem, e1, ht, q1, q2]
  clear e1
  rintro E2 st2 ⟨rfl, e1⟩
  simp [go_sem]
  refine ⟨fun E st' => st' = st2 ∧ E 1 = ptr tc ∧ ∃ i : Nat, E 3 = Val.i i ∧ i ≤ 4 ∧ ∀ k ∈ [k0, k1, k2, k3].take i, 1 ≤ k ∧ k ≤ 100000,
    fun E _ => match E 3 with | .int _ i => 4 - i.toNat | _ => 0, ⟨st2, .rfl' _, rfl, by simp [go_sem, e1], 0, by simp [go_sem], by omega, by simp⟩, ?_⟩
  clear e1
  rintro E st3 ⟨rfl, e1, i, e3, hi, hall⟩
  have hi' : i = 0 ∨ i = 1 ∨ i = 2 ∨ i = 3 ∨ i = 4 := by omega
  have w0 : IntKind.i64.wrap 0 = 0 := wrap_id (by omega) (by omega)
  have w1 : IntKind.i64.wrap 1 = 1 := wrap_id (by omega) (by omega)
  have w2 : IntKind.i64.wrap 2 = 2 := wrap_id (by omega) (by omega)
  have w3 : IntKind.i64.wrap 3 = 3 := wrap_id (by omega) (by omega)
  have w4 : IntKind.i64.wrap 4 = 4 := wrap_id (by omega) (by omega)
  rcases hi' with rfl | rfl | rfl | rfl | rfl
  · simp [go_sem, e1, e3, ht, w0, w1, w2, w3, w4]
    refine draw [0, 1, 2, 3, 4, 5, 6, 7, 8, 9, 10, 11, 12, 13, 14, 15, 16, 17, 18, 20, 21, 22, 23, 19, 24, 25, 26, 27] (by kernel_rfl) ?_
    by_cases a : k0 < 1
    · have qa := eq_true a
      simp [go_sem, e1, e3, ht, w0, w1, w2, w3, w4, qa]
      exact hk
    have qa := eq_false a
    by_cases b : 100000 < k0
    · have qb := eq_true b
      simp [go_sem, e1, e3, ht, w0, w1, w2, w3, w4, qa, qb]
      exact hk
    have qb := eq_false b
    simp [go_sem, e1, e3, ht, w0, w1, w2, w3, w4, qa, qb]
    exact ⟨_, .rfl' _, rfl, 1, rfl, by omega, by simp at hall ⊢; omega⟩
  · simp [go_sem, e1, e3, ht, w0, w1, w2, w3, w4]
    refine draw [0, 1, 2, 3, 4, 5, 6, 7, 8, 9, 10, 11, 12, 13, 14, 15, 16, 17, 18, 20, 21, 22, 23, 19, 24, 25, 26, 27] (by kernel_rfl) ?_
    by_cases a : k1 < 1
    · have qa := eq_true a
      simp [go_sem, e1, e3, ht, w0, w1, w2, w3, w4, qa]
      exact hk
    have qa := eq_false a
    by_cases b : 100000 < k1
    · have qb := eq_true b
      simp [go_sem, e1, e3, ht, w0, w1, w2, w3, w4, qa, qb]
      exact hk
    have qb := eq_false b
    by_cases c : k1 < k0
    · have qc := eq_true c
      simp [go_sem, e1, e3, ht, w0, w1, w2, w3, w4, qa, qb, qc]
      exact hk
    have qc := eq_false c
    simp [go_sem, e1, e3, ht, w0, w1, w2, w3, w4, qa, qb, qc]
    exact ⟨_, .rfl' _, rfl, 2, rfl, by omega, by simp at hall ⊢; omega⟩
  · simp [go_sem, e1, e3, ht, w0, w1, w2, w3, w4]
    refine draw [0, 1, 2, 3, 4, 5, 6, 7, 8, 9, 10, 11, 12, 13, 14, 15, 16, 17, 18, 20, 21, 22, 23, 19, 24, 25, 26, 27] (by kernel_rfl) ?_
    by_cases a : k2 < 1
    · have qa := eq_true a
      simp [go_sem, e1, e3, ht, w0, w1, w2, w3, w4, qa]
      exact hk
    have qa := eq_false a
    by_cases b : 100000 < k2
    · have qb := eq_true b
      simp [go_sem, e1, e3, ht, w0, w1, w2, w3, w4, qa, qb]
      exact hk
    have qb := eq_false b
    by_cases c : k2 < k1
    · have qc := eq_true c
      simp [go_sem, e1, e3, ht, w0, w1, w2, w3, w4, qa, qb, qc]
      exact hk
    have qc := eq_false c
    simp [go_sem, e1, e3, ht, w0, w1, w2, w3, w4, qa, qb, qc]
    exact ⟨_, .rfl' _, rfl, 3, rfl, by omega, by simp at hall ⊢; omega⟩
  · simp [go_sem, e1, e3, ht, w0, w1, w2, w3, w4]
    refine draw [0, 1, 2, 3, 4, 5, 6, 7, 8, 9, 10, 11, 12, 13, 14, 15, 16, 17, 18, 20, 21, 22, 23, 19, 24, 25, 26, 27] (by kernel_rfl) ?_
    by_cases a : k3 < 1
    · have qa := eq_true a
      simp [go_sem, e1, e3, ht, w0, w1, w2, w3, w4, qa]
      exact hk
    have qa := eq_false a
    by_cases b : 100000 < k3
    · have qb := eq_true b
      simp [go_sem, e1, e3, ht, w0, w1, w2, w3, w4, qa, qb]
      exact hk
    have qb := eq_false b
    by_cases c : k3 < k2
    · have qc := eq_true c
      simp [go_sem, e1, e3, ht, w0, w1, w2, w3, w4, qa, qb, qc]
      exact hk
    have qc := eq_false c
    simp [go_sem, e1, e3, ht, w0, w1, w2, w3, w4, qa, qb, qc]
    exact ⟨_, .rfl' _, rfl, 4, rfl, by omega, by simp at hall ⊢; omega⟩
  · simp [go_sem, e1, e3]
    refine ⟨?_, hk⟩
    simpa using hall
theorem Matcher_copy {cs : List Value} {m : Mat} (hN : NiceM 12 m) (hm : MatAt st cs m) : ICalls Tryz.prog W0 30 #[.agg cs.toArray] st fun e st' => ∃ cs', e = .returned (.agg cs'.toArray) ∧ MatAt st' cs' m ∧ New st st' := by
  match m with
  | .mk op name value vals kids =>
  have hm0 := hm
  unfold MatAt at hm
  obtain ⟨vv, kv, ks, rfl, hv, hk, hkids⟩ := hm
  obtain ⟨vb, vc, rfl⟩ := hv.slice
  obtain ⟨kb, kc, rfl⟩ := hk.slice
  refine enter (args := [_]) Tryz.func30 rfl ?_
  simp [Tryz.f30, go_sem]
  unfold NewP
  intro tb htb
  refine ⟨.own tb 0 66, ?_⟩
  simp [go_sem]
  unfold NewP
  intro to hto
  refine ⟨.own to 0 67, ?_⟩
  have hne : tb ≠ to := by
    rintro rfl
    rw [upd_same] at hto
    cases hto
  have hne' := Ne.symm hne
  have hN2 : New st (upd (upd st tb (.cells true [Val.i op, .string name, .string value, .slice vb vals.length vc, .slice kb kids.length kc] 5 (.own tb 0 66))) to (.cells true [Val.i 0, .string ⟨#[]⟩, .string ⟨#[]⟩, .slice none 0 0, .slice none 0 0] 5 (.own to 0 67))) := ((New.refl _).add htb).add hto
  have htn : st to = none := ((New.refl _).add htb).none hto
  simp [go_sem, hne, hne']
  refine (matCopy_spec 12 (.mk op name value vals kids) (deep := 0) hN (by omega) (hm0.new hN2)).mono ?_
  rintro e st3 ⟨cs', rfl, hm3, hk3⟩
  have hto3 := hk3 _ _ (upd_same _ to _)
  have hl3 := hm3.length
  obtain ⟨vv', kv', ks', rfl, hv', hk', hkids'⟩ := hm3
  obtain ⟨vb', vc', rfl⟩ := hv'.slice
  obtain ⟨kb', kc', rfl⟩ := hk'.slice
  simp [go_sem, hto3]
  refine RetI_cell ?_
  simp [go_sem]
  have hR := fun size v xs len (h : RegF st3 size v xs len) => h.but (But1.put (o := .cells true [Val.i op, .string name, .string value, .slice vb' vals.length vc', .slice kb' kids.length kc'] 5 (.own to 0 67)) (But1.refl to st3)) hto3
  refine ⟨?_, (hN2.trans hk3).put htn⟩
  unfold MatAt
  exact ⟨_, _, ks', rfl, hR _ _ _ _ hv', hR _ _ _ _ hk', KidsAt.mono hR _ _ hkids'⟩
theorem ask_copy {cs : List Value} {m : Mat} {start step n kind a b : Int} (hN : NiceM 12 m) (hm : MatAt st cs m) : ICalls Tryz.prog W0 15 #[.agg (cs ++ [Val.i start, Val.i step, Val.i n, Val.i kind, Val.u a, Val.u b]).toArray] st fun e st' =>
    ∃ cs', e = .returned (.agg (cs' ++ [Val.i start, Val.i step, Val.i n, Val.i kind, Val.u a, Val.u b]).toArray) ∧ MatAt st' cs' m ∧ New st st' := by
  match m with
  | .mk op name value vals kids =>
  have hm0 := hm
  unfold MatAt at hm
  obtain ⟨vv, kv, ks, rfl, hv, hk, hkids⟩ := hm
  obtain ⟨vb, vc, rfl⟩ := hv.slice
  obtain ⟨kb, kc, rfl⟩ := hk.slice
  refine enter (args := [_]) Tryz.func15 rfl ?_
  simp [Tryz.f15, go_sem]
  unfold NewP
  intro tb htb
  refine ⟨.own tb 0 68, ?_⟩
  simp [go_sem]
  unfold NewP
  intro to hto
  refine ⟨.own to 0 69, ?_⟩
  have hne : tb ≠ to := by
    rintro rfl
    rw [upd_same] at hto
    cases hto
  have hne' := Ne.symm hne
  simp [go_sem, hne, hne']
  generalize hst2 : upd (upd st tb _) to _ = st2
  have hN2 : New st st2 := by rw [← hst2]; exact ((New.refl _).add htb).add hto
  have htb2 : st2 tb = some (.cells true [Val.i op, .string name, .string value, .slice vb vals.length vc, .slice kb kids.length kc, Val.i start, Val.i step, Val.i n, Val.i kind, Val.u a, Val.u b] 11 (.own tb 0 68)) := by
    rw [← hst2, upd_ne _ _ hne, upd_same]
  obtain ⟨zs, hzs, hto2⟩ : ∃ zs, zs.length = 11 ∧ st2 to = some (.cells true zs 11 (.own to 0 69)) := by
    rw [← hst2]
    exact ⟨_, rfl, upd_same _ _ _⟩
  have htn : st to = none := ((New.refl _).add htb).none hto
  refine (Matcher_copy hN (hm0.new hN2)).mono ?_
  rintro e st3 ⟨cs', rfl, hm3, hk3⟩
  have htb3 := hk3 _ _ htb2
  have hto3 := hk3 _ _ hto2
  obtain ⟨vv', kv', ks', rfl, hv', hk', hkids'⟩ := hm3
  obtain ⟨vb', vc', rfl⟩ := hv'.slice
  obtain ⟨kb', kc', rfl⟩ := hk'.slice
  have hz0 : zs.drop 11 = [] := by rw [List.drop_eq_nil_iff]; omega
  simp [go_sem, htb3, hto3, hne, hne', hzs, hz0]
  refine RetI_cell ?_
  simp [go_sem]
  have hR := fun size v xs len (h : RegF st3 size v xs len) => h.but (But1.put (o := .cells true [Val.i op, .string name, .string value, .slice vb' vals.length vc', .slice kb' kids.length kc', Val.i start, Val.i step, Val.i n, Val.i kind, Val.u a, Val.u b] 11 (.own tb 0 68)) (But1.refl tb st3)) htb3
  have hto4 : (upd st3 tb (.cells true [Val.i op, .string name, .string value, .slice vb' vals.length vc', .slice kb' kids.length kc', Val.i start, Val.i step, Val.i n, Val.i kind, Val.u a, Val.u b] 11 (.own tb 0 68))) to = some (.cells true zs 11 (.own to 0 69)) := (upd_ne _ _ hne').trans hto3
  have hR2 := fun size v xs len (h : RegF (upd st3 tb (.cells true [Val.i op, .string name, .string value, .slice vb' vals.length vc', .slice kb' kids.length kc', Val.i start, Val.i step, Val.i n, Val.i kind, Val.u a, Val.u b] 11 (.own tb 0 68))) size v xs len) => h.but (But1.put (o := (.cells true [Val.i op, .string name, .string value, .slice vb' vals.length vc', .slice kb' kids.length kc', Val.i start, Val.i step, Val.i n, Val.i kind, Val.u a, Val.u b] 11 (.own to 0 69))) (But1.refl to _)) hto4
  refine ⟨[Val.i op, .string name, .string value, .slice vb' vals.length vc', .slice kb' kids.length kc'], rfl, ?_, ((hN2.trans hk3).put htb).put htn⟩
  unfold MatAt
  exact ⟨_, _, ks', rfl, hR2 _ _ _ _ (hR _ _ _ _ hv'), hR2 _ _ _ _ (hR _ _ _ _ hk'), KidsAt.mono (fun _ _ _ _ h => hR2 _ _ _ _ (hR _ _ _ _ h)) _ _ hkids'⟩
end
end Go.Proofs.YtembgehpgommgaaGreat
set_option linter.unusedVariables false
set_option linter.unusedSimpArgs false
set_option maxRecDepth 100000
set_option maxHeartbeats 4000000
namespace Go.Proofs.YtembgehpgommgaaGreat
open Go.RowKit (Below)
def AskV (st : Heap) (T : List Value) (m : Mat) (v : Value) : Prop := ∃ cs' : List Value, v = .agg (cs' ++ T).toArray ∧ MatAt st cs' m
section
variable {W0 : World} {st : Heap}
theorem query_walk (haw : ∀ (st : Heap), ICalls Tryz.prog W0 13 #[] st fun e st' => e = .returned (.bool true) ∧ New st st') {slack k0 k1 k2 k3 now start step n kind a b : Int} {cs : List Value} {m : Mat} (hm : MatAt st cs m) (hs : start < 9223372036854775808) :
    ICalls Tryz.prog W0 3 #[.agg #[Val.i slack, Val.i k0, Val.i k1, Val.i k2, Val.i k3], Val.i now, .agg (cs ++ [Val.i start, Val.i step, Val.i n, Val.i kind, Val.u a, Val.u b]).toArray] st fun e st' => e = .returned (.bool true) := by
  match m with
  | .mk op name value vals kids =>
  have hm0 := hm
  unfold MatAt at hm
  obtain ⟨vv, kv, ks, rfl, hv, hk', hkids⟩ := hm
  obtain ⟨vb, vc, rfl⟩ := hv.slice
  obtain ⟨kb, kc, rfl⟩ := hk'.slice
  refine enter (args := [_, _, _]) Tryz.func3 rfl ?_
  refine IW_cut (fun E' st' => ∃ tc ta, New st st' ∧ E' 1 = Val.i now ∧ E' 3 = ptr tc ∧ E' 5 = ptr ta ∧ st' tc = some (.cells true [Val.i slack, Val.i k0, Val.i k1, Val.i k2, Val.i k3] 5 (.ty 0)) ∧
    st' ta = some (.cells true [Val.i op, .string name, .string value, .slice vb vals.length vc, .slice kb kids.length kc, Val.i start, Val.i step, Val.i n, Val.i kind, Val.u a, Val.u b] 11 (.ty 0))) ?_ ?_
  · simp [go_sem]
    unfold NewP
    intro tc htc
    refine ⟨.ty 0, ?_⟩
    simp [go_sem]
    unfold NewP
    intro ta hta
    refine ⟨.ty 0, ?_⟩
    have hne : tc ≠ ta := by
      rintro rfl
      rw [upd_same] at hta
      cases hta
    simp [go_sem, hne]
    exact ((New.refl _).add htc).add hta
  rintro E1 st1 ⟨tc, ta, hk1, e1, e3, e5, htc, hta⟩
  refine IW_cut' (fun E' st' => (NiceM 12 (.mk op name value vals kids) ∧ 0 ≤ now ∧ now ≤ 2 ^ 40 ∧ ∀ k ∈ [k0, k1, k2, k3], 1 ≤ k ∧ k ≤ 100000) ∧ New st st' ∧ E' 1 = Val.i now ∧ E' 3 = ptr tc ∧ E' 5 = ptr ta ∧ st' tc = some (.cells true [Val.i slack, Val.i k0, Val.i k1, Val.i k2, Val.i k3] 5 (.ty 0)) ∧ st' ta = some (.cells true [Val.i op, .string name, .string value, .slice vb vals.length vc, .slice kb kids.length kc, Val.i start, Val.i step, Val.i n, Val.i kind, Val.u a, Val.u b] 11 (.ty 0))) ?_ ?_
  · have awake : ∀ (sta : Heap) {K : Ending → Heap → Prop}, (∀ st', K (.returned (.bool true)) st') → ICalls Tryz.prog W0 13 #[] sta K := fun sta K hK => (haw sta).mono fun e st' h => by rw [h.1]; exact hK st'
    simp [go_sem, e1, e3, e5, htc]
    refine refConf_spec.mono ?_
    rintro e st2 ⟨c, rfl, hc, hk2⟩
    have htc2 := hk2 _ _ htc
    have hta2 := hk2 _ _ hta
    cases c with
    | false =>
      simp [go_sem, e1, e3, e5]
      refine awake _ fun st' => ?_
      simp [go_sem]
    | true =>
    by_cases h1 : now < 0
    · have q1 := eq_true h1
      simp [go_sem, e1, e3, e5, q1]
      refine awake _ fun st' => ?_
      simp [go_sem]
    have q1 := eq_false h1
    by_cases h2 : 1099511627776 < now
    · have q2 := eq_true h2
      simp [go_sem, e1, e3, e5, q1, q2]
      refine awake _ fun st' => ?_
      simp [go_sem]
    have q2 := eq_false h2
    simp [go_sem, e1, e3, e5, q1, q2, hta2]
    refine (Tiny_spec (hm0.new (hk1.trans hk2))).mono ?_
    rintro e st3 ⟨rfl, hk3⟩
    cases ht : (tinyM (.mk op name value vals kids) 0 0).1 with
    | false =>
      simp [go_sem, e1, e3, e5]
      refine awake _ fun st' => ?_
      simp [go_sem]
    | true =>
      simp [go_sem, e1, e3, e5]
      have hN := ((tinyM_spec (.mk op name value vals kids) 0 0).2 ht).2
      have hcc := hc rfl
      simp only [List.mem_cons, List.not_mem_nil, or_false, forall_eq_or_imp, forall_eq] at hcc
      exact ⟨⟨hN, by omega, by omega, hcc⟩, (hk1.trans hk2).trans hk3, hk3 _ _ htc2, hk3 _ _ hta2⟩
  clear htc hta e1 e3 e5
  rintro E2 st2 ⟨⟨hN, hn0, hn1, hkk⟩, hk2, e1, e3, e5, htc, hta⟩
  simp [go_sem]
  obtain ⟨R, hR⟩ : ∃ R, queryM (checkM (.mk op name value vals kids)) kind start step n a b now k0 k1 k2 k3 = R := ⟨_, rfl⟩
  refine drawV [0, 1, 2, 3, 4, 5, 6, 7, 8, 9, 10, 11, 12, 13] (fun i v st' => match i with
    | 0 | 5 => v = .agg #[Val.i slack, Val.i k0, Val.i k1, Val.i k2, Val.i k3]
    | 1 | 6 => v = Val.i now
    | 2 | 7 => v = .agg ([Val.i op, .string name, .string value, .slice vb vals.length vc, .slice kb kids.length kc, Val.i start, Val.i step, Val.i n, Val.i kind, Val.u a, Val.u b]).toArray
    | 3 => AskV st' [Val.i start, Val.i step, Val.i n, Val.i kind, Val.u a, Val.u b] (.mk op name value vals kids) v
    | 4 | 8 => v = Val.i R
    | _ => v = .bool true) (by kernel_rfl) (by kernel_rfl) ?_ ?_ ?_ ?_
  · intro i v st3 st4 hNw h
    match i with
    | 0 | 1 | 2 | 4 | 5 | 6 | 7 | 8 => exact h
    | 3 => obtain ⟨cs', h1, h2⟩ := h; exact ⟨cs', h1, h2.new hNw⟩
    | i + 9 => exact h
  · intro i oo hi E st3 hNw hd hE
    have htc3 := hNw _ _ htc
    have hta3 := hNw _ _ hta
    match i with
    | 0 =>
      have x0 := hE 3 (oldB_spec (by kernel_rfl))
      injection hi with hi; subst hi
      simp [wantedE, go_sem, x0, e3, htc3]
      exact New.refl _
    | 1 =>
      have x0 := hE 1 (oldB_spec (by kernel_rfl))
      injection hi with hi; subst hi
      simp [wantedE, go_sem, x0, e1]
      exact New.refl _
    | 2 =>
      have x0 := hE 5 (oldB_spec (by kernel_rfl))
      injection hi with hi; subst hi
      simp [wantedE, go_sem, x0, e5, hta3]
      exact New.refl _
    | 3 =>
      injection hi with hi; subst hi
      have d0 := hd { on := 2, ground := .data } (by simp) (by decide) _ _ rfl rfl
      simp only at d0
      simp [wantedE, go_sem, d0]
      refine (ask_copy hN (hm0.new (hk2.trans hNw))).mono ?_
      rintro e st4 ⟨cs', rfl, hm4, hN4⟩
      simp [go_sem]
      exact ⟨hN4, cs', rfl, hm4⟩
    | 4 =>
      injection hi with hi; subst hi
      have d0 := hd { on := 0, ground := .data } (by simp) (by decide) _ _ rfl rfl
      have d1 := hd { on := 1, ground := .data } (by simp) (by decide) _ _ rfl rfl
      have d2 := hd { on := 3, ground := .data } (by simp) (by decide) _ _ rfl rfl
      simp only at d0 d1 d2
      obtain ⟨cs', d2, hm4⟩ := d2
      simp [wantedE, go_sem, d0, d1, d2]
      refine ICalls.mono (by simpa using queryCheck_spec hm4 hn0 hn1 hkk) ?_
      rintro e st4 ⟨rfl, hN4⟩
      rw [hR]
      simp [go_sem]
      exact hN4
    | 5 =>
      have x0 := hE 3 (oldB_spec (by kernel_rfl))
      injection hi with hi; subst hi
      simp [wantedE, go_sem, x0, e3, htc3]
      exact New.refl _
    | 6 =>
      have x0 := hE 1 (oldB_spec (by kernel_rfl))
      injection hi with hi; subst hi
      simp [wantedE, go_sem, x0, e1]
      exact New.refl _
    | 7 =>
      have x0 := hE 5 (oldB_spec (by kernel_rfl))
      injection hi with hi; subst hi
      simp [wantedE, go_sem, x0, e5, hta3]
      exact New.refl _
    | 8 =>
      injection hi with hi; subst hi
      have d0 := hd { on := 5, ground := .data } (by simp) (by decide) _ _ rfl rfl
      have d1 := hd { on := 6, ground := .data } (by simp) (by decide) _ _ rfl rfl
      have d2 := hd { on := 7, ground := .data } (by simp) (by decide) _ _ rfl rfl
      simp only at d0 d1 d2
      simp [wantedE, go_sem, d0, d1, d2]
      refine ICalls.mono (by simpa using refQuery_spec hs hN (hm0.new (hk2.trans hNw)) hn0 hn1 hkk) ?_
      rintro e st4 ⟨rfl, hN4⟩
      rw [hR]
      simp [go_sem]
      exact hN4
    | 9 =>
      injection hi with hi; subst hi
      have d0 := hd { on := 4, ground := .data } (by simp) (by decide) _ _ rfl rfl
      have d1 := hd { on := 8, ground := .data } (by simp) (by decide) _ _ rfl rfl
      simp only at d0 d1
      simp [wantedE, go_sem, d0, d1]
      exact New.refl _
    | 10 =>
      injection hi with hi; subst hi
      have d0 := hd { on := 9, ground := .data } (by simp) (by decide) _ _ rfl rfl
      simp only at d0
      simp [wantedE, go_sem, d0]
      exact New.refl _
    | 11 =>
      injection hi with hi; subst hi
      have w0 := hd { on := 10, ground := .guard } (by simp) (by decide) _ _ rfl rfl
      simp only at w0
      simp [wantedE, go_sem, w0]
      refine (haw _).mono ?_
      rintro e st4 ⟨rfl, hN4⟩
      simp [go_sem]
      exact hN4
    | 12 =>
      injection hi with hi; subst hi
      have d0 := hd { on := 10, ground := .data } (by simp) (by decide) _ _ rfl rfl
      have d1 := hd { on := 11, ground := .data } (by simp) (by decide) _ _ rfl rfl
      simp only at d0 d1
      simp [wantedE, go_sem, d0, d1]
      exact New.refl _
    | 13 =>
      injection hi with hi; subst hi
      have d0 := hd { on := 12, ground := .data } (by simp) (by decide) _ _ rfl rfl
      simp only at d0
      simp [wantedE, go_sem, d0]
      exact New.refl _
    | i + 14 => simp at hi
  · intro E st3 hNw hd hE
    have d13 := hd 13 _ _ rfl rfl
    simp only at d13
    simp [go_sem, d13]
  · intro j oj hj
    match j with
    | 0 | 1 | 2 | 3 | 4 | 5 | 6 | 7 | 8 | 9 | 10 | 11 | 12 | 13 => simp at hj; subst hj; decide
    | j + 14 => simp at hj
end
end Go.Proofs.YtembgehpgommgaaGreat
set_option linter.unusedVariables false
set_option linter.unusedSimpArgs false
set_option maxRecDepth 100000
set_option maxHeartbeats 400000
namespace Go.Proofs.YtembgehpgommgaaGreat
open Go.RowKit (Below)
section
variable {W0 : World} {st : Heap}
theorem ownNil_spec : ICalls Tryz.prog W0 57 #[.slice none 0 0] st fun e st' => e = .returned (.slice none 0 0) ∧ st' = st := by
  refine enter (args := [_]) Tryz.func57 rfl ?_
  simp [Tryz.f57, go_sem]
  refine ⟨fun E st' => st' = st ∧ E 3 = .slice none 0 0 ∧ E 7 = Val.i 0 ∧ E 8 = Val.i 0, fun _ _ => 0, ⟨st, .rfl' _, rfl, by simp [go_sem], by simp [go_sem], by simp [go_sem]⟩, ?_⟩
  rintro E st' ⟨rfl, e3, e7, e8⟩
  simp [go_sem, e3, e7, e8]
theorem meantNil_spec {cs : List Value} (hl : cs.length = 5) : ICalls Tryz.prog W0 58 #[.agg cs.toArray, .slice none 0 0] st fun e st' => e = .returned (.slice none 0 0) ∧ New st st' := by
  refine enter (args := [_, _]) Tryz.func58 rfl ?_
  simp [Tryz.f58, go_sem]
  unfold NewP
  intro b hb
  refine ⟨.ty 1, ?_⟩
  simp [go_sem]
  have hN := (New.refl st).add (b := b) (o := .cells true cs 5 (.ty 1)) hb
  refine ⟨fun E st' => New st st' ∧ E 5 = .slice none 0 0 ∧ E 9 = Val.i 0 ∧ E 10 = Val.i 0, fun _ _ => 0, ⟨_, .rfl' _, ?_, by simp [go_sem], by simp [go_sem], by simp [go_sem]⟩, ?_⟩
  · exact (New.refl st).add hb
  rintro E st' ⟨hk, e5, e9, e10⟩
  simp [go_sem, e5, e9, e10]
  exact hk
theorem windows_spec {start step n : Int} : ICalls Tryz.prog W0 60 #[Val.i start, Val.i step, Val.i n] st fun e st' => ∃ a b c, e = .returned (.func (.func 95) #[] #[ptr b, ptr c, ptr a]) ∧ New st st' ∧
    (∃ g, st' a = some (.cells true [Val.i start] 1 g)) ∧ (∃ g, st' b = some (.cells true [Val.i step] 1 g)) ∧ (∃ g, st' c = some (.cells true [Val.i n] 1 g)) := by
  refine enter (args := [_, _, _]) Tryz.func60 rfl ?_
  simp [Tryz.f60, go_sem]
  unfold NewP
  intro a ha
  refine ⟨.ty 1, ?_⟩
  have h1 := (New.refl st).add (b := a) (o := .cells true [Val.i start] 1 (.ty 1)) ha
  have ga := upd_same st a (.cells true [Val.i start] 1 (.ty 1))
  simp [go_sem]
  generalize upd st a (.cells true [Val.i start] 1 (.ty 1)) = st1 at *
  unfold NewP
  intro b hb
  refine ⟨.ty 1, ?_⟩
  have h2 := (New.refl st1).add (b := b) (o := .cells true [Val.i step] 1 (.ty 1)) hb
  have gb := upd_same st1 b (.cells true [Val.i step] 1 (.ty 1))
  simp [go_sem]
  generalize upd st1 b (.cells true [Val.i step] 1 (.ty 1)) = st2 at *
  unfold NewP
  intro c hc
  refine ⟨.ty 1, ?_⟩
  have h3 := (New.refl st2).add (b := c) (o := .cells true [Val.i n] 1 (.ty 1)) hc
  have gc := upd_same st2 c (.cells true [Val.i n] 1 (.ty 1))
  simp [go_sem]
  generalize upd st2 c (.cells true [Val.i n] 1 (.ty 1)) = st3 at *
  exact ⟨a, b, c, ⟨rfl, rfl, rfl⟩, (h1.trans h2).trans h3, ⟨_, h3 _ _ (h2 _ _ ga)⟩, ⟨_, h3 _ _ gb⟩, ⟨_, gc⟩⟩
end
end Go.Proofs.YtembgehpgommgaaGreat
set_option linter.unusedVariables false
set_option linter.unusedSimpArgs false
set_option maxRecDepth 100000
set_option maxHeartbeats 400000
namespace Go.Proofs.YtembgehpgommgaaGreat
open Go.RowKit (Below)
section
variable {W0 : World} {st : Heap}
theorem answers_spec {cs ds : List Value} (hl : cs.length = 5) (hd : ds.length = 6) : ICalls Tryz.prog W0 23 #[.agg (cs ++ ds).toArray, .slice none 0 0] st fun e st' => ∃ a r, e = .returned (.func (.func 59) #[] #[ptr a, ptr r]) ∧ New st st' ∧ a ≠ r ∧
    (∃ g, st' a = some (.cells true (cs ++ ds) 11 g)) ∧ (∃ g, st' r = some (.cells true [.slice none 0 0] 1 g)) := by
  have h11 : (cs ++ ds).length = 11 := by simp [hl, hd]
  have htk : (cs ++ ds).take 5 = cs := by rw [← hl]; exact List.take_left
  refine enter (args := [_, _]) Tryz.func23 rfl ?_
  simp [Tryz.f23, go_sem]
  unfold NewP
  intro a ha
  refine ⟨.ty 1, ?_⟩
  rw [h11]
  have h1 := (New.refl st).add (b := a) (o := .cells true (cs ++ ds) 11 (.ty 1)) ha
  have ga := upd_same st a (.cells true (cs ++ ds) 11 (.ty 1))
  simp [go_sem, htk, hl, hd]
  generalize upd st a (.cells true (cs ++ ds) 11 (.ty 1)) = st1 at *
  refine (meantNil_spec hl).mono ?_
  rintro e st2 ⟨rfl, h2⟩
  simp [go_sem]
  refine ownNil_spec.mono ?_
  rintro e st3 ⟨rfl, rfl⟩
  simp [go_sem]
  unfold NewP
  intro r hr
  refine ⟨.ty 1, ?_⟩
  have h3 := (New.refl st3).add (b := r) (o := .cells true [.slice none 0 0] 1 (.ty 1)) hr
  have gr := upd_same st3 r (.cells true [.slice none 0 0] 1 (.ty 1))
  have hne : a ≠ r := by rintro rfl; rw [h2 _ _ ga] at hr; cases hr
  simp [go_sem]
  generalize upd st3 r (.cells true [.slice none 0 0] 1 (.ty 1)) = st4 at *
  exact ⟨a, r, ⟨rfl, rfl⟩, (h1.trans h2).trans h3, hne, ⟨_, h3 _ _ (h2 _ _ ga)⟩, ⟨_, gr⟩⟩
end
end Go.Proofs.YtembgehpgommgaaGreat
