/- Levels, horizons, the windows' bound: the program's and the document's are the same. -/
import Derived.Test.YtflbapmjdfnhhaaGreatC14
import Derived.Test.YtflbapmjdfnhhaaGreatC18
import Derived.Test.YtflbapmjdfnhhaaGreatC19
import Derived.Test.YtflbapmjdfnhhaaGreatC20
import Derived.Test.YtflbapmjdfnhhaaGreatC10
import Derived.Test.YtflbapmjdfnhhaaGreatC22
set_option linter.unusedVariables false
set_option linter.unusedSimpArgs false
set_option maxRecDepth 100000
set_option maxHeartbeats 2000000
namespace Go.Proofs.YtflbapmjdfnhhaaGreat
open Go.RowKit (Below)
def resM (i : Nat) : Int := match i with | 0 => 1 | 1 => 6 | 2 => 360 | _ => 8640
def bestM (start step : Int) : Nat → Nat
  | 0 => 0
  | i + 1 => if start % resM i = 0 ∧ step % resM i = 0 then i else bestM start step i
def horizonM (now k : Int) : Int := if now / 8640 ≤ k then 0 else (now / 8640 - k) * 8640
def windowsM (start step n : Int) : Int := if step < 1 ∨ n < 1 ∨ start < 0 ∨ 2 ^ 40 < start ∨ 2 ^ 40 < step ∨ 2 ^ 40 < n then 0 else if (2 ^ 40 - start) / step < n then 0 else n
section
variable {W0 : World} {st : Heap}
theorem calRes_spec (i : Nat) (h : i < 4) : ICalls Tryz.prog W0 67 #[Val.i i] st fun e st' => e = .returned (Val.i (resM i)) ∧ New st st' := by
  refine enter (args := [_]) Tryz.func67 rfl ?_
  have hi : i = 0 ∨ i = 1 ∨ i = 2 ∨ i = 3 := by omega
  rcases hi with rfl | rfl | rfl | rfl
  all_goals
    simp [Tryz.f67, go_sem]
    unfold NewP
    intro tb htb
    refine ⟨.ty 0, ?_⟩
    simp [go_sem]
    exact ⟨rfl, (New.refl _).add htb⟩
theorem calCoarsest_spec {start step : Int} (h0 : 0 ≤ start) (h1 : start < 2 ^ 62) (h2 : 0 ≤ step) (h3 : step < 2 ^ 62) : ICalls Tryz.prog W0 43 #[Val.i start, Val.i step] st fun e st' => e = .returned (Val.i (bestM start step 4)) ∧ New st st' := by
  refine enter (args := [_, _]) Tryz.func43 rfl ?_
  simp [Tryz.f43, go_sem]
  refine ⟨fun E st' => New st st' ∧ E 0 = Val.i start ∧ E 1 = Val.i step ∧ ∃ i : Nat, E 7 = Val.i i ∧ i ≤ 4 ∧ E 5 = Val.i (bestM start step i),
    fun E _ => match E 7 with | .int _ i => 4 - i.toNat | _ => 0, ⟨st, .rfl' _, New.refl _, by simp [go_sem], by simp [go_sem], 0, by simp [go_sem], by omega, by simp [go_sem, bestM]⟩, ?_⟩
  rintro E st' ⟨hk, e0, e1, i, e7, hi, e5⟩
  by_cases hlt : i < 4
  · have hlt' : ((i : Int) < 4) = True := eq_true (by omega)
    have hwi : IntKind.i64.wrap ((i : Int) + 1) = ((i + 1 : Nat) : Int) := by rw [wrap_id (by omega) (by omega)]; omega
    simp [go_sem, e0, e1, e5, e7, hlt']
    refine (calRes_spec i hlt).mono ?_
    rintro e st2 ⟨rfl, hk2⟩
    have hnz : (resM i = 0) = False := eq_false (by unfold resM; split <;> omega)
    have hm : Int.tmod start (resM i) = start % resM i := Int.tmod_eq_emod_of_nonneg h0
    have hm2 : Int.tmod step (resM i) = step % resM i := Int.tmod_eq_emod_of_nonneg h2
    by_cases ha : start % resM i = 0
    · have qa : (start % resM i = 0) = True := eq_true ha
      simp [go_sem, e0, e1, e5, e7, hnz, hm, hm2, qa]
      refine (calRes_spec i hlt).mono ?_
      rintro e st3 ⟨rfl, hk3⟩
      by_cases hb : step % resM i = 0
      · have qb : (step % resM i = 0) = True := eq_true hb
        simp [go_sem, e0, e1, e5, e7, hnz, hm, hm2, qa, qb, hwi]
        exact ⟨_, .rfl' _, ⟨(hk.trans hk2).trans hk3, i + 1, by omega, by omega, by simp [bestM, ha, hb]⟩, by omega⟩
      · have qb : (step % resM i = 0) = False := eq_false hb
        simp [go_sem, e0, e1, e5, e7, hnz, hm, hm2, qa, qb, hwi]
        exact ⟨_, .rfl' _, ⟨(hk.trans hk2).trans hk3, i + 1, by omega, by omega, by simp [bestM, ha, hb]⟩, by omega⟩
    · have qa : (start % resM i = 0) = False := eq_false ha
      simp [go_sem, e0, e1, e5, e7, hnz, hm, hm2, qa, hwi]
      exact ⟨_, .rfl' _, ⟨hk.trans hk2, i + 1, by omega, by omega, by simp [bestM, ha]⟩, by omega⟩
  · have hlt' : ((i : Int) < 4) = False := eq_false (by omega)
    have : i = 4 := by omega
    subst this
    simp [go_sem, e0, e1, e5, e7]
    exact hk
theorem bestM_lt (start step : Int) : ∀ i, 0 < i → bestM start step i < i
  | 1, _ => by unfold bestM; split <;> simp [bestM]
  | i + 2, _ => by
    have := bestM_lt start step (i + 1) (by omega)
    unfold bestM
    split <;> omega
theorem rest_spec {n : Int} (h0 : 0 ≤ n) (h1 : n < 2 ^ 62) : ICalls Tryz.prog W0 65 #[Val.i n, Val.i 8640] st fun e st' => e = .returned (Val.i (n % 8640)) ∧ st' = st := by
  have hm : Int.tmod n 8640 = n % 8640 := Int.tmod_eq_emod_of_nonneg h0
  have hw : IntKind.i64.wrap (n % 8640 + 8640) = n % 8640 + 8640 := wrap_id (by omega) (by omega)
  have hm2 : Int.tmod (n % 8640 + 8640) 8640 = n % 8640 := by rw [Int.tmod_eq_emod_of_nonneg (by omega)]; omega
  refine enter (args := [_, _]) Tryz.func65 rfl ?_
  simp [Tryz.f65, go_sem, hm, hw, hm2]
theorem times_spec {n : Int} (h0 : 0 ≤ n) (h1 : n < 2 ^ 40) : ICalls Tryz.prog W0 66 #[Val.i n] st fun e st' => e = .returned (Val.i (n * 8640)) ∧ st' = st := by
  have q1 : ((1067519911673006 : Int) < n) = False := eq_false (by omega)
  have q2 : (n < -1067519911673006) = False := eq_false (by omega)
  have hw : IntKind.i64.wrap (n * 8640) = n * 8640 := wrap_id (by omega) (by omega)
  refine enter (args := [_]) Tryz.func66 rfl ?_
  simp [Tryz.f66, go_sem, q1, q2, hw]
theorem calHorizon_spec {slack k0 k1 k2 k3 now : Int} {l : Nat} (hl : l < 4) (h0 : 0 ≤ now) (h1 : now ≤ 2 ^ 40) (hk : ∀ k ∈ [k0, k1, k2, k3], 1 ≤ k ∧ k ≤ 100000) :
    ICalls Tryz.prog W0 42 #[.agg #[Val.i slack, Val.i k0, Val.i k1, Val.i k2, Val.i k3], Val.i now, Val.i l] st fun e st' => e = .returned (Val.i (horizonM now ([k0, k1, k2, k3].getD l 0))) ∧ New st st' := by
  refine enter (args := [_, _, _]) Tryz.func42 rfl ?_
  have hi : l = 0 ∨ l = 1 ∨ l = 2 ∨ l = 3 := by omega
  have hw1 : IntKind.i64.wrap (now - now % 8640) = now - now % 8640 := wrap_id (by omega) (by omega)
  have hd : Int.tdiv (now - now % 8640) 8640 = now / 8640 := by rw [Int.tdiv_eq_ediv_of_nonneg (by omega)]; omega
  have hw2 : IntKind.i64.wrap (now / 8640) = now / 8640 := wrap_id (by omega) (by omega)
  simp only [List.mem_cons, List.not_mem_nil, or_false, forall_eq_or_imp, forall_eq] at hk
  obtain ⟨⟨a0, b0⟩, ⟨a1, b1⟩, ⟨a2, b2⟩, a3, b3⟩ := hk
  have hw3 : ∀ k : Int, 1 ≤ k → k ≤ 100000 → IntKind.i64.wrap (now / 8640 - k) = now / 8640 - k := fun k _ _ => wrap_id (by omega) (by omega)
  have hz : IntKind.i64.wrap 0 = 0 := wrap_id (by omega) (by omega)
  unfold horizonM
  rcases hi with rfl | rfl | rfl | rfl
  all_goals
    simp [Tryz.f42, go_sem]
    unfold NewP
    intro tb htb
    refine ⟨.ty 0, ?_⟩
    simp [go_sem]
    refine (rest_spec h0 (by omega)).mono ?_
    rintro e st2 ⟨rfl, rfl⟩
    simp [go_sem, hw1, hd, hw2, hw3 _ a0 b0, hw3 _ a1 b1, hw3 _ a2 b2, hw3 _ a3 b3]
    split
    · exact ⟨fun h' => by omega, (New.refl _).add htb⟩
    · rename_i h
      refine (times_spec (by omega) (by omega)).mono ?_
      rintro e st3 ⟨rfl, rfl⟩
      simp [go_sem, h]
      exact (New.refl _).add htb
theorem refWindows_spec {start step n : Int} (h0 : 0 ≤ start) (h1 : start < 2 ^ 63) : ICalls Tryz.prog W0 14 #[Val.i start, Val.i step, Val.i n] st fun e st' => e = .returned (Val.i (windowsM start step n)) ∧ st' = st := by
  refine enter (args := [_, _, _]) Tryz.func14 rfl ?_
  generalize hRES : windowsM start step n = RES
  unfold windowsM at hRES
  by_cases a : step < 1
  · rw [if_pos (by omega)] at hRES
    have q := eq_true a
    subst hRES
    simp [Tryz.f14, go_sem, q]
  have qa := eq_false a
  by_cases b : n < 1
  · rw [if_pos (by omega)] at hRES
    have q := eq_true b
    subst hRES
    simp [Tryz.f14, go_sem, qa, q]
  have qb := eq_false b
  have qc : (start < 0) = False := eq_false (by omega)
  by_cases d : 1099511627776 < start
  · rw [if_pos (by omega)] at hRES
    have q := eq_true d
    subst hRES
    simp [Tryz.f14, go_sem, qa, qb, qc, q]
  have qd := eq_false d
  by_cases e : 1099511627776 < step
  · rw [if_pos (by omega)] at hRES
    have q := eq_true e
    subst hRES
    simp [Tryz.f14, go_sem, qa, qb, qc, qd, q]
  have qe := eq_false e
  by_cases f : 1099511627776 < n
  · rw [if_pos (by omega)] at hRES
    have q := eq_true f
    subst hRES
    simp [Tryz.f14, go_sem, qa, qb, qc, qd, qe, q]
  have qf := eq_false f
  rw [if_neg (by omega)] at hRES
  have hw : IntKind.i64.wrap (1099511627776 - start) = 1099511627776 - start := wrap_id (by omega) (by omega)
  have hd : Int.tdiv (1099511627776 - start) step = (1099511627776 - start) / step := Int.tdiv_eq_ediv_of_nonneg (by omega)
  have hq0 : 0 ≤ (1099511627776 - start) / step := Int.ediv_nonneg (by omega) (by omega)
  have hq1 : (1099511627776 - start) / step ≤ 1099511627776 - start := Int.ediv_le_self _ (by omega)
  have hw2 : IntKind.i64.wrap ((1099511627776 - start) / step) = (1099511627776 - start) / step := wrap_id (by omega) (by omega)
  have hnz : (step = 0) = False := eq_false (by omega)
  have e40 : (2 : Int) ^ 40 = 1099511627776 := by decide
  rw [e40] at hRES
  by_cases g : (1099511627776 - start) / step < n
  · have q := eq_true g
    rw [if_pos g] at hRES
    subst hRES
    simp [Tryz.f14, go_sem, qa, qb, qc, qd, qe, qf, hw, hd, hw2, hnz, q]
  · have q := eq_false g
    rw [if_neg g] at hRES
    subst hRES
    simp [Tryz.f14, go_sem, qa, qb, qc, qd, qe, qf, hw, hd, hw2, hnz, q]
end
end Go.Proofs.YtflbapmjdfnhhaaGreat
set_option linter.unusedVariables false
set_option linter.unusedSimpArgs false
set_option maxRecDepth 100000
set_option maxHeartbeats 4000000
namespace Go.Proofs.YtflbapmjdfnhhaaGreat
open Go.RowKit (Below)
def askBadM (mok : Bool) (kind start step n a b : Int) : Prop := mok = false ∨ kind < 1 ∨ 6 < kind ∨ (kind = 2 ∧ (b = 0 ∨ b < a)) ∨ start < 0 ∨ step < 1 ∨ n < 1
def askBigM (start step n : Int) : Prop := 1000 < n ∨ 1099511627776 < start ∨ (1099511627776 - start) / step < n
instance (mok : Bool) (kind start step n a b : Int) : Decidable (askBadM mok kind start step n a b) := by unfold askBadM; infer_instance
instance (start step n : Int) : Decidable (askBigM start step n) := by unfold askBigM; infer_instance
def queryM (mok : Bool) (kind start step n a b now k0 k1 k2 k3 : Int) : Int :=
  if askBadM mok kind start step n a b then 5 else if askBigM start step n then 10 else if start < horizonM now ([k0, k1, k2, k3].getD (bestM start step 4) 0) then 9 else 0
section
variable {W0 : World} {st : Heap}
theorem queryCheck_spec {slack k0 k1 k2 k3 now start step n kind a b : Int} {cs : List Value} {m : Mat} (hm : MatAt st cs m) (h0 : 0 ≤ now) (h1 : now ≤ 2 ^ 40) (hk : ∀ k ∈ [k0, k1, k2, k3], 1 ≤ k ∧ k ≤ 100000) :
    ICalls Tryz.prog W0 23 #[.agg #[Val.i slack, Val.i k0, Val.i k1, Val.i k2, Val.i k3], Val.i now, .agg (cs ++ [Val.i start, Val.i step, Val.i n, Val.i kind, Val.u a, Val.u b]).toArray] st fun e st' => e = .returned (Val.i (queryM (checkM m) kind start step n a b now k0 k1 k2 k3)) ∧ New st st' := by
  generalize hRES : queryM (checkM m) kind start step n a b now k0 k1 k2 k3 = RES
  unfold queryM at hRES
  match m with
  | .mk op name value vals kids =>
  have hm0 := hm
  unfold MatAt at hm
  obtain ⟨vv, kv, ks, rfl, hv, hk', hkids⟩ := hm
  obtain ⟨vb, vc, rfl⟩ := hv.slice
  obtain ⟨kb, kc, rfl⟩ := hk'.slice
  refine enter (args := [_, _, _]) Tryz.func23 rfl ?_
  refine IW_cut (fun E' st' => ∃ tc ta, New st st' ∧ E' 1 = Val.i now ∧ E' 3 = ptr tc ∧ E' 5 = ptr ta ∧ st' tc = some (.cells true [Val.i slack, Val.i k0, Val.i k1, Val.i k2, Val.i k3] 5 (.ty 0)) ∧
    st' ta = some (.cells true [Val.i op, .string name, .string value, .slice vb vals.length vc, .slice kb kids.length kc, Val.i start, Val.i step, Val.i n, Val.i kind, Val.u a, Val.u b] 11 (.ty 0))) ?_ ?_
  · simp [go_sem]
    unfold NewP
    intro tc htc
    refine ⟨.ty 0, ?_⟩
    simp [go_sem]
    unfold NewP
    intro ta hta
    refine ⟨.ty 0, ?_⟩
    have hne : tc ≠ ta := by
      rintro rfl
      rw [upd_same] at hta
      cases hta
    simp [go_sem, hne]
    exact ((New.refl _).add htc).add hta
  rintro E1 st1 ⟨tc, ta, hk1, e1, e3, e5, htc, hta⟩
  refine IW_cut' (fun E' st' => RES = 0 ∧ New st st') ?_ ?_
  · simp [go_sem, e1, e3, e5, hta]
    refine (matCheck_spec _ (hm0.new hk1)).mono ?_
    rintro e st2 ⟨rfl, hk2⟩
    have htc2 := hk2 _ _ htc
    have hta2 := hk2 _ _ hta
    have hk3 := hk1.trans hk2
    have hbad : askBadM (checkM (.mk op name value vals kids)) kind start step n a b → RES = 5 := fun h => by rw [← hRES, if_pos h]
    have hgood : ¬ askBadM (checkM (.mk op name value vals kids)) kind start step n a b → (if askBigM start step n then (10 : Int) else if start < horizonM now ([k0, k1, k2, k3].getD (bestM start step 4) 0) then 9 else 0) = RES := fun h => by rw [← hRES, if_neg h]
    clear hRES
    unfold askBadM at hbad hgood
    cases hmok : checkM (.mk op name value vals kids) with
    | false =>
      have := hbad (.inl hmok)
      subst this
      simp [go_sem, e1, e3, e5, hta2]
      exact hk3
    | true =>
    by_cases c1 : kind < 1
    · have q1 := eq_true c1
      have := hbad (by omega)
      subst this
      simp [go_sem, e1, e3, e5, hta2, q1]
      exact hk3
    have q1 := eq_false c1
    by_cases c2 : 6 < kind
    · have q2 := eq_true c2
      have := hbad (by omega)
      subst this
      simp [go_sem, e1, e3, e5, hta2, q1, q2]
      exact hk3
    have q2 := eq_false c2
    have hab : (kind = 2 ∧ (b = 0 ∨ b < a)) ∨ ((kind = 2) = False) ∨ ((kind = 2) = True ∧ (b = 0) = False ∧ (b < a) = False) := by
      by_cases x : kind = 2
      · by_cases y : b = 0 ∨ b < a
        · exact .inl ⟨x, y⟩
        · exact .inr (.inr ⟨eq_true x, eq_false (fun h => y (.inl h)), eq_false (fun h => y (.inr h))⟩)
      · exact .inr (.inl (eq_false x))
    rcases hab with ⟨x, y⟩ | qk | ⟨qk, qb, qa⟩
    · have qk := eq_true x
      have := hbad (by omega)
      subst this
      by_cases y0 : b = 0
      · have qb := eq_true y0
        simp [go_sem, e1, e3, e5, hta2, q1, q2, qk, qb]
        exact hk3
      · have qb := eq_false y0
        have qa : (b < a) = True := eq_true (by omega)
        simp [go_sem, e1, e3, e5, hta2, q1, q2, qk, qb, qa]
        exact hk3
    · have hx : kind ≠ 2 := of_eq_false qk
      by_cases c3 : start < 0
      · have q3 := eq_true c3
        have := hbad (by omega)
        subst this
        simp [go_sem, e1, e3, e5, hta2, q1, q2, qk, q3]
        exact hk3
      have q3 := eq_false c3
      by_cases c4 : step < 1
      · have q4 := eq_true c4
        have := hbad (by omega)
        subst this
        simp [go_sem, e1, e3, e5, hta2, q1, q2, qk, q3, q4]
        exact hk3
      have q4 := eq_false c4
      by_cases c5 : n < 1
      · have q5 := eq_true c5
        have := hbad (by omega)
        subst this
        simp [go_sem, e1, e3, e5, hta2, q1, q2, qk, q3, q4, q5]
        exact hk3
      have q5 := eq_false c5
      have hR := hgood (by rw [hmok]; intro h; rcases h with h | h; exact absurd h (by simp); omega)
      simp [go_sem, e1, e3, e5, hta2, q1, q2, qk, q3, q4, q5]
      refine draw [0, 1, 2, 3, 4, 5, 6, 7, 8, 9, 11, 14, 10, 12, 13, 15, 16, 17, 18, 19] (by kernel_rfl) ?_
      by_cases d1 : 1000 < n
      · have p1 := eq_true d1
        have : RES = 10 := by rw [← hR, if_pos (.inl d1)]
        subst this
        simp [go_sem, e1, e3, e5, hta2, q1, q2, qk, q3, q4, q5, p1]
        exact hk3
      have p1 := eq_false d1
      by_cases d2 : 1099511627776 < start
      · have p2 := eq_true d2
        have : RES = 10 := by rw [← hR, if_pos (.inr (.inl d2))]
        subst this
        simp [go_sem, e1, e3, e5, hta2, q1, q2, qk, q3, q4, q5, p1, p2]
        exact hk3
      have p2 := eq_false d2
      have hw : IntKind.i64.wrap (1099511627776 - start) = 1099511627776 - start := wrap_id (by omega) (by omega)
      have hd : Int.tdiv (1099511627776 - start) step = (1099511627776 - start) / step := Int.tdiv_eq_ediv_of_nonneg (by omega)
      have hq0 : 0 ≤ (1099511627776 - start) / step := Int.ediv_nonneg (by omega) (by omega)
      have hq1 : (1099511627776 - start) / step ≤ 1099511627776 - start := Int.ediv_le_self _ (by omega)
      have hw2 : IntKind.i64.wrap ((1099511627776 - start) / step) = (1099511627776 - start) / step := wrap_id (by omega) (by omega)
      have hnz : (step = 0) = False := eq_false (by omega)
      by_cases d3 : (1099511627776 - start) / step < n
      · have p3 := eq_true d3
        have : RES = 10 := by rw [← hR, if_pos (.inr (.inr d3))]
        subst this
        simp [go_sem, e1, e3, e5, hta2, q1, q2, qk, q3, q4, q5, p1, p2, hw, hd, hw2, hnz, p3]
        exact hk3
      have p3 := eq_false d3
      rw [if_neg (by unfold askBigM; omega)] at hR
      have hst : step ≤ 1099511627776 := by
        rcases Int.lt_or_le 1099511627776 step with h | h
        · exact absurd (show (1099511627776 - start) / step < n by rw [Int.ediv_eq_zero_of_lt (by omega) (by omega)]; omega) d3
        · exact h
      simp [go_sem, e1, e3, e5, hta2, q1, q2, qk, q3, q4, q5, p1, p2, hw, hd, hw2, hnz, p3]
      obtain ⟨hor, hhor⟩ : ∃ h, horizonM now ([k0, k1, k2, k3].getD (bestM start step 4) 0) = h := ⟨_, rfl⟩
      rw [hhor] at hR
      refine drawV [0, 1, 2, 3, 4, 5, 6, 7, 8, 9, 10, 11] (fun i v st' => match i with
        | 0 => v = .pointer (some ⟨ta, 5, none⟩)
        | 1 => v = Val.i start
        | 2 => v = .agg #[Val.i slack, Val.i k0, Val.i k1, Val.i k2, Val.i k3]
        | 3 => v = Val.i now
        | 4 => v = .pointer (some ⟨ta, 5, none⟩)
        | 5 => v = Val.i start
        | 6 => v = .pointer (some ⟨ta, 6, none⟩)
        | 7 => v = Val.i step
        | 8 => v = Val.i (bestM start step 4)
        | 9 => v = Val.i hor
        | _ => v = .bool (decide (start < hor))) (by kernel_rfl) (by kernel_rfl) ?_ ?_ ?_ ?_
      · intro i v st3 st4 hN h
        exact h
      · intro i oo hi E st3 hN hd hE
        have hta3 := hN _ _ hta2
        have htc3 := hN _ _ htc2
        match i with
        | 0 =>
          have x0 := hE 5 (oldB_spec (by kernel_rfl))
          simp at hi; subst hi
          simp [wantedE, go_sem, x0, e5]
          exact New.refl _
        | 1 =>
          simp at hi; subst hi
          have d1 := hd { on := 0, ground := .data } (by simp) (by decide) _ _ rfl rfl
          simp at d1
          simp [wantedE, go_sem, d1, hta3]
          exact New.refl _
        | 2 =>
          have x0 := hE 3 (oldB_spec (by kernel_rfl))
          simp at hi; subst hi
          simp [wantedE, go_sem, x0, e3, htc3]
          exact New.refl _
        | 3 =>
          have x0 := hE 1 (oldB_spec (by kernel_rfl))
          simp at hi; subst hi
          simp [wantedE, go_sem, x0, e1]
          exact New.refl _
        | 4 =>
          have x0 := hE 5 (oldB_spec (by kernel_rfl))
          simp at hi; subst hi
          simp [wantedE, go_sem, x0, e5]
          exact New.refl _
        | 5 =>
          simp at hi; subst hi
          have d1 := hd { on := 4, ground := .data } (by simp) (by decide) _ _ rfl rfl
          simp at d1
          simp [wantedE, go_sem, d1, hta3]
          exact New.refl _
        | 6 =>
          have x0 := hE 5 (oldB_spec (by kernel_rfl))
          simp at hi; subst hi
          simp [wantedE, go_sem, x0, e5]
          exact New.refl _
        | 7 =>
          simp at hi; subst hi
          have d1 := hd { on := 6, ground := .data } (by simp) (by decide) _ _ rfl rfl
          simp at d1
          simp [wantedE, go_sem, d1, hta3]
          exact New.refl _
        | 8 =>
          simp at hi; subst hi
          have d1 := hd { on := 5, ground := .data } (by simp) (by decide) _ _ rfl rfl
          have d2 := hd { on := 7, ground := .data } (by simp) (by decide) _ _ rfl rfl
          simp at d1 d2
          simp [wantedE, go_sem, d1, d2]
          refine (calCoarsest_spec (by omega) (by omega) (by omega) (by omega)).mono ?_
          rintro e st4 ⟨rfl, hN4⟩
          simp [go_sem]
          exact hN4
        | 9 =>
          simp at hi; subst hi
          have d1 := hd { on := 2, ground := .data } (by simp) (by decide) _ _ rfl rfl
          have d2 := hd { on := 3, ground := .data } (by simp) (by decide) _ _ rfl rfl
          have d3 := hd { on := 8, ground := .data } (by simp) (by decide) _ _ rfl rfl
          simp at d1 d2 d3
          simp [wantedE, go_sem, d1, d2, d3]
          refine (calHorizon_spec (bestM_lt _ _ 4 (by omega)) h0 h1 hk).mono ?_
          rintro e st4 ⟨rfl, hN4⟩
          rw [hhor]
          simp [go_sem]
          exact hN4
        | 10 =>
          simp at hi; subst hi
          have d1 := hd { on := 1, ground := .data } (by simp) (by decide) _ _ rfl rfl
          have d2 := hd { on := 9, ground := .data } (by simp) (by decide) _ _ rfl rfl
          simp at d1 d2
          simp [wantedE, go_sem, d1, d2]
          exact New.refl _
        | 11 =>
          simp at hi; subst hi
          have d1 := hd { on := 10, ground := .data } (by simp) (by decide) _ _ rfl rfl
          simp at d1
          simp [wantedE, go_sem, d1]
          exact New.refl _
        | i + 12 => simp at hi
      · intro E st3 hN hd hE
        have d11 := hd 11 _ _ rfl rfl
        simp at d11
        by_cases z : start < hor
        · rw [if_pos z] at hR
          subst hR
          simp [go_sem, d11, z]
          exact hk3.trans hN
        · rw [if_neg z] at hR
          subst hR
          simp [go_sem, d11, z]
          exact hk3.trans hN
      · intro j oj hj
        match j with
        | 0 | 1 | 2 | 3 | 4 | 5 | 6 | 7 | 8 | 9 | 10 | 11 => simp at hj; subst hj; decide
        | j + 12 => simp at hj
    · have hx : kind = 2 := of_eq_true qk
      have hy : b ≠ 0 := of_eq_false qb
      have hz : ¬ b < a := of_eq_false qa
      by_cases c3 : start < 0
      · have q3 := eq_true c3
        have := hbad (by omega)
        subst this
        simp [go_sem, e1, e3, e5, hta2, q1, q2, qk, qb, qa, q3]
        exact hk3
      have q3 := eq_false c3
      by_cases c4 : step < 1
      · have q4 := eq_true c4
        have := hbad (by omega)
        subst this
        simp [go_sem, e1, e3, e5, hta2, q1, q2, qk, qb, qa, q3, q4]
        exact hk3
      have q4 := eq_false c4
      by_cases c5 : n < 1
      · have q5 := eq_true c5
        have := hbad (by omega)
        subst this
        simp [go_sem, e1, e3, e5, hta2, q1, q2, qk, qb, qa, q3, q4, q5]
        exact hk3
      have q5 := eq_false c5
      have hR := hgood (by rw [hmok]; intro h; rcases h with h | h; exact absurd h (by simp); omega)
      simp [go_sem, e1, e3, e5, hta2, q1, q2, qk, qb, qa, q3, q4, q5]
      refine draw [0, 1, 2, 3, 4, 5, 6, 7, 8, 9, 11, 14, 10, 12, 13, 15, 16, 17, 18, 19] (by kernel_rfl) ?_
      by_cases d1 : 1000 < n
      · have p1 := eq_true d1
        have : RES = 10 := by rw [← hR, if_pos (.inl d1)]
        subst this
        simp [go_sem, e1, e3, e5, hta2, q1, q2, qk, qb, qa, q3, q4, q5, p1]
        exact hk3
      have p1 := eq_false d1
      by_cases d2 : 1099511627776 < start
      · have p2 := eq_true d2
        have : RES = 10 := by rw [← hR, if_pos (.inr (.inl d2))]
        subst this
        simp [go_sem, e1, e3, e5, hta2, q1, q2, qk, qb, qa, q3, q4, q5, p1, p2]
        exact hk3
      have p2 := eq_false d2
      have hw : IntKind.i64.wrap (1099511627776 - start) = 1099511627776 - start := wrap_id (by omega) (by omega)
      have hd : Int.tdiv (1099511627776 - start) step = (1099511627776 - start) / step := Int.tdiv_eq_ediv_of_nonneg (by omega)
      have hq0 : 0 ≤ (1099511627776 - start) / step := Int.ediv_nonneg (by omega) (by omega)
      have hq1 : (1099511627776 - start) / step ≤ 1099511627776 - start := Int.ediv_le_self _ (by omega)
      have hw2 : IntKind.i64.wrap ((1099511627776 - start) / step) = (1099511627776 - start) / step := wrap_id (by omega) (by omega)
      have hnz : (step = 0) = False := eq_false (by omega)
      by_cases d3 : (1099511627776 - start) / step < n
      · have p3 := eq_true d3
        have : RES = 10 := by rw [← hR, if_pos (.inr (.inr d3))]
        subst this
        simp [go_sem, e1, e3, e5, hta2, q1, q2, qk, qb, qa, q3, q4, q5, p1, p2, hw, hd, hw2, hnz, p3]
        exact hk3
      have p3 := eq_false d3
      rw [if_neg (by unfold askBigM; omega)] at hR
      have hst : step ≤ 1099511627776 := by
        rcases Int.lt_or_le 1099511627776 step with h | h
        · exact absurd (show (1099511627776 - start) / step < n by rw [Int.ediv_eq_zero_of_lt (by omega) (by omega)]; omega) d3
        · exact h
      simp [go_sem, e1, e3, e5, hta2, q1, q2, qk, qb, qa, q3, q4, q5, p1, p2, hw, hd, hw2, hnz, p3]
      obtain ⟨hor, hhor⟩ : ∃ h, horizonM now ([k0, k1, k2, k3].getD (bestM start step 4) 0) = h := ⟨_, rfl⟩
      rw [hhor] at hR
      refine drawV [0, 1, 2, 3, 4, 5, 6, 7, 8, 9, 10, 11] (fun i v st' => match i with
        | 0 => v = .pointer (some ⟨ta, 5, none⟩)
        | 1 => v = Val.i start
        | 2 => v = .agg #[Val.i slack, Val.i k0, Val.i k1, Val.i k2, Val.i k3]
        | 3 => v = Val.i now
        | 4 => v = .pointer (some ⟨ta, 5, none⟩)
        | 5 => v = Val.i start
        | 6 => v = .pointer (some ⟨ta, 6, none⟩)
        | 7 => v = Val.i step
        | 8 => v = Val.i (bestM start step 4)
        | 9 => v = Val.i hor
        | _ => v = .bool (decide (start < hor))) (by kernel_rfl) (by kernel_rfl) ?_ ?_ ?_ ?_
      · intro i v st3 st4 hN h
        exact h
      · intro i oo hi E st3 hN hd hE
        have hta3 := hN _ _ hta2
        have htc3 := hN _ _ htc2
        match i with
        | 0 =>
          have x0 := hE 5 (oldB_spec (by kernel_rfl))
          simp at hi; subst hi
          simp [wantedE, go_sem, x0, e5]
          exact New.refl _
        | 1 =>
          simp at hi; subst hi
          have d1 := hd { on := 0, ground := .data } (by simp) (by decide) _ _ rfl rfl
          simp at d1
          simp [wantedE, go_sem, d1, hta3]
          exact New.refl _
        | 2 =>
          have x0 := hE 3 (oldB_spec (by kernel_rfl))
          simp at hi; subst hi
          simp [wantedE, go_sem, x0, e3, htc3]
          exact New.refl _
        | 3 =>
          have x0 := hE 1 (oldB_spec (by kernel_rfl))
          simp at hi; subst hi
          simp [wantedE, go_sem, x0, e1]
          exact New.refl _
        | 4 =>
          have x0 := hE 5 (oldB_spec (by kernel_rfl))
          simp at hi; subst hi
          simp [wantedE, go_sem, x0, e5]
          exact New.refl _
        | 5 =>
          simp at hi; subst hi
          have d1 := hd { on := 4, ground := .data } (by simp) (by decide) _ _ rfl rfl
          simp at d1
          simp [wantedE, go_sem, d1, hta3]
          exact New.refl _
        | 6 =>
          have x0 := hE 5 (oldB_spec (by kernel_rfl))
          simp at hi; subst hi
          simp [wantedE, go_sem, x0, e5]
          exact New.refl _
        | 7 =>
          simp at hi; subst hi
          have d1 := hd { on := 6, ground := .data } (by simp) (by decide) _ _ rfl rfl
          simp at d1
          simp [wantedE, go_sem, d1, hta3]
          exact New.refl _
        | 8 =>
          simp at hi; subst hi
          have d1 := hd { on := 5, ground := .data } (by simp) (by decide) _ _ rfl rfl
          have d2 := hd { on := 7, ground := .data } (by simp) (by decide) _ _ rfl rfl
          simp at d1 d2
          simp [wantedE, go_sem, d1, d2]
          refine (calCoarsest_spec (by omega) (by omega) (by omega) (by omega)).mono ?_
          rintro e st4 ⟨rfl, hN4⟩
          simp [go_sem]
          exact hN4
        | 9 =>
          simp at hi; subst hi
          have d1 := hd { on := 2, ground := .data } (by simp) (by decide) _ _ rfl rfl
          have d2 := hd { on := 3, ground := .data } (by simp) (by decide) _ _ rfl rfl
          have d3 := hd { on := 8, ground := .data } (by simp) (by decide) _ _ rfl rfl
          simp at d1 d2 d3
          simp [wantedE, go_sem, d1, d2, d3]
          refine (calHorizon_spec (bestM_lt _ _ 4 (by omega)) h0 h1 hk).mono ?_
          rintro e st4 ⟨rfl, hN4⟩
          rw [hhor]
          simp [go_sem]
          exact hN4
        | 10 =>
          simp at hi; subst hi
          have d1 := hd { on := 1, ground := .data } (by simp) (by decide) _ _ rfl rfl
          have d2 := hd { on := 9, ground := .data } (by simp) (by decide) _ _ rfl rfl
          simp at d1 d2
          simp [wantedE, go_sem, d1, d2]
          exact New.refl _
        | 11 =>
          simp at hi; subst hi
          have d1 := hd { on := 10, ground := .data } (by simp) (by decide) _ _ rfl rfl
          simp at d1
          simp [wantedE, go_sem, d1]
          exact New.refl _
        | i + 12 => simp at hi
      · intro E st3 hN hd hE
        have d11 := hd 11 _ _ rfl rfl
        simp at d11
        by_cases z : start < hor
        · rw [if_pos z] at hR
          subst hR
          simp [go_sem, d11, z]
          exact hk3.trans hN
        · rw [if_neg z] at hR
          subst hR
          simp [go_sem, d11, z]
          exact hk3.trans hN
      · intro j oj hj
        match j with
        | 0 | 1 | 2 | 3 | 4 | 5 | 6 | 7 | 8 | 9 | 10 | 11 => simp at hj; subst hj; decide
        | j + 12 => simp at hj
  rintro E2 st2 ⟨rfl, hk2⟩
  simp [go_sem]
  exact hk2
end
end Go.Proofs.YtflbapmjdfnhhaaGreat
set_option linter.unusedVariables false
set_option linter.unusedSimpArgs false
set_option maxRecDepth 100000
set_option maxHeartbeats 4000000
namespace Go.Proofs.YtflbapmjdfnhhaaGreat
open Go.RowKit (Below)
section
variable {W0 : World} {st : Heap}
end
end Go.Proofs.YtflbapmjdfnhhaaGreat
set_option linter.unusedVariables false
set_option linter.unusedSimpArgs false
set_option maxRecDepth 100000
set_option maxHeartbeats 4000000
namespace Go.Proofs.YtflbapmjdfnhhaaGreat
open Go.ChangeShapes Go.WideShapes Go.ChangeAt Go.RowKit
section
variable {W0 : World} {st : Heap}
theorem Matcher_copy {cs : List Value} {m : Mat} (hN : NiceM 12 m) (hm : MatAt st cs m) : ICalls Tryz.prog W0 20 #[.agg cs.toArray] st fun e st' => ∃ cs', e = .returned (.agg cs'.toArray) ∧ MatAt st' cs' m ∧ New st st' := by
  match m with
  | .mk op name value vals kids =>
  have hm0 := hm
  unfold MatAt at hm
  obtain ⟨vv, kv, ks, rfl, hv, hk, hkids⟩ := hm
  obtain ⟨vb, vc, rfl⟩ := hv.slice
  obtain ⟨kb, kc, rfl⟩ := hk.slice
  refine enter (args := [_]) Tryz.func20 rfl ?_
  simp [Tryz.f20, go_sem]
  unfold NewP
  intro tb htb
  refine ⟨.own tb 0 66, ?_⟩
  simp [go_sem]
  unfold NewP
  intro to hto
  refine ⟨.own to 0 67, ?_⟩
  have hne : tb ≠ to := by
    rintro rfl
    rw [upd_same] at hto
    cases hto
  have hne' := Ne.symm hne
  have hN2 : New st (upd (upd st tb (.cells true [Val.i op, .string name, .string value, .slice vb vals.length vc, .slice kb kids.length kc] 5 (.own tb 0 66))) to (.cells true [Val.i 0, .string ⟨#[]⟩, .string ⟨#[]⟩, .slice none 0 0, .slice none 0 0] 5 (.own to 0 67))) := ((New.refl _).add htb).add hto
  have htn : st to = none := ((New.refl _).add htb).none hto
  simp [go_sem, hne, hne']
  refine (matCopy_spec 12 (.mk op name value vals kids) (deep := 0) hN (by omega) (hm0.new hN2)).mono ?_
  rintro e st3 ⟨cs', rfl, hm3, hk3⟩
  have hto3 := hk3 _ _ (upd_same _ to _)
  have hl3 := hm3.length
  obtain ⟨vv', kv', ks', rfl, hv', hk', hkids'⟩ := hm3
  obtain ⟨vb', vc', rfl⟩ := hv'.slice
  obtain ⟨kb', kc', rfl⟩ := hk'.slice
  simp [go_sem, hto3]
  refine RetI_cell ?_
  simp [go_sem]
  have hR := fun size v xs len (h : RegF st3 size v xs len) => h.but (But1.put (o := .cells true [Val.i op, .string name, .string value, .slice vb' vals.length vc', .slice kb' kids.length kc'] 5 (.own to 0 67)) (But1.refl to st3)) hto3
  refine ⟨?_, (hN2.trans hk3).put htn⟩
  unfold MatAt
  exact ⟨_, _, ks', rfl, hR _ _ _ _ hv', hR _ _ _ _ hk', KidsAt.mono hR _ _ hkids'⟩
theorem ask_copy {cs : List Value} {m : Mat} {start step n kind a b : Int} (hN : NiceM 12 m) (hm : MatAt st cs m) : ICalls Tryz.prog W0 13 #[.agg (cs ++ [Val.i start, Val.i step, Val.i n, Val.i kind, Val.u a, Val.u b]).toArray] st fun e st' =>
    ∃ cs', e = .returned (.agg (cs' ++ [Val.i start, Val.i step, Val.i n, Val.i kind, Val.u a, Val.u b]).toArray) ∧ MatAt st' cs' m ∧ New st st' := by
  match m with
  | .mk op name value vals kids =>
  have hm0 := hm
  unfold MatAt at hm
  obtain ⟨vv, kv, ks, rfl, hv, hk, hkids⟩ := hm
  obtain ⟨vb, vc, rfl⟩ := hv.slice
  obtain ⟨kb, kc, rfl⟩ := hk.slice
  refine enter (args := [_]) Tryz.func13 rfl ?_
  simp [Tryz.f13, go_sem]
  unfold NewP
  intro tb htb
  refine ⟨.own tb 0 68, ?_⟩
  simp [go_sem]
  unfold NewP
  intro to hto
  refine ⟨.own to 0 69, ?_⟩
  have hne : tb ≠ to := by
    rintro rfl
    rw [upd_same] at hto
    cases hto
  have hne' := Ne.symm hne
  simp [go_sem, hne, hne']
  generalize hst2 : upd (upd st tb _) to _ = st2
  have hN2 : New st st2 := by rw [← hst2]; exact ((New.refl _).add htb).add hto
  have htb2 : st2 tb = some (.cells true [Val.i op, .string name, .string value, .slice vb vals.length vc, .slice kb kids.length kc, Val.i start, Val.i step, Val.i n, Val.i kind, Val.u a, Val.u b] 11 (.own tb 0 68)) := by
    rw [← hst2, upd_ne _ _ hne, upd_same]
  obtain ⟨zs, hzs, hto2⟩ : ∃ zs, zs.length = 11 ∧ st2 to = some (.cells true zs 11 (.own to 0 69)) := by
    rw [← hst2]
    exact ⟨_, rfl, upd_same _ _ _⟩
  have htn : st to = none := ((New.refl _).add htb).none hto
  refine (Matcher_copy hN (hm0.new hN2)).mono ?_
  rintro e st3 ⟨cs', rfl, hm3, hk3⟩
  have htb3 := hk3 _ _ htb2
  have hto3 := hk3 _ _ hto2
  obtain ⟨vv', kv', ks', rfl, hv', hk', hkids'⟩ := hm3
  obtain ⟨vb', vc', rfl⟩ := hv'.slice
  obtain ⟨kb', kc', rfl⟩ := hk'.slice
  have hz0 : zs.drop 11 = [] := by rw [List.drop_eq_nil_iff]; omega
  simp [go_sem, htb3, hto3, hne, hne', hzs, hz0]
  refine RetI_cell ?_
  simp [go_sem]
  have hR := fun size v xs len (h : RegF st3 size v xs len) => h.but (But1.put (o := .cells true [Val.i op, .string name, .string value, .slice vb' vals.length vc', .slice kb' kids.length kc', Val.i start, Val.i step, Val.i n, Val.i kind, Val.u a, Val.u b] 11 (.own tb 0 68)) (But1.refl tb st3)) htb3
  have hto4 : (upd st3 tb (.cells true [Val.i op, .string name, .string value, .slice vb' vals.length vc', .slice kb' kids.length kc', Val.i start, Val.i step, Val.i n, Val.i kind, Val.u a, Val.u b] 11 (.own tb 0 68))) to = some (.cells true zs 11 (.own to 0 69)) := (upd_ne _ _ hne').trans hto3
  have hR2 := fun size v xs len (h : RegF (upd st3 tb (.cells true [Val.i op, .string name, .string value, .slice vb' vals.length vc', .slice kb' kids.length kc', Val.i start, Val.i step, Val.i n, Val.i kind, Val.u a, Val.u b] 11 (.own tb 0 68))) size v xs len) => h.but (But1.put (o := (.cells true [Val.i op, .string name, .string value, .slice vb' vals.length vc', .slice kb' kids.length kc', Val.i start, Val.i step, Val.i n, Val.i kind, Val.u a, Val.u b] 11 (.own to 0 69))) (But1.refl to _)) hto4
  refine ⟨[Val.i op, .string name, .string value, .slice vb' vals.length vc', .slice kb' kids.length kc'], rfl, ?_, ((hN2.trans hk3).put htb).put htn⟩
  unfold MatAt
  exact ⟨_, _, ks', rfl, hR2 _ _ _ _ (hR _ _ _ _ hv'), hR2 _ _ _ _ (hR _ _ _ _ hk'), KidsAt.mono (fun _ _ _ _ h => hR2 _ _ _ _ (hR _ _ _ _ h)) _ _ hkids'⟩
end
end Go.Proofs.YtflbapmjdfnhhaaGreat
set_option linter.unusedVariables false
set_option linter.unusedSimpArgs false
set_option maxRecDepth 100000
set_option maxHeartbeats 4000000
namespace Go.Proofs.YtflbapmjdfnhhaaGreat
open Go.RowKit (Below)
section
variable {W0 : World} {st : Heap}
end
end Go.Proofs.YtflbapmjdfnhhaaGreat
set_option linter.unusedVariables false
set_option linter.unusedSimpArgs false
set_option maxRecDepth 100000
set_option maxHeartbeats 400000
namespace Go.Proofs.YtflbapmjdfnhhaaGreat
open Go.RowKit (Below)
section
variable {W0 : World} {st : Heap}
theorem ownNil_spec : ICalls Tryz.prog W0 25 #[.slice none 0 0] st fun e st' => e = .returned (.slice none 0 0) ∧ st' = st := by
  refine enter (args := [_]) Tryz.func25 rfl ?_
  simp [Tryz.f25, go_sem]
  refine ⟨fun E st' => st' = st ∧ E 3 = .slice none 0 0 ∧ E 7 = Val.i 0 ∧ E 8 = Val.i 0, fun _ _ => 0, ⟨st, .rfl' _, rfl, by simp [go_sem], by simp [go_sem], by simp [go_sem]⟩, ?_⟩
  rintro E st' ⟨rfl, e3, e7, e8⟩
  simp [go_sem, e3, e7, e8]
theorem meantNil_spec {cs : List Value} (hl : cs.length = 5) : ICalls Tryz.prog W0 26 #[.agg cs.toArray, .slice none 0 0] st fun e st' => e = .returned (.slice none 0 0) ∧ New st st' := by
  refine enter (args := [_, _]) Tryz.func26 rfl ?_
  simp [Tryz.f26, go_sem]
  unfold NewP
  intro b hb
  refine ⟨.ty 1, ?_⟩
  simp [go_sem]
  have hN := (New.refl st).add (b := b) (o := .cells true cs 5 (.ty 1)) hb
  refine ⟨fun E st' => New st st' ∧ E 5 = .slice none 0 0 ∧ E 9 = Val.i 0 ∧ E 10 = Val.i 0, fun _ _ => 0, ⟨_, .rfl' _, ?_, by simp [go_sem], by simp [go_sem], by simp [go_sem]⟩, ?_⟩
  · exact (New.refl st).add hb
  rintro E st' ⟨hk, e5, e9, e10⟩
  simp [go_sem, e5, e9, e10]
  exact hk
theorem windows_spec {start step n : Int} : ICalls Tryz.prog W0 28 #[Val.i start, Val.i step, Val.i n] st fun e st' => ∃ a b c, e = .returned (.func (.func 49) #[] #[ptr b, ptr c, ptr a]) ∧ New st st' ∧
    (∃ g, st' a = some (.cells true [Val.i start] 1 g)) ∧ (∃ g, st' b = some (.cells true [Val.i step] 1 g)) ∧ (∃ g, st' c = some (.cells true [Val.i n] 1 g)) := by
  refine enter (args := [_, _, _]) Tryz.func28 rfl ?_
  simp [Tryz.f28, go_sem]
  unfold NewP
  intro a ha
  refine ⟨.ty 1, ?_⟩
  have h1 := (New.refl st).add (b := a) (o := .cells true [Val.i start] 1 (.ty 1)) ha
  have ga := upd_same st a (.cells true [Val.i start] 1 (.ty 1))
  simp [go_sem]
  generalize upd st a (.cells true [Val.i start] 1 (.ty 1)) = st1 at *
  unfold NewP
  intro b hb
  refine ⟨.ty 1, ?_⟩
  have h2 := (New.refl st1).add (b := b) (o := .cells true [Val.i step] 1 (.ty 1)) hb
  have gb := upd_same st1 b (.cells true [Val.i step] 1 (.ty 1))
  simp [go_sem]
  generalize upd st1 b (.cells true [Val.i step] 1 (.ty 1)) = st2 at *
  unfold NewP
  intro c hc
  refine ⟨.ty 1, ?_⟩
  have h3 := (New.refl st2).add (b := c) (o := .cells true [Val.i n] 1 (.ty 1)) hc
  have gc := upd_same st2 c (.cells true [Val.i n] 1 (.ty 1))
  simp [go_sem]
  generalize upd st2 c (.cells true [Val.i n] 1 (.ty 1)) = st3 at *
  exact ⟨a, b, c, ⟨rfl, rfl, rfl⟩, (h1.trans h2).trans h3, ⟨_, h3 _ _ (h2 _ _ ga)⟩, ⟨_, h3 _ _ gb⟩, ⟨_, gc⟩⟩
end
end Go.Proofs.YtflbapmjdfnhhaaGreat
set_option linter.unusedVariables false
set_option linter.unusedSimpArgs false
set_option maxRecDepth 100000
set_option maxHeartbeats 400000
namespace Go.Proofs.YtflbapmjdfnhhaaGreat
open Go.RowKit (Below)
section
variable {W0 : World} {st : Heap}
theorem answers_spec {cs ds : List Value} (hl : cs.length = 5) (hd : ds.length = 6) : ICalls Tryz.prog W0 12 #[.agg (cs ++ ds).toArray, .slice none 0 0] st fun e st' => ∃ a r, e = .returned (.func (.func 27) #[] #[ptr a, ptr r]) ∧ New st st' ∧ a ≠ r ∧
    (∃ g, st' a = some (.cells true (cs ++ ds) 11 g)) ∧ (∃ g, st' r = some (.cells true [.slice none 0 0] 1 g)) := by
  have h11 : (cs ++ ds).length = 11 := by simp [hl, hd]
  have htk : (cs ++ ds).take 5 = cs := by rw [← hl]; exact List.take_left
  refine enter (args := [_, _]) Tryz.func12 rfl ?_
  simp [Tryz.f12, go_sem]
  unfold NewP
  intro a ha
  refine ⟨.ty 1, ?_⟩
  rw [h11]
  have h1 := (New.refl st).add (b := a) (o := .cells true (cs ++ ds) 11 (.ty 1)) ha
  have ga := upd_same st a (.cells true (cs ++ ds) 11 (.ty 1))
  simp [go_sem, htk, hl, hd]
  generalize upd st a (.cells true (cs ++ ds) 11 (.ty 1)) = st1 at *
  refine (meantNil_spec hl).mono ?_
  rintro e st2 ⟨rfl, h2⟩
  simp [go_sem]
  refine ownNil_spec.mono ?_
  rintro e st3 ⟨rfl, rfl⟩
  simp [go_sem]
  unfold NewP
  intro r hr
  refine ⟨.ty 1, ?_⟩
  have h3 := (New.refl st3).add (b := r) (o := .cells true [.slice none 0 0] 1 (.ty 1)) hr
  have gr := upd_same st3 r (.cells true [.slice none 0 0] 1 (.ty 1))
  have hne : a ≠ r := by rintro rfl; rw [h2 _ _ ga] at hr; cases hr
  simp [go_sem]
  generalize upd st3 r (.cells true [.slice none 0 0] 1 (.ty 1)) = st4 at *
  exact ⟨a, r, ⟨rfl, rfl⟩, (h1.trans h2).trans h3, hne, ⟨_, h3 _ _ (h2 _ _ ga)⟩, ⟨_, gr⟩⟩
end
end Go.Proofs.YtflbapmjdfnhhaaGreat
