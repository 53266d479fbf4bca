/- A record read, in parts: gauges: the walk. -/
import Derived.Test.YtadgciaclhjjkaaGreatC32
set_option linter.unusedVariables false
set_option linter.unusedSimpArgs false
set_option maxRecDepth 100000
set_option maxHeartbeats 2000000
namespace Go.Proofs.YtadgciaclhjjkaaGreat
open Go.RowKit (Below)
theorem leR_snoc : ∀ (l : Bs) (c : UInt8), leR (l ++ [c]) = leR l + c.toNat * 256 ^ l.length
  | [], c => by simp [leR]
  | x :: l, c => by
    rw [List.cons_append, leR, leR, leR_snoc l c, List.length_cons, Nat.pow_succ, Nat.mul_add, Nat.mul_comm (256 ^ l.length) 256, ← Nat.mul_assoc, ← Nat.mul_assoc, Nat.mul_comm 256 c.toNat]
    omega
theorem leR_lt : ∀ l : Bs, leR l < 256 ^ l.length
  | [] => by simp [leR]
  | x :: l => by
    have h1 := leR_lt l
    have h2 := x.toNat_lt
    rw [leR, List.length_cons, Nat.pow_succ]
    omega
theorem pow256 (k : Nat) (h : k < 8) (c : Nat) (hc : c < 256) : c * 256 ^ k < 2 ^ 64 := by
  have h1 : c * 256 ^ k < 256 * 256 ^ k := Nat.mul_lt_mul_of_pos_right hc (Nat.pow_pos (by omega))
  have h2 : 256 * 256 ^ k = 256 ^ (k + 1) := by rw [Nat.pow_succ, Nat.mul_comm]
  have h3 : 256 ^ (k + 1) ≤ 256 ^ 8 := Nat.pow_le_pow_right (by omega) (by omega)
  have h4 : 256 ^ 8 = 2 ^ 64 := by decide
  omega
theorem byte_shl (k : Nat) (h : k < 8) (c : Nat) (hc : c < 256) : (if IntKind.i64.wrap (8 * (k : Int)) < 0 then none else some (Value.int .u64 (IntKind.u64.wrap ((c : Int) * 2 ^ min (IntKind.i64.wrap (8 * (k : Int))).toNat 64)))) = some (.int .u64 ((c * 256 ^ k : Nat) : Int)) := by
  have e0 : IntKind.i64.wrap (8 * (k : Int)) = 8 * (k : Int) := wrap_id (by omega) (by omega)
  have e3 : ¬ (8 * (k : Int) < 0) := by omega
  rw [e0, if_neg e3]
  have e1 : min (8 * (k : Int)).toNat 64 = 8 * k := by omega
  have e2 : (2 : Int) ^ (8 * k) = ((256 ^ k : Nat) : Int) := by rw [Int.pow_mul]; norm_cast
  have h1 := pow256 k h c hc
  have e4 : (c : Int) * ((256 ^ k : Nat) : Int) = ((c * 256 ^ k : Nat) : Int) := by norm_cast
  rw [e1, e2, e4, wraps_u64 _ (by omega) (by omega)]
theorem byte_or (k : Nat) (h : k < 8) (x c : Nat) (hx : x < 256 ^ k) (hc : c < 256) : bits .or .u64 (x : Int) ((c * 256 ^ k : Nat) : Int) = ((x + c * 256 ^ k : Nat) : Int) := by
  have h1 := pow256 k h c hc
  have h2 : (256 : Nat) ^ k ≤ 256 ^ 8 := Nat.pow_le_pow_right (by omega) (by omega)
  have h4 : (256 : Nat) ^ 8 = 2 ^ 64 := by decide
  have e2 : (2 : Int) ^ (8 * k) = ((256 ^ k : Nat) : Int) := by rw [Int.pow_mul]; norm_cast
  rw [bits_join64 (8 * k) _ _ (by omega) (by rw [e2]; omega) (by omega) ?_ (by omega) (by omega)]
  · norm_cast
  · rw [e2]
    have : ((c * 256 ^ k : Nat) : Int) % ((256 ^ k : Nat) : Int) = ((c * 256 ^ k % 256 ^ k : Nat) : Int) := by norm_cast
    rw [this, Nat.mul_mod_left]
    rfl
section
variable {W0 : World} {st : Heap}
theorem gaugeGet_spec {bv : Value} {b : Bs} {g0 : Tg} {at_ : Int} (hb : Reg st g0 1 bv (bytesV b) b.length) (hl : b.length < 2 ^ 60) :
    ICalls Tryz.prog W0 182 #[bv, Val.i at_] st fun e st' => New st st' ∧ match gauGetM b at_ with
      | some (q, a) => e = .returned (.tuple #[.agg #[Val.u q.n, Val.u q.nans, Val.u q.lo, Val.u q.hi], Val.i a, .bool true])
      | none => e = .returned (.tuple #[.agg #[Val.u 0, Val.u 0, Val.u 0, Val.u 0], Val.i 0, .bool false]) := by
  obtain ⟨bb, bc, rfl⟩ := hb.slice
  generalize hRES : gauGetM b at_ = RES
  unfold gauGetM at hRES
  refine enter (args := [_, _]) Tryz.func182 rfl ?_
  simp [Tryz.f182, go_sem]
  unfold NewP
  intro t4 ht4
  refine ⟨.ty 0, ?_⟩
  have hc1 := upd_same st t4 (.cells true [Val.u 0, Val.u 0, Val.u 0, Val.u 0] 4 (.ty 0))
  have k1 := (New.refl st).add (b := t4) (o := .cells true [Val.u 0, Val.u 0, Val.u 0, Val.u 0] 4 (.ty 0)) ht4
  simp [go_sem]
  generalize upd st t4 (.cells true [Val.u 0, Val.u 0, Val.u 0, Val.u 0] 4 (.ty 0)) = s1 at *
  refine (vGet_spec (hb.new k1) hl).mono ?_
  rintro e st1 ⟨rfl, rfl⟩
  cases hv : vgetM b at_ with
  | none =>
    rw [hv] at hRES
    simp at hRES
    subst hRES
    simp [go_sem, vgetV, hc1]
    refine RetI_cell_two ?_
    simp [go_sem]
    exact k1.put ht4
  | some p =>
  obtain ⟨nans, a1⟩ := p
  have hb1 := vgetM_bound hv
  rw [hv] at hRES
  simp only [Option.bind_some] at hRES
  simp [go_sem, vgetV]
  refine (vGet_spec (hb.new k1) hl).mono ?_
  rintro e st2 ⟨rfl, rfl⟩
  cases hv2 : vgetM b a1 with
  | none =>
    rw [hv2] at hRES
    simp at hRES
    subst hRES
    simp [go_sem, vgetV, hc1]
    refine RetI_cell_two ?_
    simp [go_sem]
    exact k1.put ht4
  | some p =>
  obtain ⟨n, q2⟩ := p
  have hb2 := vgetM_bound hv2
  simp only at hb1 hb2
  rw [hv2] at hRES
  simp only [Option.bind_some] at hRES
  simp [go_sem, vgetV]
  unfold NewP
  intro t10 ht10
  refine ⟨.ty 0, ?_⟩
  have hd2 := upd_same st2 t10 (.cells true [Val.u 0, Val.u 0] 2 (.ty 0))
  have k2 := (New.refl st2).add (b := t10) (o := .cells true [Val.u 0, Val.u 0] 2 (.ty 0)) ht10
  have n410 := ne_of_new hc1 ht10
  have hc2 := k2 _ _ hc1
  simp [go_sem]
  generalize upd st2 t10 (.cells true [Val.u 0, Val.u 0] 2 (.ty 0)) = s2 at *
  have K2 := k1.trans k2
  have ht10s := k1.none ht10
  by_cases h0 : n = 0
  · have x0 : ((0 : Int) < n) = False := eq_false (by omega)
    rw [if_pos h0] at hRES
    subst hRES
    simp [go_sem, x0, h0, hd2]
    unfold NewP
    intro t12 ht12
    refine ⟨.ty 0, ?_⟩
    have he3 := upd_same s2 t12 (.cells true [Val.u 0, Val.u nans, Val.u 0, Val.u 0] 4 (.ty 0))
    have k3 := (New.refl s2).add (b := t12) (o := .cells true [Val.u 0, Val.u nans, Val.u 0, Val.u 0] 4 (.ty 0)) ht12
    have hc3 := k3 _ _ hc2
    have n412 := ne_of_new hc2 ht12
    simp [go_sem]
    generalize upd s2 t12 (.cells true [Val.u 0, Val.u nans, Val.u 0, Val.u 0] 4 (.ty 0)) = s3 at *
    have ok : GauOK ⟨0, nans, 0, 0⟩ := ⟨by simp, hb1.1, by simp, by simp⟩
    refine ICalls.mono (by simpa [GauD.cells] using gaugeCheck_spec (W0 := W0) (st := s3) ok) ?_
    rintro e s4 ⟨rfl, k4⟩
    have hc4 := k4 _ _ hc3
    have he4 := k4 _ _ he3
    simp [go_sem, checkG, hc4, he4, n412]
    refine RetI_cell_two ?_
    simp [go_sem]
    exact (((K2.trans k3).trans k4).put ht4)
  have x0 : ((0 : Int) < n) = True := eq_true (by omega)
  have hn0 : 0 < n := by omega
  rw [if_neg h0] at hRES
  have hws : IntKind.i64.wrap ((b.length : Int) - (q2 : Int)) = ((b.length - q2 : Nat) : Int) := by rw [wrap_id (by omega) (by omega)]; omega
  obtain ⟨rm, hrm⟩ : ∃ m, b.length - q2 = m := ⟨_, rfl⟩
  rw [hrm] at hws hRES
  by_cases hlt16 : rm < 16
  · have x1 : ((rm : Int) < 16) = True := eq_true (by omega)
    rw [if_pos hlt16] at hRES
    subst hRES
    simp [go_sem, x0, hn0, hws, x1, hlt16, hc2]
    refine RetI_cell_two ?_
    simp [go_sem]
    exact K2.put ht4
  have x1 : ((rm : Int) < 16) = False := eq_false (by omega)
  rw [if_neg hlt16] at hRES
  simp [go_sem, x0, hn0, hws, x1, hlt16]
  obtain ⟨LO, hLO⟩ : ∃ x, leR ((b.drop q2).take 8) = x := ⟨_, rfl⟩
  obtain ⟨HI, hHI⟩ : ∃ x, leR ((b.drop (q2 + 8)).take 8) = x := ⟨_, rfl⟩
  have hdl : ∀ p, p + 8 ≤ b.length → leR ((b.drop p).take 8) < 2 ^ 64 := fun p hp => by
    have := leR_lt ((b.drop p).take 8)
    have e : ((b.drop p).take 8).length = 8 := by rw [List.length_take, List.length_drop]; omega
    rw [e] at this
    have h4 : (256 : Nat) ^ 8 = 2 ^ 64 := by decide
    omega
  have hLO64 : LO < 2 ^ 64 := by rw [← hLO]; exact hdl _ (by omega)
  have hHI64 : HI < 2 ^ 64 := by rw [← hHI]; exact hdl _ (by omega)
  rw [hLO, hHI] at hRES
  refine ⟨fun E s => New st2 s ∧ E 0 = .slice bb b.length bc ∧ E 1 = Val.i q2 ∧ E 4 = ptr t4 ∧ E 7 = Val.u nans ∧ E 9 = Val.u n ∧ E 10 = ptr t10 ∧ ∃ i : Nat, E 42 = Val.i i ∧ i ≤ 16 ∧ s t10 = some (.cells true [Val.u (leR ((b.drop q2).take (min i 8))), Val.u (leR ((b.drop (q2 + 8)).take (i - 8)))] 2 (.ty 0)),
    fun E _ => match E 42 with | .int _ i => 16 - i.toNat | _ => 0, ⟨s2, .rfl' _, k2, by simp [go_sem], by simp [go_sem], by simp [go_sem], by simp [go_sem], by simp [go_sem], by simp [go_sem], 0, by simp [go_sem], by omega, by simpa [leR] using hd2⟩, ?_⟩
  rintro E s3 ⟨k3, e0, e1, e4, e7, e9, e10, i, e42, hi, hd3⟩
  have K3 := k1.trans k3
  have hc3 := k3 _ _ hc1
  by_cases hlt : i < 16
  · have hlt' : ((i : Int) < 16) = True := eq_true (by omega)
    have hwi : IntKind.i64.wrap ((i : Int) + 1) = ((i + 1 : Nat) : Int) := by rw [wrap_id (by omega) (by omega)]; omega
    have hwq : IntKind.i64.wrap ((q2 : Int) + (i : Int)) = ((q2 + i : Nat) : Int) := by rw [wrap_id (by omega) (by omega)]; omega
    obtain ⟨p, hp⟩ : ∃ p, q2 + i = p := ⟨_, rfl⟩
    rw [hp] at hwq
    have hpl : p < b.length := by omega
    obtain ⟨mb, mo, rfl, gg⟩ := src_get (hb.new K3).src (by omega)
    have hgx := gg p (by omega)
    obtain ⟨c, hcx⟩ : ∃ c, b[p]? = some c := ⟨_, List.getElem?_eq_getElem hpl⟩
    have hbx : (bytesV b)[p]? = some (.int .u8 c.toNat) := by simp [bytesV, hcx]
    rw [hbx] at hgx
    have hc8 := c.toNat_lt
    have hwc : IntKind.u64.wrap ((c.toNat : Nat) : Int) = ((c.toNat : Nat) : Int) := wraps_u64 _ (by omega) (by omega)
    have hcap : p < b.length := hpl
    by_cases hi8 : i < 8
    · have hq : (i : Int).tdiv 8 = 0 := by rw [Int.tdiv_eq_ediv_of_nonneg (by omega)]; omega
      have hr : (i : Int).tmod 8 = (i : Int) := by rw [Int.tmod_eq_emod_of_nonneg (by omega)]; omega
      have w0 : IntKind.i64.wrap 0 = 0 := wrap_id (by omega) (by omega)
      have hm1 : min i 8 = i := by omega
      have hm2 : min (i + 1) 8 = i + 1 := by omega
      have htk : (b.drop q2).take (i + 1) = (b.drop q2).take i ++ [c] := by
        rw [List.take_add_one, List.getElem?_drop, hp, hcx]
        rfl
      have hlen : ((b.drop q2).take i).length = i := by rw [List.length_take, List.length_drop]; omega
      have hsn := leR_snoc ((b.drop q2).take i) c
      have hlt1 := leR_lt ((b.drop q2).take i)
      rw [hlen] at hsn hlt1
      rw [hm1] at hd3
      generalize leR ((b.drop q2).take i) = A at *
      have hsh := byte_shl i hi8 c.toNat (by omega)
      have hor := byte_or i hi8 A c.toNat hlt1 (by omega)
      generalize c.toNat = cn at *
      generalize hcs : cn * 256 ^ i = sh at *
      simp [go_sem, e0, e1, e10, e42, hlt', hlt]
      refine draw [0, 1, 2, 4, 5, 6, 7, 8, 11, 12, 13, 3, 9, 10, 14, 15, 16, 17] (by kernel_rfl) ?_
      simp [go_sem, e0, e1, e10, e42, hlt', hlt, hq, hr, w0, hd3, hwq, hpl, hgx, hwc, hsh, hor]
      refine ⟨_, .rfl' _, ⟨k3.put ht10, e4, e7, e9, i + 1, hwi, by omega, ?_⟩, by rw [hwi]; omega⟩
      rw [upd_same, hm2, htk, hsn, show i + 1 - 8 = i - 8 by omega]
      rfl
    · obtain ⟨j, rfl⟩ : ∃ j, i = 8 + j := ⟨i - 8, by omega⟩
      have hj8 : j < 8 := by omega
      have hq : ((8 + j : Nat) : Int).tdiv 8 = 1 := by rw [Int.tdiv_eq_ediv_of_nonneg (by omega)]; omega
      have hr : ((8 + j : Nat) : Int).tmod 8 = (j : Int) := by rw [Int.tmod_eq_emod_of_nonneg (by omega)]; omega
      have w1 : IntKind.i64.wrap 1 = 1 := wrap_id (by omega) (by omega)
      have hm1 : min (8 + j) 8 = 8 := by omega
      have hm2 : min (8 + j + 1) 8 = 8 := by omega
      have e8 : 8 + j - 8 = j := by omega
      have htk : (b.drop (q2 + 8)).take (j + 1) = (b.drop (q2 + 8)).take j ++ [c] := by
        rw [List.take_add_one, List.getElem?_drop, Nat.add_assoc, hp, hcx]
        rfl
      have hlen : ((b.drop (q2 + 8)).take j).length = j := by rw [List.length_take, List.length_drop]; omega
      have hsn := leR_snoc ((b.drop (q2 + 8)).take j) c
      have hlt1 := leR_lt ((b.drop (q2 + 8)).take j)
      rw [hlen] at hsn hlt1
      rw [hm1, e8] at hd3
      generalize leR ((b.drop (q2 + 8)).take j) = A at *
      have hsh := byte_shl j hj8 c.toNat (by omega)
      have hor := byte_or j hj8 A c.toNat hlt1 (by omega)
      generalize c.toNat = cn at *
      generalize hcs : cn * 256 ^ j = sh at *
      obtain ⟨i, hii⟩ : ∃ i, 8 + j = i := ⟨_, rfl⟩
      rw [hii] at hwi hwq hq hr hlt' e42 hlt hm2 hi
      simp [go_sem, e0, e1, e10, e42, hlt', hlt]
      refine draw [0, 1, 2, 4, 5, 6, 7, 8, 11, 12, 13, 3, 9, 10, 14, 15, 16, 17] (by kernel_rfl) ?_
      simp [go_sem, e0, e1, e10, e42, hlt', hlt, hq, hr, w1, hd3, hwq, hpl, hgx, hwc, hsh, hor]
      refine ⟨_, .rfl' _, ⟨k3.put ht10, e4, e7, e9, i + 1, hwi, by omega, ?_⟩, by rw [hwi]; omega⟩
      rw [upd_same, hm2, show i + 1 - 8 = j + 1 by omega, htk, hsn]
      rfl
  · have hlt' : ((i : Int) < 16) = False := eq_false (by omega)
    have : i = 16 := by omega
    subst this
    have hm : min 16 8 = 8 := by decide
    rw [hm, show 16 - 8 = 8 by decide, hLO, hHI] at hd3
    have hwq : IntKind.i64.wrap ((q2 : Int) + 16) = ((q2 + 16 : Nat) : Int) := by rw [wrap_id (by omega) (by omega)]; omega
    obtain ⟨q3, hq3⟩ : ∃ q, q2 + 16 = q := ⟨_, rfl⟩
    rw [hq3] at hwq hRES
    simp [go_sem, e1, e7, e9, e10, e42, hwq, hd3]
    unfold NewP
    intro t12 ht12
    refine ⟨.ty 0, ?_⟩
    have he4 := upd_same s3 t12 (.cells true [Val.u n, Val.u nans, Val.u LO, Val.u HI] 4 (.ty 0))
    have k4 := (New.refl s3).add (b := t12) (o := .cells true [Val.u n, Val.u nans, Val.u LO, Val.u HI] 4 (.ty 0)) ht12
    have hc4 := k4 _ _ hc3
    have n412 := ne_of_new hc3 ht12
    simp [go_sem]
    generalize upd s3 t12 (.cells true [Val.u n, Val.u nans, Val.u LO, Val.u HI] 4 (.ty 0)) = s4 at *
    have ok : GauOK ⟨n, nans, LO, HI⟩ := ⟨hb2.1, hb1.1, hLO64, hHI64⟩
    refine ICalls.mono (by simpa [GauD.cells] using gaugeCheck_spec (W0 := W0) (st := s4) ok) ?_
    rintro e s5 ⟨rfl, k5⟩
    have hc5 := k5 _ _ hc4
    have he5 := k5 _ _ he4
    have K5 := (K3.trans k4).trans k5
    cases hck : checkG ⟨n, nans, LO, HI⟩ with
    | true =>
      rw [hck, if_pos rfl] at hRES
      subst hRES
      simp [go_sem, e4, hc5, he5, n412]
      refine RetI_cell_two ?_
      simp [go_sem, e4]
      exact K5.put ht4
    | false =>
      rw [hck, if_neg (by simp)] at hRES
      subst hRES
      simp [go_sem, e4, hc5, he5, n412]
      refine RetI_cell_two ?_
      simp [go_sem, e4]
      exact K5.put ht4
end
end Go.Proofs.YtadgciaclhjjkaaGreat
