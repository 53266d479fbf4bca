/- A region of any order: each result by itself, what speaks of the heap too, and what holds of the heap by what is done. Plain theorems, over any program. -/
import Derived.Test.YtadgciaclhjjkaaGreatC10
import Derived.Test.YtadgciaclhjjkaaGreatC30
set_option linter.unusedVariables false
set_option linter.unusedSimpArgs false
namespace Go.Proofs.YtadgciaclhjjkaaGreat
end Go.Proofs.YtadgciaclhjjkaaGreat
set_option linter.unusedVariables false
set_option linter.unusedSimpArgs false
set_option maxRecDepth 100000
set_option maxHeartbeats 2000000
namespace Go.Proofs.YtadgciaclhjjkaaGreat
open Go.RowKit (Below)
theorem labs_len : ∀ (l : List Lab), (∀ x ∈ l, x.1.size ≤ 32 ∧ x.2.size ≤ 64) → (l.flatMap labB).length ≤ l.length * 120
  | [], _ => by simp
  | x :: l, h => by
    have h1 := labs_len l (fun y hy => h y (by simp [hy]))
    have hx := h x (by simp)
    have a1 := (vputM_len x.1.size (by omega)).1
    have a2 := (vputM_len x.2.size (by omega)).1
    have e : (labB x).length = (vputM x.1.size).length + x.1.size + ((vputM x.2.size).length + x.2.size) := by simp [labB, textB]; omega
    rw [List.flatMap_cons, List.length_append, List.length_cons]
    omega
section
variable {W0 : World} {st : Heap}
theorem labelPut_spec {bv lv : Value} {b : Bs} {l : List Lab} {g0 : Tg} (g : Tg) (h : Reg st g0 1 bv (bytesV b) b.length) (hL : RegF st 2 lv (labV l) l.length) (hsz : ∀ x ∈ l, x.1.size ≤ 32 ∧ x.2.size ≤ 64) (hll : l.length ≤ 100) (hl : b.length < 2 ^ 38) :
    ICalls Tryz.prog W0 55 #[bv, lv] st (MatPutR st g (b ++ labsB l)) := by
  obtain ⟨lb, lc, rfl⟩ := hL.slice
  refine enter (args := [_, _]) Tryz.func55 rfl ?_
  have hw : IntKind.u64.wrap (l.length : Int) = l.length := wraps_u64 _ (by omega) (by omega)
  simp [Tryz.f55, go_sem, hw]
  refine (vPut_spec g h (show l.length < 2 ^ 64 by omega) (by omega)).mono ?_
  rintro e st1 ⟨v1, rfl, hV1, hF1, k1⟩
  have hv10 := vputM_len l.length (by omega)
  simp [go_sem]
  have hTl := labs_len l hsz
  obtain ⟨T, hT⟩ : ∃ T, b ++ labsB l = T := ⟨_, rfl⟩
  have hgo0 : (b ++ vputM l.length) ++ l.flatMap labB = T := by rw [← hT]; unfold labsB; rw [List.append_assoc]
  rw [hT]
  have hTlen : T.length < 2 ^ 39 := by rw [← hgo0, List.length_append, List.length_append]; omega
  generalize b ++ vputM l.length = c1 at *
  refine ⟨fun E st' => New st st' ∧ E 12 = .slice lb l.length lc ∧ E 13 = Val.i l.length ∧ ∃ (i : Nat) (v : Value) (c : Bs), E 0 = v ∧ E 14 = Val.i i ∧ i ≤ l.length ∧ c ++ (l.drop i).flatMap labB = T ∧ Vec st' g 1 v (bytesV c) c.length ∧ Fresh st v,
    fun E _ => match E 14 with | .int _ i => l.length - i.toNat | _ => 0, ⟨st1, .rfl' _, k1, by simp [go_sem], by simp [go_sem], 0, _, c1, by simp [go_sem], by simp [go_sem], by omega, by simpa using hgo0, hV1, hF1⟩, ?_⟩
  clear hV1 hF1 hgo0 k1
  rintro E st2 ⟨k2, e12, e13, i, v, c, e0, e14, hi, hgo, hV, hF⟩
  by_cases hlt : i < l.length
  · have hlt' : ((i : Int) < l.length) = True := eq_true (by omega)
    have hwi : IntKind.i64.wrap ((i : Int) + 1) = ((i + 1 : Nat) : Int) := by rw [wrap_id (by omega) (by omega)]; omega
    obtain ⟨x, hx⟩ : ∃ x, l[i]? = some x := ⟨l[i], List.getElem?_eq_getElem hlt⟩
    have hxs := hsz x (List.mem_of_getElem? hx)
    have hd : l.drop i = x :: l.drop (i + 1) := by
      rw [List.drop_eq_getElem_cons hlt]
      rw [List.getElem?_eq_getElem hlt] at hx
      injection hx with hx
      rw [hx]
    rw [hd, List.flatMap_cons] at hgo
    obtain ⟨mb, off, cap, rw_, zs, mm, g', hv, hs, hget⟩ := rows_get (hL.new k2) (by omega)
    injection hv with hv1 hv2 hv3
    subst hv1
    subst hv3
    obtain ⟨hlen, hcell, hc⟩ := hget i hlt
    rw [labV_get l i x hx] at hcell
    have hcl : c.length + (labB x).length < 2 ^ 39 := by
      rw [← hgo, List.length_append, List.length_append] at hTlen; omega
    simp [go_sem, e12, e13, e14, hlt', hlt, hs, hlen, hcell]
    unfold NewP
    intro tb htb
    refine ⟨.ty 0, ?_⟩
    have k3 := (New.refl st2).add (b := tb) (o := .cells true [.string x.1, .string x.2] 2 (.ty 0)) htb
    have hc3 := upd_same st2 tb (.cells true [.string x.1, .string x.2] 2 (.ty 0))
    have hV3 := hV.new' k3
    simp [go_sem]
    generalize upd st2 tb (.cells true [.string x.1, .string x.2] 2 (.ty 0)) = s3 at *
    have K3 := k2.trans k3
    generalize hE0 : (Env.set _ _ _ : Env) = E0
    have f0 : E0 0 = v := by subst hE0; simp [go_sem, e0]
    have f6 : E0 6 = ptr tb := by subst hE0; simp [go_sem]
    have f12 : E0 12 = .slice (some ⟨mb, off, none⟩) l.length lc := by subst hE0; simp [go_sem, e12]
    have f13 : E0 13 = Val.i l.length := by subst hE0; simp [go_sem, e13]
    have f14 : E0 14 = Val.i i := by subst hE0; simp [go_sem, e14]
    clear hE0
    have hlb : (labB x).length = (vputM x.1.size).length + x.1.size + ((vputM x.2.size).length + x.2.size) := by simp [labB, textB]; omega
    have hl3 : (c ++ textB x.1).length = c.length + ((vputM x.1.size).length + x.1.size) := by simp [textB]
    obtain ⟨c3, hc3'⟩ : ∃ y, c ++ textB x.1 = y := ⟨_, rfl⟩
    obtain ⟨c6, hc6'⟩ : ∃ y, c3 ++ textB x.2 = y := ⟨_, rfl⟩
    rw [hc3'] at hl3
    refine drawV [0, 1, 2, 3, 4, 5, 6, 7] (fun ix vx st' => match ix with
      | 0 => vx = v
      | 1 => vx = .pointer (some ⟨tb, 0, none⟩)
      | 2 => vx = .string x.1
      | 3 => Vec st' (.ty 0) 1 vx (bytesV c3) c3.length
      | 4 => vx = .pointer (some ⟨tb, 1, none⟩)
      | 5 => vx = .string x.2
      | 6 | 7 => Vec st' g 1 vx (bytesV c6) c6.length ∧ Fresh s3 vx
      | _ => True) (by kernel_rfl) (by kernel_rfl) ?_ ?_ ?_ ?_
    · intro ix vx sta stb hNw h
      match ix with
      | 3 => exact Vec.new' h hNw
      | 6 => exact ⟨h.1.new' hNw, h.2⟩
      | 7 => exact ⟨h.1.new' hNw, h.2⟩
      | 0 => exact h
      | 1 => exact h
      | 2 => exact h
      | 4 => exact h
      | 5 => exact h
      | ix + 8 => exact h
    · intro ix oo hi E sta hNw hd hE
      match ix with
      | 0 =>
        have x0 := hE 0 (oldB_spec (by kernel_rfl))
        injection hi with hi; subst hi
        simp [wantedE, go_sem, x0, f0]
        exact New.refl _
      | 1 =>
        have x6 := hE 6 (oldB_spec (by kernel_rfl))
        injection hi with hi; subst hi
        simp [wantedE, go_sem, x6, f6]
        exact New.refl _
      | 2 =>
        injection hi with hi; subst hi
        have d1 := hd { on := 1, ground := .data } (by simp) (by decide) _ _ rfl rfl
        simp only at d1
        have gt := hNw _ _ hc3
        simp [wantedE, go_sem, d1, gt]
        exact New.refl _
      | 3 =>
        injection hi with hi; subst hi
        have d0 := hd { on := 0, ground := .data } (by simp) (by decide) _ _ rfl rfl
        have d2 := hd { on := 2, ground := .data } (by simp) (by decide) _ _ rfl rfl
        simp only at d0 d2
        simp [wantedE, go_sem, d0, d2]
        refine (vPutText_spec (.ty 0) (hV3.new' hNw).reg (by omega) (by omega)).mono ?_
        rintro e stx ⟨w, rfl, hw1, hw2, kx⟩
        simp [go_sem]
        exact ⟨kx, by rw [← hc3']; exact hw1⟩
      | 4 =>
        have x6 := hE 6 (oldB_spec (by kernel_rfl))
        injection hi with hi; subst hi
        simp [wantedE, go_sem, x6, f6]
        exact New.refl _
      | 5 =>
        injection hi with hi; subst hi
        have d4 := hd { on := 4, ground := .data } (by simp) (by decide) _ _ rfl rfl
        simp only at d4
        have gt := hNw _ _ hc3
        simp [wantedE, go_sem, d4, gt]
        exact New.refl _
      | 6 =>
        injection hi with hi; subst hi
        have d3 := hd { on := 3, ground := .data } (by simp) (by decide) _ _ rfl rfl
        have d5 := hd { on := 5, ground := .data } (by simp) (by decide) _ _ rfl rfl
        simp only at d3 d5
        simp [wantedE, go_sem, d3, d5]
        refine (vPutText_spec g d3.reg (by omega) (by omega)).mono ?_
        rintro e stx ⟨w, rfl, hw1, hw2, kx⟩
        simp [go_sem]
        exact ⟨kx, by rw [← hc6']; exact hw1, fun b off n c e => hNw.none (hw2 b off n c e)⟩
      | 7 =>
        injection hi with hi; subst hi
        have d6 := hd { on := 6, ground := .data } (by simp) (by decide) _ _ rfl rfl
        simp only at d6
        simp [wantedE, go_sem, d6]
        exact New.refl _
      | ix + 8 => simp at hi
    · intro E sta hNw hd hE
      obtain ⟨x7, x7f⟩ := hd 7 _ _ rfl rfl
      have x12 := (hE 12 (noB_spec (by kernel_rfl))).trans f12
      have x13 := (hE 13 (noB_spec (by kernel_rfl))).trans f13
      have x14 := (hE 14 (noB_spec (by kernel_rfl))).trans f14
      simp [go_sem, x12, x13, x14, hwi]
      refine ⟨_, .rfl' _, ⟨K3.trans hNw, i + 1, by omega, by omega, c6, ?_, x7, fun b off n c e => K3.none (x7f b off n c e)⟩, by omega⟩
      rw [← hgo, ← hc6', ← hc3']
      simp [labB]
    · intro j oj hj
      match j with
      | 0 | 1 | 2 | 3 | 4 | 5 | 6 | 7 => simp at hj; subst hj; decide
      | j + 8 => simp at hj
  · have hlt' : ((i : Int) < l.length) = False := eq_false (by omega)
    have : i = l.length := by omega
    subst this
    rw [List.drop_length, List.flatMap_nil, List.append_nil] at hgo
    subst hgo
    simp [go_sem, e0, e12, e13, e14, hlt']
    exact ⟨v, rfl, hV, hF, k2⟩
theorem gaugePut_spec {bv : Value} {b : Bs} {q : GauD} {g0 : Tg} (g : Tg) (h : Reg st g0 1 bv (bytesV b) b.length) (ok : GauOK q) (hl : b.length < 2 ^ 38) :
    ICalls Tryz.prog W0 118 #[bv, .agg #[Val.u q.n, Val.u q.nans, Val.u q.lo, Val.u q.hi]] st (MatPutR st g (b ++ gauB q)) := by
  obtain ⟨o1, o2, o3, o4⟩ := ok
  obtain ⟨n, nans, lo, hi⟩ := q
  simp only at o1 o2 o3 o4 ⊢
  refine enter (args := [_, _]) Tryz.func118 rfl ?_
  simp [Tryz.f118, go_sem]
  unfold NewP
  intro t3 ht3
  refine ⟨.ty 0, ?_⟩
  have hc1 := upd_same st t3 (.cells true [Val.u n, Val.u nans, Val.u lo, Val.u hi] 4 (.ty 0))
  have k1 := (New.refl st).add (b := t3) (o := .cells true [Val.u n, Val.u nans, Val.u lo, Val.u hi] 4 (.ty 0)) ht3
  simp [go_sem]
  generalize upd st t3 (.cells true [Val.u n, Val.u nans, Val.u lo, Val.u hi] 4 (.ty 0)) = s1 at *
  unfold NewS
  intro nb hnb
  refine ⟨.ty 0, ?_⟩
  have hnb2 := upd_same s1 nb (.cells true [Val.u nans, Val.u n] 2 (.ty 0))
  have k2 := (New.refl s1).add (b := nb) (o := .cells true [Val.u nans, Val.u n] 2 (.ty 0)) hnb
  simp [go_sem]
  generalize upd s1 nb (.cells true [Val.u nans, Val.u n] 2 (.ty 0)) = s2 at *
  have hc2 := k2 _ _ hc1
  have K2 := k1.trans k2
  have hL : RegF s2 1 (.slice (some ⟨nb, 0, none⟩) 2 2) (cellsU [nans, n]) 2 := ⟨.ty 0, Free.ty, by
    have := Reg.row (g := .ty 0) (rw_ := true) (n := 2) hnb2 (by simp)
    exact this⟩
  refine (plainPut_spec (l := [nans, n]) g (h.new K2) hL (by simp; omega) (by simp) (by simp) (by omega)).mono ?_
  rintro e s3 ⟨v3, rfl, hV3, hF3, k3⟩
  have hc3 := k3 _ _ hc2
  have K3 := K2.trans k3
  have hF3' : Fresh st v3 := fun b off n c e => K2.none (hF3 b off n c e)
  have hb0 : b ++ [nans, n].flatMap vputM = b ++ (vputM nans ++ vputM n) := by simp
  rw [hb0] at hV3
  by_cases h0 : n = 0
  · subst h0
    simp [go_sem, hc3]
    refine ⟨v3, rfl, ?_, hF3', K3⟩
    have : gauB ⟨0, nans, lo, hi⟩ = vputM nans ++ vputM 0 := by simp [gauB]
    rw [this]
    simpa using hV3
  have q0 : (n = 0) = False := eq_false h0
  simp [go_sem, hc3, q0]
  obtain ⟨T, hT⟩ : ∃ T, b ++ gauB ⟨n, nans, lo, hi⟩ = T := ⟨_, rfl⟩
  rw [hT]
  have hgo0 : (b ++ (vputM nans ++ vputM n)) ++ [lo, hi].flatMap (leB 8) = T := by rw [← hT]; simp [gauB, h0]
  have a1 := (vputM_len nans o2).1
  have a2 := (vputM_len n o1).1
  have hTlen : T.length < 2 ^ 39 := by
    rw [← hgo0]
    simp only [List.length_append, List.flatMap_cons, List.flatMap_nil, leB_len, List.length_nil]
    omega
  generalize b ++ (vputM nans ++ vputM n) = c1 at *
  refine ⟨fun E st' => New st st' ∧ E 23 = .agg #[Val.u lo, Val.u hi] ∧ ∃ (j : Nat) (v : Value) (c : Bs), E 0 = v ∧ E 24 = Val.i j ∧ j ≤ 2 ∧ c ++ ([lo, hi].drop j).flatMap (leB 8) = T ∧ Vec st' g 1 v (bytesV c) c.length ∧ Fresh st v,
    fun E _ => match E 24 with | .int _ i => 2 - i.toNat | _ => 0, ⟨s3, .rfl' _, K3, by simp [go_sem], 0, _, c1, by simp [go_sem], by simp [go_sem], by omega, hgo0, hV3, hF3'⟩, ?_⟩
  clear hV3 hF3 hF3' hgo0 K3 hc3 k3
  rintro E s4 ⟨k4, e23, j, v, c, e0, e24, hj, hgo, hV, hF⟩
  by_cases hlt : j < 2
  · have hlt' : ((j : Int) < 2) = True := eq_true (by omega)
    have hwi : IntKind.i64.wrap ((j : Int) + 1) = ((j + 1 : Nat) : Int) := by rw [wrap_id (by omega) (by omega)]; omega
    obtain ⟨x, hx, hx64⟩ : ∃ x, [lo, hi][j]? = some x ∧ x < 2 ^ 64 := by
      match j, hlt with
      | 0, _ => exact ⟨lo, rfl, o3⟩
      | 1, _ => exact ⟨hi, rfl, o4⟩
    have hd : [lo, hi].drop j = x :: [lo, hi].drop (j + 1) := by
      have hl : j < [lo, hi].length := by simpa using hlt
      rw [List.drop_eq_getElem_cons hl]
      rw [List.getElem?_eq_getElem hl] at hx
      injection hx with hx
      rw [hx]
    rw [hd, List.flatMap_cons] at hgo
    have hix : ([Val.u lo, Val.u hi] : List Value)[j]? = some (Val.u x) := by
      match j, hlt with
      | 0, _ => simp at hx; simp [hx]
      | 1, _ => simp at hx; simp [hx]
    have hix2 : ∀ h : j < ([Val.u lo, Val.u hi] : List Value).length, ([Val.u lo, Val.u hi] : List Value)[j]'h = Val.u x := fun h => by
      rw [List.getElem?_eq_getElem h] at hix
      injection hix
    simp [go_sem, e0, e23, e24, hlt', hlt, hix, hix2]
    refine ⟨fun E st' => New st st' ∧ E 23 = .agg #[Val.u lo, Val.u hi] ∧ E 24 = Val.i j ∧ E 6 = Val.u x ∧ ∃ (k : Nat) (v : Value) (c : Bs), E 0 = v ∧ E 27 = Val.i k ∧ k ≤ 8 ∧ c ++ (leB (8 - k) (x / 256 ^ k) ++ ([lo, hi].drop (j + 1)).flatMap (leB 8)) = T ∧ Vec st' g 1 v (bytesV c) c.length ∧ Fresh st v,
      fun E _ => match E 27 with | .int _ i => 8 - i.toNat | _ => 0, ⟨s4, .rfl' _, k4, by simp [go_sem, e23], by simp [go_sem, e24], by simp [go_sem], 0, v, c, by simp [go_sem, e0], by simp [go_sem], by omega, by simpa using hgo, hV, hF⟩, ?_⟩
    clear hV hF hgo e0 e23 e24 k4
    rintro E s5 ⟨k5, e23, e24, e6, k, v, c, e0, e27, hk, hgo, hV, hF⟩
    by_cases hlt8 : k < 8
    · have hlt8' : ((k : Int) < 8) = True := eq_true (by omega)
      have hwk : IntKind.i64.wrap ((k : Int) + 1) = ((k + 1 : Nat) : Int) := by rw [wrap_id (by omega) (by omega)]; omega
      obtain ⟨y, hy⟩ : ∃ y, x / 256 ^ k = y := ⟨_, rfl⟩
      have hun : leB (8 - k) y = UInt8.ofNat (y % 256) :: leB (8 - (k + 1)) (y / 256) := by
        rw [show 8 - k = (8 - (k + 1)) + 1 by omega, leB]
      have hy2 : x / 256 ^ (k + 1) = y / 256 := by rw [← hy, Nat.pow_succ, Nat.div_div_eq_div_mul]
      rw [hy, hun] at hgo
      have hcl : c.length + 1 < 2 ^ 39 := by
        rw [← hgo, List.length_append, List.length_append, List.length_cons] at hTlen; omega
      have hb8 : IntKind.u8.wrap (y : Int) = (y : Int) % 256 := by rw [IntKind.wrap_u8]
      have hmm : (y : Int) % 256 = ((UInt8.ofNat (y % 256)).toNat : Int) := by rw [ofNat_u8 _ (by omega)]; omega
      have hsh : (if IntKind.i64.wrap (8 * (k : Int)) < 0 then none else some (Value.int .u64 ((x : Int).fdiv (2 ^ min (IntKind.i64.wrap (8 * (k : Int))).toNat 64)))) = some (.int .u64 (y : Int)) := by
        have e0 : IntKind.i64.wrap (8 * (k : Int)) = 8 * (k : Int) := wrap_id (by omega) (by omega)
        have e3 : ¬ (8 * (k : Int) < 0) := by omega
        rw [e0, if_neg e3]
        have e1 : min (8 * (k : Int)).toNat 64 = 8 * k := by omega
        have e2 : (2 : Int) ^ (8 * k) = ((256 ^ k : Nat) : Int) := by rw [Int.pow_mul]; norm_cast
        rw [e1, e2, Int.fdiv_eq_ediv_of_nonneg _ (Int.natCast_nonneg _), ← hy]
        rfl
      simp [go_sem, e0, e6, e27, hlt8', hlt8]
      rw [hsh]
      simp [go_sem, hb8]
      unfold NewS
      intro b1 hb1
      refine ⟨.ty 0, ?_⟩
      simp [go_sem]
      rw [hmm]
      have k6 : New s5 (upd s5 b1 (.cells true [.int .u8 ((UInt8.ofNat (y % 256)).toNat : Int)] 1 (.ty 0))) := (New.refl _).add hb1
      have hsrc : srcCells 1 (upd s5 b1 (.cells true [.int .u8 ((UInt8.ofNat (y % 256)).toNat : Int)] 1 (.ty 0))) (.slice (some ⟨b1, 0, none⟩) 1 1) = some (1, bytesV [UInt8.ofNat (y % 256)]) := by
        simp [srcCells, lkN_mk, upd_same, cellsOf, bytesV]
      obtain ⟨cb, cc, rfl⟩ := hV.slice
      refine AppI_new si40 (hV.new' k6) hF (k5.trans k6) hsrc (bytesV_one _) (by omega) ?_
      intro nb2 nc2 s7 hV7 hF7 k7 _
      simp [go_sem, e6, e23, e24, e27, hwk]
      refine ⟨_, .rfl' _, ⟨k7, k + 1, by omega, by omega, c ++ [UInt8.ofNat (y % 256)], ?_, by simpa [bytesV_append] using hV7, hF7⟩, by omega⟩
      rw [hy2, ← hgo]
      simp
    · have hlt8' : ((k : Int) < 8) = False := eq_false (by omega)
      have : k = 8 := by omega
      subst this
      rw [Nat.sub_self, leB, List.nil_append] at hgo
      simp [go_sem, e0, e23, e24, e27, hwi]
      refine ⟨_, .rfl' _, ⟨k5, j + 1, by omega, by omega, c, by simpa using hgo, hV, hF⟩, by omega⟩
  · have hlt' : ((j : Int) < 2) = False := eq_false (by omega)
    have : j = 2 := by omega
    subst this
    have hgo' : c = T := by simpa using hgo
    subst hgo'
    simp [go_sem, e0, e23, e24]
    exact ⟨v, rfl, hV, hF, k4⟩
end
end Go.Proofs.YtadgciaclhjjkaaGreat
set_option linter.unusedVariables false
set_option linter.unusedSimpArgs false
set_option maxRecDepth 100000
set_option maxHeartbeats 2000000
namespace Go.Proofs.YtadgciaclhjjkaaGreat
open Go.RowKit (Below)
theorem spar_bound {l : List Bk} (hc : checkB (-1) l = true) (hb : ∀ x ∈ l, x.2 < 2 ^ 64) : l.length ≤ 7424 ∧ 2 ≤ (sparB l).length ∧ (sparB l).length ≤ 200000 := by
  have hlen : l.length ≤ 7424 := by
    rcases rcB_len hc with h | rfl
    · omega
    · simp
  have h1 := sparT_len l 0 (fun x hx => ⟨hb x hx, (rcB_all hc x hx).2.1⟩)
  have h2 := vputM_len 0 (by omega)
  have h3 := vputM_len l.length (by omega)
  unfold sparB
  rw [List.length_append, List.length_append]
  omega
theorem form_bound {l : List Bk} (hc : checkB (-1) l = true) (hb : ∀ x ∈ l, x.2 < 2 ^ 64) : 1 ≤ (formB l).length ∧ (formB l).length ≤ 200000 := by
  have h1 := spar_bound hc hb
  unfold formB
  split
  · rename_i h
    have h2 := vputM_len 1 (by omega)
    have : 1 ≤ (densB l).length := by
      unfold densB
      rw [List.length_append]
      omega
    omega
  · omega
theorem zerosT_src (n : Nat) (st : Heap) : srcCells 1 st (.string (zerosT n)) = some (n, bytesV (List.replicate n 0)) := by
  simp [srcCells, zerosT, ByteArray.size, bytesV]
def skB (s : SkD) : Bs := formB s.hist ++ (riseB s.hashes ++ gauB s.g)
section
variable {W0 : World} {st : Heap}
theorem sparse_spec {lv : Value} {l : List Bk} {g : Tg} (hg : g ≠ .ty 0) (hL : RegF st 2 lv (bkV l) l.length) (hc : checkB (-1) l = true) (hb : ∀ x ∈ l, x.2 < 2 ^ 64) :
    ICalls Tryz.prog W0 220 #[lv] st (MatPutR st g (sparB l)) := by
  obtain ⟨hlen, -, hTlen⟩ := spar_bound hc hb
  obtain ⟨lb, lc, rfl⟩ := hL.slice
  have hw : IntKind.u64.wrap (l.length : Int) = l.length := wraps_u64 _ (by omega) (by omega)
  refine enter (args := [_]) Tryz.func220 rfl ?_
  simp [Tryz.f220, go_sem, hw]
  unfold NewS
  intro nb hnb
  refine ⟨.ty 0, ?_⟩
  have hnb1 := upd_same st nb (.cells true [Val.u 0, Val.u l.length] 2 (.ty 0))
  have k1 := (New.refl st).add (b := nb) (o := .cells true [Val.u 0, Val.u l.length] 2 (.ty 0)) hnb
  simp [go_sem]
  generalize upd st nb (.cells true [Val.u 0, Val.u l.length] 2 (.ty 0)) = s1 at *
  have hLn : RegF s1 1 (.slice (some ⟨nb, 0, none⟩) 2 2) (cellsU [0, l.length]) 2 := ⟨.ty 0, Free.ty, by
    have := Reg.row (g := .ty 0) (rw_ := true) (n := 2) hnb1 (by simp)
    exact this⟩
  refine (plainPut_spec (b := []) (g0 := .ty 0) (l := [0, l.length]) g Reg.nil hLn (by simp; omega) (by simp) (by simp) (by simp)).mono ?_
  rintro e s2 ⟨v2, rfl, hV2, hF2, k2⟩
  have K2 := k1.trans k2
  have hF2' : Fresh st v2 := fun b off n c e => k1.none (hF2 b off n c e)
  have hb0 : [] ++ [0, l.length].flatMap vputM = vputM 0 ++ vputM l.length := by simp
  rw [hb0] at hV2
  obtain ⟨T, hT⟩ : ∃ T, sparB l = T := ⟨_, rfl⟩
  have hgo0 : (vputM 0 ++ vputM l.length) ++ sparT 0 l = T := by rw [← hT]; unfold sparB; rw [List.append_assoc]
  rw [hT] at hTlen ⊢
  generalize vputM 0 ++ vputM l.length = c1 at *
  simp [go_sem]
  refine ⟨fun E st' => New st st' ∧ E 12 = .slice lb l.length lc ∧ E 13 = Val.i l.length ∧ ∃ (i nx : Nat) (v : Value) (c : Bs), E 3 = v ∧ E 14 = Val.i i ∧ i ≤ l.length ∧ E 4 = Val.i nx ∧ checkB ((nx : Int) - 1) (l.drop i) = true ∧ c ++ sparT nx (l.drop i) = T ∧ Vec st' g 1 v (bytesV c) c.length ∧ Fresh st v,
    fun E _ => match E 14 with | .int _ i => l.length - i.toNat | _ => 0, ⟨s2, .rfl' _, K2, by simp [go_sem], by simp [go_sem], 0, 0, _, c1, by simp [go_sem], by simp [go_sem], by omega, by simp [go_sem], by simpa using hc, by simpa using hgo0, hV2, hF2'⟩, ?_⟩
  clear hV2 hF2 hF2' hgo0 K2 k2
  rintro E s3 ⟨k3, e12, e13, i, nx, v, c, e3, e14, hi, e4, hck, hgo, hV, hF⟩
  by_cases hlt : i < l.length
  · have hlt' : ((i : Int) < l.length) = True := eq_true (by omega)
    have hwi : IntKind.i64.wrap ((i : Int) + 1) = ((i + 1 : Nat) : Int) := by rw [wrap_id (by omega) (by omega)]; omega
    obtain ⟨x, hx⟩ : ∃ x, l[i]? = some x := ⟨l[i], List.getElem?_eq_getElem hlt⟩
    have hx64 := hb x (List.mem_of_getElem? hx)
    have hd : l.drop i = x :: l.drop (i + 1) := by
      rw [List.drop_eq_getElem_cons hlt]
      rw [List.getElem?_eq_getElem hlt] at hx
      injection hx with hx
      rw [hx]
    rw [hd] at hgo hck
    obtain ⟨c1', c2', c3', c4'⟩ := rcB_cons hck
    obtain ⟨x1, x2⟩ := x
    simp only at c1' c2' c3' c4' hx64
    obtain ⟨z, rfl⟩ : ∃ z : Nat, x1 = z := ⟨x1.toNat, by omega⟩
    rw [sparT_cons] at hgo
    simp only [Int.toNat_natCast] at hgo
    obtain ⟨y, hy⟩ : ∃ y, z - nx = y := ⟨_, rfl⟩
    rw [hy] at hgo
    obtain ⟨mb, off, cap, rw_, zs, mm, g', hv, hs, hget⟩ := rows_get (hL.new k3) (by omega)
    injection hv with hv1 hv2 hv3
    subst hv1
    subst hv3
    obtain ⟨hln, hcell, -⟩ := hget i hlt
    rw [bkV_get l i _ hx] at hcell
    have hyl := vputM_len y (by omega)
    have hx2l := vputM_len x2 hx64
    have hcl : c.length + (vputM y).length + (vputM x2).length ≤ 200000 := by
      rw [← hgo, List.length_append, List.length_append, List.length_append] at hTlen; omega
    have hws : IntKind.i64.wrap ((z : Int) - (nx : Int)) = (y : Int) := by rw [wrap_id (by omega) (by omega)]; omega
    have hwu : IntKind.u64.wrap (y : Int) = y := wraps_u64 _ (by omega) (by omega)
    have hwz : IntKind.i64.wrap ((z : Int) + 1) = ((z + 1 : Nat) : Int) := by rw [wrap_id (by omega) (by omega)]; omega
    simp [go_sem, e12, e13, e14, hlt', hlt, hs, hln, hcell]
    unfold NewP
    intro tb htb
    refine ⟨.ty 0, ?_⟩
    have k4 := (New.refl s3).add (b := tb) (o := .cells true [Val.i z, Val.u x2] 2 (.ty 0)) htb
    have hc4 := upd_same s3 tb (.cells true [Val.i z, Val.u x2] 2 (.ty 0))
    simp [go_sem, e3, e4, hws, hwu]
    generalize upd s3 tb (.cells true [Val.i z, Val.u x2] 2 (.ty 0)) = s4 at *
    unfold NewS
    intro nb2 hnb2
    refine ⟨.ty 0, ?_⟩
    have hnb5 := upd_same s4 nb2 (.cells true [Val.u y, Val.u x2] 2 (.ty 0))
    have k5 := (New.refl s4).add (b := nb2) (o := .cells true [Val.u y, Val.u x2] 2 (.ty 0)) hnb2
    simp [go_sem]
    generalize upd s4 nb2 (.cells true [Val.u y, Val.u x2] 2 (.ty 0)) = s5 at *
    have hL5 : RegF s5 1 (.slice (some ⟨nb2, 0, none⟩) 2 2) (cellsU [y, x2]) 2 := ⟨.ty 0, Free.ty, by
      have := Reg.row (g := .ty 0) (rw_ := true) (n := 2) hnb5 (by simp)
      exact this⟩
    refine (plainPut_spec (b := []) (g0 := .ty 0) (l := [y, x2]) (.ty 0) Reg.nil hL5 (by simp; omega) (by simp) (by simp) (by simp)).mono ?_
    rintro e s6 ⟨v6, rfl, hV6, -, k6⟩
    have hb6 : [] ++ [y, x2].flatMap vputM = vputM y ++ vputM x2 := by simp
    rw [hb6] at hV6
    have hl6 : (vputM y ++ vputM x2).length = (vputM y).length + (vputM x2).length := List.length_append
    obtain ⟨w6, hw6⟩ : ∃ w, vputM y ++ vputM x2 = w := ⟨_, rfl⟩
    rw [hw6] at hV6 hl6
    have k36 := (k4.trans k5).trans k6
    have hc6 := k6 _ _ (k5 _ _ hc4)
    have hsrc := hV6.reg.src
    obtain ⟨cb, cc, rfl⟩ := hV.slice
    simp [go_sem]
    refine AppI_new si40 (hV.new' k36) hF (k3.trans k36) hsrc (bytesV_one _) (by omega) ?_
    intro nc ncc s7 hV7 hF7 k7 hE7
    have hc7 := hE7.keep _ _ hc6 (by simpa [HObj.tag] using Ne.symm hg)
    simp [go_sem, e12, e13, e14, hc7, hwz, hwi]
    refine ⟨_, .rfl' _, ⟨k7, i + 1, by omega, by omega, z + 1, by omega, ?_, c ++ w6, by rw [← hgo, ← hw6]; simp, by simpa [bytesV_append] using hV7, hF7⟩, by omega⟩
    rw [show (((z + 1 : Nat) : Int)) - 1 = (z : Int) by omega]
    exact c4'
  · have hlt' : ((i : Int) < l.length) = False := eq_false (by omega)
    have : i = l.length := by omega
    subst this
    rw [List.drop_length, sparT, List.append_nil] at hgo
    subst hgo
    simp [go_sem, e3, e12, e13, e14, hlt']
    exact ⟨v, rfl, hV, hF, k3⟩
theorem dense_spec {lv : Value} {l : List Bk} {g : Tg} (hg : g ≠ .ty 0) (hL : RegF st 2 lv (bkV l) l.length) (hne : l ≠ []) (hc : checkB (-1) l = true) (hb : ∀ x ∈ l, x.2 < 2 ^ 64) :
    ICalls Tryz.prog W0 221 #[lv] st (MatPutR st g (densB l)) := by
  obtain ⟨hlen, -, -⟩ := spar_bound hc hb
  have hl0 : 0 < l.length := List.length_pos_iff.2 hne
  obtain ⟨mb, off, cap, rw_, zs, mm, g', rfl, hs, hget⟩ := rows_get hL hl0
  have hlast := rcB_last hne hc
  obtain ⟨xf, hxf⟩ : ∃ x, l[0]? = some x := ⟨l[0], List.getElem?_eq_getElem hl0⟩
  obtain ⟨xl, hxl⟩ : ∃ x, l[l.length - 1]? = some x := ⟨l[l.length - 1], List.getElem?_eq_getElem (by omega)⟩
  have hfb : firstB l = xf.1.toNat := by
    cases l with
    | nil => exact absurd rfl hne
    | cons y l => simp at hxf; subst hxf; rfl
  have hlb : lastB l = xl.1.toNat := by
    unfold lastB
    rw [List.getLast?_eq_getElem?, hxl]
    rfl
  have hxfa := rcB_all hc xf (List.mem_of_getElem? hxf)
  have hxla := rcB_all hc xl (List.mem_of_getElem? hxl)
  obtain ⟨hf0, hf1⟩ : firstB l ≤ lastB l ∧ checkB ((firstB l : Nat) - 1) l = true := by
    cases l with
    | nil => exact absurd rfl hne
    | cons x l =>
      obtain ⟨c1, c2, c3, c4⟩ := rcB_cons hc
      rw [firstB_cons]
      refine ⟨?_, ?_⟩
      · cases l with
        | nil => simp [lastB]
        | cons y l => have := rcB_last (by simp) c4; rw [lastB_cons]; omega
      · unfold checkB
        simp [c4]
        exact ⟨⟨by omega, by omega⟩, by omega⟩
  obtain ⟨zf, hzf⟩ : ∃ z : Nat, xf.1 = z := ⟨xf.1.toNat, by omega⟩
  obtain ⟨zl, hzl⟩ : ∃ z : Nat, xl.1 = z := ⟨xl.1.toNat, by omega⟩
  have hfz : firstB l = zf := by omega
  have hlz : lastB l = zl := by omega
  obtain ⟨hn0, hcell0, hc0⟩ := hget 0 hl0
  obtain ⟨hnl, hcelll, hcl⟩ := hget (l.length - 1) (by omega)
  rw [bkV_get l 0 _ hxf] at hcell0 hc0
  rw [bkV_get l _ _ hxl] at hcelll hcl
  have g0 := hc0 0 (by omega)
  have gl := hcl 0 (by omega)
  simp only [List.getElem?_cons_zero, Nat.zero_mul, Nat.add_zero] at g0 gl
  rw [hzf] at g0
  rw [hzl] at gl
  have hwl : IntKind.i64.wrap ((l.length : Int) - 1) = ((l.length - 1 : Nat) : Int) := by rw [wrap_id (by omega) (by omega)]; omega
  refine enter (args := [_]) Tryz.func221 rfl ?_
  simp [Tryz.f221, go_sem]
  refine draw [0, 1, 2, 4, 5, 3, 11, 6, 7, 8, 9, 10, 12] (by kernel_rfl) ?_
  obtain ⟨lm, hlm⟩ : ∃ lm, l.length - 1 = lm := ⟨_, rfl⟩
  rw [hlm] at hwl gl
  have hlmlt : lm < l.length := by omega
  simp [go_sem, hs, g0, gl, hwl, hl0, hlmlt]
  have hwd : IntKind.i64.wrap ((zl : Int) - (zf : Int)) = ((zl - zf : Nat) : Int) := by rw [wrap_id (by omega) (by omega)]; omega
  have hwd1 : IntKind.i64.wrap (((zl - zf : Nat) : Int) + 1) = ((zl - zf + 1 : Nat) : Int) := by rw [wrap_id (by omega) (by omega)]; omega
  obtain ⟨dd, hdd⟩ : ∃ d, zl - zf + 1 = d := ⟨_, rfl⟩
  obtain ⟨d0, hd0⟩ : ∃ d, zl - zf = d := ⟨_, rfl⟩
  rw [hd0] at hwd hwd1 hdd
  rw [hdd] at hwd1
  have hwu1 : IntKind.u64.wrap (zf : Int) = zf := wraps_u64 _ (by omega) (by omega)
  have hwu2 : IntKind.u64.wrap (dd : Int) = dd := wraps_u64 _ (by omega) (by omega)
  simp [go_sem, hwd, hwd1, hwu1, hwu2]
  unfold NewS
  intro nb hnb
  refine ⟨.ty 0, ?_⟩
  have hnb1 := upd_same st nb (.cells true [Val.u 1, Val.u zf, Val.u dd] 3 (.ty 0))
  have k1 := (New.refl st).add (b := nb) (o := .cells true [Val.u 1, Val.u zf, Val.u dd] 3 (.ty 0)) hnb
  simp [go_sem]
  generalize upd st nb (.cells true [Val.u 1, Val.u zf, Val.u dd] 3 (.ty 0)) = s1 at *
  have hLn : RegF s1 1 (.slice (some ⟨nb, 0, none⟩) 3 3) (cellsU [1, zf, dd]) 3 := ⟨.ty 0, Free.ty, by
    have := Reg.row (g := .ty 0) (rw_ := true) (n := 3) hnb1 (by simp)
    exact this⟩
  refine (plainPut_spec (b := []) (g0 := .ty 0) (l := [1, zf, dd]) g Reg.nil hLn (by simp; omega) (by simp) (by simp) (by simp)).mono ?_
  rintro e s2 ⟨v2, rfl, hV2, hF2, k2⟩
  have K2 := k1.trans k2
  have hF2' : Fresh st v2 := fun b off n c e => k1.none (hF2 b off n c e)
  have hb0 : [] ++ [1, zf, dd].flatMap vputM = vputM 1 ++ (vputM zf ++ vputM dd) := by simp
  rw [hb0] at hV2
  obtain ⟨T, hT⟩ : ∃ T, densB l = T := ⟨_, rfl⟩
  have hTl := densT_len hne hf1 hb
  have b1 := vputM_len 1 (by omega)
  have b2 := vputM_len zf (by omega)
  have b3 := vputM_len dd (by omega)
  have hgo0 : (vputM 1 ++ (vputM zf ++ vputM dd)) ++ densT zf l = T := by
    rw [← hT]
    unfold densB
    rw [hlz, hfz, show zl - zf + 1 = dd by omega]
    simp only [List.append_assoc]
  have hTlen : T.length ≤ 200000 := by
    rw [← hgo0]
    rw [hfz] at hTl
    simp only [List.length_append]
    omega
  rw [hT]
  rw [hfz] at hf1
  generalize vputM 1 ++ (vputM zf ++ vputM dd) = c1 at *
  simp [go_sem]
  refine ⟨fun E st' => New st st' ∧ E 30 = .slice (some ⟨mb, off, none⟩) l.length cap ∧ E 31 = Val.i l.length ∧ ∃ (i nx : Nat) (v : Value) (c : Bs), E 5 = v ∧ E 32 = Val.i i ∧ i ≤ l.length ∧ E 6 = Val.i nx ∧ checkB ((nx : Int) - 1) (l.drop i) = true ∧ c ++ densT nx (l.drop i) = T ∧ Vec st' g 1 v (bytesV c) c.length ∧ Fresh st v,
    fun E _ => match E 32 with | .int _ i => l.length - i.toNat | _ => 0, ⟨s2, .rfl' _, K2, by simp [go_sem], by simp [go_sem], 0, zf, _, c1, by simp [go_sem], by simp [go_sem], by omega, by simp [go_sem], by simpa using hf1, by simpa using hgo0, hV2, hF2'⟩, ?_⟩
  clear hV2 hF2 hF2' hgo0 K2 k2
  rintro E s3 ⟨k3, e30, e31, i, nx, v, c, e5, e32, hi, e6, hck, hgo, hV, hF⟩
  by_cases hlt : i < l.length
  · have hlt' : ((i : Int) < l.length) = True := eq_true (by omega)
    have hwi : IntKind.i64.wrap ((i : Int) + 1) = ((i + 1 : Nat) : Int) := by rw [wrap_id (by omega) (by omega)]; omega
    obtain ⟨x, hx⟩ : ∃ x, l[i]? = some x := ⟨l[i], List.getElem?_eq_getElem hlt⟩
    have hx64 := hb x (List.mem_of_getElem? hx)
    have hd : l.drop i = x :: l.drop (i + 1) := by
      rw [List.drop_eq_getElem_cons hlt]
      rw [List.getElem?_eq_getElem hlt] at hx
      injection hx with hx
      rw [hx]
    rw [hd] at hgo hck
    obtain ⟨c1', c2', c3', c4'⟩ := rcB_cons hck
    obtain ⟨x1, x2⟩ := x
    simp only at c1' c2' c3' c4' hx64
    obtain ⟨z, rfl⟩ : ∃ z : Nat, x1 = z := ⟨x1.toNat, by omega⟩
    rw [densT_cons] at hgo
    simp only [Int.toNat_natCast] at hgo
    obtain ⟨y, hy⟩ : ∃ y, z - nx = y := ⟨_, rfl⟩
    rw [hy] at hgo
    obtain ⟨mb2, off2, cap2, rw2, zs2, mm2, g2, hv, hs2, hget2⟩ := rows_get (hL.new k3) (by omega)
    injection hv with hv1 hv2 hv3
    injection hv1 with hv1
    injection hv1 with hv1 hv4
    subst hv1
    subst hv4
    subst hv3
    obtain ⟨hln, hcell, -⟩ := hget2 i hlt
    rw [bkV_get l i _ hx] at hcell
    have hx2l := vputM_len x2 hx64
    have hcl : c.length + y + (vputM x2).length ≤ 200000 := by
      rw [← hgo, List.length_append, List.length_append, List.length_append, List.length_replicate] at hTlen; omega
    have hws : IntKind.i64.wrap ((z : Int) - (nx : Int)) = (y : Int) := by rw [wrap_id (by omega) (by omega)]; omega
    have hwz : IntKind.i64.wrap ((z : Int) + 1) = ((z + 1 : Nat) : Int) := by rw [wrap_id (by omega) (by omega)]; omega
    simp [go_sem, e30, e31, e32, hlt', hlt, hs2, hln, hcell]
    unfold NewP
    intro tb htb
    refine ⟨.ty 0, ?_⟩
    have k4 := (New.refl s3).add (b := tb) (o := .cells true [Val.i z, Val.u x2] 2 (.ty 0)) htb
    have hc4 := upd_same s3 tb (.cells true [Val.i z, Val.u x2] 2 (.ty 0))
    obtain ⟨cb, cc, rfl⟩ := hV.slice
    simp [go_sem, e5, e6, hws]
    generalize upd s3 tb (.cells true [Val.i z, Val.u x2] 2 (.ty 0)) = s4 at *
    rw [b_append3 _ _ _ _ _ _ _ (by decide) Tryz.underlying3 si40]
    refine ⟨by omega, by omega, ?_⟩
    rw [Int.toNat_natCast, si40]
    refine AppI_new si40 (hV.new' k4) hF (k3.trans k4) (zerosT_src y s4) (bytesV_one _) (by omega) ?_
    intro nc ncc s5 hV5 hF5 k5 hE5
    have hc5 := hE5.keep _ _ hc4 (by simpa [HObj.tag] using Ne.symm hg)
    simp [go_sem, hc5]
    unfold NewS
    intro nb2 hnb2
    refine ⟨.ty 0, ?_⟩
    have hnb6 := upd_same s5 nb2 (.cells true [Val.u x2] 1 (.ty 0))
    have k6 := (New.refl s5).add (b := nb2) (o := .cells true [Val.u x2] 1 (.ty 0)) hnb2
    simp [go_sem]
    generalize upd s5 nb2 (.cells true [Val.u x2] 1 (.ty 0)) = s6 at *
    have hL6 : RegF s6 1 (.slice (some ⟨nb2, 0, none⟩) 1 1) (cellsU [x2]) 1 := ⟨.ty 0, Free.ty, by
      have := Reg.row (g := .ty 0) (rw_ := true) (n := 1) hnb6 (by simp)
      exact this⟩
    refine (plainPut_spec (b := []) (g0 := .ty 0) (l := [x2]) (.ty 0) Reg.nil hL6 (by simp; omega) (by simp) (by simp) (by simp)).mono ?_
    rintro e s7 ⟨v7, rfl, hV7, -, k7⟩
    have hb7 : [] ++ [x2].flatMap vputM = vputM x2 := by simp
    rw [hb7] at hV7
    have k57 := k6.trans k7
    have hc7 := k7 _ _ (k6 _ _ hc5)
    have hsrc := hV7.reg.src
    simp [go_sem]
    have hc9l : (c ++ List.replicate y (0 : UInt8)).length = c.length + y := by simp
    have hV5' : Vec s5 g 1 (.slice nc (c.length + y) ncc) (bytesV (c ++ List.replicate y (0 : UInt8))) (c.length + y) := by simpa [bytesV_append] using hV5
    refine AppI_new si40 (hV5'.new' k57) hF5 (k5.trans k57) hsrc (bytesV_one _) (by omega) ?_
    intro nd ndc s8 hV8 hF8 k8 hE8
    have hc8 := hE8.keep _ _ hc7 (by simpa [HObj.tag] using Ne.symm hg)
    simp [go_sem, e30, e31, e32, hc8, hwz, hwi]
    refine ⟨_, .rfl' _, ⟨k8, i + 1, by omega, by omega, z + 1, by omega, ?_, c ++ List.replicate y (0 : UInt8) ++ vputM x2, by rw [← hgo]; simp, by simpa [bytesV_append, Nat.add_assoc] using hV8, hF8⟩, by omega⟩
    rw [show (((z + 1 : Nat) : Int)) - 1 = (z : Int) by omega]
    exact c4'
  · have hlt' : ((i : Int) < l.length) = False := eq_false (by omega)
    have : i = l.length := by omega
    subst this
    rw [List.drop_length, densT, List.append_nil] at hgo
    subst hgo
    simp [go_sem, e5, e30, e31, e32, hlt']
    exact ⟨v, rfl, hV, hF, k3⟩
theorem form_spec {lv : Value} {l : List Bk} {g : Tg} (hg : g ≠ .ty 0) (hL : RegF st 2 lv (bkV l) l.length) (hc : checkB (-1) l = true) (hb : ∀ x ∈ l, x.2 < 2 ^ 64) :
    ICalls Tryz.prog W0 173 #[lv] st (MatPutR st g (formB l)) := by
  obtain ⟨hlen, -, -⟩ := spar_bound hc hb
  obtain ⟨lb, lc, rfl⟩ := hL.slice
  refine enter (args := [_]) Tryz.func173 rfl ?_
  simp [Tryz.f173, go_sem]
  refine (sparse_spec hg hL hc hb).mono ?_
  rintro e s1 ⟨v1, rfl, hV1, hF1, k1⟩
  obtain ⟨b1, c1, rfl⟩ := hV1.slice
  by_cases hne : l = []
  · subst hne
    simp [go_sem]
    exact ⟨_, rfl, by simpa [formB] using hV1, hF1, k1⟩
  have hl0 : 0 < l.length := List.length_pos_iff.2 hne
  have q0 : ((0 : Int) < l.length) = True := eq_true (by omega)
  simp [go_sem, q0, hl0]
  refine (dense_spec hg (hL.new k1) hne hc hb).mono ?_
  rintro e s2 ⟨v2, rfl, hV2, hF2, k2⟩
  obtain ⟨b2, c2, rfl⟩ := hV2.slice
  unfold formB
  by_cases hlt : (densB l).length < (sparB l).length
  · have q1 : (((densB l).length : Int) < (sparB l).length) = True := eq_true (by omega)
    rw [if_pos ⟨hne, hlt⟩]
    simp [go_sem, q1, hlt]
    exact ⟨_, rfl, hV2, fun b off n c e => k1.none (hF2 b off n c e), k1.trans k2⟩
  · have q1 : (((densB l).length : Int) < (sparB l).length) = False := eq_false (by omega)
    rw [if_neg (fun h => hlt h.2)]
    simp [go_sem, q1, hlt]
    exact ⟨_, rfl, hV1.new' k2, hF1, k1.trans k2⟩
theorem histPut_spec {bv lv : Value} {b : Bs} {l : List Bk} {g0 : Tg} (g : Tg) (h : Reg st g0 1 bv (bytesV b) b.length) (hL : RegF st 2 lv (bkV l) l.length) (hc : checkB (-1) l = true) (hb : ∀ x ∈ l, x.2 < 2 ^ 64) (hl : b.length < 2 ^ 39) :
    ICalls Tryz.prog W0 120 #[bv, lv] st (MatPutR st g (b ++ formB l)) := by
  obtain ⟨hlen, -, -⟩ := spar_bound hc hb
  obtain ⟨lb, lc, rfl⟩ := hL.slice
  obtain ⟨bb, bc, rfl⟩ := h.slice
  have hcap := h.cap
  have hTi := h.tight
  have hfb := form_bound hc hb
  refine enter (args := [_, _]) Tryz.func120 rfl ?_
  simp [Tryz.f120, go_sem]
  refine (histCheck_spec hL (by omega)).mono ?_
  rintro e s1 ⟨rfl, k1⟩
  simp [go_sem, hc]
  generalize hE0 : (Env.set _ _ _ : Env) = E0
  have f0 : E0 0 = .slice bb b.length bc := by subst hE0; simp [go_sem]
  have f1 : E0 1 = .slice lb l.length lc := by subst hE0; simp [go_sem]
  clear hE0
  obtain ⟨T, hT⟩ : ∃ T, b ++ formB l = T := ⟨_, rfl⟩
  rw [hT]
  have hTl : T.length = b.length + (formB l).length := by rw [← hT, List.length_append]
  refine drawV [0, 1, 2, 3, 4, 5, 6, 7, 8, 9] (fun ix vx st' => match ix with
    | 0 | 1 | 3 => vx = .slice bb b.length bc
    | 2 | 4 => vx = Val.i b.length
    | 5 => vx = .slice bb b.length b.length
    | 6 => vx = .slice lb l.length lc
    | 7 => Vec st' (.ty 1) 1 vx (bytesV (formB l)) (formB l).length
    | 8 | 9 => Vec st' g 1 vx (bytesV T) T.length ∧ Fresh s1 vx
    | _ => True) (by kernel_rfl) (by kernel_rfl) ?_ ?_ ?_ ?_
  · intro ix vx sta stb hNw h
    match ix with
    | 7 => exact Vec.new' h hNw
    | 8 => exact ⟨h.1.new' hNw, h.2⟩
    | 9 => exact ⟨h.1.new' hNw, h.2⟩
    | 0 => exact h
    | 1 => exact h
    | 2 => exact h
    | 3 => exact h
    | 4 => exact h
    | 5 => exact h
    | 6 => exact h
    | ix + 10 => exact h
  · intro ix oo hi E sta hNw hd hE
    match ix with
    | 0 =>
      have x0 := hE 0 (oldB_spec (by kernel_rfl))
      injection hi with hi; subst hi
      simp [wantedE, go_sem, x0, f0, hcap]
      exact New.refl _
    | 1 =>
      have x0 := hE 0 (oldB_spec (by kernel_rfl))
      injection hi with hi; subst hi
      simp [wantedE, go_sem, x0, f0, hcap]
      exact New.refl _
    | 2 =>
      injection hi with hi; subst hi
      have d1 := hd { on := 1, ground := .data } (by simp) (by decide) _ _ rfl rfl
      simp only at d1
      simp [wantedE, go_sem, d1, hcap]
      exact New.refl _
    | 3 =>
      have x0 := hE 0 (oldB_spec (by kernel_rfl))
      injection hi with hi; subst hi
      simp [wantedE, go_sem, x0, f0, hcap]
      exact New.refl _
    | 4 =>
      injection hi with hi; subst hi
      have d3 := hd { on := 3, ground := .data } (by simp) (by decide) _ _ rfl rfl
      simp only at d3
      simp [wantedE, go_sem, d3, hcap]
      exact New.refl _
    | 5 =>
      injection hi with hi; subst hi
      have d0 := hd { on := 0, ground := .data } (by simp) (by decide) _ _ rfl rfl
      have d2 := hd { on := 2, ground := .data } (by simp) (by decide) _ _ rfl rfl
      have d4 := hd { on := 4, ground := .data } (by simp) (by decide) _ _ rfl rfl
      simp only at d0 d2 d4
      simp [wantedE, go_sem, d0, d2, d4, hcap]
      exact New.refl _
    | 6 =>
      have x1 := hE 1 (oldB_spec (by kernel_rfl))
      injection hi with hi; subst hi
      simp [wantedE, go_sem, x1, f1, hcap]
      exact New.refl _
    | 7 =>
      injection hi with hi; subst hi
      have d6 := hd { on := 6, ground := .data } (by simp) (by decide) _ _ rfl rfl
      simp only at d6
      simp [wantedE, go_sem, d6, hcap]
      refine (form_spec (g := .ty 1) (by simp) ((hL.new k1).new hNw) hc hb).mono ?_
      rintro e stx ⟨w, rfl, hw1, hw2, kx⟩
      simp [go_sem]
      exact ⟨kx, hw1⟩
    | 8 =>
      injection hi with hi; subst hi
      have d5 := hd { on := 5, ground := .data } (by simp) (by decide) _ _ rfl rfl
      have d7 := hd { on := 7, ground := .data } (by simp) (by decide) _ _ rfl rfl
      simp only at d5 d7
      obtain ⟨wb, wc, hw7⟩ := d7.slice
      have hsr := d7.reg.src
      rw [hw7] at hsr d7
      have d7' := hw7
      simp [wantedE, go_sem, d5, d7, hcap]
      rw [hw7]
      refine AppI_tight g si40 ((hTi.new k1).new hNw) hNw hsr (by omega) (by omega) ?_
      intro nc ncc stx hVx hFx k0 kx
      exact ⟨kx, by rw [← hT, bytesV_append, List.length_append]; exact hVx, hFx⟩
    | 9 =>
      injection hi with hi; subst hi
      have d8 := hd { on := 8, ground := .data } (by simp) (by decide) _ _ rfl rfl
      simp only at d8
      simp [wantedE, go_sem, d8, hcap]
      first | exact New.refl _ | exact ⟨New.refl _, d8⟩
    | ix + 10 => simp at hi
  · intro E sta hNw hd hE
    obtain ⟨x9, x9f⟩ := hd 9 _ _ rfl rfl
    simp [go_sem]
    exact ⟨_, rfl, x9, fun b off n c e => k1.none (x9f b off n c e), k1.trans hNw⟩
  · intro j oj hj
    match j with
    | 0 | 1 | 2 | 3 | 4 | 5 | 6 | 7 | 8 | 9 => simp at hj; subst hj; decide
    | j + 10 => simp at hj
theorem kmvPut_spec {bv lv : Value} {b : Bs} {l : List Nat} {g0 : Tg} (g : Tg) (h : Reg st g0 1 bv (bytesV b) b.length) (hL : RegF st 1 lv (cellsU l) l.length) (hv : ∀ v ∈ l, v < 2 ^ 64) (hs : ascK l = true) (hll : l.length ≤ 1000000) (hl : b.length < 2 ^ 39) :
    ICalls Tryz.prog W0 119 #[bv, lv] st (MatPutR st g (b ++ riseB l)) := by
  refine enter (args := [_, _]) Tryz.func119 rfl ?_
  simp [Tryz.f119, go_sem]
  refine (putRise_spec g h hL hv hs hll hl).mono ?_
  rintro e s1 ⟨v, rfl, h1, h2, h3⟩
  simp [go_sem]
  exact ⟨v, rfl, h1, h2, h3⟩
theorem pairPut_spec {bv : Value} {cs : List Value} {b : Bs} {s : SkD} {g0 : Tg} (g : Tg) (h : Reg st g0 1 bv (bytesV b) b.length) (hS : SkAt st cs s) (ok : SkOK s) (hc : checkS s = true) (hl : b.length < 2 ^ 37) :
    ICalls Tryz.prog W0 54 #[bv, .agg cs.toArray] st (MatPutR st g (b ++ skB s)) := by
  obtain ⟨hv, kv, rfl, h1, h2⟩ := hS
  obtain ⟨o1, o2, o3, o4, o5⟩ := ok
  obtain ⟨hist, hashes, q⟩ := s
  obtain ⟨hb, hcc, rfl⟩ := h1.slice
  obtain ⟨kb, kc, rfl⟩ := h2.slice
  obtain ⟨bb, bc, rfl⟩ := h.slice
  unfold checkS at hc
  simp only [Bool.and_eq_true] at hc o1 o2 o3 o4 o5 h1 h2
  obtain ⟨ch, ck, cg⟩ := hc
  unfold checkK at ck
  simp only [Bool.and_eq_true, decide_eq_true_eq] at ck
  have hfb := form_bound ch o1
  have hrb := (riseT_len hashes 0 o3).2
  have hrl := vputM_len hashes.length (by omega)
  have hRl : (riseB hashes).length ≤ 20000 := by unfold riseB; rw [List.length_append]; omega
  refine enter (args := [_, _]) Tryz.func54 rfl ?_
  simp [Tryz.f54, go_sem]
  unfold NewP
  intro tb htb
  refine ⟨.ty 0, ?_⟩
  have hc1 := upd_same st tb (.cells true [.slice hb hist.length hcc, .slice kb hashes.length kc, Val.u q.n, Val.u q.nans, Val.u q.lo, Val.u q.hi] 6 (.ty 0))
  have k1 := (New.refl st).add (b := tb) (o := .cells true [.slice hb hist.length hcc, .slice kb hashes.length kc, Val.u q.n, Val.u q.nans, Val.u q.lo, Val.u q.hi] 6 (.ty 0)) htb
  simp [go_sem]
  generalize upd st tb (.cells true [.slice hb hist.length hcc, .slice kb hashes.length kc, Val.u q.n, Val.u q.nans, Val.u q.lo, Val.u q.hi] 6 (.ty 0)) = s1 at *
  generalize hE0 : (Env.set _ _ _ : Env) = E0
  have f0 : E0 0 = .slice bb b.length bc := by subst hE0; simp [go_sem]
  have f3 : E0 3 = ptr tb := by subst hE0; simp [go_sem]
  clear hE0
  obtain ⟨c3, hc3⟩ : ∃ c, b ++ formB hist = c := ⟨_, rfl⟩
  obtain ⟨c6, hc6⟩ : ∃ c, c3 ++ riseB hashes = c := ⟨_, rfl⟩
  obtain ⟨c9, hc9⟩ : ∃ c, c6 ++ gauB q = c := ⟨_, rfl⟩
  have hT : b ++ skB ⟨hist, hashes, q⟩ = c9 := by rw [← hc9, ← hc6, ← hc3]; simp [skB]
  have l3 : c3.length = b.length + (formB hist).length := by rw [← hc3, List.length_append]
  have l6 : c6.length = c3.length + (riseB hashes).length := by rw [← hc6, List.length_append]
  rw [hT]
  refine drawV [0, 1, 2, 3, 4, 5, 6, 7, 8, 9, 10] (fun ix vx st' => match ix with
    | 0 => vx = .slice bb b.length bc
    | 1 => vx = .pointer (some ⟨tb, 0, none⟩)
    | 2 => vx = .slice hb hist.length hcc
    | 3 => Vec st' (.ty 1) 1 vx (bytesV c3) c3.length
    | 4 => vx = .pointer (some ⟨tb, 1, none⟩)
    | 5 => vx = .slice kb hashes.length kc
    | 6 => Vec st' (.ty 1) 1 vx (bytesV c6) c6.length
    | 7 => vx = .pointer (some ⟨tb, 2, none⟩)
    | 8 => vx = .agg #[Val.u q.n, Val.u q.nans, Val.u q.lo, Val.u q.hi]
    | 9 | 10 => Vec st' g 1 vx (bytesV c9) c9.length ∧ Fresh s1 vx
    | _ => True) (by kernel_rfl) (by kernel_rfl) ?_ ?_ ?_ ?_
  · intro ix vx sta stb hNw h
    match ix with
    | 3 => exact Vec.new' h hNw
    | 6 => exact Vec.new' h hNw
    | 9 => exact ⟨h.1.new' hNw, h.2⟩
    | 10 => exact ⟨h.1.new' hNw, h.2⟩
    | 0 => exact h
    | 1 => exact h
    | 2 => exact h
    | 4 => exact h
    | 5 => exact h
    | 7 => exact h
    | 8 => exact h
    | ix + 11 => exact h
  · intro ix oo hi E sta hNw hd hE
    match ix with
    | 0 =>
      have x0 := hE 0 (oldB_spec (by kernel_rfl))
      injection hi with hi; subst hi
      simp [wantedE, go_sem, x0, f0]
      exact New.refl _
    | 1 =>
      have x3 := hE 3 (oldB_spec (by kernel_rfl))
      injection hi with hi; subst hi
      simp [wantedE, go_sem, x3, f3]
      exact New.refl _
    | 2 =>
      injection hi with hi; subst hi
      have d1 := hd { on := 1, ground := .data } (by simp) (by decide) _ _ rfl rfl
      simp only at d1
      have gt := hNw _ _ hc1
      simp [wantedE, go_sem, d1, gt]
      exact New.refl _
    | 3 =>
      injection hi with hi; subst hi
      have d0 := hd { on := 0, ground := .data } (by simp) (by decide) _ _ rfl rfl
      have d2 := hd { on := 2, ground := .data } (by simp) (by decide) _ _ rfl rfl
      simp only at d0 d2
      simp [wantedE, go_sem, d0, d2]
      refine (histPut_spec (.ty 1) ((h.new k1).new hNw) ((h1.new k1).new hNw) ch o1 (by omega)).mono ?_
      rintro e stx ⟨w, rfl, hw1, hw2, kx⟩
      simp [go_sem]
      exact ⟨kx, by rw [← hc3]; exact hw1⟩
    | 4 =>
      have x3 := hE 3 (oldB_spec (by kernel_rfl))
      injection hi with hi; subst hi
      simp [wantedE, go_sem, x3, f3]
      exact New.refl _
    | 5 =>
      injection hi with hi; subst hi
      have d4 := hd { on := 4, ground := .data } (by simp) (by decide) _ _ rfl rfl
      simp only at d4
      have gt := hNw _ _ hc1
      simp [wantedE, go_sem, d4, gt]
      exact New.refl _
    | 6 =>
      injection hi with hi; subst hi
      have d3 := hd { on := 3, ground := .data } (by simp) (by decide) _ _ rfl rfl
      have d5 := hd { on := 5, ground := .data } (by simp) (by decide) _ _ rfl rfl
      simp only at d3 d5
      simp [wantedE, go_sem, d3, d5]
      refine (kmvPut_spec (.ty 1) d3.reg ((h2.new k1).new hNw) o3 ck.2 (by omega) (by omega)).mono ?_
      rintro e stx ⟨w, rfl, hw1, hw2, kx⟩
      simp [go_sem]
      exact ⟨kx, by rw [← hc6]; exact hw1⟩
    | 7 =>
      have x3 := hE 3 (oldB_spec (by kernel_rfl))
      injection hi with hi; subst hi
      simp [wantedE, go_sem, x3, f3]
      exact New.refl _
    | 8 =>
      injection hi with hi; subst hi
      have d7 := hd { on := 7, ground := .data } (by simp) (by decide) _ _ rfl rfl
      simp only at d7
      have gt := hNw _ _ hc1
      simp [wantedE, go_sem, d7, gt]
      exact New.refl _
    | 9 =>
      injection hi with hi; subst hi
      have d6 := hd { on := 6, ground := .data } (by simp) (by decide) _ _ rfl rfl
      have d8 := hd { on := 8, ground := .data } (by simp) (by decide) _ _ rfl rfl
      simp only at d6 d8
      simp [wantedE, go_sem, d6, d8]
      refine (gaugePut_spec g d6.reg o5 (by omega)).mono ?_
      rintro e stx ⟨w, rfl, hw1, hw2, kx⟩
      simp [go_sem]
      exact ⟨kx, by rw [← hc9]; exact hw1, fun b off n c e => hNw.none (hw2 b off n c e)⟩
    | 10 =>
      injection hi with hi; subst hi
      have d9 := hd { on := 9, ground := .data } (by simp) (by decide) _ _ rfl rfl
      simp only at d9
      simp [wantedE, go_sem, d9]
      first | exact New.refl _ | exact ⟨New.refl _, d9⟩
    | ix + 11 => simp at hi
  · intro E sta hNw hd hE
    obtain ⟨x9, x9f⟩ := hd 10 _ _ rfl rfl
    simp [go_sem]
    exact ⟨_, rfl, x9, fun b off n c e => k1.none (x9f b off n c e), k1.trans hNw⟩
  · intro j oj hj
    match j with
    | 0 | 1 | 2 | 3 | 4 | 5 | 6 | 7 | 8 | 9 | 10 => simp at hj; subst hj; decide
    | j + 11 => simp at hj
end
end Go.Proofs.YtadgciaclhjjkaaGreat
