/- A remainder from 0 on, to the number. -/
import Derived.Test.YtadgciaclhjjkaaGreatC23
import Derived.Test.YtadgciaclhjjkaaGreatC35
import Derived.Test.YtadgciaclhjjkaaGreatC36
import Derived.Test.YtadgciaclhjjkaaGreatC29
import Derived.Test.YtadgciaclhjjkaaGreatC26
import Derived.Test.YtadgciaclhjjkaaGreatC25
set_option linter.unusedVariables false
set_option linter.unusedSimpArgs false
set_option maxRecDepth 100000
set_option maxHeartbeats 1000000
namespace Go.Proofs.YtadgciaclhjjkaaGreat
section
variable {W0 : World} {st : Heap}
theorem Place_exact {n k : Int} (hk : 0 < k) (hk2 : k < 2 ^ 40) : ICalls Tryz.prog W0 25 #[Val.i n, Val.i k] st fun e st' => e = .returned (Val.i (n % k)) ∧ st' = st := by
  refine enter (args := [_, _]) Tryz.func25 rfl ?_
  have hk0 : ¬ k = 0 := by omega
  have h1 := Int.tmod_lt_of_pos n hk
  have h2 : -k < n.tmod k := by
    have := Int.lt_tmod_of_pos n hk
    omega
  have hw1 : IntKind.i64.wrap (n.tmod k) = n.tmod k := wrap_id (by omega) (by omega)
  have he1 := Int.tdiv_mul_add_tmod n k
  have he2 := Int.emod_nonneg n hk0
  have he3 := Int.emod_lt_of_pos n hk
  by_cases hneg : n.tmod k < 0
  · have hw2 : IntKind.i64.wrap (n.tmod k + k) = n.tmod k + k := wrap_id (by omega) (by omega)
    have he : n.tmod k + k = n % k := by
      have h3 : (n.tmod k + k) % k = n.tmod k + k := Int.emod_eq_of_lt (by omega) (by omega)
      rw [← h3, Int.add_emod_right]
      conv => rhs; rw [← he1]
      rw [Int.mul_comm, Int.mul_add_emod_self_left]
    simp [Tryz.f25, go_sem, hk0, hneg, hw1, hw2]
    exact he
  · have he : n.tmod k = n % k := by
      have h3 : (n.tmod k) % k = n.tmod k := Int.emod_eq_of_lt (by omega) (by omega)
      rw [← h3]
      conv => rhs; rw [← he1]
      rw [Int.mul_comm, Int.mul_add_emod_self_left]
    simp [Tryz.f25, go_sem, hk0, hneg, hw1]
    exact he
end
end Go.Proofs.YtadgciaclhjjkaaGreat
set_option linter.unusedVariables false
set_option linter.unusedSimpArgs false
set_option maxRecDepth 100000
set_option maxHeartbeats 2000000
namespace Go.Proofs.YtadgciaclhjjkaaGreat
open Go.RowKit (Below)
def bkN (v : Nat) : Nat := if v < 256 then v else 128 + bkN (v / 2)
theorem bkN_le (v : Nat) : bkN v ≤ v := by
  induction v using Nat.strongRecOn with
  | ind v ih =>
    unfold bkN
    split
    · omega
    · have := ih (v / 2) (by omega); omega
section
variable {W0 : World} {st : Heap}
theorem bucket07_spec {v : Nat} (hv : v < 1000000) : ICalls Tryz.prog W0 143 #[Val.u v] st fun e st' => e = .returned (Val.i (bkN v : Nat)) ∧ st' = st := by
  refine enter (args := [_]) Tryz.func143 rfl ?_
  simp [Tryz.f143, go_sem]
  refine ⟨fun E st' => st' = st ∧ ∃ w e : Nat, E 0 = Val.u w ∧ E 3 = Val.i e ∧ 128 * e + bkN w = bkN v ∧ w + e ≤ v,
    fun E _ => match E 0 with | .int _ w => w.toNat | _ => 0, ⟨st, .rfl' _, rfl, v, 0, by simp [go_sem], by simp [go_sem], by omega, by omega⟩, ?_⟩
  rintro E st' ⟨rfl, w, e, e0, e3, hb, hw⟩
  have hbw := bkN_le w
  have hbv := bkN_le v
  by_cases hge : 256 ≤ w
  · have q : ((256 : Int) ≤ w) = True := eq_true (by omega)
    have hwe : IntKind.i64.wrap ((e : Int) + 1) = ((e + 1 : Nat) : Int) := by rw [wrap_id (by omega) (by omega)]; omega
    have hfd : (w : Int).fdiv 2 = ((w / 2 : Nat) : Int) := by rw [Int.fdiv_eq_ediv_of_nonneg _ (by omega)]; omega
    have hun : bkN w = 128 + bkN (w / 2) := by rw [bkN, if_neg (by omega)]
    simp [go_sem, e0, e3, q, hge, hwe, hfd]
    exact ⟨_, .rfl' _, ⟨rfl, w / 2, by omega, e + 1, by omega, by omega, by omega⟩, by omega⟩
  · have q : ((256 : Int) ≤ w) = False := eq_false (by omega)
    have hun : bkN w = w := by rw [bkN, if_pos (by omega)]
    have h1 : IntKind.i64.wrap (128 * (e : Int)) = ((128 * e : Nat) : Int) := by rw [wrap_id (by omega) (by omega)]; omega
    have h2 : IntKind.i64.wrap (w : Int) = w := wrap_id (by omega) (by omega)
    have h3 : IntKind.i64.wrap (((128 * e : Nat) : Int) + (w : Int)) = ((bkN v : Nat) : Int) := by rw [wrap_id (by omega) (by omega)]; omega
    obtain ⟨x, hx⟩ : ∃ x, 128 * e = x := ⟨_, rfl⟩
    rw [hx] at h1 h3
    simp [go_sem, e0, e3, q, hge, h1, h2, h3]
theorem add07_nil {a : Int} : ICalls Tryz.prog W0 142 #[.slice none 0 0, Val.i a, Val.u 1] st fun e st' => ∃ v, e = .returned v ∧ Vec st' (.ty 1) 2 v (bkV [(a, 1)]) 1 ∧ New st st' := by
  refine enter (args := [_, _, _]) Tryz.func142 rfl ?_
  simp [Tryz.f142, go_sem]
  refine ⟨fun E st' => st' = st ∧ E 0 = .slice none 0 0 ∧ E 1 = Val.i a ∧ E 2 = Val.u 1 ∧ E 7 = .slice none 0 0 ∧ E 8 = .bool false ∧ E 9 = Val.i 0, fun _ _ => 0, ⟨st, .rfl' _, rfl, by simp [go_sem], by simp [go_sem], by simp [go_sem], by simp [go_sem], by simp [go_sem], by simp [go_sem]⟩, ?_⟩
  rintro E st' ⟨rfl, e0, e1, e2, e7, e8, e9⟩
  simp [go_sem, e0, e1, e2, e7, e8, e9]
  unfold NewS
  intro nb hnb
  refine ⟨.ty 0, ?_⟩
  have k1 := (New.refl st').add (b := nb) (o := .cells true [Val.i a, Val.u 1] 2 (.ty 0)) hnb
  simp [go_sem]
  refine AppI_newg (.ty 1) (m := 1) (ys := [Val.i a, Val.u 1]) si23 (by simp [srcCells, lkN_mk, upd_same, cellsOf]) (by omega) ?_
  intro nc ncc s2 hV2 hF2 k2
  simp [go_sem]
  exact ⟨by simpa [bkV] using hV2, k1.trans k2⟩
def itemX : ByteArray := ⟨#[120]⟩
def hashX : Nat := ((14695981039346656037 ^^^ 120) * 1099511628211) % 2 ^ 64
def skX (a : Int) : SkD := ⟨[((bkN (a % 1000).toNat : Nat), 1)], [hashX], ⟨1, 0, 0, 0⟩⟩
def lawR (sq a : Int) (l : List Lab) : RcD := ⟨sq, 1, ⟨l, a, skX a⟩, zeroT⟩
theorem of06_x : ICalls Tryz.prog W0 192 #[.string itemX] st fun e st' => e = .returned (Val.u hashX) ∧ st' = st := by
  refine enter (args := [_]) Tryz.func192 rfl ?_
  simp [Tryz.f192, go_sem]
  refine ICalls.mono (R := fun e st' => e = .returned (Val.u hashX) ∧ st' = st) ?_ ?_
  · refine enter (args := [_, _]) Tryz.func231 rfl ?_
    simp [Tryz.f231, go_sem]
    refine ⟨fun E st' => st' = st ∧ E 1 = .string itemX ∧ ((E 0 = Val.u 14695981039346656037 ∧ E 5 = Val.i 0) ∨ (E 0 = Val.u hashX ∧ E 5 = Val.i 1)), fun E _ => match E 5 with | .int _ w => (1 - w).toNat | _ => 0, ⟨st, .rfl' _, rfl, by simp [go_sem], .inl ⟨by simp [go_sem], by simp [go_sem]⟩⟩, ?_⟩
    rintro E st' ⟨rfl, e1, ⟨e0, e5⟩ | ⟨e0, e5⟩⟩
    · have hz : itemX.size = 1 := rfl
      have hb : IntKind.u64.wrap (btOf itemX 0) = 120 := by kernel_rfl
      have hx : bits BinOp.xor IntKind.u64 14695981039346656037 120 = 14695981039346656093 := by kernel_rfl
      simp [go_sem, e0, e1, e5, hz, hb, hx]
      exact ⟨_, .rfl' _, ⟨rfl, .inr ⟨by kernel_rfl, by kernel_rfl⟩⟩, by decide⟩
    · have hz : itemX.size = 1 := rfl
      simp [go_sem, e0, e1, e5, hz]
  · rintro e st' ⟨rfl, rfl⟩
    simp [go_sem]
theorem hash08_nil {h : Nat} (hh : h < 2 ^ 64) : ICalls Tryz.prog W0 191 #[.slice none 0 0, Val.u h] st fun e st' => ∃ v, e = .returned v ∧ Vec st' (.ty 1) 1 v (cellsU [h]) 1 ∧ New st st' := by
  refine enter (args := [_, _]) Tryz.func191 rfl ?_
  simp [Tryz.f191, go_sem]
  refine ⟨fun E st' => st' = st ∧ E 0 = .slice none 0 0 ∧ E 1 = Val.u h ∧ E 5 = Val.i 0, fun _ _ => 0, ⟨st, .rfl' _, rfl, by simp [go_sem], by simp [go_sem], by simp [go_sem]⟩, ?_⟩
  rintro E st' ⟨rfl, e0, e1, e5⟩
  simp [go_sem, e0, e1, e5]
  refine AppI_newg (.ty 1) (m := 0) (ys := []) si24 (by simp [srcCells]) (by omega) ?_
  intro nb nbc s2 hV2 hF2 k2
  simp [go_sem, e1]
  unfold NewS
  intro nc hnc
  refine ⟨.ty 0, ?_⟩
  have k3 := k2.add (b := nc) (o := .cells true [Val.u h] 1 (.ty 0)) hnc
  simp [go_sem]
  refine AppI_new (m := 1) (ys := [Val.u h]) si24 (hV2.keep (p := fun _ => True) (Keep.rfl'.new hnc) trivial) hF2 k3 (by simp [srcCells, lkN_mk, upd_same, cellsOf]) (by simp [go_sem]) (by omega) ?_
  intro nd ndc s4 hV4 hF4 k4 _
  simp [go_sem, e0, e5]
  refine AppI_new (x := .slice none 0 0) (m := 0) (ys := []) si24 hV4 hF4 k4 (by simp [srcCells, e0]) (by simp) (by omega) ?_
  intro ne nec s5 hV5 hF5 k5 _
  simp [go_sem]
  exact ⟨by simpa [cellsU] using hV5, k5⟩
theorem add08_nil : ICalls Tryz.prog W0 144 #[.slice none 0 0, .string itemX] st fun e st' => ∃ v, e = .returned v ∧ Vec st' (.ty 1) 1 v (cellsU [hashX]) 1 ∧ New st st' := by
  refine enter (args := [_, _]) Tryz.func144 rfl ?_
  simp [Tryz.f144, go_sem]
  refine of06_x.mono ?_
  rintro e st1 ⟨rfl, rfl⟩
  simp [go_sem]
  refine (hash08_nil (by decide)).mono ?_
  rintro e st1 ⟨v, rfl, hV, hk⟩
  simp [go_sem]
  exact ⟨hV, hk⟩
theorem merge09_zero {n ns lo hi : Nat} (hn : n < 2 ^ 64) (hns : ns < 2 ^ 64) : ICalls Tryz.prog W0 193 #[.agg #[Val.u 0, Val.u 0, Val.u 0, Val.u 0], .agg #[Val.u n, Val.u ns, Val.u lo, Val.u hi]] st fun e st' => e = .returned (.agg #[Val.u n, Val.u ns, Val.u lo, Val.u hi]) ∧ New st st' := by
  have s0n : satAdd 0 n = n := by unfold satAdd; rw [if_neg (by omega)]; omega
  have s0m : satAdd 0 ns = ns := by unfold satAdd; rw [if_neg (by omega)]; omega
  refine enter (args := [_, _]) Tryz.func193 rfl ?_
  simp [Tryz.f193, go_sem]
  unfold NewP
  intro ta hta
  refine ⟨.ty 1, ?_⟩
  have k1 := (New.refl st).add (b := ta) (o := .cells true [Val.u 0, Val.u 0, Val.u 0, Val.u 0] 4 (.ty 1)) hta
  have g1 := upd_same st ta (.cells true [Val.u 0, Val.u 0, Val.u 0, Val.u 0] 4 (.ty 1))
  simp [go_sem]
  generalize upd st ta (.cells true [Val.u 0, Val.u 0, Val.u 0, Val.u 0] 4 (.ty 1)) = st1 at *
  unfold NewP
  intro tb htb
  refine ⟨.ty 1, ?_⟩
  have k2 := (New.refl st1).add (b := tb) (o := .cells true [Val.u n, Val.u ns, Val.u lo, Val.u hi] 4 (.ty 1)) htb
  have g2 := upd_same st1 tb (.cells true [Val.u n, Val.u ns, Val.u lo, Val.u hi] 4 (.ty 1))
  simp [go_sem]
  generalize upd st1 tb (.cells true [Val.u n, Val.u ns, Val.u lo, Val.u hi] 4 (.ty 1)) = st2 at *
  unfold NewP
  intro c hcc
  refine ⟨.ty 1, ?_⟩
  have k3 := (New.refl st2).add (b := c) (o := .cells true [Val.u 0, Val.u 0, Val.u 0, Val.u 0] 4 (.ty 1)) hcc
  have g3 := upd_same st2 c (.cells true [Val.u 0, Val.u 0, Val.u 0, Val.u 0] 4 (.ty 1))
  have ga := k3 _ _ (k2 _ _ g1)
  have gb := k3 _ _ g2
  have nbc := ne_of_new g2 hcc
  simp [go_sem]
  generalize upd st2 c (.cells true [Val.u 0, Val.u 0, Val.u 0, Val.u 0] 4 (.ty 1)) = s3 at *
  have K3 := (k1.trans k2).trans k3
  have hcn : st c = none := (k1.trans k2).none hcc
  generalize hE0 : (Env.set _ _ _ : Env) = E0
  have f2 : E0 2 = ptr ta := by subst hE0; simp [go_sem]
  have f3 : E0 3 = ptr tb := by subst hE0; simp [go_sem]
  have f4 : E0 4 = ptr c := by subst hE0; simp [go_sem]
  clear hE0
  refine drawT 16 [0, 1, 2, 3, 4, 5, 6, 7, 8, 9, 10, 11, 12, 13, 14, 15, 16] (fun ix vx st' => match ix with
    | 0 => vx = .pointer (some ⟨ta, 0, none⟩)
    | 1 | 6 | 11 | 13 => vx = Val.u 0
    | 2 => vx = .pointer (some ⟨tb, 0, none⟩)
    | 3 | 4 => vx = Val.u n
    | 5 => vx = .pointer (some ⟨ta, 1, none⟩)
    | 7 => vx = .pointer (some ⟨tb, 1, none⟩)
    | 8 | 9 => vx = Val.u ns
    | 10 => vx = .pointer (some ⟨ta, 2, none⟩)
    | 12 => vx = .pointer (some ⟨ta, 3, none⟩)
    | 14 => vx = .agg #[Val.u n, Val.u ns, Val.u 0, Val.u 0]
    | 15 => ∃ b, vx = ptr b ∧ st' b = some (.cells true [Val.u 0, Val.u 0, Val.u 0, Val.u 0] 4 (.ty 1)) ∧ s3 b = none
    | _ => True) (by kernel_rfl) (by kernel_rfl) (by kernel_rfl) (by decide) ?_ ?_ ?_ ?_
  · intro ix vx sta stb hNw h
    match ix with
    | 15 => obtain ⟨b, e1, e2, e3⟩ := h; exact ⟨b, e1, hNw _ _ e2, e3⟩
    | 0 => exact h
    | 1 => exact h
    | 2 => exact h
    | 3 => exact h
    | 4 => exact h
    | 5 => exact h
    | 6 => exact h
    | 7 => exact h
    | 8 => exact h
    | 9 => exact h
    | 10 => exact h
    | 11 => exact h
    | 12 => exact h
    | 13 => exact h
    | 14 => exact h
    | ix + 16 => exact h
  · intro ix oo hin hi E sta hNw hd hE
    match ix with
    | 0 =>
      have x2 := hE 2 (oldT_spec (by kernel_rfl))
      injection hi with hi; subst hi
      simp [wantedE, go_sem, x2, f2]
      exact New.refl _
    | 1 =>
      injection hi with hi; subst hi
      have d0 := hd { on := 0, ground := .data } (by simp) (by decide) _ _ rfl rfl
      simp only at d0
      have gt := hNw _ _ ga
      simp [wantedE, go_sem, d0, gt]
      exact New.refl _
    | 2 =>
      have x3 := hE 3 (oldT_spec (by kernel_rfl))
      injection hi with hi; subst hi
      simp [wantedE, go_sem, x3, f3]
      exact New.refl _
    | 3 =>
      injection hi with hi; subst hi
      have d2 := hd { on := 2, ground := .data } (by simp) (by decide) _ _ rfl rfl
      simp only at d2
      have gt := hNw _ _ gb
      simp [wantedE, go_sem, d2, gt]
      exact New.refl _
    | 4 =>
      injection hi with hi; subst hi
      have d1 := hd { on := 1, ground := .data } (by simp) (by decide) _ _ rfl rfl
      have d3 := hd { on := 3, ground := .data } (by simp) (by decide) _ _ rfl rfl
      simp only at d1 d3
      simp [wantedE, go_sem, d1, d3]
      refine ICalls.mono (by simpa using refAdd_spec (W0 := W0) (st := sta) (x := 0) (by decide) hn) ?_
      rintro e stx ⟨rfl, rfl⟩
      simp [go_sem, s0n]
      exact New.refl _
    | 5 =>
      have x2 := hE 2 (oldT_spec (by kernel_rfl))
      injection hi with hi; subst hi
      simp [wantedE, go_sem, x2, f2]
      exact New.refl _
    | 6 =>
      injection hi with hi; subst hi
      have d5 := hd { on := 5, ground := .data } (by simp) (by decide) _ _ rfl rfl
      simp only at d5
      have gt := hNw _ _ ga
      simp [wantedE, go_sem, d5, gt]
      exact New.refl _
    | 7 =>
      have x3 := hE 3 (oldT_spec (by kernel_rfl))
      injection hi with hi; subst hi
      simp [wantedE, go_sem, x3, f3]
      exact New.refl _
    | 8 =>
      injection hi with hi; subst hi
      have d7 := hd { on := 7, ground := .data } (by simp) (by decide) _ _ rfl rfl
      simp only at d7
      have gt := hNw _ _ gb
      simp [wantedE, go_sem, d7, gt]
      exact New.refl _
    | 9 =>
      injection hi with hi; subst hi
      have d6 := hd { on := 6, ground := .data } (by simp) (by decide) _ _ rfl rfl
      have d8 := hd { on := 8, ground := .data } (by simp) (by decide) _ _ rfl rfl
      simp only at d6 d8
      simp [wantedE, go_sem, d6, d8]
      refine ICalls.mono (by simpa using refAdd_spec (W0 := W0) (st := sta) (x := 0) (by decide) hns) ?_
      rintro e stx ⟨rfl, rfl⟩
      simp [go_sem, s0m]
      exact New.refl _
    | 10 =>
      have x2 := hE 2 (oldT_spec (by kernel_rfl))
      injection hi with hi; subst hi
      simp [wantedE, go_sem, x2, f2]
      exact New.refl _
    | 11 =>
      injection hi with hi; subst hi
      have d10 := hd { on := 10, ground := .data } (by simp) (by decide) _ _ rfl rfl
      simp only at d10
      have gt := hNw _ _ ga
      simp [wantedE, go_sem, d10, gt]
      exact New.refl _
    | 12 =>
      have x2 := hE 2 (oldT_spec (by kernel_rfl))
      injection hi with hi; subst hi
      simp [wantedE, go_sem, x2, f2]
      exact New.refl _
    | 13 =>
      injection hi with hi; subst hi
      have d12 := hd { on := 12, ground := .data } (by simp) (by decide) _ _ rfl rfl
      simp only at d12
      have gt := hNw _ _ ga
      simp [wantedE, go_sem, d12, gt]
      exact New.refl _
    | 14 =>
      injection hi with hi; subst hi
      have d4 := hd { on := 4, ground := .data } (by simp) (by decide) _ _ rfl rfl
      have d9 := hd { on := 9, ground := .data } (by simp) (by decide) _ _ rfl rfl
      have d11 := hd { on := 11, ground := .data } (by simp) (by decide) _ _ rfl rfl
      have d13 := hd { on := 13, ground := .data } (by simp) (by decide) _ _ rfl rfl
      simp only at d4 d9 d11 d13
      simp [wantedE, go_sem, d4, d9, d11, d13]
      exact New.refl _
    | 15 =>
      injection hi with hi; subst hi
      simp [wantedE, go_sem]
      unfold NewP
      intro d hdd
      refine ⟨.ty 1, ?_⟩
      simp [go_sem]
      exact ⟨(New.refl sta).add hdd, hNw.none hdd⟩
    | ix + 16 => omega
  · intro E sta hNw hd hE
    have x2 := (hE 2 (noT_spec (by kernel_rfl))).trans f2
    have x3 := (hE 3 (noT_spec (by kernel_rfl))).trans f3
    have x4 := (hE 4 (noT_spec (by kernel_rfl))).trans f4
    have x20 := hd 14 _ 20 (by omega) rfl rfl
    obtain ⟨d, x5, gd, hdn⟩ := hd 15 _ 5 (by omega) rfl rfl
    simp only at x20
    have ga' := hNw _ _ ga
    have gb' := hNw _ _ gb
    have gc' := hNw _ _ g3
    have nad := ne_of_new ga hdn
    have nbd := ne_of_new gb hdn
    have ncd := ne_of_new g3 hdn
    have hdn0 := K3.none hdn
    have K4 := K3.trans hNw
    simp [go_sem, x2, x3, x4, x20, x5, ga', gb', gc', gd, nad, nbd, ncd, nad.symm, nbd.symm, ncd.symm, upd_ne, upd_same]
    refine RetI_cell ?_
    simp [go_sem, x4]
    exact (K4.put hdn0).put hcn
  · intro j oj hj
    match j with
    | 0 | 1 | 2 | 3 | 4 | 5 | 6 | 7 | 8 | 9 | 10 | 11 | 12 | 13 | 14 | 15 | 16 => simp at hj; subst hj; decide
    | j + 17 => simp at hj
theorem add09_zero : ICalls Tryz.prog W0 145 #[.agg #[Val.u 0, Val.u 0, Val.u 0, Val.u 0], Val.u 0] st fun e st' => e = .returned (.agg #[Val.u 1, Val.u 0, Val.u 0, Val.u 0]) ∧ New st st' := by
  refine enter (args := [_, _]) Tryz.func145 rfl ?_
  simp [Tryz.f145, go_sem]
  unfold NewP
  intro ta hta
  refine ⟨.ty 1, ?_⟩
  have k1 := (New.refl st).add (b := ta) (o := .cells true [Val.u 0, Val.u 0, Val.u 0, Val.u 0] 4 (.ty 1)) hta
  have g1 := upd_same st ta (.cells true [Val.u 0, Val.u 0, Val.u 0, Val.u 0] 4 (.ty 1))
  simp [go_sem]
  generalize upd st ta (.cells true [Val.u 0, Val.u 0, Val.u 0, Val.u 0] 4 (.ty 1)) = st1 at *
  unfold NewP
  intro c hcc
  refine ⟨.ty 1, ?_⟩
  have k3 := (New.refl st1).add (b := c) (o := .cells true [Val.u 0, Val.u 0, Val.u 0, Val.u 0] 4 (.ty 1)) hcc
  have g3 := upd_same st1 c (.cells true [Val.u 0, Val.u 0, Val.u 0, Val.u 0] 4 (.ty 1))
  have ga := k3 _ _ g1
  have hcn := k1.none hcc
  simp [go_sem]
  generalize upd st1 c (.cells true [Val.u 0, Val.u 0, Val.u 0, Val.u 0] 4 (.ty 1)) = s3 at *
  refine ICalls.mono (by simpa using refKind_spec (W0 := W0) (st := s3) (b := 0) (by decide)) ?_
  rintro e stx ⟨rfl, rfl⟩
  have hk0 : kindN 0 = 0 := by decide
  simp [go_sem, hk0, ga]
  refine ICalls.mono (by simpa using merge09_zero (W0 := W0) (st := stx) (n := 1) (ns := 0) (lo := 0) (hi := 0) (by decide) (by decide)) ?_
  rintro e st4 ⟨rfl, k4⟩
  have g3' := k4 _ _ g3
  simp [go_sem, g3']
  refine RetI_cell ?_
  simp [go_sem]
  exact ((k1.trans k3).trans k4).put hcn
theorem of10_one {ob a : Nat} {gg : Tg} {nn : Nat} {rw_ : Bool} (ha : a < 1000) (hob : st ob = some (.cells rw_ [Val.u a, .string itemX, Val.u 0] nn gg)) : ICalls Tryz.prog W0 77 #[.slice (some ⟨ob, 0, none⟩) 1 1] st fun e st' => ∃ hv kv, e = .returned (.agg #[hv, kv, Val.u 1, Val.u 0, Val.u 0, Val.u 0]) ∧ RegF st' 2 hv (bkV [((bkN a : Nat), 1)]) 1 ∧ RegF st' 1 kv (cellsU [hashX]) 1 ∧ New st st' := by
  refine enter (args := [_]) Tryz.func77 rfl ?_
  simp [Tryz.f77, go_sem]
  unfold NewP
  intro c hcc
  refine ⟨.own c 0 112, ?_⟩
  have k1 := (New.refl st).add (b := c) (o := .cells true [.slice none 0 0, .slice none 0 0, Val.u 0, Val.u 0, Val.u 0, Val.u 0] 6 (.own c 0 112)) hcc
  have g1 := upd_same st c (.cells true [.slice none 0 0, .slice none 0 0, Val.u 0, Val.u 0, Val.u 0, Val.u 0] 6 (.own c 0 112))
  simp [go_sem]
  generalize upd st c (.cells true [.slice none 0 0, .slice none 0 0, Val.u 0, Val.u 0, Val.u 0, Val.u 0] 6 (.own c 0 112)) = st1 at *
  unfold NewP
  intro d hdd
  refine ⟨.own d 0 111, ?_⟩
  have k2 := (New.refl st1).add (b := d) (o := .cells true [.slice none 0 0, .slice none 0 0, Val.u 0, Val.u 0, Val.u 0, Val.u 0] 6 (.own d 0 111)) hdd
  have g2 := upd_same st1 d (.cells true [.slice none 0 0, .slice none 0 0, Val.u 0, Val.u 0, Val.u 0, Val.u 0] 6 (.own d 0 111))
  have gc := k2 _ _ g1
  have gob := k2 _ _ (k1 _ _ hob)
  have ncd := ne_of_new g1 hdd
  have hdn := k1.none hdd
  have nod := ne_of_new hob hdn
  have noc := ne_of_new hob hcc
  simp [go_sem]
  generalize upd st1 d (.cells true [.slice none 0 0, .slice none 0 0, Val.u 0, Val.u 0, Val.u 0, Val.u 0] 6 (.own d 0 111)) = s2 at *
  have K2 := k1.trans k2
  refine ⟨fun E st' => New st st' ∧ st' c = some (.cells true [.slice none 0 0, .slice none 0 0, Val.u 0, Val.u 0, Val.u 0, Val.u 0] 6 (.own c 0 112)) ∧ E 0 = .slice (some ⟨ob, 0, none⟩) 1 1 ∧ E 2 = ptr c ∧ E 3 = ptr d ∧ ((E 4 = Val.i 0 ∧ st' d = some (.cells true [.slice none 0 0, .slice none 0 0, Val.u 0, Val.u 0, Val.u 0, Val.u 0] 6 (.own d 0 111))) ∨ (E 4 = Val.i 1 ∧ ∃ hv kv, st' d = some (.cells true [hv, kv, Val.u 1, Val.u 0, Val.u 0, Val.u 0] 6 (.own d 0 111)) ∧ RegF st' 2 hv (bkV [((bkN a : Nat), 1)]) 1 ∧ RegF st' 1 kv (cellsU [hashX]) 1)), fun E _ => match E 4 with | .int _ w => (1 - w).toNat | _ => 0, ⟨s2, .rfl' _, K2, gc, by simp [go_sem], by simp [go_sem], by simp [go_sem], .inl ⟨by simp [go_sem], g2⟩⟩, ?_⟩
  rintro E st' ⟨K, gc', e0, e2, e3, ⟨e4, gd⟩ | ⟨e4, hv, kv, gd, hh, hk⟩⟩
  · have gob' := K _ _ hob
    simp [go_sem, e0, e4]
    generalize hE0 : (Env.set _ _ _ : Env) = E0
    have f0 : E0 0 = .slice (some ⟨ob, 0, none⟩) 1 1 := by subst hE0; simp [go_sem, e0]
    have f2 : E0 2 = ptr c := by subst hE0; simp [go_sem, e2]
    have f3 : E0 3 = ptr d := by subst hE0; simp [go_sem, e3]
    have f4 : E0 4 = Val.i 0 := by subst hE0; simp [go_sem, e4]
    clear hE0
    refine drawT 9 [0, 1, 2, 3, 4, 5, 6, 7, 8, 9, 10] (fun ix vx st' => match ix with
      | 0 => vx = .pointer (some ⟨d, 0, none⟩)
      | 1 => vx = .slice none 0 0
      | 2 => vx = .slice (some ⟨ob, 0, none⟩) 1 1
      | 3 => vx = Val.i 0
      | 4 | 5 => vx = .pointer (some ⟨ob, 0, none⟩)
      | 6 => vx = Val.u a
      | 7 => vx = Val.i (bkN a : Nat)
      | 8 => Vec st' (.ty 1) 2 vx (bkV [((bkN a : Nat), 1)]) 1
      | _ => True) (by kernel_rfl) (by kernel_rfl) (by kernel_rfl) (by decide) ?_ ?_ ?_ ?_
    · intro ix vx sta stb hNw h
      match ix with
      | 8 => exact Vec.new' h hNw
      | 0 => exact h
      | 1 => exact h
      | 2 => exact h
      | 3 => exact h
      | 4 => exact h
      | 5 => exact h
      | 6 => exact h
      | 7 => exact h
      | ix + 9 => exact h
    · intro ix oo hin hi E sta hNw hd hE
      match ix with
      | 0 =>
        have x3 := hE 3 (oldT_spec (by kernel_rfl))
        injection hi with hi; subst hi
        simp [wantedE, go_sem, x3, f3]
        exact New.refl _
      | 1 =>
        injection hi with hi; subst hi
        have d0 := hd { on := 0, ground := .data } (by simp) (by decide) _ _ rfl rfl
        simp only at d0
        have gt := hNw _ _ gd
        simp [wantedE, go_sem, d0, gt]
        exact New.refl _
      | 2 =>
        have x0 := hE 0 (oldT_spec (by kernel_rfl))
        injection hi with hi; subst hi
        simp [wantedE, go_sem, x0, f0]
        exact New.refl _
      | 3 =>
        have x4 := hE 4 (oldT_spec (by kernel_rfl))
        injection hi with hi; subst hi
        simp [wantedE, go_sem, x4, f4]
        exact New.refl _
      | 4 =>
        injection hi with hi; subst hi
        have d2 := hd { on := 2, ground := .data } (by simp) (by decide) _ _ rfl rfl
        have d3 := hd { on := 3, ground := .data } (by simp) (by decide) _ _ rfl rfl
        simp only at d2 d3
        simp [wantedE, go_sem, d2, d3]
        exact New.refl _
      | 5 =>
        injection hi with hi; subst hi
        have d4 := hd { on := 4, ground := .data } (by simp) (by decide) _ _ rfl rfl
        simp only at d4
        simp [wantedE, go_sem, d4]
        exact New.refl _
      | 6 =>
        injection hi with hi; subst hi
        have d5 := hd { on := 5, ground := .data } (by simp) (by decide) _ _ rfl rfl
        simp only at d5
        have gt := hNw _ _ gob'
        simp [wantedE, go_sem, d5, gt]
        exact New.refl _
      | 7 =>
        injection hi with hi; subst hi
        have d6 := hd { on := 6, ground := .data } (by simp) (by decide) _ _ rfl rfl
        simp only at d6
        simp [wantedE, go_sem, d6]
        refine ICalls.mono (bucket07_spec (by omega)) ?_
        rintro e stx ⟨rfl, rfl⟩
        simp [go_sem]
        exact New.refl _
      | 8 =>
        injection hi with hi; subst hi
        have d1 := hd { on := 1, ground := .data } (by simp) (by decide) _ _ rfl rfl
        have d7 := hd { on := 7, ground := .data } (by simp) (by decide) _ _ rfl rfl
        simp only at d1 d7
        simp [wantedE, go_sem, d1, d7]
        refine ICalls.mono add07_nil ?_
        rintro e stx ⟨v, rfl, h1, h2⟩
        simp [go_sem]
        exact ⟨h2, h1⟩
      | ix + 9 => omega
    · intro E sta hNw hd hE
      have x19 := hd 8 _ 19 (by omega) rfl rfl
      have x3 := (hE 3 (noT_spec (by kernel_rfl))).trans f3
      have y0 := (hE 0 (noT_spec (by kernel_rfl))).trans f0
      have y2 := (hE 2 (noT_spec (by kernel_rfl))).trans f2
      have y4 := (hE 4 (noT_spec (by kernel_rfl))).trans f4
      have gd' := hNw _ _ gd
      have gc5 := hNw _ _ gc'
      have gob5 := hNw _ _ gob'
      have K5 := K.trans hNw
      simp only at x19
      obtain ⟨hb, hc, q19⟩ := x19.slice
      rw [q19] at x19
      simp [go_sem, x3, q19, gd']
      have hpf := pfree (o := .cells true [.slice hb 1 hc, .slice none 0 0, Val.u 0, Val.u 0, Val.u 0, Val.u 0] 6 (.own d 0 111)) gd'
      have hH := (x19.reg.toF Free.ty).free hpf
      have gd6 := upd_same sta d (.cells true [.slice hb 1 hc, .slice none 0 0, Val.u 0, Val.u 0, Val.u 0, Val.u 0] 6 (.own d 0 111))
      have gc6 : upd sta d (.cells true [.slice hb 1 hc, .slice none 0 0, Val.u 0, Val.u 0, Val.u 0, Val.u 0] 6 (.own d 0 111)) c = _ := (upd_ne _ _ ncd).trans gc5
      have gob6 : upd sta d (.cells true [.slice hb 1 hc, .slice none 0 0, Val.u 0, Val.u 0, Val.u 0, Val.u 0] 6 (.own d 0 111)) ob = _ := (upd_ne _ _ nod).trans gob5
      have K6 := K5.put (o := .cells true [.slice hb 1 hc, .slice none 0 0, Val.u 0, Val.u 0, Val.u 0, Val.u 0] 6 (.own d 0 111)) hdn
      generalize upd sta d (.cells true [.slice hb 1 hc, .slice none 0 0, Val.u 0, Val.u 0, Val.u 0, Val.u 0] 6 (.own d 0 111)) = s6 at *
      generalize hE6 : (Env.set _ _ _ : Env) = E6
      have h0 : E6 0 = .slice (some ⟨ob, 0, none⟩) 1 1 := by subst hE6; simp [go_sem, y0]
      have h2 : E6 2 = ptr c := by subst hE6; simp [go_sem, y2]
      have h3 : E6 3 = ptr d := by subst hE6; simp [go_sem, x3]
      have h4 : E6 4 = Val.i 0 := by subst hE6; simp [go_sem, y4]
      clear hE6 hE hd f0 f2 f3 f4 y0 y2 y4 x3
      refine drawT 8 [0, 1, 2, 3, 4, 5, 6, 7, 8, 9] (fun ix vx st' => match ix with
        | 0 => vx = .pointer (some ⟨d, 1, none⟩)
        | 1 => vx = .slice none 0 0
        | 2 => vx = .slice (some ⟨ob, 0, none⟩) 1 1
        | 3 => vx = Val.i 0
        | 4 => vx = .pointer (some ⟨ob, 0, none⟩)
        | 5 => vx = .pointer (some ⟨ob, 1, none⟩)
        | 6 => vx = .string itemX
        | 7 => Vec st' (.ty 1) 1 vx (cellsU [hashX]) 1
        | _ => True) (by kernel_rfl) (by kernel_rfl) (by kernel_rfl) (by decide) ?_ ?_ ?_ ?_
      · intro ix vx sta stb hNw h
        match ix with
        | 7 => exact Vec.new' h hNw
        | 0 => exact h
        | 1 => exact h
        | 2 => exact h
        | 3 => exact h
        | 4 => exact h
        | 5 => exact h
        | 6 => exact h
        | ix + 8 => exact h
      · intro ix oo hin hi E sta hNw hd hE
        match ix with
        | 0 =>
          have x3 := hE 3 (oldT_spec (by kernel_rfl))
          injection hi with hi; subst hi
          simp [wantedE, go_sem, x3, h3]
          exact New.refl _
        | 1 =>
          injection hi with hi; subst hi
          have d0 := hd { on := 0, ground := .data } (by simp) (by decide) _ _ rfl rfl
          simp only at d0
          have gt := hNw _ _ gd6
          simp [wantedE, go_sem, d0, gt]
          exact New.refl _
        | 2 =>
          have x0 := hE 0 (oldT_spec (by kernel_rfl))
          injection hi with hi; subst hi
          simp [wantedE, go_sem, x0, h0]
          exact New.refl _
        | 3 =>
          have x4 := hE 4 (oldT_spec (by kernel_rfl))
          injection hi with hi; subst hi
          simp [wantedE, go_sem, x4, h4]
          exact New.refl _
        | 4 =>
          injection hi with hi; subst hi
          have d2 := hd { on := 2, ground := .data } (by simp) (by decide) _ _ rfl rfl
          have d3 := hd { on := 3, ground := .data } (by simp) (by decide) _ _ rfl rfl
          simp only at d2 d3
          simp [wantedE, go_sem, d2, d3]
          exact New.refl _
        | 5 =>
          injection hi with hi; subst hi
          have d4 := hd { on := 4, ground := .data } (by simp) (by decide) _ _ rfl rfl
          simp only at d4
          simp [wantedE, go_sem, d4]
          exact New.refl _
        | 6 =>
          injection hi with hi; subst hi
          have d5 := hd { on := 5, ground := .data } (by simp) (by decide) _ _ rfl rfl
          simp only at d5
          have gt := hNw _ _ gob6
          simp [wantedE, go_sem, d5, gt]
          exact New.refl _
        | 7 =>
          injection hi with hi; subst hi
          have d1 := hd { on := 1, ground := .data } (by simp) (by decide) _ _ rfl rfl
          have d6 := hd { on := 6, ground := .data } (by simp) (by decide) _ _ rfl rfl
          simp only at d1 d6
          simp [wantedE, go_sem, d1, d6]
          refine ICalls.mono add08_nil ?_
          rintro e stx ⟨v, rfl, h1, h2⟩
          simp [go_sem]
          exact ⟨h2, h1⟩
        | ix + 8 => omega
      · intro E sta hNw hd hE
        have x28 := hd 7 _ 28 (by omega) rfl rfl
        have x3 := (hE 3 (noT_spec (by kernel_rfl))).trans h3
        have y0 := (hE 0 (noT_spec (by kernel_rfl))).trans h0
        have y2 := (hE 2 (noT_spec (by kernel_rfl))).trans h2
        have y4 := (hE 4 (noT_spec (by kernel_rfl))).trans h4
        have gd7 := hNw _ _ gd6
        have gc7 := hNw _ _ gc6
        have gob7 := hNw _ _ gob6
        have K7 := K6.trans hNw
        have hH7 := hH.new hNw
        simp only at x28
        obtain ⟨kb, kc, q28⟩ := x28.slice
        rw [q28] at x28
        simp [go_sem, x3, q28, gd7]
        have hpf := pfree (o := .cells true [.slice hb 1 hc, .slice kb 1 kc, Val.u 0, Val.u 0, Val.u 0, Val.u 0] 6 (.own d 0 111)) gd7
        have hQ8 := (x28.reg.toF Free.ty).free hpf
        have hH8 := hH7.free hpf
        have gd8 := upd_same sta d (.cells true [.slice hb 1 hc, .slice kb 1 kc, Val.u 0, Val.u 0, Val.u 0, Val.u 0] 6 (.own d 0 111))
        have gc8 : upd sta d (.cells true [.slice hb 1 hc, .slice kb 1 kc, Val.u 0, Val.u 0, Val.u 0, Val.u 0] 6 (.own d 0 111)) c = _ := (upd_ne _ _ ncd).trans gc7
        have gob8 : upd sta d (.cells true [.slice hb 1 hc, .slice kb 1 kc, Val.u 0, Val.u 0, Val.u 0, Val.u 0] 6 (.own d 0 111)) ob = _ := (upd_ne _ _ nod).trans gob7
        have K8 := K7.put (o := .cells true [.slice hb 1 hc, .slice kb 1 kc, Val.u 0, Val.u 0, Val.u 0, Val.u 0] 6 (.own d 0 111)) hdn
        generalize upd sta d (.cells true [.slice hb 1 hc, .slice kb 1 kc, Val.u 0, Val.u 0, Val.u 0, Val.u 0] 6 (.own d 0 111)) = s8 at *
        generalize hE8 : (Env.set _ _ _ : Env) = E8
        have i0 : E8 0 = .slice (some ⟨ob, 0, none⟩) 1 1 := by subst hE8; simp [go_sem, y0]
        have i2 : E8 2 = ptr c := by subst hE8; simp [go_sem, y2]
        have i3 : E8 3 = ptr d := by subst hE8; simp [go_sem, x3]
        have i4 : E8 4 = Val.i 0 := by subst hE8; simp [go_sem, y4]
        clear hE8 hE hd h0 h2 h3 h4 y0 y2 y4 x3
        refine drawT 8 [0, 1, 2, 3, 4, 5, 6, 7, 8, 9] (fun ix vx st' => match ix with
          | 0 => vx = .pointer (some ⟨d, 2, none⟩)
          | 1 => vx = .agg #[Val.u 0, Val.u 0, Val.u 0, Val.u 0]
          | 2 => vx = .slice (some ⟨ob, 0, none⟩) 1 1
          | 3 => vx = Val.i 0
          | 4 => vx = .pointer (some ⟨ob, 0, none⟩)
          | 5 => vx = .pointer (some ⟨ob, 2, none⟩)
          | 6 => vx = Val.u 0
          | 7 => vx = .agg #[Val.u 1, Val.u 0, Val.u 0, Val.u 0]
          | _ => True) (by kernel_rfl) (by kernel_rfl) (by kernel_rfl) (by decide) ?_ ?_ ?_ ?_
        · intro ix vx sta stb hNw h
          match ix with
          | 0 => exact h
          | 1 => exact h
          | 2 => exact h
          | 3 => exact h
          | 4 => exact h
          | 5 => exact h
          | 6 => exact h
          | 7 => exact h
          | ix + 8 => exact h
        · intro ix oo hin hi E sta hNw hd hE
          match ix with
          | 0 =>
            have x3 := hE 3 (oldT_spec (by kernel_rfl))
            injection hi with hi; subst hi
            simp [wantedE, go_sem, x3, i3]
            exact New.refl _
          | 1 =>
            injection hi with hi; subst hi
            have d0 := hd { on := 0, ground := .data } (by simp) (by decide) _ _ rfl rfl
            simp only at d0
            have gt := hNw _ _ gd8
            simp [wantedE, go_sem, d0, gt]
            exact New.refl _
          | 2 =>
            have x0 := hE 0 (oldT_spec (by kernel_rfl))
            injection hi with hi; subst hi
            simp [wantedE, go_sem, x0, i0]
            exact New.refl _
          | 3 =>
            have x4 := hE 4 (oldT_spec (by kernel_rfl))
            injection hi with hi; subst hi
            simp [wantedE, go_sem, x4, i4]
            exact New.refl _
          | 4 =>
            injection hi with hi; subst hi
            have d2 := hd { on := 2, ground := .data } (by simp) (by decide) _ _ rfl rfl
            have d3 := hd { on := 3, ground := .data } (by simp) (by decide) _ _ rfl rfl
            simp only at d2 d3
            simp [wantedE, go_sem, d2, d3]
            exact New.refl _
          | 5 =>
            injection hi with hi; subst hi
            have d4 := hd { on := 4, ground := .data } (by simp) (by decide) _ _ rfl rfl
            simp only at d4
            simp [wantedE, go_sem, d4]
            exact New.refl _
          | 6 =>
            injection hi with hi; subst hi
            have d5 := hd { on := 5, ground := .data } (by simp) (by decide) _ _ rfl rfl
            simp only at d5
            have gt := hNw _ _ gob8
            simp [wantedE, go_sem, d5, gt]
            exact New.refl _
          | 7 =>
            injection hi with hi; subst hi
            have d1 := hd { on := 1, ground := .data } (by simp) (by decide) _ _ rfl rfl
            have d6 := hd { on := 6, ground := .data } (by simp) (by decide) _ _ rfl rfl
            simp only at d1 d6
            simp [wantedE, go_sem, d1, d6]
            refine ICalls.mono add09_zero ?_
            rintro e stx ⟨rfl, h2⟩
            simp [go_sem]
            exact h2
          | ix + 8 => omega
        · intro E sta hNw hd hE
          have x37 := hd 7 _ 37 (by omega) rfl rfl
          have x3 := (hE 3 (noT_spec (by kernel_rfl))).trans i3
          have y0 := (hE 0 (noT_spec (by kernel_rfl))).trans i0
          have y2 := (hE 2 (noT_spec (by kernel_rfl))).trans i2
          have y4 := (hE 4 (noT_spec (by kernel_rfl))).trans i4
          have gd9 := hNw _ _ gd8
          have gc9 := hNw _ _ gc8
          have K9 := K8.trans hNw
          have hH9 := hH8.new hNw
          have hQ9 := hQ8.new hNw
          simp only at x37
          have hw1 : IntKind.i64.wrap 1 = 1 := by decide
          simp [go_sem, x3, x37, gd9, y4, hw1]
          have hpf := pfree (o := .cells true [.slice hb 1 hc, .slice kb 1 kc, Val.u 1, Val.u 0, Val.u 0, Val.u 0] 6 (.own d 0 111)) gd9
          exact ⟨_, .rfl' _, ⟨K9.put hdn, (upd_ne _ _ ncd).trans gc9, y0, y2, _, _, upd_same _ _ _, hH9.free hpf, hQ9.free hpf⟩⟩
        · intro j oj hj
          match j with
          | 0 | 1 | 2 | 3 | 4 | 5 | 6 | 7 | 8 | 9 => simp at hj; subst hj; decide
          | j + 10 => simp at hj
      · intro j oj hj
        match j with
        | 0 | 1 | 2 | 3 | 4 | 5 | 6 | 7 | 8 | 9 => simp at hj; subst hj; decide
        | j + 10 => simp at hj
    · intro j oj hj
      match j with
      | 0 | 1 | 2 | 3 | 4 | 5 | 6 | 7 | 8 | 9 | 10 => simp at hj; subst hj; decide
      | j + 11 => simp at hj
  · obtain ⟨hb, hc, rfl⟩ := hh.slice
    obtain ⟨kb, kc, rfl⟩ := hk.slice
    simp [go_sem, e0, e2, e3, e4, gd, gc', ncd.symm]
    refine RetI_cell ?_
    simp [go_sem, e2]
    have hpf := pfree (o := .cells true [.slice hb 1 hc, .slice kb 1 kc, Val.u 1, Val.u 0, Val.u 0, Val.u 0] 6 (.own c 0 112)) gc'
    exact ⟨_, _, ⟨rfl, rfl⟩, hh.free hpf, hk.free hpf, K.put hcc⟩
theorem rec_spec {sq a : Int} : ICalls Tryz.prog W0 26 #[Val.i sq, Val.i a] st fun e st' => New st st' ∧ ∃ cs l, e = .returned (.agg cs.toArray) ∧ RcAt st' cs (lawR sq a l) ∧ GoodL l := by
  refine enter (args := [_, _]) Tryz.func26 rfl ?_
  simp [Tryz.f26, go_sem]
  obtain ⟨Z, hZ⟩ : ∃ Z, [Value.int IntKind.i64 0, Value.int IntKind.i64 0, Value.slice none 0 0, Value.int IntKind.i64 0, Value.slice none 0 0, Value.slice none 0 0, Value.int IntKind.u64 0, Value.int IntKind.u64 0, Value.int IntKind.u64 0, Value.int IntKind.u64 0, Value.int IntKind.i64 0, Value.int IntKind.i64 0, Value.string ⟨#[]⟩, Value.string ⟨#[]⟩, Value.slice none 0 0, Value.slice none 0 0, Value.int IntKind.i64 0, Value.int IntKind.i64 0] = Z := ⟨_, rfl⟩
  rw [hZ]
  have hZl : Z.length = 18 := by subst hZ; rfl
  unfold NewP
  intro c hcc
  refine ⟨.own c 0 112, ?_⟩
  have k1 := (New.refl st).add (b := c) (o := .cells true Z 18 (.own c 0 112)) hcc
  have g1 := upd_same st c (.cells true Z 18 (.own c 0 112))
  simp [go_sem, hZl]
  generalize upd st c (.cells true Z 18 (.own c 0 112)) = s1 at *
  refine Set_spec.mono ?_
  rintro e s2 ⟨w, l, rfl, hV, hF, hG, k2⟩
  simp [go_sem]
  refine (Place_exact (by omega) (by omega)).mono ?_
  rintro e s2 ⟨rfl, rfl⟩
  obtain ⟨m, hm, hm2⟩ : ∃ m : Nat, a % 1000 = (m : Int) ∧ m < 1000 := ⟨(a % 1000).toNat, by omega, by omega⟩
  have hsk : lawR sq a l = ⟨sq, 1, ⟨l, a, ⟨[((bkN m : Nat), 1)], [hashX], ⟨1, 0, 0, 0⟩⟩⟩, zeroT⟩ := by unfold lawR skX; rw [hm, Int.toNat_natCast]
  have hwu : IntKind.u64.wrap (m : Int) = (m : Int) := wraps_u64 _ (by omega) (by omega)
  simp [go_sem, hm, hwu]
  unfold NewS
  intro ob hob
  refine ⟨.ty 1, ?_⟩
  have k3 := (New.refl s2).add (b := ob) (o := .cells true [Val.u m, .string itemX, Val.u 0] 3 (.ty 1)) hob
  have g3 := upd_same s2 ob (.cells true [Val.u m, .string itemX, Val.u 0] 3 (.ty 1))
  have hV3 := hV.new' k3
  have gc3 := k3 _ _ (k2 _ _ g1)
  have hi : (⟨#[120]⟩ : ByteArray) = itemX := rfl
  simp [go_sem, hi]
  generalize upd s2 ob (.cells true [Val.u m, .string itemX, Val.u 0] 3 (.ty 1)) = s3 at *
  refine (of10_one hm2 g3).mono ?_
  rintro e s4 ⟨hv, kv, rfl, hH, hK, k4⟩
  have gc4 := k4 _ _ gc3
  have hV4 := hV3.new' k4
  obtain ⟨lb, lc, rfl⟩ := hV4.slice
  obtain ⟨hb, hc, rfl⟩ := hH.slice
  obtain ⟨kb, kc, rfl⟩ := hK.slice
  have K4 := ((k1.trans k2).trans k3).trans k4
  simp [go_sem, gc4, hZl]
  refine RetI_cell ?_
  simp [go_sem]
  have hpf : ∀ o, Keep Free s4 (upd s4 c o) := fun o => pfree gc4
  refine ⟨K4.put hcc, l, ?_, hG⟩
  rw [hsk]
  exact ⟨_, _, rfl, ⟨_, _, rfl, (hV4.reg.toF Free.ty).free (hpf _), _, _, rfl, hH.free (hpf _), hK.free (hpf _)⟩, _, zeroMt_at _, rfl⟩
end
theorem skX_ok (a : Int) : SkOK (skX a) ∧ checkS (skX a) = true := by
  have hb : bkN (a % 1000).toNat < 7424 := by have := bkN_le (a % 1000).toNat; omega
  refine ⟨⟨by simp [skX], by simp [skX], by simp [skX]; decide, by simp [skX], ⟨by simp [skX], by simp [skX], by simp [skX], by simp [skX]⟩⟩, ?_⟩
  have h1 : checkK [hashX] = true := by decide
  have h2 : checkG ⟨1, 0, 0, 0⟩ = true := by decide
  simp [checkS, skX, h1, h2, checkB]
  omega
theorem lawR_fits {sq a : Int} {l : List Lab} (hs : I64 sq) (ha : I64 a) (hG : GoodL l) : RcFits (lawR sq a l) := by
  have z : I64 0 := ⟨by omega, by omega⟩
  exact ⟨hs, ⟨by simp [lawR], by simp [lawR]⟩, ⟨(skX_ok a).1, ha, by have := hG.len; simp only [lawR]; omega, hG.sizes⟩, z, z, z⟩
theorem lawR_rc {sq a : Int} {l : List Lab} (hG : GoodL l) : rcM (lawR sq a l) = true := by
  unfold rcM lawR
  simp [hG.ck, (skX_ok a).2]
end Go.Proofs.YtadgciaclhjjkaaGreat
