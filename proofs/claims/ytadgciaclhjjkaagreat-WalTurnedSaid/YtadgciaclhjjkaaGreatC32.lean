/- A record as data, and its bytes: wal.PutRec walked. -/
import Derived.Test.YtadgciaclhjjkaaGreatC31
import Derived.Test.YtadgciaclhjjkaaGreatC20
import Derived.Test.YtadgciaclhjjkaaGreatC18
set_option linter.unusedVariables false
set_option linter.unusedSimpArgs false
set_option maxRecDepth 100000
set_option maxHeartbeats 2000000
namespace Go.Proofs.YtadgciaclhjjkaaGreat
open Go.RowKit (Below)
structure RcD where
  seq : Int
  kind : Int
  row : RowD
  tomb : TombD
def RcAt (st : Heap) (cs : List Value) (r : RcD) : Prop := ∃ rs ts, cs = Val.i r.seq :: Val.i r.kind :: (rs ++ ts) ∧ RowAt st rs r.row ∧ TombAt st ts r.tomb
def rowB (r : RowD) : Bs := labsB r.labels ++ (intB r.at_ ++ skB r.s)
def delB (t : TombD) : Bs := putM t.m ++ (intB t.fro ++ intB t.to)
def recB (r : RcD) : Bs := intB r.seq ++ (vputM r.kind.toNat ++ (if r.kind = 1 then rowB r.row else delB r.tomb))
def I64 (z : Int) : Prop := -2 ^ 63 ≤ z ∧ z < 2 ^ 63
/-- Its numbers are numbers. -/
structure RcFits (r : RcD) : Prop where
  seq : I64 r.seq
  kind : I64 r.kind
  row : RowOK r.row
  tseq : I64 r.tomb.seq
  fro : I64 r.tomb.fro
  to : I64 r.tomb.to
/-- It may be. -/
def rcM (r : RcD) : Bool := if r.kind = 1 then checkL r.row.labels && checkS r.row.s else if r.kind = 2 then checkM r.tomb.m else false
theorem RcAt.new {st st' : Heap} {cs : List Value} {r : RcD} (h : RcAt st cs r) (hk : New st st') : RcAt st' cs r := by
  obtain ⟨rs, ts, e, h1, ms, h2, h3⟩ := h
  exact ⟨rs, ts, e, h1.new hk, ms, h2.new hk, h3⟩
theorem sk_bound {s : SkD} (ok : SkOK s) (hc : checkS s = true) : (skB s).length ≤ 300000 := by
  unfold checkS at hc
  simp only [Bool.and_eq_true] at hc
  obtain ⟨ch, ck, cg⟩ := hc
  unfold checkK at ck
  simp only [Bool.and_eq_true, decide_eq_true_eq] at ck
  have hfb := form_bound ch ok.hist
  have hrb := (riseT_len s.hashes 0 ok.hashes).2
  have hrl := vputM_len s.hashes.length (by omega)
  have g1 := vputM_len s.g.nans ok.g.nans
  have g2 := vputM_len s.g.n ok.g.n
  unfold skB riseB gauB
  split <;> simp only [List.length_append, leB_len, List.length_nil] <;> omega
theorem labs_bound {l : List Lab} (h : checkL l = true) : (labsB l).length ≤ 1000 := by
  obtain ⟨h0, h1, h2⟩ := checkL_all h
  have a := labs_len l h2
  have b := vputM_len l.length (by omega)
  unfold labsB
  rw [List.length_append]
  omega
theorem RowAt.eight {st : Heap} {cs : List Value} {r : RowD} (h : RowAt st cs r) : ∃ lb lc hb hc kb kc, cs = [.slice lb r.labels.length lc, Val.i r.at_, .slice hb r.s.hist.length hc, .slice kb r.s.hashes.length kc, Val.u r.s.g.n, Val.u r.s.g.nans, Val.u r.s.g.lo, Val.u r.s.g.hi] ∧ RegF st 2 (.slice lb r.labels.length lc) (labV r.labels) r.labels.length ∧ SkAt st [.slice hb r.s.hist.length hc, .slice kb r.s.hashes.length kc, Val.u r.s.g.n, Val.u r.s.g.nans, Val.u r.s.g.lo, Val.u r.s.g.hi] r.s := by
  obtain ⟨lv, ss, rfl, h1, hv, kv, rfl, h2, h3⟩ := h
  obtain ⟨lb, lc, rfl⟩ := h1.slice
  obtain ⟨hb, hc, rfl⟩ := h2.slice
  obtain ⟨kb, kc, rfl⟩ := h3.slice
  exact ⟨lb, lc, hb, hc, kb, kc, rfl, h1, _, _, rfl, h2, h3⟩
theorem rfive {l : List Value} (h : l.length = 5) : ∃ a b c d e, l = [a, b, c, d, e] := by
  match l, h with
  | [a, b, c, d, e], _ => exact ⟨a, b, c, d, e, rfl⟩
theorem TombAt.eight {st : Heap} {cs : List Value} {t : TombD} (h : TombAt st cs t) : ∃ a0 a1 a2 a3 a4, cs = [Val.i t.seq, a0, a1, a2, a3, a4, Val.i t.fro, Val.i t.to] ∧ MatAt st [a0, a1, a2, a3, a4] t.m := by
  obtain ⟨ms, h1, rfl⟩ := h
  obtain ⟨a0, a1, a2, a3, a4, rfl⟩ := rfive h1.length
  exact ⟨a0, a1, a2, a3, a4, rfl, h1⟩
section
variable {W0 : World} {st : Heap}
theorem putRec_spec {bv : Value} {cs : List Value} {b : Bs} {r : RcD} {g0 : Tg} (h : Reg st g0 1 bv (bytesV b) b.length) (hR : RcAt st cs r) (hf : RcFits r) (hm : rcM r = true) (hl : b.length < 2 ^ 30) :
    ICalls Tryz.prog W0 12 #[bv, .agg cs.toArray] st (MatPutR st (.ty 1) (b ++ recB r)) := by
  obtain ⟨f1, f2, f3, f4, f5, f6⟩ := hf
  obtain ⟨seq, kind, row, tomb⟩ := r
  simp only at f1 f2 f3 f4 f5 f6
  obtain ⟨rs, ts, rfl, hrow, htomb⟩ := hR
  obtain ⟨lb, lc, hb, hc, kb, kc, rfl, hlab, hsk⟩ := hrow.eight
  obtain ⟨a0, a1, a2, a3, a4, rfl, hmat⟩ := htomb.eight
  obtain ⟨bb, bc, rfl⟩ := h.slice
  simp only at hlab hsk hmat
  unfold rcM at hm
  simp only at hm
  have hkd : kind = 1 ∨ kind = 2 := by
    by_cases k1 : kind = 1
    · exact .inl k1
    · rw [if_neg k1] at hm
      by_cases k2 : kind = 2
      · exact .inr k2
      · rw [if_neg k2] at hm; cases hm
  obtain ⟨kn, rfl⟩ : ∃ kn : Nat, kind = kn := ⟨kind.toNat, by omega⟩
  have hkn : kn < 2 ^ 64 := by omega
  have hu : IntKind.u64.wrap (kn : Int) = (kn : Int) := wraps_u64 _ (by omega) (by omega)
  obtain ⟨c3, hc3⟩ : ∃ c, b ++ intB seq = c := ⟨_, rfl⟩
  obtain ⟨c7, hc7⟩ : ∃ c, c3 ++ vputM kn = c := ⟨_, rfl⟩
  have z1 := vputM_len (zz seq) (zz_lt f1.1 f1.2)
  have z2 := vputM_len kn hkn
  have l3 : c3.length = b.length + (vputM (zz seq)).length := by rw [← hc3, List.length_append]; rfl
  have l7 : c7.length = c3.length + (vputM kn).length := by rw [← hc7, List.length_append]
  have hT0 : b ++ recB ⟨seq, kn, row, tomb⟩ = c7 ++ (if (kn : Int) = 1 then rowB row else delB tomb) := by rw [← hc7, ← hc3]; simp [recB]
  rw [hT0]
  refine enter (args := [_, _]) Tryz.func12 rfl ?_
  refine IW_assoc ?_
  refine IW_cut (fun E' s => ∃ tb, New st s ∧ E' 3 = ptr tb ∧ s tb = some (.cells true [Val.i seq, Val.i kn, .slice lb row.labels.length lc, Val.i row.at_, .slice hb row.s.hist.length hc, .slice kb row.s.hashes.length kc, Val.u row.s.g.n, Val.u row.s.g.nans, Val.u row.s.g.lo, Val.u row.s.g.hi, Val.i tomb.seq, a0, a1, a2, a3, a4, Val.i tomb.fro, Val.i tomb.to] 18 (.ty 0)) ∧ Vec s (.ty 1) 1 (E' 0) (bytesV c7) c7.length) ?_ ?_
  · simp [go_sem]
    unfold NewP
    intro tb htb
    refine ⟨.ty 0, ?_⟩
    have hc1 := upd_same st tb (.cells true [Val.i seq, Val.i kn, .slice lb row.labels.length lc, Val.i row.at_, .slice hb row.s.hist.length hc, .slice kb row.s.hashes.length kc, Val.u row.s.g.n, Val.u row.s.g.nans, Val.u row.s.g.lo, Val.u row.s.g.hi, Val.i tomb.seq, a0, a1, a2, a3, a4, Val.i tomb.fro, Val.i tomb.to] 18 (.ty 0))
    have k1 := (New.refl st).add (b := tb) (o := .cells true [Val.i seq, Val.i kn, .slice lb row.labels.length lc, Val.i row.at_, .slice hb row.s.hist.length hc, .slice kb row.s.hashes.length kc, Val.u row.s.g.n, Val.u row.s.g.nans, Val.u row.s.g.lo, Val.u row.s.g.hi, Val.i tomb.seq, a0, a1, a2, a3, a4, Val.i tomb.fro, Val.i tomb.to] 18 (.ty 0)) htb
    simp [go_sem]
    generalize upd st tb (.cells true [Val.i seq, Val.i kn, .slice lb row.labels.length lc, Val.i row.at_, .slice hb row.s.hist.length hc, .slice kb row.s.hashes.length kc, Val.u row.s.g.n, Val.u row.s.g.nans, Val.u row.s.g.lo, Val.u row.s.g.hi, Val.i tomb.seq, a0, a1, a2, a3, a4, Val.i tomb.fro, Val.i tomb.to] 18 (.ty 0)) = s1 at *
    generalize hE0 : (Env.set _ _ _ : Env) = E0
    have f0 : E0 0 = .slice bb b.length bc := by subst hE0; simp [go_sem]
    have f3' : E0 3 = ptr tb := by subst hE0; simp [go_sem]
    clear hE0
    refine drawV [0, 1, 2, 3, 4, 5, 6, 7, 8] (fun ix vx st' => match ix with
      | 0 => vx = .slice bb b.length bc
      | 1 => vx = .pointer (some ⟨tb, 0, none⟩)
      | 2 => vx = Val.i seq
      | 3 => Vec st' (.ty 1) 1 vx (bytesV c3) c3.length
      | 4 => vx = .pointer (some ⟨tb, 1, none⟩)
      | 5 => vx = Val.i kn
      | 6 => vx = Val.u kn
      | 7 | 8 => Vec st' (.ty 1) 1 vx (bytesV c7) c7.length
      | _ => True) (by kernel_rfl) (by kernel_rfl) ?_ ?_ ?_ ?_
    · intro ix vx sta stb hNw h
      match ix with
      | 3 => exact Vec.new' h hNw
      | 7 => exact Vec.new' h hNw
      | 8 => exact Vec.new' h hNw
      | 0 => exact h
      | 1 => exact h
      | 2 => exact h
      | 4 => exact h
      | 5 => exact h
      | 6 => exact h
      | ix + 9 => exact h
    · intro ix oo hi E sta hNw hd hE
      match ix with
      | 0 =>
        have x0 := hE 0 (oldB_spec (by kernel_rfl))
        injection hi with hi; subst hi
        simp [wantedE, go_sem, x0, f0, hu]
        exact New.refl _
      | 1 =>
        have x3 := hE 3 (oldB_spec (by kernel_rfl))
        injection hi with hi; subst hi
        simp [wantedE, go_sem, x3, f3', hu]
        exact New.refl _
      | 2 =>
        injection hi with hi; subst hi
        have d1 := hd { on := 1, ground := .data } (by simp) (by decide) _ _ rfl rfl
        simp only at d1
        have gt := hNw _ _ hc1
        simp [wantedE, go_sem, d1, gt, hu]
        exact New.refl _
      | 3 =>
        injection hi with hi; subst hi
        have d0 := hd { on := 0, ground := .data } (by simp) (by decide) _ _ rfl rfl
        have d2 := hd { on := 2, ground := .data } (by simp) (by decide) _ _ rfl rfl
        simp only at d0 d2
        simp [wantedE, go_sem, d0, d2, hu]
        refine (vPutInt_spec (.ty 1) ((h.new k1).new hNw) f1.1 f1.2 (by omega)).mono ?_
        rintro e stx ⟨w, rfl, hw1, hw2, kx⟩
        simp [go_sem]
        exact ⟨kx, by rw [← hc3]; exact hw1⟩
      | 4 =>
        have x3 := hE 3 (oldB_spec (by kernel_rfl))
        injection hi with hi; subst hi
        simp [wantedE, go_sem, x3, f3', hu]
        exact New.refl _
      | 5 =>
        injection hi with hi; subst hi
        have d4 := hd { on := 4, ground := .data } (by simp) (by decide) _ _ rfl rfl
        simp only at d4
        have gt := hNw _ _ hc1
        simp [wantedE, go_sem, d4, gt, hu]
        exact New.refl _
      | 6 =>
        injection hi with hi; subst hi
        have d5 := hd { on := 5, ground := .data } (by simp) (by decide) _ _ rfl rfl
        simp only at d5
        simp [wantedE, go_sem, d5, hu]
        exact New.refl _
      | 7 =>
        injection hi with hi; subst hi
        have d3 := hd { on := 3, ground := .data } (by simp) (by decide) _ _ rfl rfl
        have d6 := hd { on := 6, ground := .data } (by simp) (by decide) _ _ rfl rfl
        simp only at d3 d6
        simp [wantedE, go_sem, d3, d6, hu]
        refine (vPut_spec (.ty 1) d3.reg hkn (by omega)).mono ?_
        rintro e stx ⟨w, rfl, hw1, hw2, kx⟩
        simp [go_sem]
        exact ⟨kx, by rw [← hc7]; exact hw1⟩
      | 8 =>
        injection hi with hi; subst hi
        have d7 := hd { on := 7, ground := .data } (by simp) (by decide) _ _ rfl rfl
        simp only at d7
        simp [wantedE, go_sem, d7, hu]
        first | exact New.refl _ | exact ⟨New.refl _, d7⟩
      | ix + 9 => simp at hi
    · intro E sta hNw hd hE
      have x0 := hd 8 _ _ rfl rfl
      have x3 := (hE 3 (noB_spec (by kernel_rfl))).trans f3'
      exact ⟨rfl, k1.trans hNw, tb, x3, hNw _ _ hc1, x0⟩
    · intro j oj hj
      match j with
      | 0 | 1 | 2 | 3 | 4 | 5 | 6 | 7 | 8 => simp at hj; subst hj; decide
      | j + 9 => simp at hj
  rintro E s2 ⟨tb, k2, e3, gt2, hV⟩
  obtain ⟨vb, vc, hv0⟩ := hV.slice
  rw [hv0] at hV
  rcases hkd with hk1 | hk1
  · rw [if_pos hk1] at hm ⊢
    have hkk : kn = 1 := by omega
    subst hkk
    simp only [Bool.and_eq_true] at hm
    obtain ⟨cl, cs'⟩ := hm
    have hlb := labs_bound cl
    have hsb := sk_bound f3.s cs'
    have z3 := vputM_len (zz row.at_) (zz_lt f3.at_.1 f3.at_.2)
    obtain ⟨d4, hd4⟩ : ∃ c, c7 ++ labsB row.labels = c := ⟨_, rfl⟩
    obtain ⟨d8, hd8⟩ : ∃ c, d4 ++ intB row.at_ = c := ⟨_, rfl⟩
    obtain ⟨d12, hd12⟩ : ∃ c, d8 ++ skB row.s = c := ⟨_, rfl⟩
    have m4 : d4.length = c7.length + (labsB row.labels).length := by rw [← hd4, List.length_append]
    have m8 : d8.length = d4.length + (vputM (zz row.at_)).length := by rw [← hd8, List.length_append]; rfl
    have hT : c7 ++ rowB row = d12 := by rw [← hd12, ← hd8, ← hd4]; simp [rowB]
    rw [hT]
    simp [go_sem, e3, gt2]
    generalize hE0 : (Env.set _ _ _ : Env) = E0
    have f0 : E0 0 = .slice vb c7.length vc := by subst hE0; simp [go_sem, hv0]
    have f3' : E0 3 = ptr tb := by subst hE0; simp [go_sem, e3]
    clear hE0
    refine drawV [0, 1, 2, 3, 4, 5, 6, 7, 8, 9, 10, 11, 12, 13] (fun ix vx st' => match ix with
      | 0 => vx = .slice vb c7.length vc
      | 1 | 2 | 5 | 9 => vx = .pointer (some ⟨tb, 2, none⟩)
      | 3 => vx = .slice lb row.labels.length lc
      | 4 => Vec st' (.ty 1) 1 vx (bytesV d4) d4.length
      | 6 => vx = .pointer (some ⟨tb, 3, none⟩)
      | 7 => vx = Val.i row.at_
      | 8 => Vec st' (.ty 1) 1 vx (bytesV d8) d8.length
      | 10 => vx = .pointer (some ⟨tb, 4, none⟩)
      | 11 => vx = .agg #[.slice hb row.s.hist.length hc, .slice kb row.s.hashes.length kc, Val.u row.s.g.n, Val.u row.s.g.nans, Val.u row.s.g.lo, Val.u row.s.g.hi]
      | 12 | 13 => Vec st' (.ty 1) 1 vx (bytesV d12) d12.length ∧ Fresh s2 vx
      | _ => True) (by kernel_rfl) (by kernel_rfl) ?_ ?_ ?_ ?_
    · intro ix vx sta stb hNw h
      match ix with
      | 4 => exact Vec.new' h hNw
      | 8 => exact Vec.new' h hNw
      | 12 => exact ⟨h.1.new' hNw, h.2⟩
      | 13 => exact ⟨h.1.new' hNw, h.2⟩
      | 0 => exact h
      | 1 => exact h
      | 2 => exact h
      | 3 => exact h
      | 5 => exact h
      | 6 => exact h
      | 7 => exact h
      | 9 => exact h
      | 10 => exact h
      | 11 => exact h
      | ix + 14 => exact h
    · intro ix oo hi E sta hNw hd hE
      match ix with
      | 0 =>
        have x0 := hE 0 (oldB_spec (by kernel_rfl))
        injection hi with hi; subst hi
        simp [wantedE, go_sem, x0, f0]
        exact New.refl _
      | 1 =>
        have x3 := hE 3 (oldB_spec (by kernel_rfl))
        injection hi with hi; subst hi
        simp [wantedE, go_sem, x3, f3']
        exact New.refl _
      | 2 =>
        injection hi with hi; subst hi
        have d1 := hd { on := 1, ground := .data } (by simp) (by decide) _ _ rfl rfl
        simp only at d1
        simp [wantedE, go_sem, d1]
        exact New.refl _
      | 3 =>
        injection hi with hi; subst hi
        have d2 := hd { on := 2, ground := .data } (by simp) (by decide) _ _ rfl rfl
        simp only at d2
        have gt := hNw _ _ gt2
        simp [wantedE, go_sem, d2, gt]
        exact New.refl _
      | 4 =>
        injection hi with hi; subst hi
        have d0 := hd { on := 0, ground := .data } (by simp) (by decide) _ _ rfl rfl
        have d3 := hd { on := 3, ground := .data } (by simp) (by decide) _ _ rfl rfl
        simp only at d0 d3
        simp [wantedE, go_sem, d0, d3]
        refine (labelPut_spec (.ty 1) (hV.new' hNw).reg ((hlab.new k2).new hNw) (checkL_all cl).2.2 (by have := (checkL_all cl).2.1; omega) (by omega)).mono ?_
        rintro e stx ⟨w, rfl, hw1, hw2, kx⟩
        simp [go_sem]
        exact ⟨kx, by rw [← hd4]; exact hw1⟩
      | 5 =>
        have x3 := hE 3 (oldB_spec (by kernel_rfl))
        injection hi with hi; subst hi
        simp [wantedE, go_sem, x3, f3']
        exact New.refl _
      | 6 =>
        injection hi with hi; subst hi
        have d5 := hd { on := 5, ground := .data } (by simp) (by decide) _ _ rfl rfl
        simp only at d5
        simp [wantedE, go_sem, d5]
        exact New.refl _
      | 7 =>
        injection hi with hi; subst hi
        have d6 := hd { on := 6, ground := .data } (by simp) (by decide) _ _ rfl rfl
        simp only at d6
        have gt := hNw _ _ gt2
        simp [wantedE, go_sem, d6, gt]
        exact New.refl _
      | 8 =>
        injection hi with hi; subst hi
        have d4 := hd { on := 4, ground := .data } (by simp) (by decide) _ _ rfl rfl
        have d7 := hd { on := 7, ground := .data } (by simp) (by decide) _ _ rfl rfl
        simp only at d4 d7
        simp [wantedE, go_sem, d4, d7]
        refine (vPutInt_spec (.ty 1) d4.reg f3.at_.1 f3.at_.2 (by omega)).mono ?_
        rintro e stx ⟨w, rfl, hw1, hw2, kx⟩
        simp [go_sem]
        exact ⟨kx, by rw [← hd8]; exact hw1⟩
      | 9 =>
        have x3 := hE 3 (oldB_spec (by kernel_rfl))
        injection hi with hi; subst hi
        simp [wantedE, go_sem, x3, f3']
        exact New.refl _
      | 10 =>
        injection hi with hi; subst hi
        have d9 := hd { on := 9, ground := .data } (by simp) (by decide) _ _ rfl rfl
        simp only at d9
        simp [wantedE, go_sem, d9]
        exact New.refl _
      | 11 =>
        injection hi with hi; subst hi
        have d10 := hd { on := 10, ground := .data } (by simp) (by decide) _ _ rfl rfl
        simp only at d10
        have gt := hNw _ _ gt2
        simp [wantedE, go_sem, d10, gt]
        exact New.refl _
      | 12 =>
        injection hi with hi; subst hi
        have d8 := hd { on := 8, ground := .data } (by simp) (by decide) _ _ rfl rfl
        have d11 := hd { on := 11, ground := .data } (by simp) (by decide) _ _ rfl rfl
        simp only at d8 d11
        simp [wantedE, go_sem, d8, d11]
        refine (pairPut_spec (.ty 1) d8.reg ((hsk.new k2).new hNw) f3.s cs' (by omega)).mono ?_
        rintro e stx ⟨w, rfl, hw1, hw2, kx⟩
        simp [go_sem]
        exact ⟨kx, by rw [← hd12]; exact hw1, fun b off n c e => hNw.none (hw2 b off n c e)⟩
      | 13 =>
        injection hi with hi; subst hi
        have d12 := hd { on := 12, ground := .data } (by simp) (by decide) _ _ rfl rfl
        simp only at d12
        simp [wantedE, go_sem, d12]
        first | exact New.refl _ | exact ⟨New.refl _, d12⟩
      | ix + 14 => simp at hi
    · intro E sta hNw hd hE
      obtain ⟨x9, x9f⟩ := hd 13 _ _ rfl rfl
      simp [go_sem]
      exact ⟨_, rfl, x9, fun b off n c e => k2.none (x9f b off n c e), k2.trans hNw⟩
    · intro j oj hj
      match j with
      | 0 | 1 | 2 | 3 | 4 | 5 | 6 | 7 | 8 | 9 | 10 | 11 | 12 | 13 => simp at hj; subst hj; decide
      | j + 14 => simp at hj
  · have hkk : kn = 2 := by omega
    subst hkk
    rw [if_neg (by decide), if_pos hk1] at hm
    rw [if_neg (by decide)]
    have hbd := (holdsM_bound tomb.m 1 64 4096).2.2 hm
    have hsm := holdsM_small tomb.m 1 64 4096 (by omega) hm
    have hsm2 := hsm.2
    have z3 := vputM_len (zz tomb.fro) (zz_lt f5.1 f5.2)
    obtain ⟨d4, hd4⟩ : ∃ c, c7 ++ putM tomb.m = c := ⟨_, rfl⟩
    obtain ⟨d8, hd8⟩ : ∃ c, d4 ++ intB tomb.fro = c := ⟨_, rfl⟩
    obtain ⟨d12, hd12⟩ : ∃ c, d8 ++ intB tomb.to = c := ⟨_, rfl⟩
    have m4 : d4.length = c7.length + (putM tomb.m).length := by rw [← hd4, List.length_append]
    have m8 : d8.length = d4.length + (vputM (zz tomb.fro)).length := by rw [← hd8, List.length_append]; rfl
    have hT : c7 ++ delB tomb = d12 := by rw [← hd12, ← hd8, ← hd4]; simp [delB]
    rw [hT]
    simp [go_sem, e3, gt2]
    generalize hE0 : (Env.set _ _ _ : Env) = E0
    have f0 : E0 0 = .slice vb c7.length vc := by subst hE0; simp [go_sem, hv0]
    have f3' : E0 3 = ptr tb := by subst hE0; simp [go_sem, e3]
    clear hE0
    refine drawV [0, 1, 2, 3, 4, 5, 6, 7, 8, 9, 10, 11, 12, 13] (fun ix vx st' => match ix with
      | 0 => vx = .slice vb c7.length vc
      | 1 | 5 | 9 => vx = .pointer (some ⟨tb, 10, none⟩)
      | 2 => vx = .pointer (some ⟨tb, 11, none⟩)
      | 3 => vx = .agg #[a0, a1, a2, a3, a4]
      | 4 => Vec st' (.ty 1) 1 vx (bytesV d4) d4.length
      | 6 => vx = .pointer (some ⟨tb, 16, none⟩)
      | 7 => vx = Val.i tomb.fro
      | 8 => Vec st' (.ty 1) 1 vx (bytesV d8) d8.length
      | 10 => vx = .pointer (some ⟨tb, 17, none⟩)
      | 11 => vx = Val.i tomb.to
      | 12 | 13 => Vec st' (.ty 1) 1 vx (bytesV d12) d12.length ∧ Fresh s2 vx
      | _ => True) (by kernel_rfl) (by kernel_rfl) ?_ ?_ ?_ ?_
    · intro ix vx sta stb hNw h
      match ix with
      | 4 => exact Vec.new' h hNw
      | 8 => exact Vec.new' h hNw
      | 12 => exact ⟨h.1.new' hNw, h.2⟩
      | 13 => exact ⟨h.1.new' hNw, h.2⟩
      | 0 => exact h
      | 1 => exact h
      | 2 => exact h
      | 3 => exact h
      | 5 => exact h
      | 6 => exact h
      | 7 => exact h
      | 9 => exact h
      | 10 => exact h
      | 11 => exact h
      | ix + 14 => exact h
    · intro ix oo hi E sta hNw hd hE
      match ix with
      | 0 =>
        have x0 := hE 0 (oldB_spec (by kernel_rfl))
        injection hi with hi; subst hi
        simp [wantedE, go_sem, x0, f0]
        exact New.refl _
      | 1 =>
        have x3 := hE 3 (oldB_spec (by kernel_rfl))
        injection hi with hi; subst hi
        simp [wantedE, go_sem, x3, f3']
        exact New.refl _
      | 2 =>
        injection hi with hi; subst hi
        have d1 := hd { on := 1, ground := .data } (by simp) (by decide) _ _ rfl rfl
        simp only at d1
        simp [wantedE, go_sem, d1]
        exact New.refl _
      | 3 =>
        injection hi with hi; subst hi
        have d2 := hd { on := 2, ground := .data } (by simp) (by decide) _ _ rfl rfl
        simp only at d2
        have gt := hNw _ _ gt2
        simp [wantedE, go_sem, d2, gt]
        exact New.refl _
      | 4 =>
        injection hi with hi; subst hi
        have d0 := hd { on := 0, ground := .data } (by simp) (by decide) _ _ rfl rfl
        have d3 := hd { on := 3, ground := .data } (by simp) (by decide) _ _ rfl rfl
        simp only at d0 d3
        simp [wantedE, go_sem, d0, d3]
        refine (matPut_spec tomb.m ((hmat.new k2).new hNw) (hV.new' hNw).reg (by omega)).mono ?_
        rintro e stx (⟨hno, -, -⟩ | ⟨-, w, rfl, hw1, hw2, kx⟩)
        · rw [hm] at hno; cases hno
        simp [go_sem]
        exact ⟨kx, by rw [← hd4]; exact hw1⟩
      | 5 =>
        have x3 := hE 3 (oldB_spec (by kernel_rfl))
        injection hi with hi; subst hi
        simp [wantedE, go_sem, x3, f3']
        exact New.refl _
      | 6 =>
        injection hi with hi; subst hi
        have d5 := hd { on := 5, ground := .data } (by simp) (by decide) _ _ rfl rfl
        simp only at d5
        simp [wantedE, go_sem, d5]
        exact New.refl _
      | 7 =>
        injection hi with hi; subst hi
        have d6 := hd { on := 6, ground := .data } (by simp) (by decide) _ _ rfl rfl
        simp only at d6
        have gt := hNw _ _ gt2
        simp [wantedE, go_sem, d6, gt]
        exact New.refl _
      | 8 =>
        injection hi with hi; subst hi
        have d4 := hd { on := 4, ground := .data } (by simp) (by decide) _ _ rfl rfl
        have d7 := hd { on := 7, ground := .data } (by simp) (by decide) _ _ rfl rfl
        simp only at d4 d7
        simp [wantedE, go_sem, d4, d7]
        refine (vPutInt_spec (.ty 1) d4.reg f5.1 f5.2 (by omega)).mono ?_
        rintro e stx ⟨w, rfl, hw1, hw2, kx⟩
        simp [go_sem]
        exact ⟨kx, by rw [← hd8]; exact hw1⟩
      | 9 =>
        have x3 := hE 3 (oldB_spec (by kernel_rfl))
        injection hi with hi; subst hi
        simp [wantedE, go_sem, x3, f3']
        exact New.refl _
      | 10 =>
        injection hi with hi; subst hi
        have d9 := hd { on := 9, ground := .data } (by simp) (by decide) _ _ rfl rfl
        simp only at d9
        simp [wantedE, go_sem, d9]
        exact New.refl _
      | 11 =>
        injection hi with hi; subst hi
        have d10 := hd { on := 10, ground := .data } (by simp) (by decide) _ _ rfl rfl
        simp only at d10
        have gt := hNw _ _ gt2
        simp [wantedE, go_sem, d10, gt]
        exact New.refl _
      | 12 =>
        injection hi with hi; subst hi
        have d8 := hd { on := 8, ground := .data } (by simp) (by decide) _ _ rfl rfl
        have d11 := hd { on := 11, ground := .data } (by simp) (by decide) _ _ rfl rfl
        simp only at d8 d11
        simp [wantedE, go_sem, d8, d11]
        refine (vPutInt_spec (.ty 1) d8.reg f6.1 f6.2 (by omega)).mono ?_
        rintro e stx ⟨w, rfl, hw1, hw2, kx⟩
        simp [go_sem]
        exact ⟨kx, by rw [← hd12]; exact hw1, fun b off n c e => hNw.none (hw2 b off n c e)⟩
      | 13 =>
        injection hi with hi; subst hi
        have d12 := hd { on := 12, ground := .data } (by simp) (by decide) _ _ rfl rfl
        simp only at d12
        simp [wantedE, go_sem, d12]
        first | exact New.refl _ | exact ⟨New.refl _, d12⟩
      | ix + 14 => simp at hi
    · intro E sta hNw hd hE
      obtain ⟨x9, x9f⟩ := hd 13 _ _ rfl rfl
      simp [go_sem]
      exact ⟨_, rfl, x9, fun b off n c e => k2.none (x9f b off n c e), k2.trans hNw⟩
    · intro j oj hj
      match j with
      | 0 | 1 | 2 | 3 | 4 | 5 | 6 | 7 | 8 | 9 | 10 | 11 | 12 | 13 => simp at hj; subst hj; decide
      | j + 14 => simp at hj
end
end Go.Proofs.YtadgciaclhjjkaaGreat
set_option linter.unusedVariables false
set_option linter.unusedSimpArgs false
set_option maxRecDepth 100000
set_option maxHeartbeats 2000000
namespace Go.Proofs.YtadgciaclhjjkaaGreat
open Go.RowKit (Below)
theorem txt32 (b : Bs) (a : Int) : txtM b a 32 = (vgetTextM b a 32).map fun p => (⟨p.1.toArray⟩, p.2) := rfl
theorem txt64 (b : Bs) (a : Int) : txtM b a 64 = (vgetTextM b a 64).map fun p => (⟨p.1.toArray⟩, p.2) := rfl
section
variable {W0 : World} {st : Heap}
theorem labelGet_spec {bv : Value} {b : Bs} {g0 : Tg} {at_ : Int} (hb : Reg st g0 1 bv (bytesV b) b.length) (hl : b.length < 2 ^ 60) :
    ICalls Tryz.prog W0 127 #[bv, Val.i at_] st fun e st' => New st st' ∧ match labGetM b at_ with
      | some (l, a) => ∃ v, e = .returned (.tuple #[v, Val.i a, .bool true]) ∧ Vec st' (.ty 1) 2 v (labV l) l.length ∧ Fresh st v
      | none => e = .returned (.tuple #[.slice none 0 0, Val.i 0, .bool false]) := by
  obtain ⟨bb, bc, rfl⟩ := hb.slice
  generalize hRES : labGetM b at_ = RES
  unfold labGetM at hRES
  refine enter (args := [_, _]) Tryz.func127 rfl ?_
  simp [Tryz.f127, go_sem]
  refine (vGet_spec hb hl).mono ?_
  rintro e st1 ⟨rfl, rfl⟩
  cases hv : vgetM b at_ with
  | none =>
    rw [hv] at hRES
    simp at hRES
    subst hRES
    simp [go_sem, vgetV]
    exact New.refl _
  | some p =>
  obtain ⟨n, a0⟩ := p
  rw [hv] at hRES
  simp only [Option.bind_some] at hRES
  by_cases hn : 8 < n
  · have hn' : ((8 : Int) < n) = True := eq_true (by omega)
    rw [if_pos hn] at hRES
    subst hRES
    simp [go_sem, vgetV, hn']
    exact New.refl _
  have hn' : ((8 : Int) < n) = False := eq_false (by omega)
  rw [if_neg hn] at hRES
  simp [go_sem, vgetV, hn']
  obtain ⟨R0, hR0⟩ : ∃ R, labM1 b n a0 = R := ⟨_, rfl⟩
  rw [hR0] at hRES
  refine ⟨fun E st' => New st1 st' ∧ E 0 = .slice bb b.length bc ∧ E 24 = Val.u n ∧ ∃ (i : Nat) (l : List Lab) (a : Int) (v : Value), E 25 = Val.u i ∧ i ≤ n ∧ l.length = i ∧ E 1 = Val.i a ∧ E 9 = v ∧ Vec st' (.ty 1) 2 v (labV l) l.length ∧ Fresh st1 v ∧ (labM1 b (n - i) a).map (fun r => (l ++ r.1, r.2)) = R0,
    fun E _ => match E 25 with | .int _ i => n - i.toNat | _ => 0, ⟨st1, .rfl' _, New.refl _, by simp [go_sem], by simp [go_sem], 0, [], a0, .slice none 0 0, by simp [go_sem], by omega, rfl, by simp [go_sem], by simp [go_sem], Vec.nil, Fresh.none, by rw [← hR0]; simp⟩, ?_⟩
  rintro E st2 ⟨k2, e0, e24, i, l, a, v, e25, hi, hll, e1, e9, hV, hF, hrec⟩
  obtain ⟨vb, vc, rfl⟩ := hV.slice
  by_cases hlt : i < n
  rotate_left
  · have hlt' : ((i : Int) < n) = False := eq_false (by omega)
    have : i = n := by omega
    subst this
    rw [Nat.sub_self, labM1] at hrec
    simp at hrec
    subst hrec
    simp at hRES
    simp [go_sem, e1, e9, e24, e25, hlt']
    refine (labelCheck_spec (hV.reg.toF Free.ty) (by omega)).mono ?_
    rintro e st3 ⟨rfl, k3⟩
    cases hck : checkL l with
    | true =>
      rw [if_pos hck] at hRES
      subst hRES
      simp [go_sem, e1, e9]
      exact ⟨k2.trans k3, hV.new' k3, hF⟩
    | false =>
      rw [if_neg (by rw [hck]; simp)] at hRES
      subst hRES
      simp [go_sem]
      exact k2.trans k3
  have hlt' : ((i : Int) < n) = True := eq_true (by omega)
  have hwi : IntKind.u64.wrap ((i : Int) + 1) = ((i + 1 : Nat) : Int) := by rw [IntKind.wrap_u64]; omega
  obtain ⟨q, hq⟩ : ∃ q, n - i = q + 1 := ⟨n - i - 1, by omega⟩
  rw [hq, labM1] at hrec
  simp [go_sem, e24, e25, hlt, hlt']
  unfold NewP
  intro tm htm
  refine ⟨.ty 0, ?_⟩
  have k3 := (New.refl st2).add (b := tm) (o := .cells true [.string ⟨#[]⟩, .string ⟨#[]⟩] 2 (.ty 0)) htm
  have hc3 := upd_same st2 tm (.cells true [.string ⟨#[]⟩, .string ⟨#[]⟩] 2 (.ty 0))
  simp [go_sem, e0, e1]
  generalize upd st2 tm (.cells true [.string ⟨#[]⟩, .string ⟨#[]⟩] 2 (.ty 0)) = s3 at *
  have K3 := k2.trans k3
  have hoff := k2.none htm
  refine (vGetText_spec (most := 32) (hb.new K3) hl (by omega)).mono ?_
  rintro e s4 ⟨rfl, rfl⟩
  simp only [txt32, txt64] at hrec
  cases h1 : vgetTextM b a 32 with
  | none =>
    rw [h1] at hrec
    simp at hrec
    rw [← hrec] at hRES
    simp at hRES
    subst hRES
    simp [go_sem, vgetTextV, hc3]
    exact K3.put hoff
  | some p =>
  obtain ⟨x, a2⟩ := p
  rw [h1] at hrec
  simp only [Option.map_some, Option.bind_some] at hrec
  have hc4 := upd_same s4 tm (.cells true [.string ⟨x.toArray⟩, .string ⟨#[]⟩] 2 (.ty 0))
  have K4 := K3.put (o := .cells true [.string ⟨x.toArray⟩, .string ⟨#[]⟩] 2 (.ty 0)) hoff
  have hb4 := hb.new K4
  simp [go_sem, vgetTextV, hc3, e0]
  have hV4 : Vec (upd s4 tm (.cells true [.string ⟨x.toArray⟩, .string ⟨#[]⟩] 2 (.ty 0))) (.ty 1) 2 (.slice vb l.length vc) (labV l) l.length := (hV.new' k3).keep (Keep.rfl'.old (p := (· = .ty 1)) hc3 (by simp [HObj.tag])) rfl
  generalize upd s4 tm (.cells true [.string ⟨x.toArray⟩, .string ⟨#[]⟩] 2 (.ty 0)) = s5 at *
  refine (vGetText_spec (most := 64) hb4 hl (by omega)).mono ?_
  rintro e s6 ⟨rfl, rfl⟩
  cases h2 : vgetTextM b a2 64 with
  | none =>
    rw [h2] at hrec
    simp at hrec
    rw [← hrec] at hRES
    simp at hRES
    subst hRES
    simp [go_sem, vgetTextV, hc4]
    exact K4.put hoff
  | some p =>
  obtain ⟨y, a3⟩ := p
  rw [h2] at hrec
  simp only [Option.map_some, Option.bind_some] at hrec
  have hc6 := upd_same s6 tm (.cells true [.string ⟨x.toArray⟩, .string ⟨y.toArray⟩] 2 (.ty 0))
  have K6 := K4.put (o := .cells true [.string ⟨x.toArray⟩, .string ⟨y.toArray⟩] 2 (.ty 0)) hoff
  have hV6 : Vec (upd s6 tm (.cells true [.string ⟨x.toArray⟩, .string ⟨y.toArray⟩] 2 (.ty 0))) (.ty 1) 2 (.slice vb l.length vc) (labV l) l.length := hV4.keep (Keep.rfl'.old (p := (· = .ty 1)) hc4 (by simp [HObj.tag])) rfl
  simp [go_sem, vgetTextV, hc4, e9]
  generalize upd s6 tm (.cells true [.string ⟨x.toArray⟩, .string ⟨y.toArray⟩] 2 (.ty 0)) = s7 at *
  unfold NewS
  intro nb hnb
  refine ⟨.ty 0, ?_⟩
  have k8 := (New.refl s7).add (b := nb) (o := .cells true [.string ⟨x.toArray⟩, .string ⟨y.toArray⟩] 2 (.ty 0)) hnb
  simp [go_sem]
  refine AppI_new (st0 := st1) (g := .ty 1) (m := 1) (ys := [.string ⟨x.toArray⟩, .string ⟨y.toArray⟩]) si22 (hV6.new' k8) hF (K6.trans k8) (by simp [srcCells, lkN_mk, upd_same, cellsOf]) (by simp [Value.oneCell']) (by omega) ?_
  intro nc ncc s9 hV9 hF9 k9 _
  simp [go_sem, e0, e24, e25, hwi]
  refine ⟨_, .rfl' _, ⟨k9, i + 1, by omega, by omega, l ++ [(⟨x.toArray⟩, ⟨y.toArray⟩)], by simp [hll], by simpa [labV] using hV9, by simpa using hF9, ?_⟩, by omega⟩
  rw [← hrec, show n - (i + 1) = q by omega]
  cases labM1 b q a3 <;> simp
theorem riseGet_spec {bv : Value} {b : Bs} {g0 : Tg} {at_ : Int} {most : Nat} (hb : Reg st g0 1 bv (bytesV b) b.length) (hl : b.length < 2 ^ 60) (hmo : most < 2 ^ 40) :
    ICalls Tryz.prog W0 226 #[bv, Val.i at_, Val.i most] st fun e st' => New st st' ∧ match riseGetM b at_ most with
      | some (l, a) => ∃ v, e = .returned (.tuple #[v, Val.i a, .bool true]) ∧ Vec st' (.ty 1) 1 v (cellsU l) l.length ∧ Fresh st v
      | none => e = .returned (.tuple #[.slice none 0 0, Val.i 0, .bool false]) := by
  obtain ⟨bb, bc, rfl⟩ := hb.slice
  generalize hRES : riseGetM b at_ most = RES
  unfold riseGetM at hRES
  refine enter (args := [_, _, _]) Tryz.func226 rfl ?_
  simp [Tryz.f226, go_sem]
  refine (vGet_spec hb hl).mono ?_
  rintro e st1 ⟨rfl, rfl⟩
  cases hv : vgetM b at_ with
  | none =>
    rw [hv] at hRES
    simp at hRES
    subst hRES
    simp [go_sem, vgetV]
    exact New.refl _
  | some p =>
  obtain ⟨n, a0⟩ := p
  have hbd := vgetM_bound hv
  simp only at hbd
  rw [hv] at hRES
  simp only [Option.bind_some] at hRES
  have hm0 : ((most : Int) < 0) = False := eq_false (by omega)
  have hwm : IntKind.u64.wrap (most : Int) = most := wraps_u64 _ (by omega) (by omega)
  have hws : IntKind.i64.wrap ((b.length : Int) - (a0 : Int)) = ((b.length - a0 : Nat) : Int) := by rw [wrap_id (by omega) (by omega)]; omega
  have hwu : IntKind.u64.wrap ((b.length - a0 : Nat) : Int) = ((b.length - a0 : Nat) : Int) := wraps_u64 _ (by omega) (by omega)
  obtain ⟨rm, hrm⟩ : ∃ m, b.length - a0 = m := ⟨_, rfl⟩
  rw [hrm] at hws hwu hRES
  by_cases hn : most < n
  · have hn' : ((most : Int) < n) = True := eq_true (by omega)
    rw [if_pos (.inl hn)] at hRES
    subst hRES
    simp [go_sem, vgetV, hm0, hwm, hn', hn]
    exact New.refl _
  have hn' : ((most : Int) < n) = False := eq_false (by omega)
  by_cases hn2 : rm < n
  · have hn2' : ((rm : Int) < n) = True := eq_true (by omega)
    rw [if_pos (.inr hn2)] at hRES
    subst hRES
    simp [go_sem, vgetV, hm0, hwm, hn', hn, hws, hwu, hn2', hn2]
    exact New.refl _
  have hn2' : ((rm : Int) < n) = False := eq_false (by omega)
  rw [if_neg (by omega)] at hRES
  have hwn : IntKind.i64.wrap (n : Int) = n := wrap_id (by omega) (by omega)
  simp [go_sem, vgetV, hm0, hwm, hn', hn, hws, hwu, hn2', hn2, hwn]
  refine ⟨by omega, ?_⟩
  unfold NewS
  intro nb hnb
  refine ⟨.ty 1, ?_⟩
  have hzl : (zerosL [Value.int IntKind.u64 0] n).length = n := by rw [zerosL_length]; simp
  rw [hzl]
  have hc2 := upd_same st1 nb (.cells true (zerosL [Value.int IntKind.u64 0] n) n (.ty 1))
  have k2 := (New.refl st1).add (b := nb) (o := .cells true (zerosL [Value.int IntKind.u64 0] n) n (.ty 1)) hnb
  simp [go_sem, hwn]
  generalize upd st1 nb (.cells true (zerosL [Value.int IntKind.u64 0] n) n (.ty 1)) = s2 at *
  obtain ⟨R0, hR0⟩ : ∃ R, riseM1 b none n a0 = R := ⟨_, rfl⟩
  rw [hR0] at hRES
  have hV0 : Vec (upd s2 nb (.cells true [] n (.ty 1))) (.ty 1) 1 (.slice (some ⟨nb, 0, none⟩) 0 n) (cellsU []) 0 := Vec.new rfl (Nat.zero_le _) (upd_same _ _ _) (by omega)
  refine ⟨fun E st' => New st1 st' ∧ E 0 = .slice bb b.length bc ∧ E 49 = Val.i n ∧ ∃ (i : Nat) (l : List Nat) (a : Int) (v : Value), E 50 = Val.i i ∧ i ≤ n ∧ l.length = i ∧ E 1 = Val.i a ∧ E 11 = v ∧ Vec st' (.ty 1) 1 v (cellsU l) l.length ∧ Fresh st1 v ∧ (∀ x ∈ l, x < 2 ^ 64) ∧ (riseM1 b l.getLast? (n - i) a).map (fun r => (l ++ r.1, r.2)) = R0,
    fun E _ => match E 50 with | .int _ i => n - i.toNat | _ => 0, ⟨upd s2 nb (.cells true [] n (.ty 1)), Heap.Le.cut hc2 (List.nil_prefix), k2.put hnb, by simp [go_sem], by simp [go_sem], 0, [], a0, _, by simp [go_sem], by omega, rfl, by simp [go_sem], by simp [go_sem], hV0, ?_, by simp, by rw [← hR0]; simp⟩, ?_⟩
  · intro b' off' n' c' e
    injection e with e1 e2 e3
    injection e1 with e1
    injection e1 with e1 _
    rw [← e1]
    exact hnb
  clear hV0 hc2
  rintro E st2 ⟨k3, e0, e49, i, l, a, v, e50, hi, hll, e1, e11, hV, hF, hx64, hrec⟩
  obtain ⟨vb, vc, rfl⟩ := hV.slice
  by_cases hlt : i < n
  rotate_left
  · have hlt' : ((i : Int) < n) = False := eq_false (by omega)
    have : i = n := by omega
    subst this
    have hrec' : R0 = some (l, a) := by
      rw [← hrec, Nat.sub_self]
      cases l.getLast? <;> simp [riseM1]
    subst hrec'
    subst hRES
    simp [go_sem, e1, e11, e49, e50, hlt']
    exact ⟨k3, hV, hF⟩
  have hlt' : ((i : Int) < n) = True := eq_true (by omega)
  have hwi : IntKind.i64.wrap ((i : Int) + 1) = ((i + 1 : Nat) : Int) := by rw [wrap_id (by omega) (by omega)]; omega
  obtain ⟨q, hq⟩ : ∃ q, n - i = q + 1 := ⟨n - i - 1, by omega⟩
  rw [hq] at hrec
  simp [go_sem, e0, e1, e49, e50, hlt, hlt']
  refine (vGet_spec (hb.new k3) hl).mono ?_
  rintro e s4 ⟨rfl, rfl⟩
  cases h1 : vgetM b a with
  | none =>
    have hrec' : R0 = none := by
      rw [← hrec]
      cases l.getLast? <;> simp [riseM1, h1]
    subst hrec'
    subst hRES
    simp [go_sem, vgetV]
    exact k3
  | some p =>
  obtain ⟨x, a2⟩ := p
  have hbx := vgetM_bound h1
  simp only at hbx
  cases hlst : l.getLast? with
  | none =>
    have hl0 : l = [] := List.getLast?_eq_none_iff.1 hlst
    have hi0 : i = 0 := by rw [← hll, hl0]; rfl
    have q0 : ((0 : Int) < i) = False := eq_false (by omega)
    rw [hlst, riseM1, h1] at hrec
    simp only [Option.bind_some] at hrec
    simp [go_sem, vgetV, e11, q0, hi0]
    unfold NewS
    intro nc hnc
    refine ⟨.ty 0, ?_⟩
    have k5 := (New.refl s4).add (b := nc) (o := .cells true [Val.u x] 1 (.ty 0)) hnc
    simp [go_sem]
    refine AppI_new (st0 := st1) (g := .ty 1) (m := 1) (ys := [Val.u x]) si24 (hV.new' k5) hF (k3.trans k5) (by simp [srcCells, lkN_mk, upd_same, cellsOf]) (by simp [Value.oneCell']) (by omega) ?_
    intro nd ndc s6 hV6 hF6 k6 _
    simp [go_sem, e0, e49, e50, hwi]
    refine ⟨_, .rfl' _, ⟨k6, i + 1, by omega, by omega, l ++ [x], by simp [hll], by simpa [cellsU] using hV6, by simpa using hF6, fun z hz => ?_, ?_⟩, by omega⟩
    · rcases List.mem_append.1 hz with hz | hz
      · exact hx64 z hz
      · simp at hz; omega
    · rw [← hrec, show n - (i + 1) = q by omega]
      simp only [List.getLast?_append, List.getLast?_singleton, Option.some_or]
      cases riseM1 b (some x) q a2 <;> simp
  | some w =>
    have hwm := List.mem_of_getLast? hlst
    have hw64 := hx64 w hwm
    have hl0 : 0 < l.length := List.length_pos_of_mem hwm
    have hi0 : 0 < i := by omega
    have q0 : ((0 : Int) < i) = True := eq_true (by omega)
    rw [hlst, riseM1, h1] at hrec
    simp only [Option.bind_some] at hrec
    have hwi1 : IntKind.i64.wrap ((i : Int) - 1) = ((i - 1 : Nat) : Int) := by rw [wrap_id (by omega) (by omega)]; omega
    obtain ⟨j, hj⟩ : ∃ j, i - 1 = j := ⟨_, rfl⟩
    rw [hj] at hwi1
    have hjl : j < l.length := by omega
    have hlw : l[j]? = some w := by rw [← hj, ← hll, ← List.getLast?_eq_getElem?]; exact hlst
    obtain ⟨mb, mo, rfl, gg⟩ := src_get hV.reg.src (by omega)
    have hgw := gg j (by omega)
    have hgv : (cellsU l)[j]? = some (.int .u64 w) := by simp [cellsU, hlw]
    rw [hgv] at hgw
    simp [go_sem, vgetV, e11, q0, hi0, hwi1, hjl, hgw]
    by_cases c1 : x + w + 1 < 2 ^ 64
    · rw [if_pos c1] at hrec
      have x1 : ((w : Int) = 18446744073709551615) = False := eq_false (by omega)
      have hw1 : IntKind.u64.wrap (18446744073709551615 - (w : Int)) = ((18446744073709551615 - w : Nat) : Int) := by rw [IntKind.wrap_u64]; omega
      have hw2 : IntKind.u64.wrap (((18446744073709551615 - w : Nat) : Int) - 1) = ((18446744073709551615 - w - 1 : Nat) : Int) := by rw [IntKind.wrap_u64]; omega
      obtain ⟨u, hu⟩ : ∃ u, 18446744073709551615 - w = u := ⟨_, rfl⟩
      rw [hu] at hw1 hw2
      obtain ⟨u1, hu1⟩ : ∃ u1, u - 1 = u1 := ⟨_, rfl⟩
      rw [hu1] at hw2
      have x2 : ((u1 : Int) < x) = False := eq_false (by omega)
      have x2' : ¬ u1 < x := by omega
      have x1' : ¬ w = 18446744073709551615 := by omega
      have hw3 : IntKind.u64.wrap ((w : Int) + 1) = ((w + 1 : Nat) : Int) := by rw [IntKind.wrap_u64]; omega
      obtain ⟨w1, hw1'⟩ : ∃ w1, w + 1 = w1 := ⟨_, rfl⟩
      rw [hw1'] at hw3
      have hw4 : IntKind.u64.wrap ((x : Int) + (w1 : Int)) = ((x + w + 1 : Nat) : Int) := by rw [IntKind.wrap_u64]; omega
      obtain ⟨y, hy⟩ : ∃ y, x + w + 1 = y := ⟨_, rfl⟩
      rw [hy] at hw4 hrec c1
      simp [go_sem, x1, x1', hw1, hw2, x2, x2', hw3, hw4]
      unfold NewS
      intro nc hnc
      refine ⟨.ty 0, ?_⟩
      have k5 := (New.refl s4).add (b := nc) (o := .cells true [Val.u y] 1 (.ty 0)) hnc
      simp [go_sem]
      refine AppI_new (st0 := st1) (g := .ty 1) (m := 1) (ys := [Val.u y]) si24 (hV.new' k5) hF (k3.trans k5) (by simp [srcCells, lkN_mk, upd_same, cellsOf]) (by simp [Value.oneCell']) (by omega) ?_
      intro nd ndc s6 hV6 hF6 k6 _
      simp [go_sem, e0, e49, e50, hwi]
      refine ⟨_, .rfl' _, ⟨k6, i + 1, by omega, by omega, l ++ [y], by simp [hll], by simpa [cellsU] using hV6, by simpa using hF6, fun z hz => ?_, ?_⟩, by omega⟩
      · rcases List.mem_append.1 hz with hz | hz
        · exact hx64 z hz
        · simp at hz; omega
      · rw [← hrec, show n - (i + 1) = q by omega]
        simp only [List.getLast?_append, List.getLast?_singleton, Option.some_or]
        cases riseM1 b (some y) q a2 <;> simp
    · rw [if_neg c1] at hrec
      simp at hrec
      rw [← hrec] at hRES
      subst hRES
      by_cases c2 : w = 18446744073709551615
      · have x1 : ((w : Int) = 18446744073709551615) = True := eq_true (by omega)
        simp [go_sem, x1, c2]
        exact k3
      · have x1 : ((w : Int) = 18446744073709551615) = False := eq_false (by omega)
        have hw1 : IntKind.u64.wrap (18446744073709551615 - (w : Int)) = ((18446744073709551615 - w : Nat) : Int) := by rw [IntKind.wrap_u64]; omega
        have hw2 : IntKind.u64.wrap (((18446744073709551615 - w : Nat) : Int) - 1) = ((18446744073709551615 - w - 1 : Nat) : Int) := by rw [IntKind.wrap_u64]; omega
        obtain ⟨u, hu⟩ : ∃ u, 18446744073709551615 - w = u := ⟨_, rfl⟩
        rw [hu] at hw1 hw2
        obtain ⟨u1, hu1⟩ : ∃ u1, u - 1 = u1 := ⟨_, rfl⟩
        rw [hu1] at hw2
        have x2 : ((u1 : Int) < x) = True := eq_true (by omega)
        have x2' : u1 < x := by omega
        simp [go_sem, x1, c2, hw1, hw2, x2, x2']
        exact k3
theorem kmvGet_spec {bv : Value} {b : Bs} {g0 : Tg} {at_ : Int} (hb : Reg st g0 1 bv (bytesV b) b.length) (hl : b.length < 2 ^ 60) :
    ICalls Tryz.prog W0 181 #[bv, Val.i at_] st fun e st' => New st st' ∧ match riseGetM b at_ 1024 with
      | some (l, a) => ∃ v, e = .returned (.tuple #[v, Val.i a, .bool true]) ∧ Vec st' (.ty 1) 1 v (cellsU l) l.length ∧ Fresh st v
      | none => e = .returned (.tuple #[.slice none 0 0, Val.i 0, .bool false]) := by
  refine enter (args := [_, _]) Tryz.func181 rfl ?_
  simp [Tryz.f181, go_sem]
  refine (riseGet_spec (most := 1024) hb hl (by omega)).mono ?_
  rintro e s1 ⟨k1, h⟩
  cases hr : riseGetM b at_ 1024 with
  | none =>
    rw [hr] at h
    subst h
    simp [go_sem]
    exact k1
  | some p =>
    obtain ⟨l, a⟩ := p
    rw [hr] at h
    obtain ⟨v, rfl, h1, h2⟩ := h
    simp [go_sem]
    exact ⟨k1, h1, h2⟩
end
end Go.Proofs.YtadgciaclhjjkaaGreat
