/- Sketches as data: may one be (the document's way), a copy. -/
import Derived.Test.YtflbapmjdfnhhaaGreatC12
import Derived.Test.YtflbapmjdfnhhaaGreatC24
import Derived.Test.YtflbapmjdfnhhaaGreatC25
import Derived.Test.YtflbapmjdfnhhaaGreatC10
set_option linter.unusedVariables false
set_option linter.unusedSimpArgs false
set_option maxRecDepth 100000
set_option maxHeartbeats 400000
namespace Go.Proofs.YtflbapmjdfnhhaaGreat
open Go.RowKit (Below)
structure SkD where
  hist : List (Int × Nat)
  hashes : List Nat
  g : GauD
structure SkOK (s : SkD) : Prop where
  hist : ∀ x ∈ s.hist, x.2 < 2 ^ 64
  hlen : s.hist.length * 16 ≤ 140737488355328
  hashes : ∀ x ∈ s.hashes, x < 2 ^ 64
  klen : s.hashes.length * 8 ≤ 140737488355328
  g : GauOK s.g
def SkAt (st : Heap) (cs : List Value) (s : SkD) : Prop := ∃ hv kv, cs = [hv, kv, Val.u s.g.n, Val.u s.g.nans, Val.u s.g.lo, Val.u s.g.hi] ∧ RegF st 2 hv (bkV s.hist) s.hist.length ∧ RegF st 1 kv (cellsU s.hashes) s.hashes.length
theorem SkAt.new {st st' : Heap} {cs : List Value} {s : SkD} (h : SkAt st cs s) (hk : New st st') : SkAt st' cs s := by
  obtain ⟨hv, kv, e, h1, h2⟩ := h
  exact ⟨hv, kv, e, h1.new hk, h2.new hk⟩
theorem SkAt.length {st : Heap} {cs : List Value} {s : SkD} (h : SkAt st cs s) : cs.length = 6 := by
  obtain ⟨hv, kv, rfl, _⟩ := h
  rfl
def checkS (s : SkD) : Bool := checkB (-1) s.hist && (checkK s.hashes && checkG s.g)
theorem Vec.away {st st' : Heap} {g : Tg} {size len : Nat} {v : Value} {xs : List Value} (h : Vec st g size v xs len) (hk : ∀ b off n c, v = .slice (some ⟨b, off, none⟩) n c → st' b = st b) : Vec st' g size v xs len := by
  obtain ⟨w1, wb, wc, w2, w3, w4⟩ := h
  refine ⟨w1, wb, wc, w2, w3, ?_⟩
  rcases w4 with ⟨b, n, rfl, hb, hn⟩ | h0
  · exact .inl ⟨b, n, rfl, by rw [hk _ _ _ _ w2]; exact hb, hn⟩
  · exact .inr h0
section
variable {W0 : World} {st : Heap}
theorem refSkCheck_spec {cs : List Value} {s : SkD} (h : SkAt st cs s) (ok : SkOK s) : ICalls Tryz.prog W0 31 #[.agg cs.toArray] st fun e st' => e = .returned (.bool (checkS s)) ∧ New st st' := by
  have h0 := h
  obtain ⟨hv, kv, rfl, h1, h2⟩ := h
  obtain ⟨o1, o2, o3, o4, o5⟩ := ok
  generalize hres : checkS s = res
  unfold checkS at hres
  obtain ⟨hist, hashes, g⟩ := s
  obtain ⟨hb, hc, rfl⟩ := h1.slice
  obtain ⟨kb, kc, rfl⟩ := h2.slice
  simp only at hres o1 o2 o3 o4 o5 h1 h2
  refine enter (args := [_]) Tryz.func31 rfl ?_
  simp [Tryz.f31, go_sem]
  unfold NewP
  intro a ha
  refine ⟨.ty 1, ?_⟩
  have k1 := (New.refl st).add (b := a) (o := .cells true [.slice hb hist.length hc, .slice kb hashes.length kc, Val.u g.n, Val.u g.nans, Val.u g.lo, Val.u g.hi] 6 (.ty 1)) ha
  have g1 := upd_same st a (.cells true [.slice hb hist.length hc, .slice kb hashes.length kc, Val.u g.n, Val.u g.nans, Val.u g.lo, Val.u g.hi] 6 (.ty 1))
  generalize upd st a (.cells true [.slice hb hist.length hc, .slice kb hashes.length kc, Val.u g.n, Val.u g.nans, Val.u g.lo, Val.u g.hi] 6 (.ty 1)) = st1 at *
  simp [go_sem, g1]
  refine (refHistCheck_spec (h1.new k1) (by omega)).mono ?_
  rintro e st2 ⟨rfl, rfl⟩
  cases c1 : checkB (-1) hist with
  | false =>
    rw [c1, Bool.false_and] at hres
    subst hres
    simp [go_sem]
    exact k1
  | true =>
  rw [c1, Bool.true_and] at hres
  simp [go_sem, g1]
  refine (refKmvCheck_spec (h2.new k1) (by omega)).mono ?_
  rintro e st3 ⟨rfl, rfl⟩
  cases c2 : checkK hashes with
  | false =>
    rw [c2, Bool.false_and] at hres
    subst hres
    simp [go_sem]
    exact k1
  | true =>
  rw [c2, Bool.true_and] at hres
  simp [go_sem, g1]
  refine ICalls.mono (by simpa [GauD.cells] using refGaugeCheck_spec (W0 := W0) (st := st3) o5) ?_
  rintro e st4 ⟨rfl, k4⟩
  subst hres
  simp [go_sem]
  exact k1.trans k4
theorem Buckets_copy {v : Value} {l : List (Int × Nat)} (h : RegF st 2 v (bkV l) l.length) (hl : l.length * 16 ≤ 140737488355328) : ICalls Tryz.prog W0 68 #[v] st fun e st' => ∃ w, e = .returned w ∧ Vec st' (.ty 1) 2 w (bkV l) l.length ∧ Fresh st w ∧ New st st' := by
  refine enter (args := [_]) Tryz.func68 rfl ?_
  simp [Tryz.f68, go_sem]
  refine AppI_newg (.ty 1) si50 h.src hl ?_
  intro base cap st' hV hF hk
  simp [go_sem]
  exact ⟨hV, hF, hk⟩
theorem Nums_copy {v : Value} {l : List Nat} (h : RegF st 1 v (cellsU l) l.length) (hl : l.length * 8 ≤ 140737488355328) : ICalls Tryz.prog W0 69 #[v] st fun e st' => ∃ w, e = .returned w ∧ Vec st' (.ty 1) 1 w (cellsU l) l.length ∧ Fresh st w ∧ New st st' := by
  refine enter (args := [_]) Tryz.func69 rfl ?_
  simp [Tryz.f69, go_sem]
  refine AppI_newg (.ty 1) si51 h.src hl ?_
  intro base cap st' hV hF hk
  simp [go_sem]
  exact ⟨hV, hF, hk⟩
theorem Sketch_fresh {cs : List Value} {s : SkD} (h : SkAt st cs s) (ok : SkOK s) : ICalls Tryz.prog W0 45 #[.agg cs.toArray] st fun e st' => ∃ hv kv, e = .returned (.agg #[hv, kv, Val.u s.g.n, Val.u s.g.nans, Val.u s.g.lo, Val.u s.g.hi]) ∧ Vec st' (.ty 1) 2 hv (bkV s.hist) s.hist.length ∧ Fresh st hv ∧ Vec st' (.ty 1) 1 kv (cellsU s.hashes) s.hashes.length ∧ Fresh st kv ∧ New st st' := by
  obtain ⟨hv, kv, rfl, h1, h2⟩ := h
  obtain ⟨o1, o2, o3, o4, o5⟩ := ok
  obtain ⟨hb, hc, rfl⟩ := h1.slice
  obtain ⟨kb, kc, rfl⟩ := h2.slice
  refine enter (args := [_]) Tryz.func45 rfl ?_
  simp [Tryz.f45, go_sem]
  unfold NewP
  intro a ha
  refine ⟨.ty 1, ?_⟩
  have k1 := (New.refl st).add (b := a) (o := .cells true [.slice hb s.hist.length hc, .slice kb s.hashes.length kc, Val.u s.g.n, Val.u s.g.nans, Val.u s.g.lo, Val.u s.g.hi] 6 (.ty 1)) ha
  have g1 := upd_same st a (.cells true [.slice hb s.hist.length hc, .slice kb s.hashes.length kc, Val.u s.g.n, Val.u s.g.nans, Val.u s.g.lo, Val.u s.g.hi] 6 (.ty 1))
  generalize upd st a (.cells true [.slice hb s.hist.length hc, .slice kb s.hashes.length kc, Val.u s.g.n, Val.u s.g.nans, Val.u s.g.lo, Val.u s.g.hi] 6 (.ty 1)) = st1 at *
  simp [go_sem]
  unfold NewP
  intro b hb'
  refine ⟨.ty 1, ?_⟩
  have k2 := (New.refl st1).add (b := b) (o := .cells true [.slice none 0 0, .slice none 0 0, Val.u 0, Val.u 0, Val.u 0, Val.u 0] 6 (.ty 1)) hb'
  have g2 := upd_same st1 b (.cells true [.slice none 0 0, .slice none 0 0, Val.u 0, Val.u 0, Val.u 0, Val.u 0] 6 (.ty 1))
  have hne : a ≠ b := by rintro rfl; rw [g1] at hb'; cases hb'
  have g1' := k2 _ _ g1
  simp [go_sem, hne, g1, upd_ne]
  generalize upd st1 b (.cells true [.slice none 0 0, .slice none 0 0, Val.u 0, Val.u 0, Val.u 0, Val.u 0] 6 (.ty 1)) = st2 at *
  have kk := k1.trans k2
  have hbn : st b = none := k1.none hb'
  refine (Buckets_copy (h1.new kk) o2).mono ?_
  rintro e st3 ⟨w, rfl, hw, hwf, k3⟩
  obtain ⟨wb, wc, rfl⟩ := hw.slice
  have g1'' := k3 _ _ g1'
  have g2' := k3 _ _ g2
  simp [go_sem, g1'']
  obtain ⟨st4, hst4⟩ : ∃ st4, upd st3 a (.cells true [.slice wb s.hist.length wc, .slice kb s.hashes.length kc, Val.u s.g.n, Val.u s.g.nans, Val.u s.g.lo, Val.u s.g.hi] 6 (.ty 1)) = st4 := ⟨_, rfl⟩
  rw [hst4]
  have g4 : st4 a = some (.cells true [.slice wb s.hist.length wc, .slice kb s.hashes.length kc, Val.u s.g.n, Val.u s.g.nans, Val.u s.g.lo, Val.u s.g.hi] 6 (.ty 1)) := by rw [← hst4]; exact upd_same _ _ _
  have k34 : ∀ k, k ≠ a → st4 k = st3 k := fun k hk => by rw [← hst4, upd_ne _ _ hk]
  have hw4 : Vec st4 (.ty 1) 2 (.slice wb s.hist.length wc) (bkV s.hist) s.hist.length := hw.away fun b' off n c he => k34 _ (by rintro rfl; have := hwf _ _ _ _ he; rw [g1'] at this; cases this)
  have kk4 : New st st4 := by rw [← hst4]; exact (kk.trans k3).put ha
  have g2'' := (k34 _ (Ne.symm hne)).trans g2'
  refine (Nums_copy (h2.new kk4) o4).mono ?_
  rintro e st5 ⟨w', rfl, hw', hwf', k5⟩
  obtain ⟨wb', wc', rfl⟩ := hw'.slice
  have g5 := k5 _ _ g4
  have g25 := k5 _ _ g2''
  simp [go_sem, g5]
  obtain ⟨st6, hst6⟩ : ∃ st6, upd st5 a (.cells true [.slice wb s.hist.length wc, .slice wb' s.hashes.length wc', Val.u s.g.n, Val.u s.g.nans, Val.u s.g.lo, Val.u s.g.hi] 6 (.ty 1)) = st6 := ⟨_, rfl⟩
  rw [hst6]
  have g6 : st6 a = some (.cells true [.slice wb s.hist.length wc, .slice wb' s.hashes.length wc', Val.u s.g.n, Val.u s.g.nans, Val.u s.g.lo, Val.u s.g.hi] 6 (.ty 1)) := by rw [← hst6]; exact upd_same _ _ _
  have k56 : ∀ k, k ≠ a → st6 k = st5 k := fun k hk => by rw [← hst6, upd_ne _ _ hk]
  have g26 := (k56 _ (Ne.symm hne)).trans g25
  have hw6 : Vec st6 (.ty 1) 2 (.slice wb s.hist.length wc) (bkV s.hist) s.hist.length := (hw4.new' k5).away fun b' off n c he => k56 _ (by rintro rfl; have := hwf _ _ _ _ he; rw [g1'] at this; cases this)
  have hw6' : Vec st6 (.ty 1) 1 (.slice wb' s.hashes.length wc') (cellsU s.hashes) s.hashes.length := hw'.away fun b' off n c he => k56 _ (by rintro rfl; have := hwf' _ _ _ _ he; rw [g4] at this; cases this)
  have kk6 : New st st6 := by rw [← hst6]; exact (kk4.trans k5).put ha
  simp [go_sem, g26, hne, Ne.symm hne, upd_ne]
  refine RetI_cell ?_
  simp [go_sem, g26, hne, Ne.symm hne, upd_ne]
  refine ⟨_, _, ⟨rfl, rfl⟩, hw6.away fun b' off n c he => upd_ne _ _ ?_, fun b off n c he => kk.none (hwf b off n c he), hw6'.away fun b' off n c he => upd_ne _ _ ?_, fun b off n c he => kk4.none (hwf' b off n c he), kk6.put hbn⟩
  · rintro rfl
    have := hwf _ _ _ _ he
    rw [g2] at this
    cases this
  · rintro rfl
    have := hwf' _ _ _ _ he
    rw [g2''] at this
    cases this
end
end Go.Proofs.YtflbapmjdfnhhaaGreat
set_option linter.unusedVariables false
set_option linter.unusedSimpArgs false
set_option maxRecDepth 100000
namespace Go.Proofs.YtflbapmjdfnhhaaGreat
open Go.ChangeShapes Go.WideShapes Go.ChangeAt Go.RowKit
def BkW (_ : Heap) (cs : List Value) (x : Int × Nat) : Prop := cs = [Val.i x.1, Val.u x.2] ∧ x.2 < 2 ^ 64
theorem opens_bucket (fuel : Nat) : Opens 119 2 BkW fuel := fun H enc W cs x hx hr => by
  obtain ⟨hl, n, rfl, hf⟩ := opens_struct Tryz.underlying119 hx hr
  have hl2 : cs.length = 2 := hl.trans (by kernel_rfl)
  refine ⟨hl2, ?_⟩
  obtain ⟨y0, h0, r0⟩ := hf 0 _ rfl
  obtain ⟨y1, h1, r1⟩ := hf 1 _ rfl
  obtain ⟨_, a0, k0, w0⟩ := opens_int Tryz.underlying3 n H enc W _ _ h0 r0
  obtain ⟨_, a1, k1, w1⟩ := opens_int Tryz.underlying26 n H enc W _ _ h1 r1
  have c0 := took_one k0
  have c1 := took_one k1
  have hb := bounds_u64' w1
  refine ⟨(a0, a1.toNat), ?_, by simp only; omega⟩
  have e1 : ((a1.toNat : Nat) : Int) = a1 := Int.toNat_of_nonneg hb.1
  match cs, hl2 with
  | [x0, x1], _ => simp at c0 c1; subst c0; subst c1; simp [e1]
def NumW (_ : Heap) (cs : List Value) (x : Nat) : Prop := cs = [Val.u x] ∧ x < 2 ^ 64
theorem opens_num (fuel : Nat) : Opens 26 1 NumW fuel := fun H enc W cs x hx hr => by
  obtain ⟨hl, a1, k1, w1⟩ := opens_int Tryz.underlying26 fuel H enc W _ _ hx hr
  have hb := bounds_u64' w1
  refine ⟨hl, a1.toNat, ?_, by omega⟩
  rw [k1, Int.toNat_of_nonneg hb.1]
theorem bk_rows : ∀ (xs : List (Int × Nat)) (ys : List Value), ys.length = xs.length * 2 → (∀ (i : Nat) (x : Int × Nat), xs[i]? = some x → (ys.drop (i * 2)).take 2 = [Val.i x.1, Val.u (x.2 : Int)]) → ys = bkV xs
  | [], ys, hl, _ => List.eq_nil_of_length_eq_zero (by simpa using hl)
  | x :: xs, ys, hl, h => by
    have h0 := h 0 x rfl
    simp only [Nat.zero_mul, List.drop_zero] at h0
    have := bk_rows xs (ys.drop 2) (by rw [List.length_drop]; simp at hl; omega) fun i y hi => by
      have := h (i + 1) y (by simpa using hi)
      rw [List.drop_drop]
      rwa [show 2 + i * 2 = (i + 1) * 2 by omega]
    rw [← List.take_append_drop 2 ys, h0, this]
    simp [bkV]
theorem num_rows : ∀ (xs : List Nat) (ys : List Value), ys.length = xs.length * 1 → (∀ (i x : Nat), xs[i]? = some x → (ys.drop (i * 1)).take 1 = [Val.u (x : Int)]) → ys = cellsU xs
  | [], ys, hl, _ => List.eq_nil_of_length_eq_zero (by simpa using hl)
  | x :: xs, ys, hl, h => by
    have h0 := h 0 x rfl
    simp only [Nat.zero_mul, List.drop_zero] at h0
    have := num_rows xs (ys.drop 1) (by rw [List.length_drop]; simp at hl; omega) fun i y hi => by
      have := h (i + 1) y (by simpa using hi)
      rw [List.drop_drop]
      rwa [show 1 + i * 1 = (i + 1) * 1 by omega]
    rw [← List.take_append_drop 1 ys, h0, this]
    simp [cellsU]
def SkW (st : Heap) (cs : List Value) (s : SkD) : Prop := SkAt st cs s ∧ SkOK s
theorem opens_sketch (fuel : Nat) : Opens 55 6 SkW fuel := fun H enc W cs x hx hr => by
  obtain ⟨hl, n, rfl, hf⟩ := opens_struct Tryz.underlying55 hx hr
  have hl6 : cs.length = 6 := hl.trans (by kernel_rfl)
  refine ⟨hl6, ?_⟩
  obtain ⟨y0, h0, r0⟩ := hf 0 _ rfl
  obtain ⟨y1, h1, r1⟩ := hf 1 _ rfl
  obtain ⟨y2, h2, r2⟩ := hf 2 _ rfl
  obtain ⟨_, hist, hb, hc, hys, k0, hreg, hsz, hel⟩ := opens_slice (n := 2) (bytes := 16) Tryz.underlying50 (by kernel_rfl) (by omega) (by kernel_rfl) (fun f _ => opens_bucket f) H enc W _ _ h0 r0
  obtain ⟨_, hashes, nb, nc, nys, k1, nreg, nsz, nel⟩ := opens_slice (n := 1) (bytes := 8) Tryz.underlying51 (by kernel_rfl) (by omega) (by kernel_rfl) (fun f _ => opens_num f) H enc W _ _ h1 r1
  obtain ⟨gl, gn, rfl, gf⟩ := opens_struct Tryz.underlying53 h2 r2
  obtain ⟨z0, g0, s0⟩ := gf 0 _ rfl
  obtain ⟨z1, g1, s1⟩ := gf 1 _ rfl
  obtain ⟨z2, g2, s2⟩ := gf 2 _ rfl
  obtain ⟨z3, g3, s3⟩ := gf 3 _ rfl
  obtain ⟨_, a0, q0, w0⟩ := opens_int Tryz.underlying26 gn H enc W _ _ g0 s0
  obtain ⟨_, a1, q1, w1⟩ := opens_int Tryz.underlying26 gn H enc W _ _ g1 s1
  obtain ⟨_, a2, q2, w2⟩ := opens_int Tryz.underlying26 gn H enc W _ _ g2 s2
  obtain ⟨_, a3, q3, w3⟩ := opens_int Tryz.underlying26 gn H enc W _ _ g3 s3
  have hcg : Tryz.prog.cellsOf 53 = 4 := by kernel_rfl
  have b0 := bounds_u64' w0
  have b1 := bounds_u64' w1
  have b2 := bounds_u64' w2
  have b3 := bounds_u64' w3
  have i0 : ((a0.toNat : Nat) : Int) = a0 := Int.toNat_of_nonneg b0.1
  have i1 : ((a1.toNat : Nat) : Int) = a1 := Int.toNat_of_nonneg b1.1
  have i2 : ((a2.toNat : Nat) : Int) = a2 := Int.toNat_of_nonneg b2.1
  have i3 : ((a3.toNat : Nat) : Int) = a3 := Int.toNat_of_nonneg b3.1
  have c0 := took_one k0
  have c1 := took_one k1
  have d0 := took_one q0
  have d1 := took_one q1
  have d2 := took_one q2
  have d3 := took_one q3
  refine ⟨⟨hist, hashes, ⟨a0.toNat, a1.toNat, a2.toNat, a3.toNat⟩⟩, ⟨.slice hb hist.length hc, .slice nb hashes.length nc, ?_, ⟨.ty 0, by intro g x r; simp, ?_⟩, ⟨.ty 0, by intro g x r; simp, ?_⟩⟩, ⟨fun x hx => ?_, hsz, fun x hx => ?_, nsz, ⟨by simp only; omega, by simp only; omega, by simp only; omega, by simp only; omega⟩⟩⟩
  · match cs, hl6 with
    | [x0, x1, x2, x3, x4, x5], _ => simp [hcg] at c0 c1 d0 d1 d2 d3; subst c0; subst c1; subst d0; subst d1; subst d2; subst d3; simp [i0, i1, i2, i3]
  · have := bk_rows hist hys hreg.1 fun i x hi => (hel i x hi).1
    rw [← this]
    exact hreg
  · have := num_rows hashes nys nreg.1 fun i x hi => (nel i x hi).1
    rw [← this]
    exact nreg
  · obtain ⟨i, hi⟩ := List.mem_iff_getElem?.1 hx
    exact (hel i x hi).2
  · obtain ⟨i, hi⟩ := List.mem_iff_getElem?.1 hx
    exact (nel i x hi).2
end Go.Proofs.YtflbapmjdfnhhaaGreat
