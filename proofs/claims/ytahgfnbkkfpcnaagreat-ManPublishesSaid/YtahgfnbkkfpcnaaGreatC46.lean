/- The document's manifests read. -/
import Derived.Test.YtahgfnbkkfpcnaaGreatC44
import Derived.Test.YtahgfnbkkfpcnaaGreatC45
import Derived.Test.YtahgfnbkkfpcnaaGreatC38
import Derived.Test.YtahgfnbkkfpcnaaGreatC42
set_option linter.unusedVariables false
set_option linter.unusedSimpArgs false
set_option maxRecDepth 100000
set_option maxHeartbeats 2000000
namespace Go.Proofs.YtahgfnbkkfpcnaaGreat
open Go.RowKit (Below)
theorem zj7 (t : MetaD) : 1 ≤ (metaB t).length := by
 unfold metaB MetaD.ints intB
 simp only [List.flatMap_cons, List.length_append]
 have := z6i (zz t.id)
 omega
theorem zb1 : ∀ l : List MetaD, l.length ≤ (l.flatMap metaB).length
 | [] => by simp
 | s :: l => by
  have := zb1 l
  have h1 := zj7 s
  simp only [List.length_cons, List.flatMap_cons, List.length_append]
  omega
theorem zhz {b : Bs} {k a : Nat} (ha : a ≤ b.length) (h : b.length < k + a) : z0u b k (a : Int) = none := by
 cases ht : z0u b k (a : Int) with
 | none => rfl
 | some r =>
  obtain ⟨h1, h2⟩ := z6t ht (by omega) (by omega)
  have h3 := h2.len
  have h4 := zb1 r.1
  have := h2.2.2.1
  omega
def z46 (b : Bs) (p : Option Int) : Option (List MetaD × Int) := p.bind fun a => (vgetM b a).bind fun c => if 900 < c.1 then none else z0u b c.1 c.2
theorem zee {b : Bs} {p : Option Int} {c : Nat} {p1 : Option Int} (hU : z10 b 900 p = (c, p1)) : (∀ a, p1 = some a → z0u b c a = z46 b p) ∧ (p1 = none → z46 b p = none ∧ c = 0) ∧ c ≤ 900 := by
 unfold z10 at hU
 cases hv : p.bind (vgetM b) with
 | none =>
  rw [hv] at hU
  injection hU with hU1 hU2
  subst hU1
  subst hU2
  refine ⟨by simp, fun _ => ⟨?_, rfl⟩, by omega⟩
  unfold z46
  cases p with
  | none => rfl
  | some a =>
   simp only [Option.bind_some] at hv ⊢
   rw [hv]
   rfl
 | some x =>
  obtain ⟨n, a⟩ := x
  rw [hv] at hU
  simp only at hU
  have hR2 : z46 b p = if 900 < n then none else z0u b n a := by
   unfold z46
   cases p with
   | none => cases hv
   | some a =>
    simp only [Option.bind_some] at hv ⊢
    rw [hv]
    rfl
  have hal : a ≤ b.length := by
   obtain ⟨y, _, hy⟩ := Option.bind_eq_some_iff.1 hv
   exact (z21 hy).2.2
  by_cases hc : n ≤ 900 ∧ n + a ≤ b.length
  ·rw [if_pos hc] at hU
   injection hU with hU1 hU2
   subst hU1
   subst hU2
   rw [if_neg (by omega)] at hR2
   exact ⟨fun a' h => by injection h with h; subst h; exact hR2.symm, by simp, hc.1⟩
  ·rw [if_neg hc] at hU
   injection hU with hU1 hU2
   subst hU1
   subst hU2
   refine ⟨by simp, fun _ => ⟨?_, rfl⟩, by omega⟩
   rw [hR2]
   split
   ·rfl
   ·exact zhz hal (by omega)
theorem tombs_nice1 {b : Bs} : ∀ {k : Nat} {prev : Option Int} {a : Int} {r : List TombD × Int}, z0y b prev k a = some r → ∀ t ∈ r.1, NiceM 12 t.m
 | 0, prev, a, r, h => by unfold z0y at h; injection h with h; subst h; simp
 | k + 1, prev, a, r, h => by
  unfold z0y at h
  obtain ⟨p, hp, h⟩ := Option.bind_eq_some_iff.1 h
  split at h
  ·obtain ⟨q, hq, h⟩ := Option.map_eq_some_iff.1 h
   subst h
   unfold z3p at hp
   obtain ⟨u, hu, hp⟩ := Option.bind_eq_some_iff.1 hp
   obtain ⟨w, hw, hp⟩ := Option.map_eq_some_iff.1 hp
   subst hp
   intro t ht
   rcases List.mem_cons.1 ht with rfl | ht
   ·exact getMat_nice hw
   ·exact tombs_nice1 hq t ht
  ·cases h
theorem tombs_nice {b : Bs} {a : Int} {l : List TombD} {a' : Int} (h : z1k b a = some (l, a')) : ∀ t ∈ l, NiceM 12 t.m := by
 unfold z1k at h
 obtain ⟨p, hp, h⟩ := Option.bind_eq_some_iff.1 h
 split at h
 ·cases h
 ·exact tombs_nice1 h
def z6g (st : Heap) (R : Option ManD) (e : Ending) (st' : Heap) : Prop := New st st' ∧ match R with
 | some m => ∃ cs : List Value, e = .returned (.tuple #[.agg cs.toArray, Val.i 0]) ∧ ManAt st' cs m
 | none => e = .returned (.tuple #[.agg z34.toArray, Val.i 4])
section
variable {W0 : World} {st : Heap}
theorem zha {bv : Value} {b : Bs} {g0 : Tg} (hb : Reg st g0 1 bv (bytesV b) b.length) (hg : Free g0) (hl : b.length < 2 ^ 40) :
  z00 Tryz.prog W0 124 #[bv] st (z6g st (z1o b)) := by
 obtain ⟨bb, bc, rfl⟩ := hb.slice
 obtain ⟨RES, hRES⟩ : ∃ R, z1o b = R := ⟨_, rfl⟩
 rw [hRES]
 rw [zji] at hRES
 refine enter (args := [_]) Tryz.func124 rfl ?_
 simp [Tryz.f124, go_sem]
 unfold NewP
 intro to hto
 refine ⟨.own to 0 93, ?_⟩
 simp [go_sem]
 have hto1 := upd_same st to (.cells true [Val.i 0, Val.i 0, Val.i 0, Val.i 0, .slice none 0 0, .slice none 0 0] 6 (.own to 0 93))
 have hN1 := (New.refl st).add (b := to) (o := .cells true [Val.i 0, Val.i 0, Val.i 0, Val.i 0, .slice none 0 0, .slice none 0 0] 6 (.own to 0 93)) hto
 generalize upd st to (.cells true [Val.i 0, Val.i 0, Val.i 0, Val.i 0, .slice none 0 0, .slice none 0 0] 6 (.own to 0 93)) = st1 at *
 have fail : ∀ {st' : Heap}, New st st' → RES = none → z6g st RES (.returned (.tuple #[.agg #[Val.i 0, Val.i 0, Val.i 0, Val.i 0, .slice none 0 0, .slice none 0 0], Val.i 4])) (upd st' to (.cells true [Val.i 0, Val.i 0, Val.i 0, Val.i 0, .slice none 0 0, .slice none 0 0] 6 (.own to 0 93))) := fun h h2 => by
  rw [h2]
  exact ⟨h.put hto, rfl⟩
 refine (zfq (.ty 0) (at_ := 0) (hb.new hN1) hg hl).mono ?_
 rintro e st2 ⟨hk2, hR⟩
 have hto2 := hk2 _ _ hto1
 have hN2 := hN1.trans hk2
 cases hf : z18 b 0 with
 | error k =>
  rw [hf] at hR hRES
  simp only at hR hRES
  subst hR
  have hk0 : (k = 0) = False := eq_false (zbp hf)
  simp [go_sem, hk0, hto2]
  refine z0l ?_
  simp [go_sem]
  exact fail hN2 hRES.symm
 | ok p =>
 obtain ⟨x, end_⟩ := p
 rw [hf] at hR hRES
 simp only at hR hRES
 obtain ⟨v, rfl, hV⟩ := hR
 by_cases hend : end_ = b.length
 rotate_left
 ·have hend' : ((end_ : Int) = b.length) = False := eq_false (by omega)
  rw [if_neg hend] at hRES
  simp [go_sem, hend', hto2]
  refine z0l ?_
  simp [go_sem]
  exact fail hN2 hRES.symm
 have hend' : ((end_ : Int) = b.length) = True := eq_true (by omega)
 rw [if_pos hend] at hRES
 have hxl := zb7 hf
 obtain ⟨vb, vc, rfl⟩ := hV.reg.slice
 simp [go_sem, hend']
 intro r hr
 refine ⟨.own r 0 94, ?_⟩
 simp [go_sem]
 have hnr : to ≠ r := ne_of_new hto2 hr
 have hrs := hN2.none hr
 have hr3 := upd_same st2 r (.cells true [.slice vb x.length vc, Val.i 0, .bool false] 3 (.own r 0 94))
 have hN3 := (New.refl st2).add (b := r) (o := .cells true [.slice vb x.length vc, Val.i 0, .bool false] 3 (.own r 0 94)) hr
 generalize upd st2 r (.cells true [.slice vb x.length vc, Val.i 0, .bool false] 3 (.own r 0 94)) = st3 at *
 have hto3 := hN3 _ _ hto2
 have hx3 := hV.reg.new hN3
 unfold NewP
 intro tm htm
 refine ⟨.own tm 0 100, ?_⟩
 simp [go_sem]
 have m1 : tm ≠ r := Ne.symm (ne_of_new hr3 htm)
 have m2 : tm ≠ to := Ne.symm (ne_of_new hto3 htm)
 have m3 : st tm = none := (hN2.trans hN3).none htm
 have hm4 := upd_same st3 tm (.cells true [Val.i 0, Val.i 0, Val.i 0, Val.i 0, .slice none 0 0, .slice none 0 0] 6 (.own tm 0 100))
 have hr4 : RefAt (upd st3 tm (.cells true [Val.i 0, Val.i 0, Val.i 0, Val.i 0, .slice none 0 0, .slice none 0 0] 6 (.own tm 0 100))) r (.slice vb x.length vc) (some 0) := RefAt.upd (p := some 0) hr3 m1
 have hN4 := (New.refl st3).add (b := tm) (o := (.cells true [Val.i 0, Val.i 0, Val.i 0, Val.i 0, .slice none 0 0, .slice none 0 0] 6 (.own tm 0 100))) htm
 generalize upd st3 tm (.cells true [Val.i 0, Val.i 0, Val.i 0, Val.i 0, .slice none 0 0, .slice none 0 0] 6 (.own tm 0 100)) = st4 at *
 have hto4 := hN4 _ _ hto3
 have hx4 := hx3.new hN4
 have hN04 : New st st4 := (hN2.trans hN3).trans hN4
 have gx : Free (.ty 0) := Free.ty
 have hxl' : x.length < 2 ^ 60 := by omega
 refine (z22 hr4 hx4 gx hxl').mono ?_
 rintro e st5 ⟨hB5, rfl, hr5⟩
 have hm5 := hB5.get hm4 m1
 have hto5 := hB5.get hto4 hnr
 have hx5 := hx4.keep (hr4.free hB5) gx
 simp [go_sem, hm5]
 generalize hn1 : numR x (some 0) = N1 at *
 have hm6 := upd_same st5 tm (.cells true [Val.i (unzz N1.1), Val.i 0, Val.i 0, Val.i 0, .slice none 0 0, .slice none 0 0] 6 (.own tm 0 100))
 have hto6 := (upd_ne st5 (.cells true [Val.i (unzz N1.1), Val.i 0, Val.i 0, Val.i 0, .slice none 0 0, .slice none 0 0] 6 (.own tm 0 100)) (Ne.symm m2)).trans hto5
 have hx6 := hx5.keep (z17 (o := (.cells true [Val.i (unzz N1.1), Val.i 0, Val.i 0, Val.i 0, .slice none 0 0, .slice none 0 0] 6 (.own tm 0 100))) hm5) gx
 have hr6 := hr5.upd (b := tm) (o := (.cells true [Val.i (unzz N1.1), Val.i 0, Val.i 0, Val.i 0, .slice none 0 0, .slice none 0 0] 6 (.own tm 0 100))) m1
 have hK6 := ((hN04.but r).trans hB5).putNew (o := (.cells true [Val.i (unzz N1.1), Val.i 0, Val.i 0, Val.i 0, .slice none 0 0, .slice none 0 0] 6 (.own tm 0 100))) m3
 generalize upd st5 tm (.cells true [Val.i (unzz N1.1), Val.i 0, Val.i 0, Val.i 0, .slice none 0 0, .slice none 0 0] 6 (.own tm 0 100)) = st6 at *
 refine (z22 hr6 hx6 gx hxl').mono ?_
 rintro e st7 ⟨hB7, rfl, hr7⟩
 have hm7 := hB7.get hm6 m1
 have hto7 := hB7.get hto6 hnr
 have hx7 := hx6.keep (hr6.free hB7) gx
 simp [go_sem, hm7]
 generalize hn2 : numR x N1.2 = N2 at *
 have hm8 := upd_same st7 tm (.cells true [Val.i (unzz N1.1), Val.i (unzz N2.1), Val.i 0, Val.i 0, .slice none 0 0, .slice none 0 0] 6 (.own tm 0 100))
 have hto8 := (upd_ne st7 (.cells true [Val.i (unzz N1.1), Val.i (unzz N2.1), Val.i 0, Val.i 0, .slice none 0 0, .slice none 0 0] 6 (.own tm 0 100)) (Ne.symm m2)).trans hto7
 have hx8 := hx7.keep (z17 (o := (.cells true [Val.i (unzz N1.1), Val.i (unzz N2.1), Val.i 0, Val.i 0, .slice none 0 0, .slice none 0 0] 6 (.own tm 0 100))) hm7) gx
 have hr8 := hr7.upd (b := tm) (o := (.cells true [Val.i (unzz N1.1), Val.i (unzz N2.1), Val.i 0, Val.i 0, .slice none 0 0, .slice none 0 0] 6 (.own tm 0 100))) m1
 have hK8 := (hK6.trans hB7).putNew (o := (.cells true [Val.i (unzz N1.1), Val.i (unzz N2.1), Val.i 0, Val.i 0, .slice none 0 0, .slice none 0 0] 6 (.own tm 0 100))) m3
 generalize upd st7 tm (.cells true [Val.i (unzz N1.1), Val.i (unzz N2.1), Val.i 0, Val.i 0, .slice none 0 0, .slice none 0 0] 6 (.own tm 0 100)) = st8 at *
 refine (z22 hr8 hx8 gx hxl').mono ?_
 rintro e st9 ⟨hB9, rfl, hr9⟩
 have hm9 := hB9.get hm8 m1
 have hto9 := hB9.get hto8 hnr
 have hx9 := hx8.keep (hr8.free hB9) gx
 simp [go_sem, hm9]
 generalize hn3 : numR x N2.2 = N3 at *
 have hm10 := upd_same st9 tm (.cells true [Val.i (unzz N1.1), Val.i (unzz N2.1), Val.i (unzz N3.1), Val.i 0, .slice none 0 0, .slice none 0 0] 6 (.own tm 0 100))
 have hto10 := (upd_ne st9 (.cells true [Val.i (unzz N1.1), Val.i (unzz N2.1), Val.i (unzz N3.1), Val.i 0, .slice none 0 0, .slice none 0 0] 6 (.own tm 0 100)) (Ne.symm m2)).trans hto9
 have hx10 := hx9.keep (z17 (o := (.cells true [Val.i (unzz N1.1), Val.i (unzz N2.1), Val.i (unzz N3.1), Val.i 0, .slice none 0 0, .slice none 0 0] 6 (.own tm 0 100))) hm9) gx
 have hr10 := hr9.upd (b := tm) (o := (.cells true [Val.i (unzz N1.1), Val.i (unzz N2.1), Val.i (unzz N3.1), Val.i 0, .slice none 0 0, .slice none 0 0] 6 (.own tm 0 100))) m1
 have hK10 := (hK8.trans hB9).putNew (o := (.cells true [Val.i (unzz N1.1), Val.i (unzz N2.1), Val.i (unzz N3.1), Val.i 0, .slice none 0 0, .slice none 0 0] 6 (.own tm 0 100))) m3
 generalize upd st9 tm (.cells true [Val.i (unzz N1.1), Val.i (unzz N2.1), Val.i (unzz N3.1), Val.i 0, .slice none 0 0, .slice none 0 0] 6 (.own tm 0 100)) = st10 at *
 refine (z22 hr10 hx10 gx hxl').mono ?_
 rintro e st11 ⟨hB11, rfl, hr11⟩
 have hm11 := hB11.get hm10 m1
 have hto11 := hB11.get hto10 hnr
 have hx11 := hx10.keep (hr10.free hB11) gx
 simp [go_sem, hm11]
 generalize hn4 : numR x N3.2 = N4 at *
 have hm12 := upd_same st11 tm (.cells true [Val.i (unzz N1.1), Val.i (unzz N2.1), Val.i (unzz N3.1), Val.i (unzz N4.1), .slice none 0 0, .slice none 0 0] 6 (.own tm 0 100))
 have hto12 := (upd_ne st11 (.cells true [Val.i (unzz N1.1), Val.i (unzz N2.1), Val.i (unzz N3.1), Val.i (unzz N4.1), .slice none 0 0, .slice none 0 0] 6 (.own tm 0 100)) (Ne.symm m2)).trans hto11
 have hx12 := hx11.keep (z17 (o := (.cells true [Val.i (unzz N1.1), Val.i (unzz N2.1), Val.i (unzz N3.1), Val.i (unzz N4.1), .slice none 0 0, .slice none 0 0] 6 (.own tm 0 100))) hm11) gx
 have hr12 := hr11.upd (b := tm) (o := (.cells true [Val.i (unzz N1.1), Val.i (unzz N2.1), Val.i (unzz N3.1), Val.i (unzz N4.1), .slice none 0 0, .slice none 0 0] 6 (.own tm 0 100))) m1
 have hK12 := (hK10.trans hB11).putNew (o := (.cells true [Val.i (unzz N1.1), Val.i (unzz N2.1), Val.i (unzz N3.1), Val.i (unzz N4.1), .slice none 0 0, .slice none 0 0] 6 (.own tm 0 100))) m3
 generalize upd st11 tm (.cells true [Val.i (unzz N1.1), Val.i (unzz N2.1), Val.i (unzz N3.1), Val.i (unzz N4.1), .slice none 0 0, .slice none 0 0] 6 (.own tm 0 100)) = st12 at *
 refine (z6f (most := 900) hr12 hx12 gx hxl' (by omega)).mono ?_
 rintro e st13 ⟨hB13, rfl, hr13⟩
 have hm13 := hB13.get hm12 m1
 have hto13 := hB13.get hto12 hnr
 have hx13 := hx12.keep (hr12.free hB13) gx
 have hK13 := hK12.trans hB13
 have hch := z7u x 4 (some 0)
 simp only [Option.bind_some, intsR, hn1, hn2, hn3, hn4] at hch
 obtain ⟨MX, hMX⟩ : ∃ M, z46 x N4.2 = M := ⟨_, rfl⟩
 have hread : z1p x = MX.bind fun bl => (z1k x bl.2).bind fun t => if t.2 = x.length then some ⟨unzz N1.1, unzz N2.1, unzz N3.1, unzz N4.1, bl.1, t.1⟩ else none := by
  rw [← hMX]
  unfold z1p z46
  rw [hch]
  cases N4.2 with
  | none => rfl
  | some a =>
   simp only [Option.map_some, Option.bind_some, List.getD_cons_zero, List.getD_cons_succ]
   cases vgetM x a with
   | none => rfl
   | some q =>
    simp only [Option.bind_some]
    split <;> rfl
 rw [hread] at hRES
 generalize hU : z10 x 900 N4.2 = U at *
 obtain ⟨c, p1⟩ := U
 obtain ⟨hT1, hT2, hc9⟩ := zee hU
 rw [hMX] at hT1 hT2
 simp only at hr13
 clear hn1 hn2 hn3 hn4 hch hMX hU hread
 simp [go_sem]
 refine ⟨fun E' st' => But1 r st st' ∧ E' 2 = ptr to ∧ E' 4 = .slice vb x.length vc ∧ E' 7 = ptr r ∧ E' 8 = ptr tm ∧ E' 9 = Val.i c ∧ st' to = some (.cells true [Val.i 0, Val.i 0, Val.i 0, Val.i 0, .slice none 0 0, .slice none 0 0] 6 (.own to 0 93)) ∧ Reg st' (.ty 0) 1 (.slice vb x.length vc) (bytesV x) x.length ∧ ∃ (i : Nat) (l : List MetaD) (mv : Value) (ys : List Value) (p : Option Int), E' 10 = Val.i i ∧ i ≤ c ∧ st' tm = some (.cells true [Val.i (unzz N1.1), Val.i (unzz N2.1), Val.i (unzz N3.1), Val.i (unzz N4.1), mv, .slice none 0 0] 6 (.own tm 0 100)) ∧ Vec st' (.ty 1) 7 mv ys i ∧ Fresh (without r st) mv ∧ RefAt st' r (.slice vb x.length vc) p ∧ (∀ a, p = some a → l.length = i ∧ z2n ys l ∧ (z0u x (c - i) a).map (fun q => (l ++ q.1, q.2)) = MX) ∧ (p = none → MX = none),
  fun E _ => match E 10 with | .int _ i => c - i.toNat | _ => 0, ⟨st13, .rfl' _, hK13, by simp [go_sem], by simp [go_sem], by simp [go_sem], by simp [go_sem], by simp [go_sem], hto13, hx13, 0, [], .slice none 0 0, [], p1, by simp [go_sem], by omega, hm13, Vec.nil, Fresh.none, hr13, fun a h => ⟨rfl, fun i y hi => by simp at hi, by rw [Nat.sub_zero, hT1 a h]; cases MX <;> simp⟩, fun h => (hT2 h).1⟩, ?_⟩
 clear hK6 hK8 hK10 hK12 hK13 hm4 hm5 hm6 hm7 hm8 hm9 hm10 hm11 hm12 hm13 hto4 hto5 hto6 hto7 hto8 hto9 hto10 hto11 hto12 hto13 hx4 hx5 hx6 hx7 hx8 hx9 hx10 hx11 hx12 hx13 hr4 hr5 hr6 hr7 hr8 hr9 hr10 hr11 hr12 hr13 hB5 hB7 hB9 hB11 hB13 hT1 hT2
 rintro E st14 ⟨hk14, e2, e4, e7, e8, e9, hto14, hx14, i, l, mv, ys, p, e10, hi, hm14, hV14, hF14, hr14, hX1, hX2⟩
 obtain ⟨a14, bad14, hr14', hp14⟩ := hr14.cell
 unfold refC at hr14'
 by_cases hgo : i < c ∧ bad14 = false
 rotate_left
 ·have hcond : (i < c) = False ∨ (i < c) = True ∧ bad14 = true := by
   by_cases h : i < c
   ·right
    refine ⟨eq_true h, ?_⟩
    cases hb : bad14 with
    | true => rfl
    | false => exact absurd ⟨h, hb⟩ hgo
   ·exact .inl (eq_false h)
  have hMXp : MX = none ∧ p = none ∨ ∃ a, p = some a ∧ MX = some (l, a) ∧ l.length = i ∧ z2n ys l := by
   cases p with
   | none => exact .inl ⟨hX2 rfl, rfl⟩
   | some a =>
    right
    refine ⟨a, rfl, ?_⟩
    obtain ⟨h1, h2, h3⟩ := hX1 a rfl
    have hic : i = c := by
     rcases hcond with h | ⟨_, h⟩
     ·have := of_eq_false h
      omega
     ·rw [h] at hp14
      simp at hp14
    rw [hic, Nat.sub_self] at h3
    simp [z0u] at h3
    exact ⟨h3.symm, h1, h2⟩
  have key : z00 Tryz.prog W0 193 #[ptr r] st14 (TGetR st14 r (.slice vb x.length vc) (p.bind (z1k x))) := zf1 hr14 hx14 gx hxl'
  obtain ⟨mb, mc, rfl⟩ := hV14.slice
  have hq0 : ((i : Int) < c) = (i < c) := by simp
  rcases hcond with q0 | ⟨q0, rfl⟩
  all_goals
   rw [q0] at hq0
   simp [go_sem, e2, e4, e7, e8, e9, e10, hq0, q0, hr14']
   refine key.mono ?_
   rintro e st15 ⟨hB15, hR15⟩
   have hto15 := hB15.get hto14 hnr
   have hm15 := hB15.get hm14 m1
   have hk15 := hk14.trans hB15
   rcases hMXp with ⟨hM0, rfl⟩ | ⟨a, rfl, hM0, hll, hMA⟩
   ·simp only [Option.bind_none] at hR15
    obtain ⟨rfl, a15, hr15⟩ := hR15
    unfold refC at hr15
    have hn : RES = none := by rw [← hRES, hM0]; rfl
    simp [go_sem, e2, e4, e7, e8, hm15, hr15, hto15, m1, Ne.symm m1, m2, Ne.symm m2]
    refine z0l ?_
    simp [go_sem, e2]
    exact fail ((hk15.putNew m3).new hrs) hn
   simp only [Option.bind_some] at hR15
   cases ht : z1k x a with
   | none =>
    rw [ht] at hR15
    obtain ⟨rfl, a15, hr15⟩ := hR15
    unfold refC at hr15
    have hn : RES = none := by rw [← hRES, hM0]; simp [ht]
    simp [go_sem, e2, e4, e7, e8, hm15, hr15, hto15, m1, Ne.symm m1, m2, Ne.symm m2]
    refine z0l ?_
    simp [go_sem, e2]
    exact fail ((hk15.putNew m3).new hrs) hn
   | some y =>
   obtain ⟨tl, a'⟩ := y
   rw [ht] at hR15
   obtain ⟨tv, ts, rfl, htV, htA, hr15⟩ := hR15
   change st15 r = some (refC _ a' false r) at hr15
   unfold refC at hr15
   obtain ⟨tb, tc, rfl⟩ := htV.slice
   have hc16 := upd_same st15 tm (.cells true [Val.i (unzz N1.1), Val.i (unzz N2.1), Val.i (unzz N3.1), Val.i (unzz N4.1), .slice mb i mc, .slice tb tl.length tc] 6 (.own tm 0 100))
   have hr16 := (upd_ne st15 (.cells true [Val.i (unzz N1.1), Val.i (unzz N2.1), Val.i (unzz N3.1), Val.i (unzz N4.1), .slice mb i mc, .slice tb tl.length tc] 6 (.own tm 0 100)) (Ne.symm m1)).trans hr15
   have hto16 := (upd_ne st15 (.cells true [Val.i (unzz N1.1), Val.i (unzz N2.1), Val.i (unzz N3.1), Val.i (unzz N4.1), .slice mb i mc, .slice tb tl.length tc] 6 (.own tm 0 100)) (Ne.symm m2)).trans hto15
   have kf16 := ((hr14.free hB15)).trans (z17 (o := .cells true [Val.i (unzz N1.1), Val.i (unzz N2.1), Val.i (unzz N3.1), Val.i (unzz N4.1), .slice mb i mc, .slice tb tl.length tc] 6 (.own tm 0 100)) hm15)
   have hB16 := But1.put (o := .cells true [Val.i (unzz N1.1), Val.i (unzz N2.1), Val.i (unzz N3.1), Val.i (unzz N4.1), .slice mb i mc, .slice tb tl.length tc] 6 (.own tm 0 100)) (But1.refl tm st15)
   have hk16 := hk15.putNew (o := .cells true [Val.i (unzz N1.1), Val.i (unzz N2.1), Val.i (unzz N3.1), Val.i (unzz N4.1), .slice mb i mc, .slice tb tl.length tc] 6 (.own tm 0 100)) m3
   rw [hM0] at hRES
   simp only [Option.bind_some, ht] at hRES
   by_cases ha' : a' = x.length
   rotate_left
   ·rw [if_neg ha'] at hRES
    have q := eq_false ha'
    simp [go_sem, e2, e4, e7, e8, hm15, hr15, hto15, m1, Ne.symm m1, m2, Ne.symm m2, q]
    refine z0l ?_
    simp [go_sem, e2]
    exact fail ((hk15.putNew m3).new hrs) hRES.symm
   rw [if_pos ha'] at hRES
   have q := eq_true ha'
   simp [go_sem, e2, e4, e7, e8, hm15, hr15, hto15, m1, Ne.symm m1, m2, Ne.symm m2, q]
   generalize upd st15 tm _ = st16 at *
   have hA16 : ManAt st16 [Val.i (unzz N1.1), Val.i (unzz N2.1), Val.i (unzz N3.1), Val.i (unzz N4.1), .slice mb i mc, .slice tb tl.length tc] ⟨unzz N1.1, unzz N2.1, unzz N3.1, unzz N4.1, l, tl⟩ :=
    ⟨_, _, ys, ts, rfl, hll ▸ (hV14.keep kf16 Free.ty).reg.toF Free.ty, hMA, htV.but hB16 hm15, fun j z hz => (htA j z hz).mono fun _ _ _ _ hx => hx.but hB16 hm15⟩
   refine (zbm (tombs_nice ht) hA16).mono ?_
   rintro e st17 ⟨rfl, hN17⟩
   have hc17 := hN17 _ _ hc16
   have hto17 := hN17 _ _ hto16
   have hk17 := hk16.trans (hN17.but r)
   simp only [Option.bind_some] at hRES
   cases hmm : manM ⟨unzz N1.1, unzz N2.1, unzz N3.1, unzz N4.1, l, tl⟩ with
   | false =>
    rw [hmm] at hRES
    simp at hRES
    simp [go_sem, e2, e4, e7, e8, hto17]
    refine z0l ?_
    simp [go_sem, e2]
    exact fail (hk17.new hrs) hRES.symm
   | true =>
    rw [hmm] at hRES
    simp at hRES
    simp [go_sem, e2, e4, e7, e8, hto17, hc17]
    refine z0l ?_
    simp [go_sem, e2]
    rw [← hRES]
    have hA17 := hA16.new hN17
    have hB18 := But1.put (o := .cells true [Val.i (unzz N1.1), Val.i (unzz N2.1), Val.i (unzz N3.1), Val.i (unzz N4.1), .slice mb i mc, .slice tb tl.length tc] 6 (.own to 0 93)) (But1.refl to st17)
    exact ⟨(hk17.new hrs).put hto, _, rfl, hA17.mono fun _ _ _ _ hx => hx.but hB18 hto17⟩
 obtain ⟨hlt, rfl⟩ := hgo
 simp only [Bool.false_eq_true, if_false] at hp14
 subst hp14
 have hlt' : ((i : Int) < c) = True := eq_true (by omega)
 obtain ⟨hll, hMA, hx⟩ := hX1 a14 rfl
 have hwi := wrS i (by omega)
 obtain ⟨q, hq⟩ : ∃ q, c - i = q + 1 := ⟨c - i - 1, by omega⟩
 rw [hq] at hx
 unfold z0u at hx
 obtain ⟨mb, mc, rfl⟩ := hV14.slice
 simp [go_sem, e2, e4, e7, e8, e9, e10, hlt', hlt, hr14']
 unfold NewP
 intro tk htk
 refine ⟨.own tk 0 101, ?_⟩
 simp [go_sem, e2, e4, e7, e8, e9, e10]
 have k1 : tk ≠ r := Ne.symm (ne_of_new hr14' htk)
 have k2 : tk ≠ tm := Ne.symm (ne_of_new hm14 htk)
 have k3 : tk ≠ to := Ne.symm (ne_of_new hto14 htk)
 have k4 : st tk = none := by
  cases hz : st tk with
  | none => rfl
  | some o => have := hk14 _ _ k1 hz; rw [htk] at this; cases this
 have hc15 := upd_same st14 tk (.cells true [Val.i 0, Val.i 0, Val.i 0, Val.i 0, Val.i 0, Val.i 0, Val.i 0] 7 (.own tk 0 101))
 have hr15 : RefAt (upd st14 tk (.cells true [Val.i 0, Val.i 0, Val.i 0, Val.i 0, Val.i 0, Val.i 0, Val.i 0] 7 (.own tk 0 101))) r (.slice vb x.length vc) (some a14) := RefAt.upd (p := some a14) hr14 k1
 have hN15 := (New.refl st14).add (b := tk) (o := (.cells true [Val.i 0, Val.i 0, Val.i 0, Val.i 0, Val.i 0, Val.i 0, Val.i 0] 7 (.own tk 0 101))) htk
 generalize upd st14 tk (.cells true [Val.i 0, Val.i 0, Val.i 0, Val.i 0, Val.i 0, Val.i 0, Val.i 0] 7 (.own tk 0 101)) = st15 at *
 have hto15 := hN15 _ _ hto14
 have hm15 := hN15 _ _ hm14
 have hx15 := hx14.new hN15
 have kf15 : Keep Free st14 st15 := hN15.to _
 have hk15 := hk14.trans (hN15.but r)
 refine (z22 hr15 hx15 gx hxl').mono ?_
 rintro e st16 ⟨hB16, rfl, hr16⟩
 have hc16 := hB16.get hc15 k1
 have hto16 := hB16.get hto15 hnr
 have hm16 := hB16.get hm15 m1
 have hx16 := hx15.keep (hr15.free hB16) gx
 have kf16 := kf15.trans (hr15.free hB16)
 have hk16 := hk15.trans hB16
 simp [go_sem, e2, e4, e7, e8, e9, e10, hc16]
 generalize hq1 : numR x (some a14) = Q1 at *
 have hc17 := upd_same st16 tk (.cells true [Val.i (unzz Q1.1), Val.i 0, Val.i 0, Val.i 0, Val.i 0, Val.i 0, Val.i 0] 7 (.own tk 0 101))
 have hto17 := (upd_ne st16 (.cells true [Val.i (unzz Q1.1), Val.i 0, Val.i 0, Val.i 0, Val.i 0, Val.i 0, Val.i 0] 7 (.own tk 0 101)) (Ne.symm k3)).trans hto16
 have hm17 := (upd_ne st16 (.cells true [Val.i (unzz Q1.1), Val.i 0, Val.i 0, Val.i 0, Val.i 0, Val.i 0, Val.i 0] 7 (.own tk 0 101)) (Ne.symm k2)).trans hm16
 have hx17 := hx16.keep (z17 (o := (.cells true [Val.i (unzz Q1.1), Val.i 0, Val.i 0, Val.i 0, Val.i 0, Val.i 0, Val.i 0] 7 (.own tk 0 101))) hc16) gx
 have kf17 := kf16.trans (z17 (o := (.cells true [Val.i (unzz Q1.1), Val.i 0, Val.i 0, Val.i 0, Val.i 0, Val.i 0, Val.i 0] 7 (.own tk 0 101))) hc16)
 have hr17 := hr16.upd (b := tk) (o := (.cells true [Val.i (unzz Q1.1), Val.i 0, Val.i 0, Val.i 0, Val.i 0, Val.i 0, Val.i 0] 7 (.own tk 0 101))) k1
 have hk17 := hk16.putNew (o := (.cells true [Val.i (unzz Q1.1), Val.i 0, Val.i 0, Val.i 0, Val.i 0, Val.i 0, Val.i 0] 7 (.own tk 0 101))) k4
 generalize upd st16 tk (.cells true [Val.i (unzz Q1.1), Val.i 0, Val.i 0, Val.i 0, Val.i 0, Val.i 0, Val.i 0] 7 (.own tk 0 101)) = st17 at *
 refine (z22 hr17 hx17 gx hxl').mono ?_
 rintro e st18 ⟨hB18, rfl, hr18⟩
 have hc18 := hB18.get hc17 k1
 have hto18 := hB18.get hto17 hnr
 have hm18 := hB18.get hm17 m1
 have hx18 := hx17.keep (hr17.free hB18) gx
 have kf18 := kf17.trans (hr17.free hB18)
 have hk18 := hk17.trans hB18
 simp [go_sem, e2, e4, e7, e8, e9, e10, hc18]
 generalize hq2 : numR x Q1.2 = Q2 at *
 have hc19 := upd_same st18 tk (.cells true [Val.i (unzz Q1.1), Val.i (unzz Q2.1), Val.i 0, Val.i 0, Val.i 0, Val.i 0, Val.i 0] 7 (.own tk 0 101))
 have hto19 := (upd_ne st18 (.cells true [Val.i (unzz Q1.1), Val.i (unzz Q2.1), Val.i 0, Val.i 0, Val.i 0, Val.i 0, Val.i 0] 7 (.own tk 0 101)) (Ne.symm k3)).trans hto18
 have hm19 := (upd_ne st18 (.cells true [Val.i (unzz Q1.1), Val.i (unzz Q2.1), Val.i 0, Val.i 0, Val.i 0, Val.i 0, Val.i 0] 7 (.own tk 0 101)) (Ne.symm k2)).trans hm18
 have hx19 := hx18.keep (z17 (o := (.cells true [Val.i (unzz Q1.1), Val.i (unzz Q2.1), Val.i 0, Val.i 0, Val.i 0, Val.i 0, Val.i 0] 7 (.own tk 0 101))) hc18) gx
 have kf19 := kf18.trans (z17 (o := (.cells true [Val.i (unzz Q1.1), Val.i (unzz Q2.1), Val.i 0, Val.i 0, Val.i 0, Val.i 0, Val.i 0] 7 (.own tk 0 101))) hc18)
 have hr19 := hr18.upd (b := tk) (o := (.cells true [Val.i (unzz Q1.1), Val.i (unzz Q2.1), Val.i 0, Val.i 0, Val.i 0, Val.i 0, Val.i 0] 7 (.own tk 0 101))) k1
 have hk19 := hk18.putNew (o := (.cells true [Val.i (unzz Q1.1), Val.i (unzz Q2.1), Val.i 0, Val.i 0, Val.i 0, Val.i 0, Val.i 0] 7 (.own tk 0 101))) k4
 generalize upd st18 tk (.cells true [Val.i (unzz Q1.1), Val.i (unzz Q2.1), Val.i 0, Val.i 0, Val.i 0, Val.i 0, Val.i 0] 7 (.own tk 0 101)) = st19 at *
 refine (z22 hr19 hx19 gx hxl').mono ?_
 rintro e st20 ⟨hB20, rfl, hr20⟩
 have hc20 := hB20.get hc19 k1
 have hto20 := hB20.get hto19 hnr
 have hm20 := hB20.get hm19 m1
 have hx20 := hx19.keep (hr19.free hB20) gx
 have kf20 := kf19.trans (hr19.free hB20)
 have hk20 := hk19.trans hB20
 simp [go_sem, e2, e4, e7, e8, e9, e10, hc20]
 generalize hq3 : numR x Q2.2 = Q3 at *
 have hc21 := upd_same st20 tk (.cells true [Val.i (unzz Q1.1), Val.i (unzz Q2.1), Val.i (unzz Q3.1), Val.i 0, Val.i 0, Val.i 0, Val.i 0] 7 (.own tk 0 101))
 have hto21 := (upd_ne st20 (.cells true [Val.i (unzz Q1.1), Val.i (unzz Q2.1), Val.i (unzz Q3.1), Val.i 0, Val.i 0, Val.i 0, Val.i 0] 7 (.own tk 0 101)) (Ne.symm k3)).trans hto20
 have hm21 := (upd_ne st20 (.cells true [Val.i (unzz Q1.1), Val.i (unzz Q2.1), Val.i (unzz Q3.1), Val.i 0, Val.i 0, Val.i 0, Val.i 0] 7 (.own tk 0 101)) (Ne.symm k2)).trans hm20
 have hx21 := hx20.keep (z17 (o := (.cells true [Val.i (unzz Q1.1), Val.i (unzz Q2.1), Val.i (unzz Q3.1), Val.i 0, Val.i 0, Val.i 0, Val.i 0] 7 (.own tk 0 101))) hc20) gx
 have kf21 := kf20.trans (z17 (o := (.cells true [Val.i (unzz Q1.1), Val.i (unzz Q2.1), Val.i (unzz Q3.1), Val.i 0, Val.i 0, Val.i 0, Val.i 0] 7 (.own tk 0 101))) hc20)
 have hr21 := hr20.upd (b := tk) (o := (.cells true [Val.i (unzz Q1.1), Val.i (unzz Q2.1), Val.i (unzz Q3.1), Val.i 0, Val.i 0, Val.i 0, Val.i 0] 7 (.own tk 0 101))) k1
 have hk21 := hk20.putNew (o := (.cells true [Val.i (unzz Q1.1), Val.i (unzz Q2.1), Val.i (unzz Q3.1), Val.i 0, Val.i 0, Val.i 0, Val.i 0] 7 (.own tk 0 101))) k4
 generalize upd st20 tk (.cells true [Val.i (unzz Q1.1), Val.i (unzz Q2.1), Val.i (unzz Q3.1), Val.i 0, Val.i 0, Val.i 0, Val.i 0] 7 (.own tk 0 101)) = st21 at *
 refine (z22 hr21 hx21 gx hxl').mono ?_
 rintro e st22 ⟨hB22, rfl, hr22⟩
 have hc22 := hB22.get hc21 k1
 have hto22 := hB22.get hto21 hnr
 have hm22 := hB22.get hm21 m1
 have hx22 := hx21.keep (hr21.free hB22) gx
 have kf22 := kf21.trans (hr21.free hB22)
 have hk22 := hk21.trans hB22
 simp [go_sem, e2, e4, e7, e8, e9, e10, hc22]
 generalize hq4 : numR x Q3.2 = Q4 at *
 have hc23 := upd_same st22 tk (.cells true [Val.i (unzz Q1.1), Val.i (unzz Q2.1), Val.i (unzz Q3.1), Val.i (unzz Q4.1), Val.i 0, Val.i 0, Val.i 0] 7 (.own tk 0 101))
 have hto23 := (upd_ne st22 (.cells true [Val.i (unzz Q1.1), Val.i (unzz Q2.1), Val.i (unzz Q3.1), Val.i (unzz Q4.1), Val.i 0, Val.i 0, Val.i 0] 7 (.own tk 0 101)) (Ne.symm k3)).trans hto22
 have hm23 := (upd_ne st22 (.cells true [Val.i (unzz Q1.1), Val.i (unzz Q2.1), Val.i (unzz Q3.1), Val.i (unzz Q4.1), Val.i 0, Val.i 0, Val.i 0] 7 (.own tk 0 101)) (Ne.symm k2)).trans hm22
 have hx23 := hx22.keep (z17 (o := (.cells true [Val.i (unzz Q1.1), Val.i (unzz Q2.1), Val.i (unzz Q3.1), Val.i (unzz Q4.1), Val.i 0, Val.i 0, Val.i 0] 7 (.own tk 0 101))) hc22) gx
 have kf23 := kf22.trans (z17 (o := (.cells true [Val.i (unzz Q1.1), Val.i (unzz Q2.1), Val.i (unzz Q3.1), Val.i (unzz Q4.1), Val.i 0, Val.i 0, Val.i 0] 7 (.own tk 0 101))) hc22)
 have hr23 := hr22.upd (b := tk) (o := (.cells true [Val.i (unzz Q1.1), Val.i (unzz Q2.1), Val.i (unzz Q3.1), Val.i (unzz Q4.1), Val.i 0, Val.i 0, Val.i 0] 7 (.own tk 0 101))) k1
 have hk23 := hk22.putNew (o := (.cells true [Val.i (unzz Q1.1), Val.i (unzz Q2.1), Val.i (unzz Q3.1), Val.i (unzz Q4.1), Val.i 0, Val.i 0, Val.i 0] 7 (.own tk 0 101))) k4
 generalize upd st22 tk (.cells true [Val.i (unzz Q1.1), Val.i (unzz Q2.1), Val.i (unzz Q3.1), Val.i (unzz Q4.1), Val.i 0, Val.i 0, Val.i 0] 7 (.own tk 0 101)) = st23 at *
 refine (z22 hr23 hx23 gx hxl').mono ?_
 rintro e st24 ⟨hB24, rfl, hr24⟩
 have hc24 := hB24.get hc23 k1
 have hto24 := hB24.get hto23 hnr
 have hm24 := hB24.get hm23 m1
 have hx24 := hx23.keep (hr23.free hB24) gx
 have kf24 := kf23.trans (hr23.free hB24)
 have hk24 := hk23.trans hB24
 simp [go_sem, e2, e4, e7, e8, e9, e10, hc24]
 generalize hq5 : numR x Q4.2 = Q5 at *
 have hc25 := upd_same st24 tk (.cells true [Val.i (unzz Q1.1), Val.i (unzz Q2.1), Val.i (unzz Q3.1), Val.i (unzz Q4.1), Val.i (unzz Q5.1), Val.i 0, Val.i 0] 7 (.own tk 0 101))
 have hto25 := (upd_ne st24 (.cells true [Val.i (unzz Q1.1), Val.i (unzz Q2.1), Val.i (unzz Q3.1), Val.i (unzz Q4.1), Val.i (unzz Q5.1), Val.i 0, Val.i 0] 7 (.own tk 0 101)) (Ne.symm k3)).trans hto24
 have hm25 := (upd_ne st24 (.cells true [Val.i (unzz Q1.1), Val.i (unzz Q2.1), Val.i (unzz Q3.1), Val.i (unzz Q4.1), Val.i (unzz Q5.1), Val.i 0, Val.i 0] 7 (.own tk 0 101)) (Ne.symm k2)).trans hm24
 have hx25 := hx24.keep (z17 (o := (.cells true [Val.i (unzz Q1.1), Val.i (unzz Q2.1), Val.i (unzz Q3.1), Val.i (unzz Q4.1), Val.i (unzz Q5.1), Val.i 0, Val.i 0] 7 (.own tk 0 101))) hc24) gx
 have kf25 := kf24.trans (z17 (o := (.cells true [Val.i (unzz Q1.1), Val.i (unzz Q2.1), Val.i (unzz Q3.1), Val.i (unzz Q4.1), Val.i (unzz Q5.1), Val.i 0, Val.i 0] 7 (.own tk 0 101))) hc24)
 have hr25 := hr24.upd (b := tk) (o := (.cells true [Val.i (unzz Q1.1), Val.i (unzz Q2.1), Val.i (unzz Q3.1), Val.i (unzz Q4.1), Val.i (unzz Q5.1), Val.i 0, Val.i 0] 7 (.own tk 0 101))) k1
 have hk25 := hk24.putNew (o := (.cells true [Val.i (unzz Q1.1), Val.i (unzz Q2.1), Val.i (unzz Q3.1), Val.i (unzz Q4.1), Val.i (unzz Q5.1), Val.i 0, Val.i 0] 7 (.own tk 0 101))) k4
 generalize upd st24 tk (.cells true [Val.i (unzz Q1.1), Val.i (unzz Q2.1), Val.i (unzz Q3.1), Val.i (unzz Q4.1), Val.i (unzz Q5.1), Val.i 0, Val.i 0] 7 (.own tk 0 101)) = st25 at *
 refine (z22 hr25 hx25 gx hxl').mono ?_
 rintro e st26 ⟨hB26, rfl, hr26⟩
 have hc26 := hB26.get hc25 k1
 have hto26 := hB26.get hto25 hnr
 have hm26 := hB26.get hm25 m1
 have hx26 := hx25.keep (hr25.free hB26) gx
 have kf26 := kf25.trans (hr25.free hB26)
 have hk26 := hk25.trans hB26
 simp [go_sem, e2, e4, e7, e8, e9, e10, hc26]
 generalize hq6 : numR x Q5.2 = Q6 at *
 have hc27 := upd_same st26 tk (.cells true [Val.i (unzz Q1.1), Val.i (unzz Q2.1), Val.i (unzz Q3.1), Val.i (unzz Q4.1), Val.i (unzz Q5.1), Val.i (unzz Q6.1), Val.i 0] 7 (.own tk 0 101))
 have hto27 := (upd_ne st26 (.cells true [Val.i (unzz Q1.1), Val.i (unzz Q2.1), Val.i (unzz Q3.1), Val.i (unzz Q4.1), Val.i (unzz Q5.1), Val.i (unzz Q6.1), Val.i 0] 7 (.own tk 0 101)) (Ne.symm k3)).trans hto26
 have hm27 := (upd_ne st26 (.cells true [Val.i (unzz Q1.1), Val.i (unzz Q2.1), Val.i (unzz Q3.1), Val.i (unzz Q4.1), Val.i (unzz Q5.1), Val.i (unzz Q6.1), Val.i 0] 7 (.own tk 0 101)) (Ne.symm k2)).trans hm26
 have hx27 := hx26.keep (z17 (o := (.cells true [Val.i (unzz Q1.1), Val.i (unzz Q2.1), Val.i (unzz Q3.1), Val.i (unzz Q4.1), Val.i (unzz Q5.1), Val.i (unzz Q6.1), Val.i 0] 7 (.own tk 0 101))) hc26) gx
 have kf27 := kf26.trans (z17 (o := (.cells true [Val.i (unzz Q1.1), Val.i (unzz Q2.1), Val.i (unzz Q3.1), Val.i (unzz Q4.1), Val.i (unzz Q5.1), Val.i (unzz Q6.1), Val.i 0] 7 (.own tk 0 101))) hc26)
 have hr27 := hr26.upd (b := tk) (o := (.cells true [Val.i (unzz Q1.1), Val.i (unzz Q2.1), Val.i (unzz Q3.1), Val.i (unzz Q4.1), Val.i (unzz Q5.1), Val.i (unzz Q6.1), Val.i 0] 7 (.own tk 0 101))) k1
 have hk27 := hk26.putNew (o := (.cells true [Val.i (unzz Q1.1), Val.i (unzz Q2.1), Val.i (unzz Q3.1), Val.i (unzz Q4.1), Val.i (unzz Q5.1), Val.i (unzz Q6.1), Val.i 0] 7 (.own tk 0 101))) k4
 generalize upd st26 tk (.cells true [Val.i (unzz Q1.1), Val.i (unzz Q2.1), Val.i (unzz Q3.1), Val.i (unzz Q4.1), Val.i (unzz Q5.1), Val.i (unzz Q6.1), Val.i 0] 7 (.own tk 0 101)) = st27 at *
 refine (z22 hr27 hx27 gx hxl').mono ?_
 rintro e st28 ⟨hB28, rfl, hr28⟩
 have hc28 := hB28.get hc27 k1
 have hto28 := hB28.get hto27 hnr
 have hm28 := hB28.get hm27 m1
 have hx28 := hx27.keep (hr27.free hB28) gx
 have kf28 := kf27.trans (hr27.free hB28)
 have hk28 := hk27.trans hB28
 simp [go_sem, e2, e4, e7, e8, e9, e10, hc28]
 generalize hq7 : numR x Q6.2 = Q7 at *
 have hc29 := upd_same st28 tk (.cells true [Val.i (unzz Q1.1), Val.i (unzz Q2.1), Val.i (unzz Q3.1), Val.i (unzz Q4.1), Val.i (unzz Q5.1), Val.i (unzz Q6.1), Val.i (unzz Q7.1)] 7 (.own tk 0 101))
 have hto29 := (upd_ne st28 (.cells true [Val.i (unzz Q1.1), Val.i (unzz Q2.1), Val.i (unzz Q3.1), Val.i (unzz Q4.1), Val.i (unzz Q5.1), Val.i (unzz Q6.1), Val.i (unzz Q7.1)] 7 (.own tk 0 101)) (Ne.symm k3)).trans hto28
 have hm29 := (upd_ne st28 (.cells true [Val.i (unzz Q1.1), Val.i (unzz Q2.1), Val.i (unzz Q3.1), Val.i (unzz Q4.1), Val.i (unzz Q5.1), Val.i (unzz Q6.1), Val.i (unzz Q7.1)] 7 (.own tk 0 101)) (Ne.symm k2)).trans hm28
 have hx29 := hx28.keep (z17 (o := (.cells true [Val.i (unzz Q1.1), Val.i (unzz Q2.1), Val.i (unzz Q3.1), Val.i (unzz Q4.1), Val.i (unzz Q5.1), Val.i (unzz Q6.1), Val.i (unzz Q7.1)] 7 (.own tk 0 101))) hc28) gx
 have kf29 := kf28.trans (z17 (o := (.cells true [Val.i (unzz Q1.1), Val.i (unzz Q2.1), Val.i (unzz Q3.1), Val.i (unzz Q4.1), Val.i (unzz Q5.1), Val.i (unzz Q6.1), Val.i (unzz Q7.1)] 7 (.own tk 0 101))) hc28)
 have hr29 := hr28.upd (b := tk) (o := (.cells true [Val.i (unzz Q1.1), Val.i (unzz Q2.1), Val.i (unzz Q3.1), Val.i (unzz Q4.1), Val.i (unzz Q5.1), Val.i (unzz Q6.1), Val.i (unzz Q7.1)] 7 (.own tk 0 101))) k1
 have hk29 := hk28.putNew (o := (.cells true [Val.i (unzz Q1.1), Val.i (unzz Q2.1), Val.i (unzz Q3.1), Val.i (unzz Q4.1), Val.i (unzz Q5.1), Val.i (unzz Q6.1), Val.i (unzz Q7.1)] 7 (.own tk 0 101))) k4
 generalize upd st28 tk (.cells true [Val.i (unzz Q1.1), Val.i (unzz Q2.1), Val.i (unzz Q3.1), Val.i (unzz Q4.1), Val.i (unzz Q5.1), Val.i (unzz Q6.1), Val.i (unzz Q7.1)] 7 (.own tk 0 101)) = st29 at *
 have hch := z7u x 7 (some a14)
 simp only [Option.bind_some, intsR, hq1, hq2, hq3, hq4, hq5, hq6, hq7] at hch
 rw [hch] at hx
 simp [go_sem, e2, e4, e7, e8, e9, e10, hc29, hm29]
 unfold NewS
 intro nb hnb
 refine ⟨.own nb 0 102, ?_⟩
 simp [go_sem]
 have hNn := (New.refl st29).add (b := nb) (o := .cells true [Val.i (unzz Q1.1), Val.i (unzz Q2.1), Val.i (unzz Q3.1), Val.i (unzz Q4.1), Val.i (unzz Q5.1), Val.i (unzz Q6.1), Val.i (unzz Q7.1)] 7 (.own nb 0 102)) hnb
 have hVn := hV14.keep kf29 Free.ty
 refine AppI_new (st0 := without r st) (g := .ty 1) (m := 1) (ys := [Val.i (unzz Q1.1), Val.i (unzz Q2.1), Val.i (unzz Q3.1), Val.i (unzz Q4.1), Val.i (unzz Q5.1), Val.i (unzz Q6.1), Val.i (unzz Q7.1)]) si74 (hVn.new' hNn) hF14 (z2y.2 (hk29.trans (hNn.but r))) ?_ ?_ (by omega) ?_
 ·simp [z06, z0i, upd_same, cellsOf]
 ·intro y hy
  simp at hy
  rcases hy with rfl | rfl | rfl | rfl | rfl | rfl | rfl <;> rfl
 intro base cap stz hVz hFz hNz hEz
 have hkz := z2y.1 hNz
 have hmz := hEz.keep _ _ (hNn _ _ hm29) (by simp [HObj.tag])
 have htoz := hEz.keep _ _ (hNn _ _ hto29) (by simp [HObj.tag])
 have hxz := (hx29.new hNn).of_ext fun k w zs' n' hs => ⟨[], by simpa using hEz.keep _ _ hs (by simp [HObj.tag])⟩
 have hrz := hr29.mv fun o ho ht => hEz.keep _ _ (hNn _ _ ho) (by rw [ht]; simp)
 simp [go_sem, e2, e4, e7, e8, e9, e10, hmz, hwi]
 have hBz := But1.put (o := .cells true [Val.i (unzz N1.1), Val.i (unzz N2.1), Val.i (unzz N3.1), Val.i (unzz N4.1), .slice base (i + 1) cap, .slice none 0 0] 6 (.own tm 0 100)) (But1.refl tm stz)
 refine ⟨_, .rfl' _, ⟨hkz.putNew m3, by rw [upd_ne _ _ (Ne.symm m2)]; exact htoz, hxz.but gx hBz hmz, i + 1, by omega, by omega, l ++ [metaL [unzz Q1.1, unzz Q2.1, unzz Q3.1, unzz Q4.1, unzz Q5.1, unzz Q6.1, unzz Q7.1]], _, upd_same _ _ _, _, hVz.but hBz hmz, hFz, Q7.2, hrz.upd m1, fun a h => ?_, fun h => ?_⟩, by omega⟩
 ·rw [h] at hx
  simp only [Option.map_some, Option.bind_some] at hx
  refine ⟨by simp [hll], z2n.append (by rw [hV14.1, hll]) hMA rfl, ?_⟩
  rw [← hx, show c - (i + 1) = q by omega]
  cases z0u x q a <;> simp
 ·rw [h] at hx
  rw [← hx]
  rfl
end
def zeroD : ManD := ⟨0, 0, 0, 0, [], []⟩
def manOf (R : Option ManD) : ManD := R.getD zeroD
theorem zeroAt (st : Heap) : ManAt st z34 zeroD := ⟨.slice none 0 0, .slice none 0 0, [], [], rfl, RegF.nil, by intro i x hi; simp [zeroD] at hi, RegF.nil, by intro i x hi; simp [zeroD] at hi⟩
theorem decode_nice {b : Bs} {m : ManD} (h : z1o b = some m) : (∀ t ∈ m.tombs, NiceM 12 t.m) ∧ m.blocks.length ≤ 900 ∧ m.tombs.length ≤ 64 := by
 unfold z1o at h
 split at h
 ·cases h
 split at h
 ·obtain ⟨m', h1, h2⟩ := Option.bind_eq_some_iff.1 h
  split at h2
  ·injection h2 with h2
   subst h2
   unfold z1p at h1
   obtain ⟨p, hp, h1⟩ := Option.bind_eq_some_iff.1 h1
   obtain ⟨c, hc, h1⟩ := Option.bind_eq_some_iff.1 h1
   split at h1
   ·cases h1
   obtain ⟨bl, hbl, h1⟩ := Option.bind_eq_some_iff.1 h1
   obtain ⟨t, ht, h1⟩ := Option.bind_eq_some_iff.1 h1
   split at h1
   ·injection h1 with h1
    subst h1
    have hv := z3m (n := c.1) (a' := c.2) hc
    have hl1 := (z6t hbl (Int.le_trans hv.1 hv.2.1) hv.2.2.1).1
    refine ⟨tombs_nice (l := t.1) (a' := t.2) ht, by simp only; omega, ?_⟩
    unfold z1k at ht
    obtain ⟨d, hd, ht⟩ := Option.bind_eq_some_iff.1 ht
    split at ht
    ·cases ht
    have hv2 := z3m (n := d.1) (a' := d.2) hd
    have hl2 := (z6v ht (Int.le_trans hv2.1 hv2.2.1) hv2.2.2.1).1
    simp only
    omega
   ·cases h1
  ·cases h2
 ·cases h
theorem z6g.flat {st st' : Heap} {R : Option ManD} {e : Ending} (h : z6g st R e st') : New st st' ∧ ∃ x0 x1 x2 x3 b0 l0 c0 b1 l1 c1, e = .returned (.tuple #[.agg #[Val.i x0, Val.i x1, Val.i x2, Val.i x3, .slice b0 l0 c0, .slice b1 l1 c1], Val.i (if R = none then 4 else 0)]) ∧ ManAt st' [Val.i x0, Val.i x1, Val.i x2, Val.i x3, .slice b0 l0 c0, .slice b1 l1 c1] (manOf R) := by
 obtain ⟨hk, h⟩ := h
 refine ⟨hk, ?_⟩
 cases R with
 | none => exact ⟨_, _, _, _, _, _, _, _, _, _, h, zeroAt _⟩
 | some m =>
  obtain ⟨cs, rfl, bv, tv, bs, ts, rfl, hb, hM, ht, hT⟩ := h
  obtain ⟨bb, bc, rfl⟩ := hb.slice
  obtain ⟨tb, tc, rfl⟩ := ht.slice
  exact ⟨_, _, _, _, _, _, _, _, _, _, rfl, _, _, bs, ts, rfl, hb, hM, ht, hT⟩
section
variable {W0 : World} {st : Heap}
end
end Go.Proofs.YtahgfnbkkfpcnaaGreat
