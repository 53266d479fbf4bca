/- Texts that are the same. -/
import Derived.Test.YtahgfnbkkfpcnaaGreatC09
import Derived.Test.YtahgfnbkkfpcnaaGreatC47
import Derived.Test.YtahgfnbkkfpcnaaGreatC48
import Derived.Test.YtahgfnbkkfpcnaaGreatC42
import Derived.Test.YtahgfnbkkfpcnaaGreatC39
import Derived.Test.YtahgfnbkkfpcnaaGreatC35
import Derived.Test.YtahgfnbkkfpcnaaGreatC46
set_option linter.unusedVariables false
set_option linter.unusedSimpArgs false
set_option maxRecDepth 100000
set_option maxHeartbeats 4000000
namespace Go.Proofs.YtahgfnbkkfpcnaaGreat
open Go.RowKit (Below)
section
variable {W0 : World} {st : Heap}
theorem zg4 {v w : Value} {xs : List ByteArray} (h : RegF st 1 v (xs.map .string) xs.length) (h' : RegF st 1 w (xs.map .string) xs.length) (hl : xs.length < 2 ^ 40) : z00 Tryz.prog W0 41 #[v, w] st fun e st' => e = .returned (.bool true) ∧ st' = st := by
 obtain ⟨vb, vc, rfl⟩ := h.slice
 obtain ⟨wb, wc, rfl⟩ := h'.slice
 refine enter (args := [_, _]) Tryz.func41 rfl ?_
 simp [Tryz.f41, go_sem]
 refine ⟨fun E st' => st' = st ∧ E 0 = .slice vb xs.length vc ∧ E 1 = .slice wb xs.length wc ∧ ∃ i : Nat, E 5 = Val.i i ∧ i ≤ xs.length,
  fun E _ => match E 5 with | .int _ i => xs.length - i.toNat | _ => 0, ⟨st, .rfl' _, rfl, by simp [go_sem], by simp [go_sem], 0, by simp [go_sem], by omega⟩, ?_⟩
 rintro E st' ⟨rfl, e0, e1, i, e5, hi⟩
 by_cases hlt : i < xs.length
 ·have hlt' : ((i : Int) < xs.length) = True := eq_true (by omega)
  have hwi := wrS i (by omega)
  obtain ⟨b1, o1, rfl, g1⟩ := z0h h.src (by omega)
  obtain ⟨b2, o2, rfl, g2⟩ := z0h h'.src (by omega)
  have hv : xs[i]? = some xs[i] := List.getElem?_eq_getElem hlt
  have hg1 := g1 i (by omega)
  have hg2 := g2 i (by omega)
  have hgv : (xs.map Value.string)[i]? = some (.string xs[i]) := by simp [hv]
  rw [hgv] at hg1 hg2
  simp [go_sem, e0, e1, e5, hlt', hlt]
  refine draw [0, 1, 2, 4, 5, 6, 3, 7, 8] (by kernel_rfl) ?_
  simp [go_sem, e0, e1, e5, hlt', hlt, hg1, hg2, hwi]
  exact ⟨_, .rfl' _, ⟨rfl, i + 1, by omega, by omega⟩, by omega⟩
 ·have hlt' : ((i : Int) < xs.length) = False := eq_false (by omega)
  simp [go_sem, e0, e1, e5, hlt', hlt]
end
set_option maxHeartbeats 2000000
def Files (Fs : List VFile) : Prop := (∀ (i : Nat) (F : VFile), Fs[i]? = some F → F.born = i) ∧ ∀ F ∈ Fs, F.pend = [] ∧ F.now.length ≤ 1073741824 ∧ F.sure.length ≤ 1073741824
section
variable {b : Bs} {c c' : Ctl} {k : Nat} {Fs : List VFile}
def z1 (k : Nat) (Fs : List VFile) (c : Ctl) : VFS := ⟨[(manN, k)], [(manN, k), (tmpN, Fs.length)], [⟨0, tmpN, ⟨#[]⟩, some Fs.length⟩], Fs ++ [⟨Fs.length, [], [], []⟩], c⟩
def z2 (k : Nat) (Fs : List VFile) (b : Bs) (c : Ctl) : VFS := ⟨[(manN, k)], [(manN, k), (tmpN, Fs.length)], [⟨0, tmpN, ⟨#[]⟩, some Fs.length⟩], Fs ++ [⟨Fs.length, [], [⟨false, 0, b⟩], b⟩], c⟩
def z3 (k : Nat) (Fs : List VFile) (b : Bs) (c : Ctl) : VFS := ⟨[(manN, k)], [(manN, k), (tmpN, Fs.length)], [⟨0, tmpN, ⟨#[]⟩, some Fs.length⟩], Fs ++ [⟨Fs.length, b, [], b⟩], c⟩
def z4 (k : Nat) (Fs : List VFile) (b : Bs) (c : Ctl) : VFS := ⟨[(manN, k)], [(manN, Fs.length)], [⟨0, tmpN, ⟨#[]⟩, some Fs.length⟩, ⟨1, tmpN, manN, none⟩], Fs ++ [⟨Fs.length, b, [], b⟩], c⟩
end
theorem zgw {r n a b : Nat} {st st' : Heap} {w : Bool} {xs : List Value} (h : But1 r st st') (hr : st r = some (.cells w xs n (.own r a b))) : Keep Free st st' := fun k o g hk ht hp => by
 refine h k o ?_ hk
 rintro rfl
 rw [hr] at hk
 injection hk with hk
 subst hk
 injection ht with ht
 exact hp _ _ _ ht.symm
section
variable {W0 : World} {st : Heap}
end
set_option maxHeartbeats 4000000
section
variable {W0 : World} {st : Heap}
theorem zgv {w : Nat} {G : RFS} {cs : List Value} {m : ManD} (h : RFSAt st w G) (hm : ManAt st cs m) (hN : ∀ t ∈ m.tombs, NiceM 12 t.m) (hf : z2j m) (hok : manM m = true → z80 (z0d (bodyM m)) [0, 1, 2, 3, 4] G) :
  z00 Tryz.prog W0 39 #[ptr w, .agg cs.toArray] st fun e st' => (if manM m = true then e = .returned (Val.i (z1s (z0d (bodyM m)) [0, 1, 2, 3, 4] 0 G).1) ∧ RFSAt st' w (z1s (z0d (bodyM m)) [0, 1, 2, 3, 4] 0 G).2 else e = .returned (Val.i 5) ∧ RFSAt st' w G) ∧ Keep (Out w) st st' := by
 have hm0 := hm
 obtain ⟨bv, tv, bs, ts, rfl, hb, hbs, ht, hts⟩ := hm
 obtain ⟨bb, bc, rfl⟩ := hb.slice
 obtain ⟨tb, tc, rfl⟩ := ht.slice
 refine enter (args := [_, _]) Tryz.func39 rfl ?_
 simp [Tryz.f39, go_sem]
 unfold NewP
 intro tm htm
 refine ⟨.ty 0, ?_⟩
 have hc1 := upd_same st tm (.cells true [Val.i m.seq, Val.i m.log, Val.i m.next, Val.i m.now, .slice bb m.blocks.length bc, .slice tb m.tombs.length tc] 6 (.ty 0))
 have hN1 := (New.refl st).add (b := tm) (o := .cells true [Val.i m.seq, Val.i m.log, Val.i m.next, Val.i m.now, .slice bb m.blocks.length bc, .slice tb m.tombs.length tc] 6 (.ty 0)) htm
 simp [go_sem]
 generalize upd st tm (.cells true [Val.i m.seq, Val.i m.log, Val.i m.next, Val.i m.now, .slice bb m.blocks.length bc, .slice tb m.tombs.length tc] 6 (.ty 0)) = s1 at *
 refine (zid (g := .ty 1) (by simp) (hm0.new hN1) hN hf).mono ?_
 rintro e s2 ⟨k2, hR⟩
 have hN2 := hN1.trans k2
 have hF2 := h.new hN2
 have K2 : Keep (Out w) st s2 := hN2.to _
 cases hmm : manM m with
 | false =>
  rw [if_neg (by rw [hmm]; simp)] at hR
  subst hR
  simp [go_sem]
  exact ⟨hF2, K2⟩
 | true =>
 rw [if_pos hmm] at hR
 obtain ⟨v, rfl, hV, -⟩ := hR
 have hok1 := hok hmm
 have hbl := z3e hmm hf
 have hfl : (z0d (bodyM m)).length < 2 ^ 31 := by
  have := (zgy hmm hf).2
  omega
 obtain ⟨vb, vc, rfl⟩ := hV.reg.slice
 have hVF := hV.reg.toF Free.ty
 simp only [if_true]
 obtain ⟨RES, hRES⟩ : ∃ R, z1s (z0d (bodyM m)) [0, 1, 2, 3, 4] 0 G = R := ⟨_, rfl⟩
 rw [hRES]
 generalize z0d (bodyM m) = B at *
 clear hV
 obtain ⟨n0, x0⟩ := hok1
 simp [go_sem]
 refine (zek hF2 n0.small).mono ?_
 rintro e s3 ⟨rfl, hF3, k3⟩
 have K3 := K2.trans k3
 rw [z1s] at hRES
 by_cases z0 : (G.create tmpN).1 = 0
 rotate_left
 ·rw [if_neg (show ¬ (z12 B 0 G).1 = 0 from z0)] at hRES
  subst hRES
  have q : ((G.create tmpN).1 = 0) = False := eq_false z0
  unfold tmpN at q
  simp [go_sem, q]
  exact ⟨⟨rfl, hF3⟩, K3⟩
 rw [if_pos (show (z12 B 0 G).1 = 0 from z0)] at hRES
 obtain ⟨n1, x1⟩ := x0 z0
 have hF3' : RFSAt s3 w (z12 B 0 G).2 := hF3
 unfold tmpN at z0
 simp [go_sem, z0]
 clear z0 x0 hF3
 generalize (z12 B 0 G).2 = G1 at *
 refine (zil hF3' n1.small n1.wf n1.bytes (hVF.free (k3.imp z2t)) hfl (fun k R hk => by have := n1.room k R hk; omega)).mono ?_
 rintro e s4 ⟨rfl, hF4, k4⟩
 have K4 := K3.trans k4
 rw [z1s] at hRES
 by_cases z1 : (G1.append tmpN B).1 = 0
 rotate_left
 ·rw [if_neg (show ¬ (z12 B 1 G1).1 = 0 from z1)] at hRES
  subst hRES
  have q : ((G1.append tmpN B).1 = 0) = False := eq_false z1
  unfold tmpN at q
  simp [go_sem, q]
  exact ⟨⟨rfl, hF4⟩, K4⟩
 rw [if_pos (show (z12 B 1 G1).1 = 0 from z1)] at hRES
 obtain ⟨n2, x2⟩ := x1 z1
 have hF4' : RFSAt s4 w (z12 B 1 G1).2 := hF4
 unfold tmpN at z1
 simp [go_sem, z1]
 clear z1 x1 hF4
 generalize (z12 B 1 G1).2 = G2 at *
 refine (ziu hF4' n2.small n2.wf n2.bytes).mono ?_
 rintro e s5 ⟨rfl, hF5, k5⟩
 have K5 := K4.trans k5
 rw [z1s] at hRES
 by_cases z2 : (G2.syncF tmpN).1 = 0
 rotate_left
 ·rw [if_neg (show ¬ (z12 B 2 G2).1 = 0 from z2)] at hRES
  subst hRES
  have q : ((G2.syncF tmpN).1 = 0) = False := eq_false z2
  unfold tmpN at q
  simp [go_sem, q]
  exact ⟨⟨rfl, hF5⟩, K5⟩
 rw [if_pos (show (z12 B 2 G2).1 = 0 from z2)] at hRES
 obtain ⟨n3, x3⟩ := x2 z2
 have hF5' : RFSAt s5 w (z12 B 2 G2).2 := hF5
 unfold tmpN at z2
 simp [go_sem, z2]
 clear z2 x2 hF5
 generalize (z12 B 2 G2).2 = G3 at *
 refine (zjj hF5' n3.small n3.wf).mono ?_
 rintro e s6 ⟨rfl, hF6, k6⟩
 have K6 := K5.trans k6
 rw [z1s] at hRES
 by_cases z3 : (G3.rename tmpN manN).1 = 0
 rotate_left
 ·rw [if_neg (show ¬ (z12 B 3 G3).1 = 0 from z3)] at hRES
  subst hRES
  have q : ((G3.rename tmpN manN).1 = 0) = False := eq_false z3
  unfold tmpN manN at q
  simp [go_sem, q]
  exact ⟨⟨rfl, hF6⟩, K6⟩
 rw [if_pos (show (z12 B 3 G3).1 = 0 from z3)] at hRES
 obtain ⟨n4, x4⟩ := x3 z3
 have hF6' : RFSAt s6 w (z12 B 3 G3).2 := hF6
 unfold tmpN manN at z3
 simp [go_sem, z3]
 clear z3 x3 hF6
 generalize (z12 B 3 G3).2 = G4 at *
 refine (zhs hF6' n4.small).mono ?_
 rintro e s7 ⟨rfl, hF7, k7⟩
 have hgo : RES = G4.syncD := by
  rw [← hRES, z1s]
  have : z12 B 4 G4 = G4.syncD := rfl
  rw [this]
  by_cases z4 : G4.syncD.1 = 0
  ·rw [if_pos z4, z1s, ← z4]
  ·rw [if_neg z4]
 subst hgo
 simp [go_sem]
 exact ⟨hF7, K6.trans k7⟩
def loadD (R : Except Int ManD) : ManD := match R with | .ok m => m | .error _ => zeroD
def loadE (R : Except Int ManD) : Int := match R with | .ok _ => 0 | .error k => k
def LoadR (R : Except Int ManD) (e : Ending) (st' : Heap) : Prop := ∃ x0 x1 x2 x3 b0 l0 c0 b1 l1 c1, e = .returned (.tuple #[.agg #[Val.i x0, Val.i x1, Val.i x2, Val.i x3, .slice b0 l0 c0, .slice b1 l1 c1], Val.i (loadE R)]) ∧ ManAt st' [Val.i x0, Val.i x1, Val.i x2, Val.i x3, .slice b0 l0 c0, .slice b1 l1 c1] (loadD R)
theorem z9l {R : Except Int ManD} {e : Ending} {st' : Heap} (h : match R with
  | .error k => e = .returned (.tuple #[.agg z34.toArray, Val.i k])
  | .ok m => ∃ cs : List Value, e = .returned (.tuple #[.agg cs.toArray, Val.i 0]) ∧ ManAt st' cs m) : LoadR R e st' := by
 cases R with
 | error k => exact ⟨_, _, _, _, _, _, _, _, _, _, h, zeroAt _⟩
 | ok m =>
  obtain ⟨cs, rfl, bv, tv, bs, ts, rfl, hb, hM, ht, hT⟩ := h
  obtain ⟨bb, bc, rfl⟩ := hb.slice
  obtain ⟨tb, tc, rfl⟩ := ht.slice
  exact ⟨_, _, _, _, _, _, _, _, _, _, rfl, _, _, bs, ts, rfl, hb, hM, ht, hT⟩
theorem zj3 (S : VFS) : (∀ t ∈ (loadD (loadM S)).tombs, NiceM 12 t.m) ∧ (loadD (loadM S)).blocks.length < 2 ^ 60 ∧ (loadD (loadM S)).tombs.length < 2 ^ 60 := by
 have z : (∀ t ∈ zeroD.tombs, NiceM 12 t.m) ∧ zeroD.blocks.length < 2 ^ 60 ∧ zeroD.tombs.length < 2 ^ 60 := ⟨by simp [zeroD], by simp [zeroD], by simp [zeroD]⟩
 unfold loadM
 split
 ·exact z
 split
 ·exact z
 split
 ·rename_i m hm
  obtain ⟨h1, h2, h3⟩ := decode_nice hm
  exact ⟨h1, by simp only [loadD]; omega, by simp only [loadD]; omega⟩
 ·exact z
theorem zj9 {w k : Nat} {S : VFS} {G : RFS} (h : RFSAt st w G) (hf : FB S G k) (hk : k ≤ 500) :
  z00 Tryz.prog W0 47 #[ptr w] st fun e st' => New st st' ∧ LoadR (loadM S) e st' := by
 have hn := hf.nice hk
 refine enter (args := [_]) Tryz.func47 rfl ?_
 simp [Tryz.f47, go_sem]
 unfold NewP
 intro to hto
 refine ⟨.own to 1 93, ?_⟩
 simp [go_sem]
 have hto1 := upd_same st to (.cells true [Val.i 0, Val.i 0, Val.i 0, Val.i 0, .slice none 0 0, .slice none 0 0] 6 (.own to 1 93))
 have hN1 := (New.refl st).add (b := to) (o := .cells true [Val.i 0, Val.i 0, Val.i 0, Val.i 0, .slice none 0 0, .slice none 0 0] 6 (.own to 1 93)) hto
 generalize upd st to (.cells true [Val.i 0, Val.i 0, Val.i 0, Val.i 0, .slice none 0 0, .slice none 0 0] 6 (.own to 1 93)) = s1 at *
 have hF1 := h.new hN1
 have hg := hf.sim.get manN
 cases ha : aget S.now manN with
 | none =>
  rw [ha] at hg
  refine (zff hF1 hn.small hg).mono ?_
  rintro e s2 ⟨rfl, k2⟩
  have hto2 := k2 _ _ hto1
  simp [go_sem, hto2]
  refine z0l ?_
  simp [go_sem]
  refine ⟨(hN1.trans k2).put hto, ?_⟩
  have hl : loadM S = .error 3 := by unfold loadM; rw [ha]
  rw [hl]
  exact z9l (R := .error 3) rfl
 | some i =>
  rw [ha] at hg
  have hl := hf.sim.lt ha
  have hFi : S.files[i]? = some S.files[i] := List.getElem?_eq_getElem hl
  have hl' : i < G.files.length := by rw [← hf.sim.len]; exact hl
  have hRi : G.files[i]? = some G.files[i] := List.getElem?_eq_getElem hl'
  have hby := (hf.sim.files i _ _ hFi hRi).2
  have hbb := (hf.vb.all _ (List.mem_of_getElem? hFi)).2.1
  generalize S.files[i] = F at *
  refine (z9z hF1 hn.small hg hRi hby).mono ?_
  rintro e s2 ⟨v, rfl, hV, -, k2⟩
  obtain ⟨vb, vc, rfl⟩ := hV.slice
  have hto2 := k2 _ _ hto1
  have hN2 := hN1.trans k2
  simp [go_sem, hto2]
  refine (zha hV.reg Free.ty (by omega)).mono ?_
  rintro e s3 hR
  obtain ⟨k3, x0, x1, x2, x3, b0, l0, c0, b1, l1, c1, rfl, hM⟩ := hR.flat
  have hto3 := k3 _ _ hto2
  have hN3 := hN2.trans k3
  have hlm : loadM S = match z1o F.now with | some m => .ok m | none => .error 13 := by unfold loadM; rw [ha]; simp only [hFi]; rfl
  rw [hlm]
  simp [go_sem]
  unfold NewP
  intro t6 ht6
  refine ⟨.ty 0, ?_⟩
  have n6 := ne_of_new hto3 ht6
  have n6' := Ne.symm n6
  have hN4 := (New.refl s3).add (b := t6) (o := .cells true [Val.i x0, Val.i x1, Val.i x2, Val.i x3, .slice b0 l0 c0, .slice b1 l1 c1] 6 (.ty 0)) ht6
  have hM4 := hM.new hN4
  cases hd : z1o F.now with
  | none =>
   simp [go_sem, n6, n6', hto3]
   refine z0l ?_
   simp [go_sem]
   exact ⟨(hN3.trans hN4).put hto, z9l (R := .error 13) rfl⟩
  | some m =>
   rw [hd] at hM4
   simp [go_sem, n6, n6', hto3]
   refine z0l ?_
   simp [go_sem]
   refine ⟨(hN3.trans hN4).put hto, _, _, _, _, _, _, _, _, _, _, rfl, ?_⟩
   have hto4 := hN4 _ _ hto3
   have hB := But1.put (o := .cells true [Val.i x0, Val.i x1, Val.i x2, Val.i x3, .slice b0 l0 c0, .slice b1 l1 c1] 6 (.own to 1 93)) (But1.refl to (upd s3 t6 (.cells true [Val.i x0, Val.i x1, Val.i x2, Val.i x3, .slice b0 l0 c0, .slice b1 l1 c1] 6 (.ty 0))))
   exact ManAt.free (zgw hB hto4) hM4
end
end Go.Proofs.YtahgfnbkkfpcnaaGreat
