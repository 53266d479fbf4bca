/- The document's file system: bytes behind a file's; Append, Sync. -/
import Derived.Test.YtahgfnbkkfpcnaaGreatC23
set_option linter.unusedVariables false
set_option linter.unusedSimpArgs false
set_option maxRecDepth 100000
set_option maxHeartbeats 4000000
namespace Go.Proofs.YtahgfnbkkfpcnaaGreat
open Go.RowKit (Below)
theorem RFSP.setFile {st : Heap} {w k fb c nn : Nat} {S : RFS} {R : RF} {f : RF → RF} {sv tv su' uu' : Value} {fs : List Value} (hk : S.files[k]? = some R) (hw : st w = some (.cells true (rC (.slice (some ⟨fb, 0, none⟩) S.files.length c) sv tv S.c) 8 (.own w 0 80)))
  (p1 : RegF st 2 sv (dV S.sure) S.sure.length) (p2 : Vec st (.own w 0 82) 4 tv (tV S.turns) S.turns.length) (hv : S.files.length ≤ c) (hn : c * 2 ≤ nn) (hlen : S.files.length * 2 = fs.length) (hfb : st fb = some (.cells true fs nn (.own w 0 83)))
  (p4 : ∀ (j : Nat) F, j ≠ k → S.files[j]? = some F → RFAt st w j ((fs.drop (j * 2)).take 2) F) (hR : RFAt st w k [su', uu'] (f R)) :
  RFSAt (upd st fb (.cells true ((fs.set (k * 2) su').set (k * 2 + 1) uu') nn (.own w 0 83))) w { S with files := S.files.modify k f } := by
 have hkl := (List.getElem?_eq_some_iff.1 hk).1
 have kk : ∀ (p : Tg → Prop), ¬ p (.own w 0 83) → Keep p st (upd st fb (.cells true ((fs.set (k * 2) su').set (k * 2 + 1) uu') nn (.own w 0 83))) := fun p hp => Keep.rfl'.old hfb (by intro g hg; injection hg with hg; subst hg; exact hp)
 have kf := kk Free (fun h => h _ _ _ rfl)
 have hwne : w ≠ fb := by rintro rfl; rw [hw] at hfb; injection hfb with hfb; injection hfb with a b c d; injection d with d1 d2 d3; omega
 refine ⟨.slice (some ⟨fb, 0, none⟩) S.files.length c, sv, tv, (fs.set (k * 2) su').set (k * 2 + 1) uu', by rw [upd_ne _ _ hwne]; exact hw, p1.free kf, p2.keep (kk (· = .own w 0 82) (by simp)) rfl, ?_, fun j F hF => ?_⟩
 ·show Vec _ _ 2 _ _ (S.files.modify k f).length
  rw [List.length_modify]
  exact Vec.new (by simp; omega) hv (upd_same _ _ _) hn
 ·simp only [List.getElem?_modify] at hF
  by_cases hj : k = j
  ·subst hj
   simp [hk] at hF
   subst hF
   have e : (((fs.set (k * 2) su').set (k * 2 + 1) uu').drop (k * 2)).take 2 = [su', uu'] := by
    apply List.ext_getElem?
    intro i
    rw [List.getElem?_take]
    split
    ·rename_i hi
     rw [List.getElem?_drop]
     have hi' : i = 0 ∨ i = 1 := by omega
     rcases hi' with rfl | rfl
     ·rw [List.getElem?_set_ne (by omega), Nat.add_zero, List.getElem?_set_self (by omega)]; rfl
     ·rw [List.getElem?_set_self (by rw [List.length_set]; omega)]; rfl
    ·rename_i hi
     rw [List.getElem?_eq_none (by simp; omega)]
   rw [e]
   exact hR.keep kf (kk _ (by simp))
  ·cases f1 : S.files[j]? with
   | none => rw [f1] at hF; simp at hF
   | some F0 =>
    rw [f1] at hF
    simp [hj] at hF
    subst hF
    have e : (((fs.set (k * 2) su').set (k * 2 + 1) uu').drop (j * 2)).take 2 = (fs.drop (j * 2)).take 2 := by
     apply List.ext_getElem?
     intro i
     rw [List.getElem?_take, List.getElem?_take]
     split
     ·rw [List.getElem?_drop, List.getElem?_drop, List.getElem?_set_ne (by omega), List.getElem?_set_ne (by omega)]
     ·rfl
    rw [e]
    exact (p4 j F0 (Ne.symm hj) f1).keep kf (kk _ (by simp))
theorem set2 {fs : List Value} {k : Nat} {a b : Value} (h : k + 2 ≤ fs.length) : fs.take k ++ a :: b :: fs.drop (k + 2) = (fs.set k a).set (k + 1) b := by
 apply List.ext_getElem?
 intro i
 have hl : (fs.take k).length = k := by rw [List.length_take]; omega
 by_cases h1 : i < k
 ·rw [List.getElem?_append_left (by omega), List.getElem?_take, if_pos h1, List.getElem?_set_ne (by omega), List.getElem?_set_ne (by omega)]
 rw [List.getElem?_append_right (by omega), hl]
 by_cases h2 : i = k
 ·subst h2
  rw [List.getElem?_set_ne (by omega), List.getElem?_set_self (by omega), Nat.sub_self]; rfl
 by_cases h3 : i = k + 1
 ·subst h3
  rw [List.getElem?_set_self (by rw [List.length_set]; omega), show k + 1 - k = 1 by omega]; rfl
 rw [List.getElem?_set_ne (by omega), List.getElem?_set_ne (by omega), show i - k = (i - k - 2) + 1 + 1 by omega, List.getElem?_cons_succ, List.getElem?_cons_succ, List.getElem?_drop, show k + 2 + (i - k - 2) = i by omega]
theorem RFS.more_nil (S : RFS) (k : Nat) : S.more k [] = S := by
 have : (fun R : RF => R.app []) = id := by funext R; simp [RF.app]
 unfold RFS.more
 rw [this]
 simp
theorem RFS.more_snoc (S : RFS) (k : Nat) (b : Bs) (x : UInt8) : (S.more k b).more k [x] = S.more k (b ++ [x]) := by
 unfold RFS.more
 simp only [List.modify_modify_eq]
 have : ((fun R : RF => R.app [x]) ∘ fun R : RF => R.app b) = fun R : RF => R.app (b ++ [x]) := by funext R; simp [RF.app]
 rw [this]
theorem RFS.more_get {S : RFS} {k : Nat} {R : RF} (h : S.files[k]? = some R) (b : Bs) : (S.more k b).files[k]? = some (R.app b) := by
 simp [RFS.more, List.getElem?_modify, h]
theorem zcl {w : Nat} {st st' : Heap} (h : Keep (Out w) st st') : Keep Free st st' := h.imp fun g hg x r => hg _ x r
section
variable {W0 : World} {st : Heap}
theorem zaf {w k : Nat} {S : RFS} {R : RF} {bv : Value} {b : Bs} (h : RFSAt st w S) (hk : S.files[k]? = some R) (hu : R.us.length + b.length < 2 ^ 40) (hb : RegF st 1 bv (bytesV b) b.length) : z00 Tryz.prog W0 186 #[ptr w, Val.i (k : Int), bv] st fun e st' => e = .returned (.tuple #[]) ∧ RFSAt st' w (S.more k b) ∧ Keep (Out w) st st' := by
 obtain ⟨bb, bc, rfl⟩ := hb.slice
 refine enter (args := [_, _, _]) Tryz.func186 rfl ?_
 simp [Tryz.f186, go_sem]
 refine ⟨fun E s' => E 0 = ptr w ∧ E 1 = Val.i (k : Int) ∧ E 2 = .slice bb b.length bc ∧ Keep (Out w) st s' ∧ ∃ i : Nat, E 6 = Val.i (i : Int) ∧ i ≤ b.length ∧ RFSAt s' w (S.more k (b.take i)),
  fun E _ => match E 6 with | .int _ z => b.length - z.toNat | _ => 0,
  ⟨st, .rfl' _, by simp [go_sem], by simp [go_sem], by simp [go_sem], Keep.rfl', 0, by simp [go_sem], by omega, by rw [List.take_zero, RFS.more_nil]; exact h⟩, ?_⟩
 rintro E s0 ⟨e0, e1, e2, k0, i, e6, hi, hS⟩
 by_cases hlt : i < b.length
 rotate_left
 ·have : i = b.length := by omega
  subst this
  rw [List.take_length] at hS
  simp [go_sem, e0, e1, e2, e6]
  exact ⟨hS, k0⟩
 have t1 : ((i : Int) < b.length) = True := eq_true (by omega)
 have hwi := wrS i (by omega)
 obtain ⟨mb, off, rfl, hget⟩ := z0h (hb.free (zcl k0)).src (by omega)
 have x0 := hget i (by omega)
 have hx : (bytesV b)[i]? = some (.int .u8 b[i].toNat) := by simp [bytesV, List.getElem?_eq_getElem hlt]
 rw [hx] at x0
 have htk : b.take (i + 1) = b.take i ++ [b[i]] := by rw [List.take_add_one, List.getElem?_eq_getElem hlt]; rfl
 generalize b[i] = x at *
 have hkR := RFS.more_get hk (b.take i)
 have hful : (R.app (b.take i)).us.length < 2 ^ 40 := by simp [RF.app]; omega
 obtain ⟨S0, hS0⟩ : ∃ S0, S.more k (b.take i) = S0 := ⟨_, rfl⟩
 rw [hS0] at hS hkR
 have hgoal : S.more k (b.take (i + 1)) = S0.more k [x] := by rw [htk, ← hS0, RFS.more_snoc]
 generalize R.app (b.take i) = R0 at *
 have hkl := (List.getElem?_eq_some_iff.1 hkR).1
 have hki : ((k : Int) < S0.files.length) = True := eq_true (by omega)
 obtain ⟨fb, c, nn, fs, sv, tv, su, uu, hw, hp, hfb, hlen, he, f0, f1, h1, h2⟩ := hS.file hkR
 obtain ⟨sb, sc, rfl⟩ := h1.slice
 obtain ⟨ub, uc, rfl⟩ := h2.slice
 have hle : k * 2 + 2 ≤ fs.length := by omega
 obtain ⟨p1, p2, p3, p4⟩ := hp
 have hw' := hw
 unfold rC at hw
 simp [go_sem, e0, e1, e2, e6, t1, hlt]
 refine draw [0, 1, 2, 4, 5, 6, 7, 9, 13, 14, 15, 3, 8, 10, 11, 12, 16, 17, 18, 19, 20, 21, 22] (by kernel_rfl) ?_
 simp [go_sem, e0, e1, e2, e6, t1, hlt, hw, hfb, hki, hkl, f0, f1, x0]
 unfold NewS
 intro nb hnb
 refine ⟨.ty 1, ?_⟩
 have n1 := (New.refl s0).add (b := nb) (o := .cells true [.int .u8 x.toNat, .bool false, Val.i 0] 3 (.ty 1)) hnb
 simp [go_sem]
 refine z37 (g := .own w k 84) (m := 1) (ys := [.int .u8 x.toNat, .bool false, Val.i 0]) si178 (h2.new' n1) (by simp [z06, z0i, upd_same, cellsOf]) (by simp [Value.oneCell']) (by omega) ?_
 intro b4 c4 st4 hV4 hE4
 obtain ⟨r1, r2, r3⟩ := hE4.rest
 have kF := (n1.to Free).trans r1
 have kO := (n1.to (Out w)).trans r2
 have kX : ∀ y s, ¬ (y = k ∧ s = 84) → Keep (· = .own w y s) s0 st4 := fun y s h => (n1.to _).trans (r3 y s h)
 have hw4 := (kX 0 80 (by omega)).get hw' rfl
 have hfb4 := (kX 0 83 (by omega)).get hfb rfl
 obtain ⟨hvl, base, cap, hve, hvc, hvr⟩ := p3
 injection hve with z1 z2 z3
 subst z1; subst z3
 have hnn : c * 2 ≤ nn := by
  rcases hvr with ⟨b', n', hb', hs', hn'⟩ | ⟨hb', -⟩
  ·injection hb' with hb'
   injection hb' with hb' _ _
   subst hb'
   rw [hfb] at hs'
   injection hs' with hs'
   injection hs' with _ _ hs' _
   omega
  ·cases hb'
 have hset := RFSP.setFile (f := fun R => R.app [x]) (su' := .slice sb R0.sure.length sc) (uu' := .slice b4 (R0.us.length + 1) c4) hkR hw4 (p1.free kF) (p2.keep (kX 0 82 (by omega)) rfl) hvc hnn hlen hfb4
  (fun j F hj hF => (p4 j F hF).keep kF (kX j 84 (by omega)))
  ⟨_, _, rfl, h1.free kF, by show Vec st4 _ 3 _ (uV (R0.us ++ [x].map fun x => (⟨x, false, 0⟩ : RU))) (R0.us ++ [x].map fun x => (⟨x, false, 0⟩ : RU)).length; rw [uV_app, List.length_append]; exact hV4⟩
 have hfs : fs.set (k * 2) (.slice sb R0.sure.length sc) = fs := by
  apply List.ext_getElem?
  intro i
  by_cases hi : k * 2 = i
  ·subst hi; rw [List.getElem?_set_self (by omega), f0]
  ·rw [List.getElem?_set_ne hi]
 have hle1 : k * 2 + 1 ≤ fs.length := by omega
 have hle2 : k * 2 + 1 < fs.length := by omega
 have hle3 : k * 2 + 1 < nn := by omega
 rw [hfs] at hset
 simp [go_sem, e0, e1, e2, e6, hfb4, hki, hkl, hwi, hle1, hle2, hle3]
 refine ⟨_, .rfl' _, ⟨(k0.trans kO).old hfb4 (by intro g hg; injection hg with hg; subst hg; exact fun h => h _ _ rfl), i + 1, by simp, by omega, ?_⟩, by omega⟩
 rw [hgoal]
 exact hset
theorem ziu {w : Nat} {S : RFS} {n : ByteArray} (h : RFSAt st w S) (hs : S.small) (hwf : S.wf) (hby : ∀ (k : Nat) R, S.files[k]? = some R → ∃ b, z11 R.sure R.us = some b) : z00 Tryz.prog W0 116 #[ptr w, .string n] st fun e st' => e = .returned (Val.i (S.syncF n).1) ∧ RFSAt st' w (S.syncF n).2 ∧ Keep (Out w) st st' := by
 obtain ⟨fv0, sv0, tv0, fs0, hw0, -⟩ := h.parts
 refine enter (args := [_, _]) Tryz.func116 rfl ?_
 simp [Tryz.f116, go_sem]
 refine (z5t h).mono ?_
 rintro e s1 ⟨rfl, h1, b1⟩
 have k1 := b1.out hw0
 unfold RFS.syncF
 by_cases c0 : S.c.call.1 = 0
 rotate_left
 ·rw [if_pos c0]
  simp [go_sem, c0]
  exact ⟨h1, k1⟩
 rw [if_neg (fun h => h c0)]
 simp [go_sem, c0]
 refine z4n.mono ?_
 rintro e s2 ⟨rfl, rfl⟩
 cases m1 : z0a n with
 | false =>
  simp [go_sem]
  exact ⟨h1, k1⟩
 | true =>
 simp [go_sem]
 refine (z5j (n := n) h1 (hs.ctl _)).mono ?_
 rintro e s2 ⟨rfl, k2⟩
 have hout : Keep (Out w) st s2 := k1.trans (k2.to _)
 have hdir : (S.ctl S.c.call.2).dir = S.dir := rfl
 rw [hdir]
 cases hg : rget n S.dir with
 | none =>
  simp [go_sem]
  exact ⟨h1.new k2, hout⟩
 | some z =>
 obtain ⟨hz0, hz1⟩ := hwf n z hg
 obtain ⟨k, rfl⟩ : ∃ k : Nat, z = (k : Int) := ⟨z.toNat, by omega⟩
 rw [Int.toNat_natCast] at hz1
 have qz : ((k : Int) < 0) = False := eq_false (by omega)
 have hkR : S.files[k]? = some S.files[k] := List.getElem?_eq_getElem hz1
 generalize S.files[k] = R at *
 obtain ⟨b, hb⟩ := hby k R hkR
 have hnow : R.now = b := by unfold RF.now; rw [hb]; rfl
 obtain ⟨fb, c, nn, fs, sv, tv, su, uu, hw, hp, hfb, hlen, he, f0, f1, h3, h4⟩ := (h1.new k2).file (S := S.ctl S.c.call.2) hkR
 obtain ⟨sb, sc, rfl⟩ := h3.slice
 obtain ⟨ub, uc, rfl⟩ := h4.slice
 have hlen : S.files.length * 2 = fs.length := hlen
 have hle : k * 2 + 2 ≤ fs.length := by omega
 obtain ⟨p1, p2, p3, p4⟩ := hp
 have hw' := hw
 have hki : ((k : Int) < S.files.length) = True := eq_true (by omega)
 have hw : s2 w = some (.cells true [.slice (some ⟨fb, 0, none⟩) S.files.length c, sv, tv, Val.i S.c.call.2.calls, .bool S.c.call.2.armed, Val.i S.c.call.2.kind, Val.i S.c.call.2.after, .bool S.c.call.2.off] 8 (.own w 0 80)) := hw
 obtain ⟨a1, a2⟩ := hs.all k R hkR
 simp [go_sem, qz]
 obtain ⟨hvl, base, cap, hve, hvc, hvr⟩ := p3
 injection hve with z1 z2 z3
 subst z1; subst z3
 have hvc : S.files.length ≤ c := hvc
 have hnn : c * 2 ≤ nn := by
  rcases hvr with ⟨b', n', hb', hs', hn'⟩ | ⟨hb', -⟩
  ·injection hb' with hb'
   injection hb' with hb' _ _
   subst hb'
   rw [hfb] at hs'
   injection hs' with hs'
   injection hs' with _ _ hs' _
   omega
  ·cases hb'
 have hnn1 : fs.length ≤ nn := by omega
 refine drawT 23 [0, 1, 2, 3, 4, 5, 6, 7, 8, 9, 10, 11, 12, 13, 14, 15, 16, 17, 18, 19, 20, 21, 22, 23, 24] (fun ix v st' => match ix with
  | 0 | 5 | 12 => v = ptr w
  | 1 | 2 | 6 | 7 | 13 | 14 => v = .pointer (some ⟨w, 0, none⟩)
  | 3 | 8 | 15 => v = .slice (some ⟨fb, 0, none⟩) S.files.length c
  | 4 | 9 | 16 => v = Val.i (k : Int)
  | 10 | 17 => v = .pointer (some ⟨fb, k * 2, none⟩)
  | 11 => v = .agg #[.slice sb R.sure.length sc, .slice ub R.us.length uc]
  | 18 => v = .pointer (some ⟨fb, k * 2 + 1, none⟩)
  | 19 => v = .slice ub R.us.length uc
  | 20 => v = Val.i (R.us.length : Int)
  | 21 => ∃ x y, v = .slice x b.length y ∧ Vec st' (.ty 1) 1 v (bytesV b) b.length
  | 22 => ∃ x y, v = .agg #[.slice x b.length y, .slice none 0 0] ∧ Vec st' (.ty 1) 1 (.slice x b.length y) (bytesV b) b.length
  | _ => True) (by kernel_rfl) (by kernel_rfl) (by kernel_rfl) (by decide) ?_ ?_ ?_ ?_
 ·intro ix v sta stb hNw h
  match ix with
  | 21 => obtain ⟨x, y, h1, h2⟩ := h; exact ⟨x, y, h1, h2.new' hNw⟩
  | 22 => obtain ⟨x, y, h1, h2⟩ := h; exact ⟨x, y, h1, h2.new' hNw⟩
  | 0 => exact h
  | 1 => exact h
  | 2 => exact h
  | 3 => exact h
  | 4 => exact h
  | 5 => exact h
  | 6 => exact h
  | 7 => exact h
  | 8 => exact h
  | 9 => exact h
  | 10 => exact h
  | 11 => exact h
  | 12 => exact h
  | 13 => exact h
  | 14 => exact h
  | 15 => exact h
  | 16 => exact h
  | 17 => exact h
  | 18 => exact h
  | 19 => exact h
  | 20 => exact h
  | ix + 23 => exact h
 ·intro ix oo hin hi E sta hNw hd hE
  have ga := hNw _ _ hw
  have gb := hNw _ _ hfb
  match ix with
  | 0 =>
   have x0 := hE 0 (z1x (by kernel_rfl))
   injection hi with hi; subst hi
   simp [z02, go_sem, x0, hki, ga, gb, hki, hz1, hle, he, f0, f1]
   exact New.refl _
  | 1 =>
   injection hi with hi; subst hi
   have d0 := hd { on := 0, ground := .data } (by simp) (by decide) _ _ rfl rfl
   simp only at d0
   simp [z02, go_sem, d0, ga, gb, hki, hz1, hle, he, f0, f1]
   exact New.refl _
  | 2 =>
   injection hi with hi; subst hi
   have d1 := hd { on := 1, ground := .data } (by simp) (by decide) _ _ rfl rfl
   simp only at d1
   simp [z02, go_sem, d1, ga, gb, hki, hz1, hle, he, f0, f1]
   exact New.refl _
  | 3 =>
   injection hi with hi; subst hi
   have d2 := hd { on := 2, ground := .data } (by simp) (by decide) _ _ rfl rfl
   simp only at d2
   simp [z02, go_sem, d2, ga, gb, hki, hz1, hle, he, f0, f1]
   exact New.refl _
  | 4 =>
   have x7 := hE 7 (z1x (by kernel_rfl))
   injection hi with hi; subst hi
   simp [z02, go_sem, x7, hki, ga, gb, hki, hz1, hle, he, f0, f1]
   exact New.refl _
  | 5 =>
   have x0 := hE 0 (z1x (by kernel_rfl))
   injection hi with hi; subst hi
   simp [z02, go_sem, x0, hki, ga, gb, hki, hz1, hle, he, f0, f1]
   exact New.refl _
  | 6 =>
   injection hi with hi; subst hi
   have d5 := hd { on := 5, ground := .data } (by simp) (by decide) _ _ rfl rfl
   simp only at d5
   simp [z02, go_sem, d5, ga, gb, hki, hz1, hle, he, f0, f1]
   exact New.refl _
  | 7 =>
   injection hi with hi; subst hi
   have d6 := hd { on := 6, ground := .data } (by simp) (by decide) _ _ rfl rfl
   simp only at d6
   simp [z02, go_sem, d6, ga, gb, hki, hz1, hle, he, f0, f1]
   exact New.refl _
  | 8 =>
   injection hi with hi; subst hi
   have d7 := hd { on := 7, ground := .data } (by simp) (by decide) _ _ rfl rfl
   simp only at d7
   simp [z02, go_sem, d7, ga, gb, hki, hz1, hle, he, f0, f1]
   exact New.refl _
  | 9 =>
   have x7 := hE 7 (z1x (by kernel_rfl))
   injection hi with hi; subst hi
   simp [z02, go_sem, x7, hki, ga, gb, hki, hz1, hle, he, f0, f1]
   exact New.refl _
  | 10 =>
   injection hi with hi; subst hi
   have d8 := hd { on := 8, ground := .data } (by simp) (by decide) _ _ rfl rfl
   have d9 := hd { on := 9, ground := .data } (by simp) (by decide) _ _ rfl rfl
   simp only at d8 d9
   simp [z02, go_sem, d8, d9, ga, gb, hki, hz1, hle, he, f0, f1]
   exact New.refl _
  | 11 =>
   injection hi with hi; subst hi
   have d10 := hd { on := 10, ground := .data } (by simp) (by decide) _ _ rfl rfl
   simp only at d10
   simp [z02, go_sem, d10, ga, gb, hki, hz1, hle, he, f0, f1]
   exact New.refl _
  | 12 =>
   have x0 := hE 0 (z1x (by kernel_rfl))
   injection hi with hi; subst hi
   simp [z02, go_sem, x0, hki, ga, gb, hki, hz1, hle, he, f0, f1]
   exact New.refl _
  | 13 =>
   injection hi with hi; subst hi
   have d12 := hd { on := 12, ground := .data } (by simp) (by decide) _ _ rfl rfl
   simp only at d12
   simp [z02, go_sem, d12, ga, gb, hki, hz1, hle, he, f0, f1]
   exact New.refl _
  | 14 =>
   injection hi with hi; subst hi
   have d13 := hd { on := 13, ground := .data } (by simp) (by decide) _ _ rfl rfl
   simp only at d13
   simp [z02, go_sem, d13, ga, gb, hki, hz1, hle, he, f0, f1]
   exact New.refl _
  | 15 =>
   injection hi with hi; subst hi
   have d14 := hd { on := 14, ground := .data } (by simp) (by decide) _ _ rfl rfl
   simp only at d14
   simp [z02, go_sem, d14, ga, gb, hki, hz1, hle, he, f0, f1]
   exact New.refl _
  | 16 =>
   have x7 := hE 7 (z1x (by kernel_rfl))
   injection hi with hi; subst hi
   simp [z02, go_sem, x7, hki, ga, gb, hki, hz1, hle, he, f0, f1]
   exact New.refl _
  | 17 =>
   injection hi with hi; subst hi
   have d15 := hd { on := 15, ground := .data } (by simp) (by decide) _ _ rfl rfl
   have d16 := hd { on := 16, ground := .data } (by simp) (by decide) _ _ rfl rfl
   simp only at d15 d16
   simp [z02, go_sem, d15, d16, ga, gb, hki, hz1, hle, he, f0, f1]
   exact New.refl _
  | 18 =>
   injection hi with hi; subst hi
   have d17 := hd { on := 17, ground := .data } (by simp) (by decide) _ _ rfl rfl
   simp only at d17
   simp [z02, go_sem, d17, ga, gb, hki, hz1, hle, he, f0, f1]
   exact New.refl _
  | 19 =>
   injection hi with hi; subst hi
   have d18 := hd { on := 18, ground := .data } (by simp) (by decide) _ _ rfl rfl
   simp only at d18
   simp [z02, go_sem, d18, ga, gb, hki, hz1, hle, he, f0, f1]
   exact New.refl _
  | 20 =>
   injection hi with hi; subst hi
   have d19 := hd { on := 19, ground := .data } (by simp) (by decide) _ _ rfl rfl
   simp only at d19
   simp [z02, go_sem, d19, ga, gb, hki, hz1, hle, he, f0, f1]
   exact New.refl _
  | 21 =>
   injection hi with hi; subst hi
   have d11 := hd { on := 11, ground := .data } (by simp) (by decide) _ _ rfl rfl
   have d20 := hd { on := 20, ground := .data } (by simp) (by decide) _ _ rfl rfl
   simp only at d11 d20
   simp [z02, go_sem, d11, d20, ga, gb, hki, hz1, hle, he, f0, f1]
   refine (z9g (n := (R.us.length : Int)) (h3.new hNw) (h4.new' hNw).reg (by rw [Int.toNat_natCast, List.take_length]; exact hb) a1 a2).mono ?_
   rintro e s5 ⟨v5, rfl, hv5, hf5, n5⟩
   obtain ⟨xb5, xc5, rfl⟩ := hv5.slice
   simp [go_sem]
   exact ⟨n5, hv5⟩
  | 22 =>
   injection hi with hi; subst hi
   have d21 := hd { on := 21, ground := .data } (by simp) (by decide) _ _ rfl rfl
   simp only at d21
   obtain ⟨x', y', d21, hx'⟩ := d21
   rw [d21] at hx'
   simp [z02, go_sem, d21, ga, gb, hki, hz1, hle, he, f0, f1]
   first | exact ⟨New.refl _, hx'⟩ | exact ⟨New.refl _, _, _, rfl, hx'⟩ | exact ⟨New.refl _, _, _, ⟨rfl, rfl⟩, hx'⟩
  | ix + 23 => omega
 ·intro E sta hNw hd hE
  obtain ⟨x, y, h22, hx⟩ := hd 22 _ 45 (by omega) rfl rfl
  have d3 := hd 3 _ 26 (by omega) rfl rfl
  have d4 := hd 4 _ 27 (by omega) rfl rfl
  simp only at d3 d4
  have gw := hNw _ _ hw'
  have gb := hNw _ _ hfb
  have y0 := hE 0 (z43 (by kernel_rfl))
  simp [go_sem, d3, d4, h22, gb, hki, hz1, hle, hnn1]
  rw [set2 (by omega)]
  have kN := hNw.to Free
  have hRs : RFAt sta w k [.slice x b.length y, .slice none 0 0] R.synced := ⟨_, _, rfl, by show RegF sta 1 _ (bytesV R.now) R.now.length; rw [hnow]; exact hx.rf, Vec.nil⟩
  have hset := RFSP.setFile (S := S.ctl S.c.call.2) (f := RF.synced) hkR gw (p1.new hNw) (p2.new' hNw) hvc hnn hlen gb (fun j F hj hF => (p4 j F hF).keep kN (hNw.to _)) hRs
  refine ⟨hset, (hout.trans (hNw.to _)).old gb (by intro g hg; injection hg with hg; subst hg; exact fun h => h _ _ rfl)⟩
 ·intro j oj hj
  match j with
  | 0 | 1 | 2 | 3 | 4 | 5 | 6 | 7 | 8 | 9 | 10 | 11 | 12 | 13 | 14 | 15 | 16 | 17 | 18 | 19 | 20 | 21 | 22 | 23 | 24 => simp at hj; subst hj; decide
  | j + 25 => simp at hj
end
section
variable {W0 : World} {st : Heap}
theorem zil {w : Nat} {S : RFS} {n : ByteArray} {bv : Value} {b : Bs} (h : RFSAt st w S) (hs : S.small) (hwf : S.wf) (hby : ∀ (k : Nat) R, S.files[k]? = some R → ∃ b, z11 R.sure R.us = some b) (hb : RegF st 1 bv (bytesV b) b.length) (hbl : b.length < 2 ^ 31) (hub : ∀ (k : Nat) R, S.files[k]? = some R → R.us.length + b.length < 2 ^ 40) : z00 Tryz.prog W0 115 #[ptr w, .string n, bv] st fun e st' => e = .returned (Val.i (S.append n b).1) ∧ RFSAt st' w (S.append n b).2 ∧ Keep (Out w) st st' := by
 obtain ⟨fv0, sv0, tv0, fs0, hw0, -⟩ := h.parts
 obtain ⟨bb, bc, rfl⟩ := hb.slice
 have hbcap : b.length ≤ bc := by obtain ⟨g, hg, hr⟩ := hb; exact hr.cap
 have hw00 := hw0
 unfold rC at hw0
 refine enter (args := [_, _, _]) Tryz.func115 rfl ?_
 simp [Tryz.f115, go_sem, hw0]
 refine (z5t h).mono ?_
 rintro e s1 ⟨rfl, h1, b1⟩
 have k1 := b1.out hw00
 simp [go_sem]
 refine (z5j (n := n) h1 (hs.ctl _)).mono ?_
 rintro e s2 ⟨rfl, k2⟩
 have hout : Keep (Out w) st s2 := k1.trans (k2.to _)
 have hS2 := h1.new k2
 have hb2 := hb.free (zcl hout)
 have hdir : (S.ctl S.c.call.2).dir = S.dir := rfl
 rw [hdir]
 unfold RFS.append
 have hdv : Int.tdiv (b.length : Int) 2 = ((b.length / 2 : Nat) : Int) := by rw [Int.tdiv_eq_ediv_of_nonneg (by omega)]; omega
 have hdw : IntKind.i64.wrap ((b.length / 2 : Nat) : Int) = ((b.length / 2 : Nat) : Int) := z03 (by omega) (by omega)
 have hdw' : IntKind.i64.wrap ((b.length : Int) / 2) = (b.length : Int) / 2 := z03 (by omega) (by omega)
 by_cases c0 : S.c.call.1 = 0
 ·rw [if_neg (fun h => h c0)]
  simp [go_sem, c0]
  refine z4n.mono ?_
  rintro e s3 ⟨rfl, rfl⟩
  cases m1 : z0a n with
  | false =>
   simp [go_sem]
   exact ⟨hS2, hout⟩
  | true =>
  cases hg : rget n S.dir with
  | none =>
   simp [go_sem]
   exact ⟨hS2, hout⟩
  | some z =>
  obtain ⟨hz0, hz1⟩ := hwf n z hg
  obtain ⟨k, rfl⟩ : ∃ k : Nat, z = (k : Int) := ⟨z.toNat, by omega⟩
  rw [Int.toNat_natCast] at hz1
  have qz : ((k : Int) < 0) = False := eq_false (by omega)
  have hkR : S.files[k]? = some S.files[k] := List.getElem?_eq_getElem hz1
  generalize S.files[k] = R at *
  obtain ⟨d, hd⟩ := hby k R hkR
  have hnow : R.now = d := by unfold RF.now; rw [hd]; rfl
  have hlo : S.lenOf k = d.length := by unfold RFS.lenOf; rw [hkR]; simp [hnow]
  have hdl := z6e _ _ _ hd
  obtain ⟨a1, a2⟩ := hs.all k R hkR
  simp [go_sem, qz]
  refine (za3 (S := S.ctl S.c.call.2) hS2 (hs.ctl _) hkR hd).mono ?_
  rintro e s4 ⟨rfl, k4⟩
  have hwr : IntKind.i64.wrap ((d.length : Int) + b.length) = (d.length : Int) + b.length := z03 (by omega) (by omega)
  rw [hlo]
  by_cases c2 : d.length + b.length ≤ 1073741824
  ·have q2 : ((1073741824 : Int) < (d.length : Int) + b.length) = False := eq_false (by omega)
   simp [go_sem, hwr, q2, c2]
   refine (zaf (S := S.ctl S.c.call.2) (hS2.new k4) hkR (hub k R hkR) (hb2.new k4)).mono ?_
   rintro e s5 ⟨rfl, h5, k5⟩
   simp [go_sem]
   exact ⟨h5, (hout.trans (k4.to _)).trans k5⟩
  ·have q2 : ((1073741824 : Int) < (d.length : Int) + b.length) = True := eq_true (by omega)
   simp [go_sem, hwr, q2, c2]
   exact ⟨hS2.new k4, hout.trans (k4.to _)⟩
 ·rw [if_pos c0]
  obtain ⟨e0, he0⟩ : ∃ e0, S.c.call.1 = e0 := ⟨_, rfl⟩
  cases hoff : S.c.off with
  | true =>
   cases hg : rget n S.dir with
   | none =>
    simp [go_sem, c0, hdv, hdw, hdw']
    exact ⟨hS2, hout⟩
   | some z =>
    simp [go_sem, c0, hdv, hdw, hdw']
    exact ⟨hS2, hout⟩
  | false =>
  cases hg : rget n S.dir with
  | none =>
   simp [go_sem, c0, hdv, hdw, hdw']
   exact ⟨hS2, hout⟩
  | some z =>
  obtain ⟨hz0, hz1⟩ := hwf n z hg
  obtain ⟨k, rfl⟩ : ∃ k : Nat, z = (k : Int) := ⟨z.toNat, by omega⟩
  rw [Int.toNat_natCast] at hz1
  have qz : ((0 : Int) ≤ k) = True := eq_true (by omega)
  have hkR : S.files[k]? = some S.files[k] := List.getElem?_eq_getElem hz1
  generalize S.files[k] = R at *
  obtain ⟨d, hd⟩ := hby k R hkR
  have hnow : R.now = d := by unfold RF.now; rw [hd]; rfl
  have hlo : S.lenOf k = d.length := by unfold RFS.lenOf; rw [hkR]; simp [hnow]
  have hdl := z6e _ _ _ hd
  obtain ⟨a1, a2⟩ := hs.all k R hkR
  simp [go_sem, c0, hdv, hdw, hdw', qz]
  refine (za3 (S := S.ctl S.c.call.2) hS2 (hs.ctl _) hkR hd).mono ?_
  rintro e s4 ⟨rfl, k4⟩
  have hwr : IntKind.i64.wrap ((d.length : Int) + (b.length : Int) / 2) = (d.length : Int) + (b.length : Int) / 2 := z03 (by omega) (by omega)
  rw [hlo]
  by_cases c2 : d.length + b.length / 2 ≤ 1073741824
  ·have q2 : ((d.length : Int) + (b.length : Int) / 2 ≤ 1073741824) = True := eq_true (by omega)
   have h0 : (0 : Int) ≤ (b.length : Int) / 2 := by omega
   have hn : ((b.length : Int) / 2).toNat = b.length / 2 := by omega
   have hcap2 : b.length / 2 ≤ bc := by omega
   have hcap3 : (b.length : Int) / 2 ≤ bc := by omega
   have htl : (b.take (b.length / 2)).length = b.length / 2 := by rw [List.length_take]; omega
   have hbt : RegF s4 1 (.slice bb (b.length / 2) bc) (bytesV (b.take (b.length / 2))) (b.take (b.length / 2)).length := by
    obtain ⟨g, hg1, hg2⟩ := hb2.new k4
    have := hg2.take (m := b.length / 2) (by omega)
    rw [htl]
    have e : bytesV (b.take (b.length / 2)) = (bytesV b).take (b.length / 2) := by simp [bytesV, List.map_take]
    rw [e]
    exact ⟨g, hg1, this⟩
   simp [go_sem, hwr, q2, c2, h0, hn, hcap2, hcap3]
   refine (zaf (S := S.ctl S.c.call.2) (hS2.new k4) hkR (by have := hub k R hkR; rw [htl]; omega) hbt).mono ?_
   rintro e s5 ⟨rfl, h5, k5⟩
   simp [go_sem]
   exact ⟨h5, (hout.trans (k4.to _)).trans k5⟩
  ·have q2 : ((d.length : Int) + (b.length : Int) / 2 ≤ 1073741824) = False := eq_false (by omega)
   simp [go_sem, hwr, q2, c2]
   exact ⟨hS2.new k4, hout.trans (k4.to _)⟩
end
def RFS.new : RFS := ⟨[], [], [], ⟨0, false, 0, 0, false⟩⟩
def RFS.lay (S : RFS) (p : ByteArray × Bs) : RFS := { S with sure := S.sure ++ [(p.1, (S.files.length : Int))], files := S.files ++ [⟨p.2, []⟩] }
def RFS.lays (S : RFS) (l : List (ByteArray × Bs)) : RFS := l.foldl RFS.lay S
def RFS.laysOK (S : RFS) : List (ByteArray × Bs) → Prop
 | [] => True
 | p :: l => z0a p.1 = true ∧ rfind p.1 S.sure 0 < 0 ∧ (S.lay p).laysOK l
structure LayAt (st0 st : Heap) (w : Nat) (S : RFS) : Prop where
 ex : ∃ fv sv fs, st w = some (.cells true (rC fv sv (.slice none 0 0) ⟨0, false, 0, 0, false⟩) 8 (.own w 0 80)) ∧ Vec st (.ty 1) 2 sv (dV S.sure) S.sure.length ∧ Fresh st0 sv ∧ Vec st (.own w 0 83) 2 fv fs S.files.length ∧ Fresh st0 fv ∧ ∀ (k : Nat) F, S.files[k]? = some F → RFAt st w k ((fs.drop (k * 2)).take 2) F
 new : New st0 st
 off : st0 w = none
 turns : S.turns = []
 c : S.c = ⟨0, false, 0, 0, false⟩
 len : S.sure.length = S.files.length
theorem RFAt.ext {st st' : Heap} {w k n : Nat} {cs : List Value} {F : RF} (h : RFAt st w k cs F) (hx : Ext (.ty n) st st') : RFAt st' w k cs F := by
 obtain ⟨sv, uv, e, h1, h2⟩ := h
 exact ⟨sv, uv, e, h1.ext hx, h2.keep (hx.toKeep (p := (· = .own w k 84)) (by simp)) rfl⟩
section
variable {W0 : World} {st : Heap}
theorem zhb {nb db : Option Addr} {nc dc : Nat} {l : List (ByteArray × Bs)} {vs : List Value} (hvl : vs.length = l.length)
  (hnm : RegF st 1 (.slice nb l.length nc) (l.map fun p => Value.string p.1) l.length) (hdt : RegF st 1 (.slice db l.length dc) vs l.length)
  (hvs : ∀ (k : Nat) (p : ByteArray × Bs) (v : Value), l[k]? = some p → vs[k]? = some v → RegF st 1 v (bytesV p.2) p.2.length ∧ p.2.length ≤ 1000000) (hn : l.length ≤ 1000) (hok : RFS.new.laysOK l) :
  z00 Tryz.prog W0 34 #[.slice nb l.length nc, .slice db l.length dc] st fun e st' => ∃ w, e = .returned (.tuple #[ptr w, Val.i 0]) ∧ st w = none ∧ RFSAt st' w (RFS.new.lays l) ∧ New st st' := by
 refine enter (args := [_, _]) Tryz.func34 rfl ?_
 simp [Tryz.f34, go_sem]
 unfold NewP
 intro w hw
 refine ⟨.own w 0 80, ?_⟩
 have hLay0 : LayAt st (upd st w (.cells true [.slice none 0 0, .slice none 0 0, .slice none 0 0, Val.i 0, .bool false, Val.i 0, Val.i 0, .bool false] 8 (.own w 0 80))) w RFS.new :=
  ⟨⟨_, _, [], upd_same _ _ _, Vec.nil, Fresh.none, Vec.nil, Fresh.none, fun k F h => by simp [RFS.new] at h⟩, (New.refl st).put hw, hw, rfl, rfl, rfl⟩
 simp [go_sem]
 generalize upd st w (.cells true [.slice none 0 0, .slice none 0 0, .slice none 0 0, Val.i 0, .bool false, Val.i 0, Val.i 0, .bool false] 8 (.own w 0 80)) = s0 at *
 refine ⟨fun E s => E 0 = .slice nb l.length nc ∧ E 1 = .slice db l.length dc ∧ E 6 = ptr w ∧ ∃ (i : Nat) (S : RFS), E 7 = Val.i (i : Int) ∧ i ≤ l.length ∧ LayAt st s w S ∧ S.files.length = i ∧ S.laysOK (l.drop i) ∧ S.lays (l.drop i) = RFS.new.lays l,
  fun E _ => match E 7 with | .int _ z => l.length - z.toNat | _ => 0,
  ⟨s0, .rfl' _, by simp [go_sem], by simp [go_sem], by simp [go_sem], 0, RFS.new, by simp [go_sem], by omega, hLay0, rfl, by simpa using hok, by simp⟩, ?_⟩
 rintro E s1 ⟨e0, e1, e6, i, S, e7, hi, hL, hfi, hoks, hlays⟩
 obtain ⟨⟨fv, sv, fs, hw1, hsv, hsf, hfv, hff, hfs⟩, hN, hoff, htu, hc, hsl⟩ := hL
 obtain ⟨sb, sc, rfl⟩ := hsv.slice
 obtain ⟨fb, fc, rfl⟩ := hfv.slice
 by_cases hlt : i < l.length
 rotate_left
 ·have : i = l.length := by omega
  subst this
  rw [List.drop_length] at hlays
  have hS : S = RFS.new.lays l := hlays
  have q1 : ((1024 : Int) < l.length) = False := eq_false (by omega)
  simp [go_sem, e0, e1, e6, e7, q1]
  refine ⟨fun E s => s = s1 ∧ E 1 = .slice db l.length dc ∧ E 6 = ptr w ∧ ∃ j : Nat, E 8 = Val.i (j : Int) ∧ j ≤ l.length, fun E _ => match E 8 with | .int _ z => l.length - z.toNat | _ => 0,
   ⟨s1, .rfl' _, rfl, by simp [go_sem, e1], by simp [go_sem, e6], 0, by simp [go_sem], by omega⟩, ?_⟩
  clear e0 e1 e6 e7
  rintro E s ⟨rfl, e1, e6, j, e8, hj⟩
  by_cases hjl : j < l.length
  ·have t1 : ((j : Int) < l.length) = True := eq_true (by omega)
   have hwj := wrS j (by omega)
   obtain ⟨hd1, hd2⟩ := hvs j _ _ (List.getElem?_eq_getElem hjl) (List.getElem?_eq_getElem (show j < vs.length by omega))
   obtain ⟨n2, o2, rfl, g2⟩ := z0h (hdt.new hN).src (by omega)
   have y2 := g2 j (by omega)
   rw [List.getElem?_eq_getElem (show j < vs.length by omega)] at y2
   generalize vs[j] = dv at *
   generalize l[j] = p at *
   obtain ⟨xb, xc, rfl⟩ := hd1.slice
   have q2 : ((1073741824 : Int) < p.2.length) = False := eq_false (by omega)
   simp [go_sem, e1, e6, e8, t1, hjl, y2, q2, hwj]
   exact ⟨_, .rfl' _, ⟨rfl, j + 1, by simp, by omega⟩, by omega⟩
  ·have : j = l.length := by omega
   subst this
   simp [go_sem, e1, e6, e8]
   refine ⟨hoff, ?_, hN⟩
   rw [← hS]
   refine ⟨_, _, .slice none 0 0, fs, by rw [hc]; exact hw1, hsv.rf, ?_, hfv, hfs⟩
   rw [htu]
   exact Vec.nil
 have t1 : ((i : Int) < l.length) = True := eq_true (by omega)
 have hwi := wrS i (by omega)
 have hx : l[i]? = some l[i] := List.getElem?_eq_getElem hlt
 have hdr : l.drop i = l[i] :: l.drop (i + 1) := List.drop_eq_getElem_cons hlt
 have hvx : vs[i]? = some vs[i] := List.getElem?_eq_getElem (by omega)
 obtain ⟨hd1, hd2⟩ := hvs i _ _ hx hvx
 obtain ⟨n1, o1, rfl, g1⟩ := z0h (hnm.new hN).src (by omega)
 obtain ⟨n2, o2, rfl, g2⟩ := z0h (hdt.new hN).src (by omega)
 have y1 := g1 i (by omega)
 have y2 := g2 i (by omega)
 have y2' := hvx
 have hm : (l.map fun p => Value.string p.1)[i]? = some (.string l[i].1) := by simp [hx]
 rw [hm] at y1
 rw [hdr] at hoks hlays
 generalize l[i] = p at *
 generalize vs[i] = dv at *
 obtain ⟨k1, k2, k3⟩ := hoks
 obtain ⟨xb, xc, rfl⟩ := hd1.slice
 unfold rC at hw1
 have qf : (0 ≤ rfind p.1 S.sure 0) = False := eq_false (by omega)
 simp [go_sem, e0, e1, e6, e7, t1, hlt]
 refine draw [0, 1, 2, 3, 4, 5, 6, 7, 8, 9, 11, 12, 13, 10, 14, 15, 16, 17] (by kernel_rfl) ?_
 simp [go_sem, e0, e1, e6, e7, t1, hlt, y1]
 refine z4n.mono ?_
 rintro e s2 ⟨rfl, rfl⟩
 rw [k1]
 simp [go_sem, e0, e1, e6, e7, t1, hlt, y1, hw1]
 refine (z7w (n := p.1) hsv.rf (by omega)).mono ?_
 rintro e s2 ⟨rfl, rfl⟩
 simp [go_sem, e0, e1, e6, e7, qf]
 refine draw [0, 1, 2, 3, 5, 6, 7, 9, 4, 8, 10, 11, 12, 13, 14, 15] (by kernel_rfl) ?_
 simp [go_sem, e0, e1, e6, e7, t1, hlt, y1, hw1]
 unfold NewS
 intro nb' hnb
 refine ⟨.ty 1, ?_⟩
 have a1 := (New.refl s2).add (b := nb') (o := .cells true [.string p.1, Val.i (i : Int)] 2 (.ty 1)) hnb
 simp [go_sem]
 refine AppI_new (st0 := st) (g := .ty 1) (m := 1) (ys := [.string p.1, Val.i (i : Int)]) si89 (hsv.new' a1) hsf (hN.trans a1) (by simp [z06, z0i, upd_same, cellsOf]) (by simp [Value.oneCell']) (by omega) ?_
 intro b4 c4 s4 hV4 hF4 hN4 hx4
 have kX : ∀ y r, Keep (· = .own w y r) s2 s4 := fun y r => (a1.to _).trans (hx4.toKeep (by simp))
 have hw4 := (kX 0 80).get hw1 rfl
 simp [go_sem, e0, e1, e6, e7, hw4, upd_same]
 obtain ⟨s5, hs5⟩ : ∃ s, upd s4 w (.cells true [.slice fb S.files.length fc, .slice b4 (S.sure.length + 1) c4, .slice none 0 0, Val.i 0, .bool false, Val.i 0, Val.i 0, .bool false] 8 (.own w 0 80)) = s := ⟨_, rfl⟩
 have hw5 : s5 w = some (.cells true [.slice fb S.files.length fc, .slice b4 (S.sure.length + 1) c4, .slice none 0 0, Val.i 0, .bool false, Val.i 0, Val.i 0, .bool false] 8 (.own w 0 80)) := by rw [← hs5]; exact upd_same _ _ _
 have kk : ∀ (p : Tg → Prop), ¬ p (.own w 0 80) → Keep p s4 s5 := fun p hp => by rw [← hs5]; exact Keep.rfl'.old hw4 (by intro g hg; injection hg with hg; subst hg; exact hp)
 have hN5 : New st s5 := by rw [← hs5]; exact hN4.put hoff
 have kF5 := kk Free (fun h => h _ _ _ rfl)
 have v5 := hV4.keep (kk (· = .ty 1) (by simp)) rfl
 have f5 := (hfv.keep (kX 0 83) rfl).keep (kk (· = .own w 0 83) (by simp)) rfl
 have q5 : ∀ (k : Nat) F, S.files[k]? = some F → RFAt s5 w k ((fs.drop (k * 2)).take 2) F := fun k F hF => (((hfs k F hF).keep (a1.to _) (a1.to _)).ext hx4).keep kF5 (kk _ (by simp))
 rw [hs5]
 obtain ⟨n2', o2', hq, g2'⟩ := z0h (hdt.new hN5).src (by omega)
 injection hq with hq
 injection hq with z1 z2 _
 subst z1; subst z2
 have y3 := g2' i (by omega)
 rw [y2'] at y3
 refine draw [0, 1, 2, 3, 5, 6, 7, 4, 8, 9, 10, 11, 12, 13, 14, 15] (by kernel_rfl) ?_
 simp [go_sem, e0, e1, e6, e7, t1, hlt, y3, hw5]
 refine z2q (.ty 1) si40 (hd1.new hN5).src (by omega) ?_
 intro b6 c6 s6 hV6 hF6 n6
 simp [go_sem]
 unfold NewS
 intro nc' hnc
 refine ⟨.ty 1, ?_⟩
 have a6 := (New.refl s6).add (b := nc') (o := .cells true [.slice b6 p.2.length c6, .slice none 0 0] 2 (.ty 1)) hnc
 simp [go_sem]
 refine AppI_new (st0 := st) (g := .own w 0 83) (m := 1) (ys := [.slice b6 p.2.length c6, .slice none 0 0]) si88 ((f5.new' n6).new' a6) hff (hN5.trans (n6.trans a6)) (by simp [z06, z0i, upd_same, cellsOf]) (by simp [Value.oneCell']) (by omega) ?_
 intro b8 c8 s8 hV8 hF8 hN8 hE8
 obtain ⟨r1, r2, r3⟩ := hE8.rest
 have n56 := n6.trans a6
 have hw8 := (r3 0 80 (by omega)).get (n56 _ _ hw5) rfl
 have k8 : ∀ (q : Tg → Prop) (o : HObj), ¬ q (.own w 0 80) → Keep q s8 (upd s8 w o) := fun q o hq => Keep.rfl'.old hw8 (by intro g hg; injection hg with hg; subst hg; exact hq)
 simp [go_sem, e0, e1, e6, e7, hw8, upd_same, hwi]
 refine ⟨_, .rfl' _, ⟨i + 1, by simp, by omega, S.lay p, ⟨⟨_, _, fs ++ [.slice b6 p.2.length c6, .slice none 0 0], upd_same _ _ _, ?_, hF4, ?_, hF8, fun k F hF => ?_⟩, hN8.put hoff, hoff, htu, hc, by simp [RFS.lay, hsl]⟩, by simp [RFS.lay, hfi], k3, hlays⟩, by omega⟩
 ·show Vec _ _ 2 _ (dV (S.sure ++ [(p.1, (S.files.length : Int))])) (S.sure ++ [(p.1, (S.files.length : Int))]).length
  rw [z6p, List.length_append]
  rw [hfi]
  exact ((v5.new' n56).keep (hE8.toKeep (p := (· = .ty 1)) (by simp)) rfl).keep (k8 (· = .ty 1) _ (by simp)) rfl
 ·show Vec _ _ 2 _ _ (S.files ++ [(⟨p.2, []⟩ : RF)]).length
  rw [List.length_append]
  exact hV8.keep (k8 (· = .own w 0 83) _ (by simp)) rfl
 ·have hfl2 : fs.length = S.files.length * 2 := hfv.1
  simp only [RFS.lay] at hF
  by_cases hk : k < S.files.length
  ·rw [List.getElem?_append_left hk] at hF
   rw [List.drop_append_of_le_length (by omega), List.take_append_of_le_length (by rw [List.length_drop]; omega)]
   exact ((q5 k F hF).keep ((n56.to Free).trans r1) ((n56.to _).trans (r3 k 84 (by omega)))).keep (k8 Free _ (fun h => h _ _ _ rfl)) (k8 _ _ (by simp))
  ·rw [List.getElem?_append_right (by omega)] at hF
   cases hz : k - S.files.length with
   | zero =>
    rw [hz] at hF
    injection hF with hF
    subst hF
    have : k = S.files.length := by omega
    subst this
    rw [← hfl2, List.drop_left]
    exact ⟨_, _, rfl, (((hV6.new' a6).rf).free r1).free (k8 Free _ (fun h => h _ _ _ rfl)), Vec.nil⟩
   | succ z => rw [hz] at hF; simp at hF
end
end Go.Proofs.YtahgfnbkkfpcnaaGreat
