/- A region of any order: each result by itself, what speaks of the heap too, and what holds of the heap by what is done. Plain theorems, over any program. -/
import Derived.Test.YtahgfnbkkfpcnaaGreatC11
import Derived.Test.YtahgfnbkkfpcnaaGreatC49
import Derived.Test.YtahgfnbkkfpcnaaGreatC50
import Derived.Test.YtahgfnbkkfpcnaaGreatC51
import Derived.Test.YtahgfnbkkfpcnaaGreatC22
set_option linter.unusedVariables false
set_option linter.unusedSimpArgs false
namespace Go.Proofs.YtahgfnbkkfpcnaaGreat
theorem drawH {P : Program} {W0 : World} {ops : List Oper} {Q : IPost} {Kp : PPost} {E0 : Env} {st0 : Heap} (l : List Nat) (R : Heap → Heap → Prop) (V : Nat → Value → Heap → Prop) (G : List Nat → Heap → Prop) (htopo : topoOK ops [] l = true) (hdst : dstOK ops = true) (h0 : G [] st0) (hst : ∀ i v st st', R st st' → V i v st → V i v st')
  (hstep : ∀ (i : Nat) (o : Oper), ops[i]? = some o → ∀ (done : List Nat) (E : Env) (st : Heap), i ∉ done → G done st → (∀ e ∈ o.after.toList, bnds e = true → e.on ∈ done) →
   (∀ (j : Nat) (oj : Oper), j ∈ done → ops[j]? = some oj → ∀ e ∈ oj.after.toList, bnds e = true → e.on ∈ done) →
   (∀ e ∈ o.after.toList, bnds e = true → ∀ (oj : Oper) (dj : Nat), ops[e.on]? = some oj → oj.dst = some dj → V e.on (E dj) st) →
   (∀ t, (∀ (j : Nat) (oj : Oper), ops[j]? = some oj → oj.dst = some t → ∃ e ∈ oj.after.toList, bnds e = true ∧ e.on = i) → E t = E0 t) →
   (bif z02 ops.toArray o E then opX P W0 o E (fun v st' => R st st' ∧ V i v st' ∧ G (i :: done) st') Kp st else V i undef st ∧ G (i :: done) st))
  (hend : ∀ (done : List Nat) (E : Env) (st : Heap), (∀ i, i < ops.length → i ∈ done) → G done st → (∀ (i : Nat) (o : Oper) (d : Nat), ops[i]? = some o → o.dst = some d → V i (E d) st) → (∀ t, (∀ (j : Nat) (oj : Oper), ops[j]? = some oj → oj.dst ≠ some t) → E t = E0 t) → Q .normal E st)
  (hc : ∀ (j : Nat) (oj : Oper), ops[j]? = some oj → clsR P oj.op ≤ 3) : DrawI P W0 ops Q Kp E0 st0 := by
 refine drawJ l (fun done E st => G done st ∧ (∀ (i : Nat) (o : Oper) (d : Nat), ops[i]? = some o → i ∈ done → o.dst = some d → V i (E d) st) ∧ (∀ t, (∀ (j : Nat) (oj : Oper), ops[j]? = some oj → oj.dst = some t → j ∉ done) → E t = E0 t)) htopo ⟨h0, by simp, fun _ _ => rfl⟩ ?_ ?_ hc
 ·intro i o ho done E st hnot hdeps hcl hJ
  obtain ⟨hG, hV, hE⟩ := hJ
  have hnext : ∀ (v : Value) (st' : Heap), (∀ i v, V i v st → V i v st') → V i v st' → G (i :: done) st' → G (i :: done) st' ∧ (∀ (k : Nat) (ok : Oper) (d : Nat), ops[k]? = some ok → k ∈ i :: done → ok.dst = some d → V k (E.put o.dst v d) st') ∧ (∀ t, (∀ (j : Nat) (oj : Oper), ops[j]? = some oj → oj.dst = some t → j ∉ i :: done) → E.put o.dst v t = E0 t) := by
   intro v st' hstab hv hg
   refine ⟨hg, ?_, ?_⟩
   ·intro k ok d hok hkd hd
    rcases List.mem_cons.1 hkd with rfl | hkd
    ·rw [ho] at hok; injection hok with hok; subst hok
     rw [hd]
     show V k ((E.set d v) d) st'
     simp [Env.set]
     exact hv
    ·have h1 : E.put o.dst v d = E d := by
      cases hod : o.dst with
      | none => rfl
      | some d' =>
       show E.set d' v d = E d
       unfold Env.set
       rw [if_neg]
       rintro rfl
       exact hnot ((dstOK_spec hdst ho hok hod hd) ▸ hkd)
     rw [h1]
     exact hstab _ _ (hV k ok d hok hkd hd)
   ·intro t ht
    have h1 : E.put o.dst v t = E t := by
     cases hod : o.dst with
     | none => rfl
     | some d' =>
      show E.set d' v t = E t
      unfold Env.set
      rw [if_neg]
      rintro rfl
      exact ht i o ho hod (by simp)
    rw [h1]
    exact hE t fun j oj hoj hd hm => ht j oj hoj hd (by simp [hm])
  have hs := hstep i o ho done E st hnot hG hdeps hcl (fun e he hb oj dj hoj hdj => hV e.on oj dj hoj (hdeps e he hb) hdj) (fun t ht => hE t fun j oj hoj hd hm => by
   obtain ⟨e, he, hb, hon⟩ := ht j oj hoj hd
   have := hcl j oj hm hoj e he hb
   rw [hon] at this
   exact hnot this)
  cases hw : z02 ops.toArray o E with
  | true =>
   rw [hw] at hs
   simp only [cond_true] at hs ⊢
   exact opX_mono (hc i o ho) (fun v st' _ hk => hnext v st' (fun i v => hst i v _ _ hk.1) hk.2.1 hk.2.2) (fun _ _ => id) hs
  | false =>
   rw [hw] at hs
   simp only [cond_false] at hs ⊢
   exact hnext undef st (fun _ _ h => h) hs.1 hs.2
 ·intro done E st hall hJ
  obtain ⟨hG, hV, hE⟩ := hJ
  exact hend done E st hall hG (fun i o d ho hd => hV i o d ho (hall i (List.getElem?_eq_some_iff.1 ho).1) hd) (fun t ht => hE t fun j oj ho hd => absurd hd (ht j oj ho))
set_option maxRecDepth 100000
set_option maxHeartbeats 4000000
open Go.RowKit (Below)
theorem z3u {f n : Nat} : Out f (.ty n) := by intro x r; simp
theorem mem_done {ops : List Oper} {t : Nat} {o : Oper} {done : List Nat} (ho : ops[t]? = some o) (h : ∀ e ∈ o.after.toList, bnds e = true → e.on ∈ done) (hcl : ∀ (j : Nat) (oj : Oper), j ∈ done → ops[j]? = some oj → ∀ e ∈ oj.after.toList, bnds e = true → e.on ∈ done) {j : Nat} (hj : (reach ops ops.length (after1 ops t)).contains j = true) : j ∈ done :=
 z8q hcl _ _ (z8g ho h) j (by simpa using hj)
structure PubG (st0 : Heap) (t4 f w : Nat) (m : ManD) (bb : Option Addr) (bc : Nat) (tb : Option Addr) (tc : Nat) (S0 S1 : VFS) (G0 G1 : RFS) (done : List Nat) (st : Heap) : Prop where
 cell : st t4 = some (.cells true [Val.i m.seq, Val.i m.log, Val.i m.next, Val.i m.now, .slice bb m.blocks.length bc, .slice tb m.tombs.length tc] 6 (.ty 0))
 keep : Keep Free st0 st
 fs : FSAt st f (if 3 ∈ done then S1 else S0)
 rs : RFSAt st w (if 6 ∈ done then G1 else G0)
section
variable {st0 st st' : Heap} {t4 f w : Nat} {m : ManD} {bb tb : Option Addr} {bc tc : Nat} {S0 S1 : VFS} {G0 G1 : RFS} {done : List Nat}
theorem PubG.calm (h : PubG st0 t4 f w m bb bc tb tc S0 S1 G0 G1 done st) {i : Nat} (hk : Keep Free st st') (hc : st' t4 = some (.cells true [Val.i m.seq, Val.i m.log, Val.i m.next, Val.i m.now, .slice bb m.blocks.length bc, .slice tb m.tombs.length tc] 6 (.ty 0)))
  (hf : ∀ {S}, FSAt st f S → FSAt st' f S) (hr : ∀ {G}, RFSAt st w G → RFSAt st' w G) (h3 : i ≠ 3) (h6 : i ≠ 6) : PubG st0 t4 f w m bb bc tb tc S0 S1 G0 G1 (i :: done) st' := by
 refine ⟨hc, h.keep.trans hk, ?_, ?_⟩
 ·have := hf h.fs
  have e : (3 ∈ i :: done) = (3 ∈ done) := by simp [Ne.symm h3]
  simp only [e]; exact this
 ·have := hr h.rs
  have e : (6 ∈ i :: done) = (6 ∈ done) := by simp [Ne.symm h6]
  simp only [e]; exact this
theorem PubG.skip (h : PubG st0 t4 f w m bb bc tb tc S0 S1 G0 G1 done st) {i : Nat} (hi : i ≠ 3 ∧ i ≠ 6) : PubG st0 t4 f w m bb bc tb tc S0 S1 G0 G1 (i :: done) st := h.calm .rfl' h.cell (fun h => h) (fun h => h) hi.1 hi.2
end
def rL2 (a r : Bs) : RFS := RFS.new.lays [(manN, a), (tmpN, r)]
theorem laid_FB {a r : Bs} (ha : a.length ≤ 1073741824) (hr : r.length ≤ 1073741824) : FB (L2 a r) (rL2 a r) 2 := by
 have h1 : FSim (VFS.new.lay manN a) (RFS.new.lay (manN, a)) := FSim.new.lay rfl rfl rfl rfl ok_m
 have h2 : FSim (L2 a r) (rL2 a r) := h1.lay (n := tmpN) (b := r) rfl rfl (by simp [VFS.lay, VFS.new, aset, aget, afind, n_mt, n_tm]) (by simp [VFS.lay, VFS.new, aset, aget, afind, n_mt, n_tm]) ok_t
 refine ⟨h2, ⟨by simp [L2, VFS.lay, VFS.new], by simp [L2, VFS.lay, VFS.new], fun F hF => ?_⟩, ⟨by simp [rL2, RFS.lays, RFS.lay, RFS.new], by simp [rL2, RFS.lays, RFS.lay, RFS.new], fun R hR => ?_⟩⟩
 ·simp [L2, VFS.lay, VFS.new] at hF
  rcases hF with rfl | rfl
  ·exact ⟨by simp, ha, ha⟩
  ·exact ⟨by simp, hr, hr⟩
 ·simp [rL2, RFS.lays, RFS.lay, RFS.new] at hR
  rcases hR with rfl | rfl <;> simp
theorem FB.names {S : VFS} {G : RFS} {k : Nat} (h : FB S G k) : S.now.length ≤ k := by
 have h1 := h.sim.now.len
 have h2 := z7j G.turns G.sure
 have h3 := h.rb.dirs
 unfold RFS.dir at h1
 omega
section
variable {W0 : World} {st : Heap}
theorem zho {cs : List Value} {m : ManD} {kind after : Int} {bv : Value} {data : Bs} (hm : ManAt st cs m) (hfits : z2j m) (hd : Reg st (.ty 0) 1 bv (bytesV data) data.length) :
  z00 Tryz.prog W0 6 #[.agg cs.toArray, bv, Val.i kind, Val.i after] st fun e st' => e = .returned (.bool true) := by
 have hm0 := hm
 obtain ⟨mbv, mtv, mbs, mts, rfl, hmb, hmbs, hmt, hmts⟩ := hm
 obtain ⟨bb, bc, rfl⟩ := hmb.slice
 obtain ⟨tb, tc, rfl⟩ := hmt.slice
 obtain ⟨db, dc, rfl⟩ := hd.slice
 have awk : ∀ {st : Heap}, z00 Tryz.prog W0 33 #[] st fun e st' => e = .returned (.bool true) := ziv.mono fun e st' h => h.1
 refine enter (args := [_, _, _, _]) Tryz.func6 rfl ?_
 iterate 5 refine zcj ?_
 refine z1a (fun E' s => ∃ (t4 f w : Nat) (S00 : VFS) (G00 : RFS), (∀ t ∈ m.tombs, NiceM 12 t.m) ∧ m.tombs.length ≤ 70 ∧ m.blocks.length ≤ 1000 ∧ E' 2 = Val.i kind ∧ E' 3 = Val.i after ∧ E' 4 = ptr t4 ∧ E' 10 = ptr f ∧ E' 12 = ptr w ∧ w ≠ f ∧ s t4 = some (.cells true [Val.i m.seq, Val.i m.log, Val.i m.next, Val.i m.now, .slice bb m.blocks.length bc, .slice tb m.tombs.length tc] 6 (.ty 0)) ∧ FSAt s f S00 ∧ RFSAt s w G00 ∧ FB S00 G00 2 ∧ Keep Free st s) ?_ ?_
 ·simp [go_sem]
  unfold NewP
  intro t4 ht4
  refine ⟨.ty 0, ?_⟩
  have hc1 := upd_same st t4 (.cells true [Val.i m.seq, Val.i m.log, Val.i m.next, Val.i m.now, .slice bb m.blocks.length bc, .slice tb m.tombs.length tc] 6 (.ty 0))
  have hN1 := (New.refl st).add (b := t4) (o := .cells true [Val.i m.seq, Val.i m.log, Val.i m.next, Val.i m.now, .slice bb m.blocks.length bc, .slice tb m.tombs.length tc] 6 (.ty 0)) ht4
  simp [go_sem]
  generalize upd st t4 (.cells true [Val.i m.seq, Val.i m.log, Val.i m.next, Val.i m.now, .slice bb m.blocks.length bc, .slice tb m.tombs.length tc] 6 (.ty 0)) = s1 at *
  refine (zif (hm0.new hN1)).mono ?_
  rintro e s2 ⟨r, rfl, hr, k2⟩
  have hc2 := k2 _ _ hc1
  have hN2 := hN1.trans k2
  cases r with
  | false =>
   simp [go_sem]
   refine awk.mono ?_
   rintro e st' rfl
   simp [go_sem]
  | true =>
  obtain ⟨tl1, bl1, hnice⟩ := hr rfl
  by_cases hdl : 2000 < data.length
  ·have q : ((2000 : Int) < data.length) = True := eq_true (by omega)
   simp [go_sem, q]
   refine awk.mono ?_
   rintro e st' rfl
   simp [go_sem]
  have q : ((2000 : Int) < data.length) = False := eq_false (by omega)
  simp [go_sem, q]
  unfold NewS
  intro nb hnb
  refine ⟨.ty 0, ?_⟩
  have hnb3 := upd_same s2 nb (.cells true [.string manN, .string tmpN] 2 (.ty 0))
  have hN3 := hN2.trans ((New.refl s2).add (b := nb) (o := .cells true [.string manN, .string tmpN] 2 (.ty 0)) hnb)
  have hc3 := ((New.refl s2).add (b := nb) (o := .cells true [.string manN, .string tmpN] 2 (.ty 0)) hnb) _ _ hc2
  simp [go_sem]
  unfold manN tmpN at hnb3 hN3 hc3
  generalize upd s2 nb _ = s3 at *
  refine (zfd (.ty 0) (hd.new hN3) (by omega)).mono ?_
  rintro e s4 ⟨xb, xc, rfl, hX4, -, k4⟩
  have hN4 := hN3.trans k4
  have hnb4 := k4 _ _ hnb3
  have hc4 := k4 _ _ hc3
  simp [go_sem]
  unfold NewS
  intro tw htw
  refine ⟨.ty 0, ?_⟩
  have htw5 := upd_same s4 tw (.cells true [.int .u8 1, .int .u8 2] 2 (.ty 0))
  have k5 := (New.refl s4).add (b := tw) (o := .cells true [.int .u8 1, .int .u8 2] 2 (.ty 0)) htw
  simp [go_sem]
  generalize upd s4 tw (.cells true [.int .u8 1, .int .u8 2] 2 (.ty 0)) = s5 at *
  intro db2 hdb2
  refine ⟨.ty 0, ?_⟩
  have hdb6 := upd_same s5 db2 (.cells true [.slice xb data.length xc, .slice (some ⟨tw, 0, none⟩) 2 2] 2 (.ty 0))
  have k6 := (New.refl s5).add (b := db2) (o := .cells true [.slice xb data.length xc, .slice (some ⟨tw, 0, none⟩) 2 2] 2 (.ty 0)) hdb2
  simp [go_sem]
  generalize upd s5 db2 (.cells true [.slice xb data.length xc, .slice (some ⟨tw, 0, none⟩) 2 2] 2 (.ty 0)) = s6 at *
  have hN6 := (hN4.trans k5).trans k6
  have hX6 := (hX4.new' k5).new' k6
  have htw6 := k6 _ _ htw5
  have hc6 := k6 _ _ (k5 _ _ hc4)
  have hnb6 := k6 _ _ (k5 _ _ hnb4)
  have hRow : ∀ {s : Heap} {b : Nat} {xs : List Value}, s b = some (.cells true xs 2 (.ty 0)) → xs.length = 2 → Reg s (.ty 0) 1 (.slice (some ⟨b, 0, none⟩) 2 2) xs 2 := fun {s b xs} h hl => by
   have := Reg.row (g := .ty 0) (rw_ := true) (n := 2) h (by omega)
   rw [hl] at this
   exact this
  have hTw : ∀ {s : Heap} {b : Nat}, s b = some (.cells true [.int .u8 1, .int .u8 2] 2 (.ty 0)) → Reg s (.ty 0) 1 (.slice (some ⟨b, 0, none⟩) 2 2) (bytesV [1, 2]) 2 := fun h => hRow h rfl
  have hlok : laysOK .new [manN, tmpN] = true := by simp [laysOK, VFS.lay, VFS.new, aset, aget, afind, n_mt, n_tm, ok_m, ok_t]
  have hfill : fillM (laysM .new [manN, tmpN]) ([manN, tmpN].zip [data, [1, 2]]) = some (L2 data [1, 2]) := by
   simp [fillM, laysM, VFS.fillF, L2, VFS.lay, VFS.new, aset, aget, afind, n_mt, n_tm, n_mm, n_tt, List.modify, VFile.app, VFile.synced]
  refine (zh5 (names := [manN, tmpN]) (datas := [data, [1, 2]]) (vs := [.slice xb data.length xc, .slice (some ⟨tw, 0, none⟩) 2 2]) (gn := .ty 0) (gd := .ty 0) (gb := .ty 0) rfl rfl (hRow hnb6 rfl) (hRow hdb6 rfl) ?_ Free.ty Free.ty Free.ty (by simp) hlok hfill).mono ?_
  ·intro k b v hb hv
   match k with
   | 0 =>
    simp at hb hv
    subst hb; subst hv
    exact ⟨hX6.reg, by omega⟩
   | 1 =>
    simp at hb hv
    subst hb; subst hv
    exact ⟨hTw htw6, by simp⟩
   | k + 2 => simp at hb
  rintro e s7 ⟨f, rfl, hfn, hF7, k7⟩
  have hc7 := k7.get hc6 z3u
  have hnb7 := k7.get hnb6 z3u
  have hd7 := (hd.new hN6).keep k7 z3u
  have K7 : Keep Free st s7 := (hN6.to _ : Keep Free st s6).trans (k7.imp z2t)
  simp [go_sem]
  unfold NewS
  intro tv htv
  refine ⟨.ty 0, ?_⟩
  have htv8 := upd_same s7 tv (.cells true [.int .u8 1, .int .u8 2] 2 (.ty 0))
  have k8 := (New.refl s7).add (b := tv) (o := .cells true [.int .u8 1, .int .u8 2] 2 (.ty 0)) htv
  simp [go_sem]
  generalize upd s7 tv (.cells true [.int .u8 1, .int .u8 2] 2 (.ty 0)) = s8 at *
  intro db3 hdb3
  refine ⟨.ty 0, ?_⟩
  have hdb9 := upd_same s8 db3 (.cells true [.slice db data.length dc, .slice (some ⟨tv, 0, none⟩) 2 2] 2 (.ty 0))
  have k9 := (New.refl s8).add (b := db3) (o := .cells true [.slice db data.length dc, .slice (some ⟨tv, 0, none⟩) 2 2] 2 (.ty 0)) hdb3
  simp [go_sem]
  generalize upd s8 db3 (.cells true [.slice db data.length dc, .slice (some ⟨tv, 0, none⟩) 2 2] 2 (.ty 0)) = s9 at *
  have hnb9 := k9 _ _ (k8 _ _ hnb7)
  have hc9 := k9 _ _ (k8 _ _ hc7)
  have htv9 := k9 _ _ htv8
  have hd9 := (hd7.new k8).new k9
  refine (zhb (l := [(manN, data), (tmpN, [1, 2])]) (vs := [.slice db data.length dc, .slice (some ⟨tv, 0, none⟩) 2 2]) rfl ((hRow hnb9 rfl).toF Free.ty) ((hRow hdb9 rfl).toF Free.ty) ?_ (by simp) ?_).mono ?_
  ·intro k p v hb hv
   match k with
   | 0 =>
    simp at hb hv
    subst hb; subst hv
    exact ⟨hd9.toF Free.ty, by simp only; omega⟩
   | 1 =>
    simp at hb hv
    subst hb; subst hv
    exact ⟨(hTw htv9).toF Free.ty, by simp⟩
   | k + 2 => simp at hb
  ·have e1 : strEq manN tmpN = false := by decide
   simp [RFS.laysOK, RFS.new, RFS.lay, rfind, ok_m, ok_t, e1]
  rintro e s10 ⟨w, rfl, hwn, hW10, k10⟩
  have hc10 := k10 _ _ hc9
  have hF10 := ((hF7.new k8).new k9).new k10
  have K10 : Keep Free st s10 := ((K7.trans (k8.to _)).trans (k9.to _)).trans (k10.to _)
  have hwf : w ≠ f := by
   rintro rfl
   obtain ⟨_, _, _, _, h1, _⟩ := (hF7.new k8).new k9
   rw [hwn] at h1; cases h1
  have hFB0 := laid_FB (a := data) (r := [1, 2]) (by omega) (by simp)
  change RFSAt s10 w (rL2 data [1, 2]) at hW10
  generalize L2 data [1, 2] = S00 at *
  generalize rL2 data [1, 2] = G00 at *
  simp [go_sem]
  exact ⟨hnice, tl1, bl1, hwf, hc10, S00, hF10, G00, hW10, hFB0, K10⟩
 rintro E s1 ⟨t4, f, w, S00, G00, hnice, tl1, bl1, e2, e3, e4, e10, e12, hwf, hc1, hF1, hW1, hFB0, K1⟩
 have hm1 := ManAt.free K1 hm0
 refine IW_cut (fun E' s => s = s1 ∧ E' 3 = Val.i after ∧ E' 4 = ptr t4 ∧ E' 10 = ptr f ∧ E' 12 = ptr w ∧ ∃ kd : Int, E' 14 = Val.i kd) ?_ ?_
 ·simp [go_sem, e2]
  refine (z88 (k := 3) (by omega) (by omega)).mono ?_
  rintro e s ⟨rfl, rfl⟩
  have hk3 : kind % 3 = 0 ∨ kind % 3 = 1 ∨ kind % 3 = 2 := by omega
  rcases hk3 with h | h | h
  all_goals
   simp [go_sem, h, e3, e4, e10, e12]
 clear e2 e3 e4 e10 e12 E
 rintro E s2 ⟨rfl, e3, e4, e10, e12, kd, e14⟩
 refine z1a (fun E' s => E' 4 = ptr t4 ∧ E' 10 = ptr f ∧ E' 12 = ptr w ∧ s t4 = some (.cells true [Val.i m.seq, Val.i m.log, Val.i m.next, Val.i m.now, .slice bb m.blocks.length bc, .slice tb m.tombs.length tc] 6 (.ty 0)) ∧ Keep Free st s ∧ ∃ S0 G0, FSAt s f S0 ∧ RFSAt s w G0 ∧ FB S0 G0 3) ?_ ?_
 ·simp [go_sem, e3, e4, e10, e12, e14]
  refine (z88 (k := 7) (by omega) (by omega)).mono ?_
  rintro e s ⟨rfl, rfl⟩
  simp [go_sem, e3, e4, e10, e12, e14]
  refine (Arm_spec hF1).mono ?_
  rintro e s3 ⟨rfl, hF3, k3⟩
  simp [go_sem, e3, e4, e10, e12, e14]
  refine (z88 (k := 7) (by omega) (by omega)).mono ?_
  rintro e s ⟨rfl, rfl⟩
  simp [go_sem, e3, e4, e10, e12, e14]
  refine (ze8 (hW1.out k3 hwf)).mono ?_
  rintro e s4 ⟨rfl, hW4, k4⟩
  obtain ⟨ha, hFB1⟩ := hFB0.arm kd (after % 7)
  simp [go_sem, e3, e4, e10, e12, e14, ha]
  exact ⟨k4.get (k3.get hc1 z3u) z3u, (K1.trans (k3.imp z2t)).trans (k4.imp z2t), _, hF3.out k4 (Ne.symm hwf), _, hW4, hFB1⟩
 clear e3 e4 e10 e12 e14 E
 rintro E st0 ⟨e4, e10, e12, hc0, K0, S0, G0, hF0, hW0, hFB1⟩
 have hm2 := ManAt.free K0 hm0
 -- both are published
 obtain ⟨z, S1, G1, hres1, hres2, hok1, hok2, hFB2⟩ : ∃ (z : Int) (S1 : VFS) (G1 : RFS),
   (∀ {e : Ending} {s : Heap}, (if manM m = true then e = .returned (Val.i (pubGo (z0d (bodyM m)) [0, 1, 2, 3, 4] 0 S0).1) ∧ FSAt s f (pubGo (z0d (bodyM m)) [0, 1, 2, 3, 4] 0 S0).2 else e = .returned (Val.i 5) ∧ FSAt s f S0) → e = .returned (Val.i z) ∧ FSAt s f S1) ∧
   (∀ {e : Ending} {s : Heap}, (if manM m = true then e = .returned (Val.i (z1s (z0d (bodyM m)) [0, 1, 2, 3, 4] 0 G0).1) ∧ RFSAt s w (z1s (z0d (bodyM m)) [0, 1, 2, 3, 4] 0 G0).2 else e = .returned (Val.i 5) ∧ RFSAt s w G0) → e = .returned (Val.i z) ∧ RFSAt s w G1) ∧
   (manM m = true → PubOK (z0d (bodyM m)) [0, 1, 2, 3, 4] S0) ∧ (manM m = true → z80 (z0d (bodyM m)) [0, 1, 2, 3, 4] G0) ∧ FB S1 G1 8 := by
  obtain ⟨p1, p2, p3, p4⟩ := FB.pub (z0d (bodyM m)) [0, 1, 2, 3, 4] 0 hFB1 (by simp)
  cases hmm : manM m with
  | true =>
   refine ⟨_, _, _, fun h => by simpa using h, fun h => ?_, fun _ => p1, fun _ => p2, p4⟩
   rw [p3]
   simpa using h
  | false => exact ⟨5, S0, G0, fun h => by simpa using h, fun h => by simpa using h, fun h => (Bool.noConfusion h), fun h => (Bool.noConfusion h), hFB1.mono (by omega)⟩
 have hcalls : S1.c.calls = G1.c.calls := by rw [hFB2.sim.c]
 have hnow : S1.now.length ≤ 12 := by have := hFB2.names; omega
 have hnam := hFB2.sim.now.1
 have hsim := hFB2.sim
 have hnice2 := hFB2.nice (by omega)
 have hrl : (rlist G1.dir).length = S1.now.length := by
  have h1 := (z9x G1.dir).length_eq
  have h2 := hsim.now.len
  rw [h1, List.length_map, h2]
 have hR0 : ∀ s : Heap, Keep Free s s := fun _ => .rfl'
 have hG0 : PubG st0 t4 f w m bb bc tb tc S0 S1 G0 G1 [] st0 := ⟨hc0, .rfl', hF0, hW0⟩
 refine z1a (fun E' s => E' 10 = ptr f ∧ E' 12 = ptr w ∧ Keep Free st0 s ∧ FSAt s f S1 ∧ RFSAt s w G1) ?_ ?_
 ·show IW _ _ (.seq _ _) _ _ _ _
  refine IW_cut (fun E' s => E' 97 = .bool false ∧ E' 10 = ptr f ∧ E' 12 = ptr w ∧ Keep Free st0 s ∧ FSAt s f S1 ∧ RFSAt s w G1) ?_ ?_
  ·simp [go_sem]
   refine drawH [0, 1, 2, 3, 4, 5, 6, 7, 8, 9, 10, 11, 12, 13, 14, 15, 16, 17, 18, 19, 20, 21, 22, 23, 24] (Keep Free) (fun i v st' => match i with
    | 0 | 9 | 18 => v = ptr f
    | 1 | 5 => v = .agg #[Val.i m.seq, Val.i m.log, Val.i m.next, Val.i m.now, .slice bb m.blocks.length bc, .slice tb m.tombs.length tc]
    | 2 => ∃ cs : List Value, v = .agg cs.toArray ∧ ManAt st' cs m
    | 3 | 6 => v = Val.i z
    | 4 | 11 | 12 | 20 => v = ptr w
    | 7 | 8 | 15 | 16 | 17 | 23 | 24 => v = .bool false
    | 10 | 14 => v = Val.i G1.c.calls
    | 13 => v = .pointer (some ⟨w, 3, none⟩)
    | 19 | 21 => ∃ b c, v = .slice b (rlist G1.dir).length c ∧ RegF st' 1 (.slice b (rlist G1.dir).length c) ((rlist G1.dir).map .string) (rlist G1.dir).length
    | 22 => v = .bool true
    | _ => True) (PubG st0 t4 f w m bb bc tb tc S0 S1 G0 G1) (by kernel_rfl) (by kernel_rfl) ?_ ?_ ?_ ?_ ?_
   ·exact hG0
   ·intro i v sta stb hNw h
    match i with
    | 2 => obtain ⟨cs, e, h⟩ := h; exact ⟨cs, e, ManAt.free hNw h⟩
    | 19 => obtain ⟨b, c, e, h⟩ := h; exact ⟨b, c, e, h.free hNw⟩
    | 21 => obtain ⟨b, c, e, h⟩ := h; exact ⟨b, c, e, h.free hNw⟩
    | 0 => exact h
    | 1 => exact h
    | 3 => exact h
    | 4 => exact h
    | 5 => exact h
    | 6 => exact h
    | 7 => exact h
    | 8 => exact h
    | 9 => exact h
    | 10 => exact h
    | 11 => exact h
    | 12 => exact h
    | 13 => exact h
    | 14 => exact h
    | 15 => exact h
    | 16 => exact h
    | 17 => exact h
    | 18 => exact h
    | 20 => exact h
    | 22 => exact h
    | 23 => exact h
    | 24 => exact h
    | i + 25 => exact h
   ·intro i oo hi done E sta hnd hG hdp hcl hd hE
    match i with
    | 0 =>
     have x10 := hE 10 (z1c (by kernel_rfl))
     injection hi with hi; subst hi
     simp [z02, go_sem, x10, e10]
     exact ⟨hR0 _, hG.skip (by decide)⟩
    | 1 =>
     have x4 := hE 4 (z1c (by kernel_rfl))
     injection hi with hi; subst hi
     have gt4 := hG.cell
     simp [z02, go_sem, x4, e4, gt4]
     exact ⟨hR0 _, hG.skip (by decide)⟩
    | 2 =>
     injection hi with hi; subst hi
     have d1 := hd { on := 1, ground := .data } (by simp) (by decide) _ _ rfl rfl
     simp only at d1
     simp [z02, go_sem, d1]
     refine (man_copy hnice (by omega) (by omega) (ManAt.free hG.keep hm2)).mono ?_
     rintro e stx ⟨cs', rfl, hm', kx⟩
     simp [go_sem]
     exact ⟨kx.to _, hm', hG.calm (kx.to _) (kx _ _ hG.cell) (fun h => h.new kx) (fun h => h.new kx) (by decide) (by decide)⟩
    | 3 =>
     injection hi with hi; subst hi
     have d0 := hd { on := 0, ground := .data } (by simp) (by decide) _ _ rfl rfl
     have d2 := hd { on := 2, ground := .data } (by simp) (by decide) _ _ rfl rfl
     simp only at d0 d2
     obtain ⟨cs', d2, hm9⟩ := d2
     simp [z02, go_sem, d0, d2]
     have hf3 := hG.fs
     rw [if_neg hnd] at hf3
     refine (zbr hf3 hm9 hfits hok1).mono ?_
     rintro e stx ⟨hR, kx⟩
     obtain ⟨rfl, hF'⟩ := hres1 hR
     simp [go_sem]
     refine ⟨kx.imp z2t, hG.keep.trans (kx.imp z2t) |> fun kk => ⟨kx.get hG.cell z3u, kk, ?_, ?_⟩⟩
     ·rw [if_pos (by simp)]; exact hF'
     ·have := hG.rs.out kx hwf; simpa using this
    | 4 =>
     have x12 := hE 12 (z1c (by kernel_rfl))
     injection hi with hi; subst hi
     simp [z02, go_sem, x12, e12]
     exact ⟨hR0 _, hG.skip (by decide)⟩
    | 5 =>
     have x4 := hE 4 (z1c (by kernel_rfl))
     injection hi with hi; subst hi
     have gt4 := hG.cell
     simp [z02, go_sem, x4, e4, gt4]
     exact ⟨hR0 _, hG.skip (by decide)⟩
    | 6 =>
     injection hi with hi; subst hi
     have d4 := hd { on := 4, ground := .data } (by simp) (by decide) _ _ rfl rfl
     have d5 := hd { on := 5, ground := .data } (by simp) (by decide) _ _ rfl rfl
     simp only at d4 d5
     simp [z02, go_sem, d4, d5]
     have hr6 := hG.rs
     rw [if_neg hnd] at hr6
     refine (zgv hr6 (ManAt.free hG.keep hm2) hnice hfits hok2).mono ?_
     rintro e stx ⟨hR, kx⟩
     obtain ⟨rfl, hF'⟩ := hres2 hR
     simp [go_sem]
     refine ⟨kx.imp z2t, hG.keep.trans (kx.imp z2t) |> fun kk => ⟨kx.get hG.cell z3u, kk, ?_, ?_⟩⟩
     ·have := hG.fs.out kx (Ne.symm hwf); simpa using this
     ·rw [if_pos (by simp)]; exact hF'
    | 7 =>
     injection hi with hi; subst hi
     have d3 := hd { on := 3, ground := .data } (by simp) (by decide) _ _ rfl rfl
     have d6 := hd { on := 6, ground := .data } (by simp) (by decide) _ _ rfl rfl
     simp only at d3 d6
     simp [z02, go_sem, d3, d6]
     exact ⟨hR0 _, hG.skip (by decide)⟩
    | 8 =>
     injection hi with hi; subst hi
     have d7 := hd { on := 7, ground := .data } (by simp) (by decide) _ _ rfl rfl
     simp only at d7
     simp [z02, go_sem, d7]
     exact ⟨hR0 _, hG.skip (by decide)⟩
    | 9 =>
     have x10 := hE 10 (z1c (by kernel_rfl))
     injection hi with hi; subst hi
     have d8 := hd { on := 8, ground := .guard } (by simp) (by decide) _ _ rfl rfl
     simp only at d8
     simp [z02, go_sem, d8, x10, e10]
     exact ⟨hR0 _, hG.skip (by decide)⟩
    | 10 =>
     injection hi with hi; subst hi
     have d9 := hd { on := 9, ground := .data } (by simp) (by decide) _ _ rfl rfl
     have d8 := hd { on := 8, ground := .chain } (by simp) (by decide) _ _ rfl rfl
     simp only at d9 d8
     simp [z02, go_sem, d9, d8]
     have hf10 := hG.fs
     rw [if_pos (mem_done (t := 10) rfl hdp hcl (by decide))] at hf10
     refine (zav hf10).mono ?_
     rintro e stx ⟨rfl, rfl⟩
     simp [go_sem, hcalls]
     exact ⟨hR0 _, hG.skip (by decide)⟩
    | 11 =>
     have x12 := hE 12 (z1c (by kernel_rfl))
     injection hi with hi; subst hi
     have d8 := hd { on := 8, ground := .guard } (by simp) (by decide) _ _ rfl rfl
     simp only at d8
     simp [z02, go_sem, d8, x12, e12]
     exact ⟨hR0 _, hG.skip (by decide)⟩
    | 12 =>
     injection hi with hi; subst hi
     have d11 := hd { on := 11, ground := .data } (by simp) (by decide) _ _ rfl rfl
     have d8 := hd { on := 8, ground := .guard } (by simp) (by decide) _ _ rfl rfl
     simp only at d11 d8
     simp [z02, go_sem, d11, d8]
     exact ⟨hR0 _, hG.skip (by decide)⟩
    | 13 =>
     injection hi with hi; subst hi
     have d12 := hd { on := 12, ground := .data } (by simp) (by decide) _ _ rfl rfl
     have d8 := hd { on := 8, ground := .guard } (by simp) (by decide) _ _ rfl rfl
     simp only at d12 d8
     simp [z02, go_sem, d12, d8]
     exact ⟨hR0 _, hG.skip (by decide)⟩
    | 14 =>
     injection hi with hi; subst hi
     have d13 := hd { on := 13, ground := .data } (by simp) (by decide) _ _ rfl rfl
     have d8 := hd { on := 8, ground := .guard } (by simp) (by decide) _ _ rfl rfl
     simp only at d13 d8
     have hr14 := hG.rs
     rw [if_pos (mem_done (t := 14) rfl hdp hcl (by decide))] at hr14
     obtain ⟨rfv, rsv, rtv, rfs, gt4, -⟩ := hr14
     simp [z02, go_sem, d13, d8, gt4]
     exact ⟨hR0 _, hG.skip (by decide)⟩
    | 15 =>
     injection hi with hi; subst hi
     have d10 := hd { on := 10, ground := .data } (by simp) (by decide) _ _ rfl rfl
     have d14 := hd { on := 14, ground := .data } (by simp) (by decide) _ _ rfl rfl
     have d8 := hd { on := 8, ground := .guard } (by simp) (by decide) _ _ rfl rfl
     simp only at d10 d14 d8
     simp [z02, go_sem, d10, d14, d8]
     exact ⟨hR0 _, hG.skip (by decide)⟩
    | 16 =>
     injection hi with hi; subst hi
     have d8 := hd { on := 8, ground := .data } (by simp) (by decide) _ _ rfl rfl
     have d15 := hd { on := 15, ground := .data } (by simp) (by decide) _ _ rfl rfl
     simp only at d8 d15
     simp [z02, go_sem, d8, d15]
     exact ⟨hR0 _, hG.skip (by decide)⟩
    | 17 =>
     injection hi with hi; subst hi
     have d16 := hd { on := 16, ground := .data } (by simp) (by decide) _ _ rfl rfl
     simp only at d16
     simp [z02, go_sem, d16]
     exact ⟨hR0 _, hG.skip (by decide)⟩
    | 18 =>
     have x10 := hE 10 (z1c (by kernel_rfl))
     injection hi with hi; subst hi
     have d17 := hd { on := 17, ground := .guard } (by simp) (by decide) _ _ rfl rfl
     simp only at d17
     simp [z02, go_sem, d17, x10, e10]
     exact ⟨hR0 _, hG.skip (by decide)⟩
    | 19 =>
     injection hi with hi; subst hi
     have d18 := hd { on := 18, ground := .data } (by simp) (by decide) _ _ rfl rfl
     have d17 := hd { on := 17, ground := .chain } (by simp) (by decide) _ _ rfl rfl
     simp only at d18 d17
     simp [z02, go_sem, d18, d17]
     have hf19 := hG.fs
     rw [if_pos (mem_done (t := 19) rfl hdp hcl (by decide))] at hf19
     refine (zd6 hf19 hnow hnam).mono ?_
     rintro e stx ⟨b, c, ns, rfl, hp, hso, hV, hF', kx⟩
     have hns := hsim.list hp hso
     have hlen : (rlist G1.dir).length = S1.now.length := by rw [← hns]; simpa using hp.length_eq
     simp [go_sem]
     rw [hns] at hV
     refine ⟨kx.imp z2t, ⟨b, c, by simp [hlen], by rw [hlen]; exact hV.reg.toF Free.ty⟩, kx.get hG.cell z3u, hG.keep.trans (kx.imp z2t), ?_, ?_⟩
     ·rw [if_pos (List.mem_cons_of_mem _ (mem_done (t := 19) rfl hdp hcl (by decide)))]; exact hF'
     ·have := hG.rs.out kx hwf; simpa using this
    | 20 =>
     have x12 := hE 12 (z1c (by kernel_rfl))
     injection hi with hi; subst hi
     have d17 := hd { on := 17, ground := .guard } (by simp) (by decide) _ _ rfl rfl
     simp only at d17
     simp [z02, go_sem, d17, x12, e12]
     exact ⟨hR0 _, hG.skip (by decide)⟩
    | 21 =>
     injection hi with hi; subst hi
     have d20 := hd { on := 20, ground := .data } (by simp) (by decide) _ _ rfl rfl
     have d17 := hd { on := 17, ground := .guard } (by simp) (by decide) _ _ rfl rfl
     simp only at d20 d17
     simp [z02, go_sem, d20, d17]
     have hr21 := hG.rs
     rw [if_pos (mem_done (t := 21) rfl hdp hcl (by decide))] at hr21
     refine (zfy hr21 hnice2.small).mono ?_
     rintro e stx ⟨v, rfl, hV, -, kx⟩
     obtain ⟨b, c, rfl⟩ := hV.slice
     simp [go_sem]
     exact ⟨kx.to _, ⟨b, c, ⟨rfl, rfl⟩, hV.reg.toF Free.ty⟩, hG.calm (kx.to _) (kx _ _ hG.cell) (fun h => h.new kx) (fun h => h.new kx) (by decide) (by decide)⟩
    | 22 =>
     injection hi with hi; subst hi
     have d19 := hd { on := 19, ground := .data } (by simp) (by decide) _ _ rfl rfl
     have d21 := hd { on := 21, ground := .data } (by simp) (by decide) _ _ rfl rfl
     have d17 := hd { on := 17, ground := .guard } (by simp) (by decide) _ _ rfl rfl
     simp only at d19 d21 d17
     obtain ⟨b1, c1, d19, hr1⟩ := d19
     obtain ⟨b2, c2, d21, hr2⟩ := d21
     simp [z02, go_sem, d19, d21, d17]
     refine (zg4 hr1 hr2 (by omega)).mono ?_
     rintro e stx ⟨rfl, rfl⟩
     simp [go_sem]
     exact ⟨hR0 _, hG.skip (by decide)⟩
    | 23 =>
     injection hi with hi; subst hi
     have d22 := hd { on := 22, ground := .data } (by simp) (by decide) _ _ rfl rfl
     have d17 := hd { on := 17, ground := .guard } (by simp) (by decide) _ _ rfl rfl
     simp only at d22 d17
     simp [z02, go_sem, d22, d17]
     exact ⟨hR0 _, hG.skip (by decide)⟩
    | 24 =>
     injection hi with hi; subst hi
     have d17 := hd { on := 17, ground := .data } (by simp) (by decide) _ _ rfl rfl
     have d23 := hd { on := 23, ground := .data } (by simp) (by decide) _ _ rfl rfl
     simp only at d17 d23
     simp [z02, go_sem, d17, d23]
     exact ⟨hR0 _, hG.skip (by decide)⟩
    | i + 25 => simp at hi
   ·intro done E sta hall hG hd hE
    have x97 := hd 24 _ _ rfl rfl
    have x10 := hE 10 (z4d (by kernel_rfl))
    have x12 := hE 12 (z4d (by kernel_rfl))
    have g1 := hG.fs
    have g2 := hG.rs
    rw [if_pos (hall 3 (by decide))] at g1
    rw [if_pos (hall 6 (by decide))] at g2
    exact ⟨rfl, x97, x10.trans e10, x12.trans e12, hG.keep, g1, g2⟩
   ·intro j oj hj
    match j with
    | 0 | 1 | 2 | 3 | 4 | 5 | 6 | 7 | 8 | 9 | 10 | 11 | 12 | 13 | 14 | 15 | 16 | 17 | 18 | 19 | 20 | 21 | 22 | 23 | 24 => simp at hj; subst hj; decide
    | j + 25 => simp at hj
  rintro E s ⟨e97, e10, e12, h⟩
  simp [go_sem, e97, e10, e12]
  exact h
 clear e4 e10 e12 E
 rintro E s1 ⟨e10, e12, K1, hF1, hW1⟩
 simp [go_sem, e10]
 refine (zd6 hF1 hnow hnam).mono ?_
 rintro e s2 ⟨lb, lc, ns, rfl, hp, hso, hV, hF2, k2⟩
 have hns := hsim.list hp hso
 have hnl : ns.length = S1.now.length := by simpa using hp.length_eq
 have hW2 := hW1.out k2 hwf
 simp [go_sem]
 have hVF := hV.reg.toF Free.ty
 rw [← hnl] at hVF ⊢
 refine ⟨fun E s => Keep (fun _ => True) s2 s ∧ E 10 = ptr f ∧ E 12 = ptr w ∧ E 15 = .slice lb ns.length lc ∧ ∃ i : Nat, E 16 = Val.i i ∧ i ≤ ns.length,
  fun E _ => match E 16 with | .int _ i => ns.length - i.toNat | _ => 0, ⟨s2, .rfl' _, .rfl', by simp [go_sem, e10], by simp [go_sem, e12], by simp [go_sem], 0, by simp [go_sem], by omega⟩, ?_⟩
 clear e10 e12 E
 rintro E s3 ⟨k3, e10, e12, e15, i, e16, hi⟩
 have tt : ∀ g, Free g → True := fun _ _ => trivial
 have hF3 := hF2.keep k3 (fun _ _ => trivial)
 have hW3 := hW2.keepO k3 tt (fun _ _ => trivial)
 have hVF3 := hVF.free (k3.imp tt)
 by_cases hlt : i < ns.length
 ·have hlt' : ((i : Int) < ns.length) = True := eq_true (by omega)
  have hwi := wrS i (by omega)
  obtain ⟨b1, o1, rfl, g1⟩ := z0h hVF3.src (by omega)
  have hv : ns[i]? = some ns[i] := List.getElem?_eq_getElem hlt
  have hmem : ns[i] ∈ S1.now.map (·.1) := hp.mem_iff.1 (List.getElem_mem hlt)
  generalize ns[i] = nm at *
  have hg1 := g1 i (by omega)
  have hgv : (ns.map Value.string)[i]? = some (.string nm) := by simp [hv]
  rw [hgv] at hg1
  obtain ⟨⟨nm', j⟩, hj, rfl⟩ := List.mem_map.1 hmem
  simp only at *
  have ha := (z67 hnam).2 hj
  have hgr := hsim.get nm'
  rw [ha] at hgr
  have hjl := hsim.lt ha
  have hFj : S1.files[j]? = some S1.files[j] := List.getElem?_eq_getElem hjl
  have hjl' : j < G1.files.length := by rw [← hsim.len]; exact hjl
  have hRj : G1.files[j]? = some G1.files[j] := List.getElem?_eq_getElem hjl'
  have hby := (hsim.files j _ _ hFj hRj).2
  have hsm := hFB2.small (by omega)
  have hbb := (hFB2.vb.all _ (List.mem_of_getElem? hFj)).2.1
  simp [go_sem, e10, e12, e15, e16, hlt', hlt, hg1]
  refine (zcq hF3 (fun F hF => (hsm.2.2 F hF).2.1)).mono ?_
  rintro e s4 ⟨k4, hR⟩
  rw [ha] at hR
  obtain ⟨F, fb, fc, hFe, rfl, hVr⟩ := hR
  rw [hFj] at hFe
  injection hFe with hFe
  subst hFe
  generalize S1.files[j] = F at *
  have hF4 := hF3.keep k4 (fun _ _ => trivial)
  have hW4 := hW3.keepO k4 tt (fun _ _ => trivial)
  have hVF4 := hVF3.free (k4.imp tt)
  obtain ⟨b2, o2, e2, g2⟩ := z0h hVF4.src (by omega)
  injection e2 with e2
  injection e2 with e2 e3
  subst e2
  subst e3
  have hg2 := g2 i (by omega)
  rw [hgv] at hg2
  simp [go_sem, e10, e12, e15, e16, hlt', hlt, hg2]
  refine (z9z hW4 hnice2.small hgr hRj hby).mono ?_
  rintro e s5 ⟨v5, rfl, hV5, -, k5⟩
  obtain ⟨vb5, vc5, rfl⟩ := hV5.slice
  have ht1 := z5x (hVr.new' k5).reg
  have ht2 := z5x hV5.reg
  simp [go_sem, e10, e12, e15, e16, hlt', hlt, ht1, ht2, hwi]
  exact ⟨_, .rfl' _, ⟨(k3.trans k4).trans (k5.to _), i + 1, by omega, by omega⟩, by omega⟩
 ·have hlt' : ((i : Int) < ns.length) = False := eq_false (by omega)
  simp [go_sem, e10, e12, e15, e16, hlt', hlt]
  refine (z8e hF3 (hFB2.small (by omega))).mono ?_
  rintro e s4 ⟨k4, hR⟩
  obtain ⟨x0, x1, x2, x3, b0, l0, c0, b1, l1, c1, rfl, hM4⟩ := z9l hR
  have hW4 := hW3.keepO k4 tt (fun _ _ => trivial)
  simp [go_sem]
  unfold NewP
  intro t21 ht21
  refine ⟨.ty 0, ?_⟩
  have hc5 := upd_same s4 t21 (.cells true [Val.i x0, Val.i x1, Val.i x2, Val.i x3, .slice b0 l0 c0, .slice b1 l1 c1] 6 (.ty 0))
  have k5 := (New.refl s4).add (b := t21) (o := .cells true [Val.i x0, Val.i x1, Val.i x2, Val.i x3, .slice b0 l0 c0, .slice b1 l1 c1] 6 (.ty 0)) ht21
  simp [go_sem, e12]
  generalize upd s4 t21 (.cells true [Val.i x0, Val.i x1, Val.i x2, Val.i x3, .slice b0 l0 c0, .slice b1 l1 c1] 6 (.ty 0)) = s5 at *
  refine (zj9 (hW4.new k5) hFB2 (by omega)).mono ?_
  rintro e s6 ⟨k6, y0, y1, y2, y3, d0, m0, f0, d1, m1, f1, rfl, hM6⟩
  have hc6 := k6 _ _ hc5
  simp [go_sem]
  unfold NewP
  intro t23 ht23
  refine ⟨.ty 0, ?_⟩
  have n12 := ne_of_new hc6 ht23
  have k7 := (New.refl s6).add (b := t23) (o := .cells true [Val.i y0, Val.i y1, Val.i y2, Val.i y3, .slice d0 m0 f0, .slice d1 m1 f1] 6 (.ty 0)) ht23
  obtain ⟨h1, h2, h3⟩ := zj3 S1
  simp [go_sem, n12, hc6]
  refine (zfk h1 h2 h3 (((hM4.new k5).new k6).new k7) (hM6.new k7)).mono ?_
  rintro e s8 ⟨r, rfl, hr, -⟩
  rw [hr rfl]
  simp [go_sem]
  refine awk.mono ?_
  rintro e st' rfl
  simp [go_sem]
end
end Go.Proofs.YtahgfnbkkfpcnaaGreat
