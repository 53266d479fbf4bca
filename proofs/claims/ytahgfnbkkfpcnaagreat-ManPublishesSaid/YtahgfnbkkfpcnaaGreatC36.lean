/- Manifests that are the same; copies: the walks. -/
import Derived.Test.YtahgfnbkkfpcnaaGreatC35
import Derived.Test.YtahgfnbkkfpcnaaGreatC12
set_option linter.unusedVariables false
set_option linter.unusedSimpArgs false
set_option maxRecDepth 100000
set_option maxHeartbeats 8000000
namespace Go.Proofs.YtahgfnbkkfpcnaaGreat
open Go.RowKit (Below)
def SameR (P : Prop) (st : Heap) (e : Ending) (st' : Heap) : Prop := ∃ r, e = .returned (.bool r) ∧ (P → r = true) ∧ New st st'
section
variable {W0 : World} {st : Heap}
theorem SameR.no {P : Prop} {st st' : Heap} (h : ¬ P) (hN : New st st') : SameR P st (.returned (.bool false)) st' := ⟨false, rfl, fun hp => absurd hp h, hN⟩
theorem z4a {cs : List Value} {m : Mat} (h : MatAt st cs m) : ∃ op name value vb vl vc kb kl kc, cs = [Val.i op, .string name, .string value, .slice vb vl vc, .slice kb kl kc] := by
 obtain ⟨op, name, value, vals, kids⟩ := m
 unfold MatAt at h
 obtain ⟨vv, kv, ks, rfl, hv', hk', hkids⟩ := h
 obtain ⟨vb', vc', rfl⟩ := hv'.slice
 obtain ⟨kb', kc', rfl⟩ := hk'.slice
 exact ⟨_, _, _, _, _, _, _, _, _, rfl⟩
theorem zi8 (d : Nat) : ∀ {a b : Mat} {st : Heap} {cs ds : List Value}, NiceM d a → MatAt st cs a → MatAt st ds b →
  z00 Tryz.prog W0 82 #[.agg cs.toArray, .agg ds.toArray] st (SameR (a = b) st) := by
 induction d with
 | zero => intro a b st cs ds hn; unfold NiceM at hn; exact hn.elim
 | succ d ih =>
 intro a b st cs ds hn ha hb
 match a, b with
 | .mk op name value vals kids, .mk op' name' value' vals' kids' =>
 have ha0 := ha
 have hb0 := hb
 unfold MatAt at ha hb
 obtain ⟨vv, kv, ks, rfl, hv, hk, hkids⟩ := ha
 obtain ⟨vb, vc, rfl⟩ := hv.slice
 obtain ⟨kb, kc, rfl⟩ := hk.slice
 obtain ⟨vv', kv', ks', rfl, hv', hk', hkids'⟩ := hb
 obtain ⟨vb', vc', rfl⟩ := hv'.slice
 obtain ⟨kb', kc', rfl⟩ := hk'.slice
 unfold NiceM at hn
 obtain ⟨n1, n2, n3, n4, n5, n6⟩ := hn
 generalize hPe : (Mat.mk op name value vals kids = Mat.mk op' name' value' vals' kids') = PP
 have hPP : PP → op = op' ∧ name = name' ∧ value = value' ∧ vals = vals' ∧ kids = kids' := by rw [← hPe]; intro h; injection h with h1 h2 h3 h4 h5; exact ⟨h1, h2, h3, h4, h5⟩
 refine enter (args := [_, _]) Tryz.func82 rfl ?_
 refine IW_cut (fun E' st' => ∃ ta tb, New st st' ∧ E' 2 = ptr ta ∧ E' 3 = ptr tb ∧ st' ta = some (.cells true [Val.i op, .string name, .string value, .slice vb vals.length vc, .slice kb kids.length kc] 5 (.ty 0)) ∧ st' tb = some (.cells true [Val.i op', .string name', .string value', .slice vb' vals'.length vc', .slice kb' kids'.length kc'] 5 (.ty 0))) ?_ ?_
 ·simp [go_sem]
  unfold NewP
  intro ta hta
  refine ⟨.ty 0, ?_⟩
  simp [go_sem]
  unfold NewP
  intro tb htb
  refine ⟨.ty 0, ?_⟩
  have hne : ta ≠ tb := by
   rintro rfl
   rw [upd_same] at htb
   cases htb
  simp [go_sem, hne]
  exact ((New.refl _).add hta).add htb
 rintro E1 st1 ⟨ta, tb, hk1, e2, e3, hta, htb⟩
 by_cases q1 : op = op'
 rotate_left
 ·have q1' := eq_false q1
  simp [go_sem, e2, e3, hta, htb, q1']
  exact .no (fun h => q1 (hPP h).1) hk1
 by_cases q2 : name = name'
 rotate_left
 ·have q2' := eq_false q2
  simp [go_sem, e2, e3, hta, htb, q1, q2']
  exact .no (fun h => q2 (hPP h).2.1) hk1
 by_cases q3 : value = value'
 rotate_left
 ·have q3' := eq_false q3
  simp [go_sem, e2, e3, hta, htb, q1, q2, q3']
  exact .no (fun h => q3 (hPP h).2.2.1) hk1
 by_cases q4 : vals.length = vals'.length
 rotate_left
 ·have q4' : ((vals.length : Int) = vals'.length) = False := eq_false (by omega)
  simp [go_sem, e2, e3, hta, htb, q1, q2, q3, q4, q4']
  exact .no (fun h => q4 (by rw [(hPP h).2.2.2.1])) hk1
 by_cases q5 : kids.length = kids'.length
 rotate_left
 ·have q5' : ((kids.length : Int) = kids'.length) = False := eq_false (by omega)
  simp [go_sem, e2, e3, hta, htb, q1, q2, q3, q4, q5, q5']
  exact .no (fun h => q5 (by rw [(hPP h).2.2.2.2])) hk1
 have q4' : ((vals.length : Int) = vals'.length) = True := eq_true (by omega)
 have q5' : ((kids.length : Int) = kids'.length) = True := eq_true (by omega)
 refine z1a (fun E' st' => st' = st1 ∧ E' 2 = ptr ta ∧ E' 3 = ptr tb) ?_ ?_
 ·simp [go_sem, e2, e3, hta, htb, q1, q2, q3, q4', q5']
 clear e2 e3
 rintro E2 st2 ⟨rfl, e2, e3⟩
 simp [go_sem]
 refine ⟨fun E st' => New st2 st' ∧ E 2 = ptr ta ∧ E 3 = ptr tb ∧ ∃ i : Nat, E 5 = Val.i i ∧ i ≤ vals.length, fun E _ => match E 5 with | .int _ i => vals.length - i.toNat | _ => 0, ⟨st2, .rfl' _, New.refl _, by simp [go_sem, e2], by simp [go_sem, e3], 0, by simp [go_sem], by omega⟩, ?_⟩
 clear e2 e3
 rintro E st3 ⟨hk3, e2, e3, i, e5, hi⟩
 have hta3 := hk3 _ _ hta
 have htb3 := hk3 _ _ htb
 have hN3 := hk1.trans hk3
 by_cases hlt : i < vals.length
 ·have hlt' : ((i : Int) < vals.length) = True := eq_true (by omega)
  have hwi := wrS i (by omega)
  obtain ⟨blk, off, rfl, hg⟩ := z0h (hv.new hN3).src (by omega)
  obtain ⟨blk', off', rfl, hg'⟩ := z0h (hv'.new hN3).src (by omega)
  have hgi := hg i (by omega)
  have hgi' := hg' i (by omega)
  have hvi : vals[i]? = some vals[i] := List.getElem?_eq_getElem hlt
  have hvi' : vals'[i]? = some vals'[i] := List.getElem?_eq_getElem (by omega)
  have hgv : (vals.map Value.string)[i]? = some (.string vals[i]) := by simp [hvi]
  have hgv' : (vals'.map Value.string)[i]? = some (.string vals'[i]) := by simp [hvi']
  rw [hgv] at hgi
  rw [hgv'] at hgi'
  have hlt2 : i < vals'.length := by omega
  have hlt2' : ((i : Int) < vals'.length) = True := eq_true (by omega)
  obtain ⟨s, hs⟩ : ∃ s, vals[i] = s := ⟨_, rfl⟩
  obtain ⟨s', hs'⟩ : ∃ s, vals'[i] = s := ⟨_, rfl⟩
  rw [hs] at hgi hvi
  rw [hs'] at hgi' hvi'
  simp [go_sem, e2, e3, e5, hta3, htb3, hlt, hlt']
  refine draw [0, 2, 5, 7, 1, 3, 4, 6, 8, 9, 10] (by kernel_rfl) ?_
  by_cases hq : s = s'
  ·have hq' := eq_true hq
   simp [go_sem, e2, e3, e5, hta3, htb3, hlt, hlt', hgi, hgi', hlt2, hlt2', hq', hwi]
   exact ⟨_, .rfl' _, ⟨hk3, i + 1, by omega, by omega⟩, by omega⟩
  ·have hq' := eq_false hq
   simp [go_sem, e2, e3, e5, hta3, htb3, hlt, hlt', hgi, hgi', hlt2, hlt2', hq']
   refine .no (fun h => hq ?_) hN3
   have := (hPP h).2.2.2.1
   rw [this, hvi'] at hvi
   injection hvi with hvi
   exact hvi.symm
 ·have hlt' : ((i : Int) < vals.length) = False := eq_false (by omega)
  simp [go_sem, e2, e3, e5, hta3, htb3, hlt, hlt']
  refine ⟨fun E st' => New st2 st' ∧ E 2 = ptr ta ∧ E 3 = ptr tb ∧ ∃ i : Nat, E 6 = Val.i i ∧ i ≤ kids.length, fun E _ => match E 6 with | .int _ i => kids.length - i.toNat | _ => 0, ⟨st3, .rfl' _, hk3, by simp [go_sem, e2], by simp [go_sem, e3], 0, by simp [go_sem], by omega⟩, ?_⟩
  clear e2 e3 e5 hta3 htb3 hN3 hk3 hlt hlt' hi
  rintro E st5 ⟨hk5, e2, e3, j, e6, hj⟩
  have hta5 := hk5 _ _ hta
  have htb5 := hk5 _ _ htb
  have hN5 := hk1.trans hk5
  by_cases hlt : j < kids.length
  ·have hlt' : ((j : Int) < kids.length) = True := eq_true (by omega)
   have hlt2 : j < kids'.length := by omega
   have hlt2' : ((j : Int) < kids'.length) = True := eq_true (by omega)
   have hwj := wrS j (by omega)
   have hkj : kids[j]? = some kids[j] := List.getElem?_eq_getElem hlt
   have hkj' : kids'[j]? = some kids'[j] := List.getElem?_eq_getElem hlt2
   have hnj := n6 _ (List.getElem_mem hlt)
   obtain ⟨blk, off, rw1, ys, z, g5, op1, name1, value1, vb1, vl1, vc1, kb1, kl1, kc1, rfl, hs5, hlen5, hcell, hmi⟩ := kid_get (hk.new hN5) (z04.new hN5 hkids) rfl hkj
   obtain ⟨blk', off', rw1', ys', z', g5', op1', name1', value1', vb1', vl1', vc1', kb1', kl1', kc1', rfl, hs5', hlen5', hcell', hmi'⟩ := kid_get (hk'.new hN5) (z04.new hN5 hkids') rfl hkj'
   simp [go_sem, e2, e3, e6, hta5, htb5, hlt, hlt']
   refine draw [0, 2, 5, 7, 1, 3, 4, 6, 8, 9, 10, 11] (by kernel_rfl) ?_
   simp [go_sem, e2, e3, e6, hta5, htb5, hlt, hlt', hlt2, hlt2', hs5, hlen5, hcell, hs5', hlen5', hcell']
   refine (ih hnj hmi hmi').mono ?_
   rintro e st6 ⟨r, rfl, hr, hk6⟩
   cases r with
   | true =>
    simp [go_sem, e2, e3, e6, hwj]
    exact ⟨_, .rfl' _, ⟨hk5.trans hk6, j + 1, by omega, by omega⟩, by omega⟩
   | false =>
    simp [go_sem, e2, e3, e6, hwj]
    refine .no (fun h => ?_) (hN5.trans hk6)
    have h5 := (hPP h).2.2.2.2
    have : kids[j] = kids'[j] := by subst h5; rfl
    have := hr this
    cases this
  ·have hlt' : ((j : Int) < kids.length) = False := eq_false (by omega)
   simp [go_sem, e2, e3, e6, hta5, htb5, hlt, hlt']
   exact ⟨true, rfl, fun _ => rfl, hN5⟩
theorem zab {x x' : MetaD} {c : Bool} (hc : c = true ↔ x ≠ x') : binV Tryz.prog .neq 196 (.agg #[Val.i x.id, Val.i x.level, Val.i x.day, Val.i x.lo, Val.i x.hi, Val.i x.done, Val.i x.rows]) (.agg #[Val.i x'.id, Val.i x'.level, Val.i x'.day, Val.i x'.lo, Val.i x'.hi, Val.i x'.done, Val.i x'.rows]) = some (.bool c) := by
 have hs : Tryz.prog.stoodInHeld 196 = false := by kernel_rfl
 have hg : Tryz.prog.eqGuardType Tryz.prog.depth 196 = false := by kernel_rfl
 unfold binV eqBin z51
 simp only [Tryz.underlying196, hs, hg]
 simp [z4l, Tryz.underlying3]
 obtain ⟨a1, a2, a3, a4, a5, a6, a7⟩ := x
 obtain ⟨b1, b2, b3, b4, b5, b6, b7⟩ := x'
 simp only [ne_eq, MetaD.mk.injEq] at hc ⊢
 by_cases h1 : a1 = b1 <;> by_cases h2 : a2 = b2 <;> by_cases h3 : a3 = b3 <;> by_cases h4 : a4 = b4 <;> by_cases h5 : a5 = b5 <;> by_cases h6 : a6 = b6 <;> by_cases h7 : a7 = b7 <;> simp [h1, h2, h3, h4, h5, h6, h7] at hc ⊢ <;> first | exact hc | simp [hc]
theorem zfk {a b : ManD} {st : Heap} {cs ds : List Value} (hn : ∀ t ∈ a.tombs, NiceM 12 t.m) (hl1 : a.blocks.length < 2 ^ 60) (hl2 : a.tombs.length < 2 ^ 60) (ha : ManAt st cs a) (hb : ManAt st ds b) :
  z00 Tryz.prog W0 48 #[.agg cs.toArray, .agg ds.toArray] st (SameR (a = b) st) := by
 obtain ⟨bv, tv, bs, ts, rfl, hbl, hbs, ht, hts⟩ := ha
 obtain ⟨bb, bc, rfl⟩ := hbl.slice
 obtain ⟨tb, tc, rfl⟩ := ht.slice
 obtain ⟨bv', tv', bs', ts', rfl, hbl', hbs', ht', hts'⟩ := hb
 obtain ⟨bb', bc', rfl⟩ := hbl'.slice
 obtain ⟨tb', tc', rfl⟩ := ht'.slice
 obtain ⟨seq, log, next, now, blocks, tombs⟩ := a
 obtain ⟨seq', log', next', now', blocks', tombs'⟩ := b
 simp only at *
 generalize hPe : (ManD.mk seq log next now blocks tombs = ManD.mk seq' log' next' now' blocks' tombs') = PP
 have hPP : PP → seq = seq' ∧ log = log' ∧ next = next' ∧ now = now' ∧ blocks = blocks' ∧ tombs = tombs' := by rw [← hPe]; intro h; injection h with h1 h2 h3 h4 h5 h6; exact ⟨h1, h2, h3, h4, h5, h6⟩
 refine enter (args := [_, _]) Tryz.func48 rfl ?_
 refine IW_cut (fun E' st' => ∃ ta tz, New st st' ∧ E' 2 = ptr ta ∧ E' 3 = ptr tz ∧ st' ta = some (.cells true [Val.i seq, Val.i log, Val.i next, Val.i now, .slice bb blocks.length bc, .slice tb tombs.length tc] 6 (.ty 0)) ∧ st' tz = some (.cells true [Val.i seq', Val.i log', Val.i next', Val.i now', .slice bb' blocks'.length bc', .slice tb' tombs'.length tc'] 6 (.ty 0))) ?_ ?_
 ·simp [go_sem]
  unfold NewP
  intro ta hta
  refine ⟨.ty 0, ?_⟩
  simp [go_sem]
  unfold NewP
  intro tz htz
  refine ⟨.ty 0, ?_⟩
  have hne : ta ≠ tz := by
   rintro rfl
   rw [upd_same] at htz
   cases htz
  simp [go_sem, hne]
  exact ((New.refl _).add hta).add htz
 rintro E1 st1 ⟨ta, tz, hk1, e2, e3, hta, htz⟩
 by_cases q1 : seq = seq'
 rotate_left
 ·have q1' := eq_false q1
  simp [go_sem, e2, e3, hta, htz, q1']
  exact .no (fun h => q1 (hPP h).1) hk1
 by_cases q2 : log = log'
 rotate_left
 ·have q2' := eq_false q2
  simp [go_sem, e2, e3, hta, htz, q1, q2']
  exact .no (fun h => q2 (hPP h).2.1) hk1
 by_cases q3 : next = next'
 rotate_left
 ·have q3' := eq_false q3
  simp [go_sem, e2, e3, hta, htz, q1, q2, q3']
  exact .no (fun h => q3 (hPP h).2.2.1) hk1
 by_cases q6 : now = now'
 rotate_left
 ·have q6' := eq_false q6
  simp [go_sem, e2, e3, hta, htz, q1, q2, q3, q6']
  exact .no (fun h => q6 (hPP h).2.2.2.1) hk1
 by_cases q4 : blocks.length = blocks'.length
 rotate_left
 ·have q4' : ((blocks.length : Int) = blocks'.length) = False := eq_false (by omega)
  simp [go_sem, e2, e3, hta, htz, q1, q2, q3, q6, q4, q4']
  exact .no (fun h => q4 (by rw [(hPP h).2.2.2.2.1])) hk1
 by_cases q5 : tombs.length = tombs'.length
 rotate_left
 ·have q5' : ((tombs.length : Int) = tombs'.length) = False := eq_false (by omega)
  simp [go_sem, e2, e3, hta, htz, q1, q2, q3, q6, q4, q5, q5']
  exact .no (fun h => q5 (by rw [(hPP h).2.2.2.2.2])) hk1
 have q4' : ((blocks.length : Int) = blocks'.length) = True := eq_true (by omega)
 have q5' : ((tombs.length : Int) = tombs'.length) = True := eq_true (by omega)
 refine z1a (fun E' st' => st' = st1 ∧ E' 2 = ptr ta ∧ E' 3 = ptr tz) ?_ ?_
 ·simp [go_sem, e2, e3, hta, htz, q1, q2, q3, q6, q4', q5']
 clear e2 e3
 rintro E2 st2 ⟨rfl, e2, e3⟩
 simp [go_sem]
 refine ⟨fun E st' => New st2 st' ∧ E 2 = ptr ta ∧ E 3 = ptr tz ∧ ∃ i : Nat, E 5 = Val.i i ∧ i ≤ blocks.length, fun E _ => match E 5 with | .int _ i => blocks.length - i.toNat | _ => 0, ⟨st2, .rfl' _, New.refl _, by simp [go_sem, e2], by simp [go_sem, e3], 0, by simp [go_sem], by omega⟩, ?_⟩
 clear e2 e3
 rintro E st3 ⟨hk3, e2, e3, i, e5, hi⟩
 have hta3 := hk3 _ _ hta
 have htz3 := hk3 _ _ htz
 have hN3 := hk1.trans hk3
 by_cases hlt : i < blocks.length
 ·have hlt' : ((i : Int) < blocks.length) = True := eq_true (by omega)
  have hwi := wrS i (by omega)
  have hlt2 : i < blocks'.length := by omega
  have hlt2' : ((i : Int) < blocks'.length) = True := eq_true (by omega)
  obtain ⟨mb, off, cap, rw_, zs, mm, g', hv, hs, hget⟩ := z1d (hbl.new hN3) (by omega)
  injection hv with v1 v2 v3
  subst v1; subst v3
  obtain ⟨hlen, hcell, hc⟩ := hget i hlt
  obtain ⟨mb', off', cap', rw_', zs', mm', g'', hv', hs', hget'⟩ := z1d (hbl'.new hN3) (by omega)
  injection hv' with v1 v2 v3
  subst v1; subst v3
  obtain ⟨hlen', hcell', hc'⟩ := hget' i hlt2
  have hx : blocks[i]? = some blocks[i] := List.getElem?_eq_getElem hlt
  have hx' : blocks'[i]? = some blocks'[i] := List.getElem?_eq_getElem hlt2
  rw [hbs i _ hx] at hcell
  rw [hbs' i _ hx'] at hcell'
  generalize blocks[i] = x at *
  generalize blocks'[i] = x' at *
  unfold MetaD.cells at hcell hcell'
  simp [go_sem, e2, e3, e5, hta3, htz3, hlt, hlt']
  refine draw [0, 2, 5, 7, 1, 3, 4, 6, 8, 9, 10] (by kernel_rfl) ?_
  simp [go_sem, e2, e3, e5, hta3, htz3, hlt, hlt', hlt2, hlt2', hs, hlen, hcell, hs', hlen', hcell']
  by_cases hq : x = x'
  ·have hq' := eq_true hq
   rw [zab (c := false) (by simp [hq])]
   simp [go_sem, e2, e3, e5, hq', hwi]
   exact ⟨_, .rfl' _, ⟨hk3, i + 1, by omega, by omega⟩, by omega⟩
  ·have hq' := eq_false hq
   rw [zab (c := true) (by simp [hq])]
   simp [go_sem, e2, e3, e5, hq', hwi]
   refine .no (fun h => hq ?_) hN3
   have := (hPP h).2.2.2.2.1
   rw [this, hx'] at hx
   injection hx with hx
   exact hx.symm
 ·have hlt' : ((i : Int) < blocks.length) = False := eq_false (by omega)
  simp [go_sem, e2, e3, e5, hta3, htz3, hlt, hlt']
  refine ⟨fun E st' => New st2 st' ∧ E 2 = ptr ta ∧ E 3 = ptr tz ∧ ∃ i : Nat, E 6 = Val.i i ∧ i ≤ tombs.length, fun E _ => match E 6 with | .int _ i => tombs.length - i.toNat | _ => 0, ⟨st3, .rfl' _, hk3, by simp [go_sem, e2], by simp [go_sem, e3], 0, by simp [go_sem], by omega⟩, ?_⟩
  clear e2 e3 e5 hta3 htz3 hN3 hk3 hlt hlt' hi
  rintro E st5 ⟨hk5, e2, e3, j, e6, hj⟩
  have hta5 := hk5 _ _ hta
  have htz5 := hk5 _ _ htz
  have hN5 := hk1.trans hk5
  by_cases hlt : j < tombs.length
  ·have hlt' : ((j : Int) < tombs.length) = True := eq_true (by omega)
   have hlt2 : j < tombs'.length := by omega
   have hlt2' : ((j : Int) < tombs'.length) = True := eq_true (by omega)
   have hwj := wrS j (by omega)
   obtain ⟨mb, off, cap, rw_, zs, mm, g', hv, hs, hget⟩ := z1d (ht.new hN5) (by omega)
   injection hv with v1 v2 v3
   subst v1; subst v3
   obtain ⟨hlen, hcell, hc⟩ := hget j hlt
   obtain ⟨mb', off', cap', rw_', zs', mm', g'', hv', hs', hget'⟩ := z1d (ht'.new hN5) (by omega)
   injection hv' with v1 v2 v3
   subst v1; subst v3
   obtain ⟨hlen', hcell', hc'⟩ := hget' j hlt2
   have hx : tombs[j]? = some tombs[j] := List.getElem?_eq_getElem hlt
   have hx' : tombs'[j]? = some tombs'[j] := List.getElem?_eq_getElem hlt2
   have hnj := hn _ (List.getElem_mem hlt)
   obtain ⟨ms, hms, hcs⟩ := hts j _ hx
   obtain ⟨ms', hms', hcs'⟩ := hts' j _ hx'
   rw [hcs] at hcell
   rw [hcs'] at hcell'
   generalize tombs[j] = x at *
   generalize tombs'[j] = x' at *
   obtain ⟨op, name, value, vb, vl, vc, kb, kl, kc, rfl⟩ := z4a hms
   obtain ⟨op', name', value', vb', vl', vc', kb', kl', kc', rfl⟩ := z4a hms'
   simp only [List.cons_append, List.nil_append] at hcell hcell'
   simp [go_sem, e2, e3, e6, hta5, htz5, hlt, hlt', hs, hlen, hcell]
   unfold NewP
   intro tx htx
   refine ⟨.ty 0, ?_⟩
   have HN := (New.refl st5).add (b := tx) (o := .cells true [Val.i x.seq, Val.i op, .string name, .string value, .slice vb vl vc, .slice kb kl kc, Val.i x.fro, Val.i x.to] 8 (.ty 0)) htx
   have htx6 := upd_same st5 tx (.cells true [Val.i x.seq, Val.i op, .string name, .string value, .slice vb vl vc, .slice kb kl kc, Val.i x.fro, Val.i x.to] 8 (.ty 0))
   have htz6 := HN _ _ htz5
   have hta6 := HN _ _ hta5
   have hs6' := HN _ _ hs'
   simp [go_sem, e2, e3, e6]
   generalize upd st5 tx (.cells true [Val.i x.seq, Val.i op, .string name, .string value, .slice vb vl vc, .slice kb kl kc, Val.i x.fro, Val.i x.to] 8 (.ty 0)) = st6 at *
   simp [go_sem, e2, e3, e6, htz6, hta6, htx6, hlt2, hlt2', hs6', hlen', hcell']
   unfold NewP
   intro ty hty
   refine ⟨.ty 0, ?_⟩
   have HN7 := (New.refl st6).add (b := ty) (o := .cells true [Val.i x'.seq, Val.i op', .string name', .string value', .slice vb' vl' vc', .slice kb' kl' kc', Val.i x'.fro, Val.i x'.to] 8 (.ty 0)) hty
   have hty7 := upd_same st6 ty (.cells true [Val.i x'.seq, Val.i op', .string name', .string value', .slice vb' vl' vc', .slice kb' kl' kc', Val.i x'.fro, Val.i x'.to] 8 (.ty 0))
   have htx7 := HN7 _ _ htx6
   have hk7 := hk5.trans (HN.trans HN7)
   have hN7 := hN5.trans (HN.trans HN7)
   simp [go_sem, e2, e3, e6]
   generalize upd st6 ty (.cells true [Val.i x'.seq, Val.i op', .string name', .string value', .slice vb' vl' vc', .slice kb' kl' kc', Val.i x'.fro, Val.i x'.to] 8 (.ty 0)) = st7 at *
   have hno : x ≠ x' → ¬ PP := by
    intro hne hp
    have := (hPP hp).2.2.2.2.2
    rw [this, hx'] at hx
    injection hx with hx
    exact hne hx.symm
   by_cases c1 : x.seq = x'.seq
   rotate_left
   ·have c1' := eq_false c1
    simp [go_sem, e2, e3, e6, htx7, hty7, c1']
    exact .no (hno (by rintro rfl; exact c1 rfl)) hN7
   by_cases c2 : x.fro = x'.fro
   rotate_left
   ·have c2' := eq_false c2
    simp [go_sem, e2, e3, e6, htx7, hty7, c1, c2']
    exact .no (hno (by rintro rfl; exact c2 rfl)) hN7
   by_cases c3 : x.to = x'.to
   rotate_left
   ·have c3' := eq_false c3
    simp [go_sem, e2, e3, e6, htx7, hty7, c1, c2, c3']
    exact .no (hno (by rintro rfl; exact c3 rfl)) hN7
   simp [go_sem, e2, e3, e6, htx7, hty7, c1, c2, c3]
   refine (zi8 12 hnj (hms.new hN7) (hms'.new hN7)).mono ?_
   rintro e st8 ⟨r, rfl, hr, hk8⟩
   cases r with
   | true =>
    simp [go_sem, e2, e3, e6, hwj]
    exact ⟨_, .rfl' _, ⟨hk7.trans hk8, j + 1, by omega, by omega⟩, by omega⟩
   | false =>
    simp [go_sem, e2, e3, e6, hwj]
    refine .no (hno ?_) (hN7.trans hk8)
    rintro rfl
    have := hr rfl
    cases this
  ·have hlt' : ((j : Int) < tombs.length) = False := eq_false (by omega)
   simp [go_sem, e2, e3, e6, hta5, htz5, hlt, hlt']
   exact ⟨true, rfl, fun _ => rfl, hN5⟩
end
section
variable {W0 : World} {st : Heap}
theorem zh0 {cs : List Value} {m : Mat} (hN : NiceM 12 m) (hm : MatAt st cs m) : z00 Tryz.prog W0 152 #[.agg cs.toArray] st fun e st' => ∃ cs', e = .returned (.agg cs'.toArray) ∧ MatAt st' cs' m ∧ New st st' := by
 match m with
 | .mk op name value vals kids =>
 have hm0 := hm
 unfold MatAt at hm
 obtain ⟨vv, kv, ks, rfl, hv, hk, hkids⟩ := hm
 obtain ⟨vb, vc, rfl⟩ := hv.slice
 obtain ⟨kb, kc, rfl⟩ := hk.slice
 refine enter (args := [_]) Tryz.func152 rfl ?_
 simp [Tryz.f152, go_sem]
 unfold NewP
 intro tb htb
 refine ⟨.own tb 0 66, ?_⟩
 simp [go_sem]
 unfold NewP
 intro to hto
 refine ⟨.own to 0 67, ?_⟩
 have hne : tb ≠ to := by
  rintro rfl
  rw [upd_same] at hto
  cases hto
 have hne' := Ne.symm hne
 have hN2 : New st (upd (upd st tb (.cells true [Val.i op, .string name, .string value, .slice vb vals.length vc, .slice kb kids.length kc] 5 (.own tb 0 66))) to (.cells true [Val.i 0, .string ⟨#[]⟩, .string ⟨#[]⟩, .slice none 0 0, .slice none 0 0] 5 (.own to 0 67))) := ((New.refl _).add htb).add hto
 have htn : st to = none := ((New.refl _).add htb).none hto
 simp [go_sem, hne, hne']
 refine (matCopy_spec 12 (.mk op name value vals kids) (deep := 0) hN (by omega) (hm0.new hN2)).mono ?_
 rintro e st3 ⟨cs', rfl, hm3, hk3⟩
 have hto3 := hk3 _ _ (upd_same _ to _)
 obtain ⟨vv', kv', ks', rfl, hv', hk', hkids'⟩ := hm3
 obtain ⟨vb', vc', rfl⟩ := hv'.slice
 obtain ⟨kb', kc', rfl⟩ := hk'.slice
 simp [go_sem, hto3]
 refine z29 ?_
 simp [go_sem]
 have hR := fun size v xs len (h : RegF st3 size v xs len) => h.but (But1.put (o := .cells true [Val.i op, .string name, .string value, .slice vb' vals.length vc', .slice kb' kids.length kc'] 5 (.own to 0 67)) (But1.refl to st3)) hto3
 refine ⟨?_, (hN2.trans hk3).put htn⟩
 unfold MatAt
 exact ⟨_, _, ks', rfl, hR _ _ _ _ hv', hR _ _ _ _ hk', z04.mono hR _ _ hkids'⟩
theorem zj4 {cs : List Value} {t : TombD} (hN : NiceM 12 t.m) (h : z2i st cs t) : z00 Tryz.prog W0 71 #[.agg cs.toArray] st fun e st' => ∃ cs', e = .returned (.agg cs'.toArray) ∧ z2i st' cs' t ∧ New st st' := by
 obtain ⟨ms, hm, rfl⟩ := h
 obtain ⟨op, name, value, vb, vl, vc, kb, kl, kc, rfl⟩ := z4a hm
 refine enter (args := [_]) Tryz.func71 rfl ?_
 simp [Tryz.f71, go_sem]
 unfold NewP
 intro tb htb
 refine ⟨.own tb 0 78, ?_⟩
 simp [go_sem]
 unfold NewP
 intro to hto
 refine ⟨.own to 0 79, ?_⟩
 have hne : tb ≠ to := by
  rintro rfl
  rw [upd_same] at hto
  cases hto
 have hne' := Ne.symm hne
 simp [go_sem, hne, hne']
 generalize hst2 : upd (upd st tb _) to _ = st2
 have hN2 : New st st2 := by rw [← hst2]; exact ((New.refl _).add htb).add hto
 have htb2 : st2 tb = some (.cells true [Val.i t.seq, Val.i op, .string name, .string value, .slice vb vl vc, .slice kb kl kc, Val.i t.fro, Val.i t.to] 8 (.own tb 0 78)) := by
  rw [← hst2, upd_ne _ _ hne, upd_same]
 obtain ⟨zs, hzs, hto2⟩ : ∃ zs, zs.length = 8 ∧ st2 to = some (.cells true zs 8 (.own to 0 79)) := by
  rw [← hst2]
  exact ⟨_, rfl, upd_same _ _ _⟩
 have htn : st to = none := ((New.refl _).add htb).none hto
 refine (zh0 hN (hm.new hN2)).mono ?_
 rintro e st3 ⟨cs', rfl, hm3, hk3⟩
 have htb3 := hk3 _ _ htb2
 have hto3 := hk3 _ _ hto2
 obtain ⟨op', name', value', vb', vl', vc', kb', kl', kc', rfl⟩ := z4a hm3
 have hz0 : zs.drop 8 = [] := by rw [List.drop_eq_nil_iff]; omega
 simp [go_sem, htb3, hto3, hne, hne', hzs, hz0]
 refine z29 ?_
 simp [go_sem]
 have hR := fun size v xs len (h : RegF st3 size v xs len) => h.but (But1.put (o := .cells true [Val.i t.seq, Val.i op', .string name', .string value', .slice vb' vl' vc', .slice kb' kl' kc', Val.i t.fro, Val.i t.to] 8 (.own tb 0 78)) (But1.refl tb st3)) htb3
 have hto4 : (upd st3 tb (.cells true [Val.i t.seq, Val.i op', .string name', .string value', .slice vb' vl' vc', .slice kb' kl' kc', Val.i t.fro, Val.i t.to] 8 (.own tb 0 78))) to = some (.cells true zs 8 (.own to 0 79)) := (upd_ne _ _ hne').trans hto3
 have hR2 := fun size v xs len (h : RegF (upd st3 tb (.cells true [Val.i t.seq, Val.i op', .string name', .string value', .slice vb' vl' vc', .slice kb' kl' kc', Val.i t.fro, Val.i t.to] 8 (.own tb 0 78))) size v xs len) => h.but (But1.put (o := (.cells true [Val.i t.seq, Val.i op', .string name', .string value', .slice vb' vl' vc', .slice kb' kl' kc', Val.i t.fro, Val.i t.to] 8 (.own to 0 79))) (But1.refl to _)) hto4
 exact ⟨⟨_, MatAt.mono (fun _ _ _ _ h => hR2 _ _ _ _ (hR _ _ _ _ h)) _ _ hm3, rfl⟩, ((hN2.trans hk3).put htb).put htn⟩
theorem z13.append {ts cs : List Value} {l : List TombD} {t : TombD} (hl : ts.length = l.length * 8) (h : z13 st ts l) (ht : z2i st cs t) (hc : cs.length = 8) : z13 st (ts ++ cs) (l ++ [t]) := by
 intro i x hi
 by_cases hlt : i < l.length
 ·rw [List.getElem?_append_left hlt] at hi
  have := h i x hi
  rwa [List.drop_append_of_le_length (by omega), List.take_append_of_le_length (by rw [List.length_drop]; omega)]
 ·rw [List.getElem?_append_right (by omega)] at hi
  have h0 : i - l.length = 0 := by
   rcases Nat.eq_zero_or_pos (i - l.length) with h | h
   ·exact h
   ·rw [List.getElem?_eq_none (by simp; omega)] at hi; cases hi
  rw [h0] at hi
  injection hi with hi
  subst hi
  have hi' : i = l.length := by omega
  subst hi'
  rw [← hl, List.drop_left, List.take_of_length_le (by omega)]
  exact ht
theorem tombs_copy {tv : Value} {ts : List Value} {l : List TombD} (hn : ∀ t ∈ l, NiceM 12 t.m) (hll : l.length < 2 ^ 40) (h : RegF st 8 tv ts l.length) (hts : z13 st ts l) : z00 Tryz.prog W0 112 #[tv] st fun e st' => ∃ v ts', e = .returned v ∧ RegF st' 8 v ts' l.length ∧ z13 st' ts' l ∧ New st st' := by
 obtain ⟨tb, tc, rfl⟩ := h.slice
 refine enter (args := [_]) Tryz.func112 rfl ?_
 simp [Tryz.f112, go_sem]
 refine ⟨fun E st' => New st st' ∧ E 0 = .slice tb l.length tc ∧ ∃ (i : Nat) (ts' : List Value), E 4 = Val.i i ∧ i ≤ l.length ∧ Vec st' (.ty 0) 8 (E 3) ts' i ∧ Fresh st (E 3) ∧ z13 st' ts' (l.take i),
  fun E _ => match E 4 with | .int _ i => l.length - i.toNat | _ => 0, ⟨st, .rfl' _, New.refl _, by simp [go_sem], 0, [], by simp [go_sem], by omega, by simpa [go_sem] using Vec.nil, by simpa [go_sem] using Fresh.none, by intro i x hi; simp at hi⟩, ?_⟩
 rintro E st2 ⟨hk2, e0, i, ts', e4, hi, hV, hF, hT⟩
 by_cases hlt : i < l.length
 ·have hlt' : ((i : Int) < l.length) = True := eq_true (by omega)
  have hwi := wrS i (by omega)
  obtain ⟨mb, off, cap, rw_, zs, mm, g', hv, hs, hget⟩ := z1d (h.new hk2) (by omega)
  injection hv with v1 v2 v3
  subst v1; subst v3
  obtain ⟨hlen, hcell, hc⟩ := hget i hlt
  have hx : l[i]? = some l[i] := List.getElem?_eq_getElem hlt
  have htk : l.take (i + 1) = l.take i ++ [l[i]] := by rw [List.take_add_one, hx]; rfl
  have hti := (hts i _ hx).mono (fun _ _ _ _ h => h.new hk2)
  have hni := hn _ (List.getElem_mem hlt)
  rw [← hcell] at hti
  generalize l[i] = x at *
  have hti0 := hti
  obtain ⟨ms, hms, hcs⟩ := hti
  obtain ⟨op, name, value, vb', vl', vc', kb', kl', kc', rfl⟩ := z4a hms
  simp only [List.cons_append, List.nil_append] at hcs
  simp [go_sem, e0, e4, hlt, hlt', hs, hlen, hcs]
  rw [hcs] at hti0
  refine (zj4 hni hti0).mono ?_
  rintro e st3 ⟨cs', rfl, ht3, hk3⟩
  have ht30 := ht3
  obtain ⟨ms', hms', hcs'⟩ := ht3
  obtain ⟨op2, name2, value2, vb2, vl2, vc2, kb2, kl2, kc2, rfl⟩ := z4a hms'
  simp only [List.cons_append, List.nil_append] at hcs'
  subst hcs'
  simp [go_sem]
  unfold NewS
  intro nb hnb
  refine ⟨.own nb 0 80, ?_⟩
  simp [go_sem]
  have hN := (New.refl st3).add (b := nb) (o := .cells true [Val.i x.seq, Val.i op2, .string name2, .string value2, .slice vb2 vl2 vc2, .slice kb2 kl2 kc2, Val.i x.fro, Val.i x.to] 8 (.own nb 0 80)) hnb
  refine AppI_new (st0 := st) (g := .ty 0) (m := 1) (ys := [Val.i x.seq, Val.i op2, .string name2, .string value2, .slice vb2 vl2 vc2, .slice kb2 kl2 kc2, Val.i x.fro, Val.i x.to]) si75 ((hV.new' hk3).new' hN) hF ((hk2.trans hk3).trans hN) ?_ ?_ (by omega) ?_
  ·simp [z06, z0i, upd_same, cellsOf]
  ·intro y hy
   simp at hy
   rcases hy with rfl | rfl | rfl | rfl | rfl | rfl | rfl | rfl <;> rfl
  intro base cap4 st4 hV4 hF4 hN4 hE4
  simp [go_sem, e0, e4, hwi]
  have hmono : ∀ size v xs len, RegF st3 size v xs len → RegF st4 size v xs len := fun _ _ _ _ hx => (hx.new hN).ext hE4
  refine ⟨_, .rfl' _, ⟨hN4, i + 1, by omega, by omega, _, hV4, hF4, ?_⟩, by omega⟩
  rw [htk]
  refine z13.append (by rw [hV.1, List.length_take]; omega) (fun j y hj => (hT j y hj).mono fun _ _ _ _ hx => hmono _ _ _ _ (hx.new hk3)) (ht30.mono hmono) rfl
 ·have hlt' : ((i : Int) < l.length) = False := eq_false (by omega)
  have : i = l.length := by omega
  subst this
  rw [List.take_length] at hT
  simp [go_sem, e0, e4, hlt']
  exact ⟨ts', hV.reg.toF (by intro g x r; simp), hT, hk2⟩
theorem man_copy {cs : List Value} {m : ManD} (hn : ∀ t ∈ m.tombs, NiceM 12 t.m) (hl1 : m.blocks.length < 2 ^ 40) (hl2 : m.tombs.length < 2 ^ 40) (h : ManAt st cs m) : z00 Tryz.prog W0 38 #[.agg cs.toArray] st fun e st' => ∃ cs', e = .returned (.agg cs'.toArray) ∧ ManAt st' cs' m ∧ New st st' := by
 have h0 := h
 obtain ⟨bv, tv, bs, ts, rfl, hb, hbs, ht, hts⟩ := h
 obtain ⟨bb, bc, rfl⟩ := hb.slice
 obtain ⟨tb, tc, rfl⟩ := ht.slice
 refine enter (args := [_]) Tryz.func38 rfl ?_
 simp [Tryz.f38, go_sem]
 unfold NewP
 intro tx htx
 refine ⟨.own tx 0 81, ?_⟩
 simp [go_sem]
 unfold NewP
 intro to hto
 refine ⟨.own to 0 82, ?_⟩
 have hne : tx ≠ to := by
  rintro rfl
  rw [upd_same] at hto
  cases hto
 have hne' := Ne.symm hne
 simp [go_sem, hne, hne']
 generalize hst2 : upd (upd st tx _) to _ = st2
 have hN2 : New st st2 := by rw [← hst2]; exact ((New.refl _).add htx).add hto
 have htx2 : st2 tx = some (.cells true [Val.i m.seq, Val.i m.log, Val.i m.next, Val.i m.now, .slice bb m.blocks.length bc, .slice tb m.tombs.length tc] 6 (.own tx 0 81)) := by
  rw [← hst2, upd_ne _ _ hne, upd_same]
 obtain ⟨zs, hzs, hto2⟩ : ∃ zs, zs.length = 6 ∧ st2 to = some (.cells true zs 6 (.own to 0 82)) := by
  rw [← hst2]
  exact ⟨_, rfl, upd_same _ _ _⟩
 have htn : st to = none := ((New.refl _).add htx).none hto
 refine z2q (.ty 0) si74 (m := m.blocks.length) (ys := bs) (hb.new hN2).src (by omega) ?_
 intro base cap st3 hV3 hF3 hN3
 have htx3 := hN3 _ _ htx2
 have hto3 := hN3 _ _ hto2
 simp [go_sem, htx3, hto3, hne, hne']
 generalize hst4 : upd st3 tx _ = st4
 have hB4 : But1 tx st3 st4 := by rw [← hst4]; exact (But1.refl _ _).put
 have htx4 : st4 tx = some (.cells true [Val.i m.seq, Val.i m.log, Val.i m.next, Val.i m.now, .slice base m.blocks.length cap, .slice tb m.tombs.length tc] 6 (.own tx 0 81)) := by rw [← hst4, upd_same]
 have hto4 := hB4 _ _ hne' hto3
 have hN4 : New st st4 := by rw [← hst4]; exact (hN2.trans hN3).put htx
 have hb4 : RegF st4 7 (.slice base m.blocks.length cap) bs m.blocks.length := (hV3.reg.toF (by intro g x r; simp)).but hB4 htx3
 refine (tombs_copy hn hl2 (ht.new hN4) (fun i x hx => (hts i x hx).mono (fun _ _ _ _ h => h.new hN4))).mono ?_
 rintro e st5 ⟨v, ts', rfl, ht5, hts5, hk5⟩
 obtain ⟨tb', tc', rfl⟩ := ht5.slice
 have htx5 := hk5 _ _ htx4
 have hto5 := hk5 _ _ hto4
 have hz0 : zs.drop 6 = [] := by rw [List.drop_eq_nil_iff]; omega
 simp [go_sem, htx5, hto5, hne, hne', hzs, hz0]
 refine z29 ?_
 simp [go_sem]
 have hR := fun size v xs len (h : RegF st5 size v xs len) => h.but (But1.put (o := .cells true [Val.i m.seq, Val.i m.log, Val.i m.next, Val.i m.now, .slice base m.blocks.length cap, .slice tb' m.tombs.length tc'] 6 (.own tx 0 81)) (But1.refl tx st5)) htx5
 have hto6 : (upd st5 tx (.cells true [Val.i m.seq, Val.i m.log, Val.i m.next, Val.i m.now, .slice base m.blocks.length cap, .slice tb' m.tombs.length tc'] 6 (.own tx 0 81))) to = some (.cells true zs 6 (.own to 0 82)) := (upd_ne _ _ hne').trans hto5
 have hR2 := fun size v xs len (h : RegF (upd st5 tx (.cells true [Val.i m.seq, Val.i m.log, Val.i m.next, Val.i m.now, .slice base m.blocks.length cap, .slice tb' m.tombs.length tc'] 6 (.own tx 0 81))) size v xs len) => h.but (But1.put (o := (.cells true [Val.i m.seq, Val.i m.log, Val.i m.next, Val.i m.now, .slice base m.blocks.length cap, .slice tb' m.tombs.length tc'] 6 (.own to 0 82))) (But1.refl to _)) hto6
 have hR3 := fun size v xs len (h : RegF st5 size v xs len) => hR2 _ _ _ _ (hR size v xs len h)
 exact ⟨⟨_, _, bs, ts', rfl, hR3 _ _ _ _ (hb4.new hk5), hbs, hR3 _ _ _ _ ht5, fun i x hx => (hts5 i x hx).mono hR3⟩, ((hN4.trans hk5).put htx).put htn⟩
theorem zif {cs : List Value} {m : ManD} (h : ManAt st cs m) : z00 Tryz.prog W0 32 #[.agg cs.toArray] st fun e st' => ∃ r, e = .returned (.bool r) ∧ (r = true → m.tombs.length ≤ 70 ∧ m.blocks.length ≤ 1000 ∧ ∀ t ∈ m.tombs, NiceM 12 t.m) ∧ New st st' := by
 have h0 := h
 obtain ⟨bv, tv, bs, ts, rfl, hb, hbs, ht, hts⟩ := h
 obtain ⟨bb, bc, rfl⟩ := hb.slice
 obtain ⟨tb, tc, rfl⟩ := ht.slice
 refine enter (args := [_]) Tryz.func32 rfl ?_
 refine IW_cut (fun E' st' => ∃ tm, New st st' ∧ E' 1 = ptr tm ∧ st' tm = some (.cells true [Val.i m.seq, Val.i m.log, Val.i m.next, Val.i m.now, .slice bb m.blocks.length bc, .slice tb m.tombs.length tc] 6 (.ty 0))) ?_ ?_
 ·simp [go_sem]
  unfold NewP
  intro tm htm
  refine ⟨.ty 0, ?_⟩
  simp [go_sem]
  exact (New.refl _).add htm
 rintro E1 st1 ⟨tm, hk1, e1, htm⟩
 by_cases h1 : 70 < m.tombs.length
 ·have q1 : ((70 : Int) < m.tombs.length) = True := eq_true (by omega)
  simp [go_sem, e1, htm, q1]
  exact hk1
 have q1 : ((70 : Int) < m.tombs.length) = False := eq_false (by omega)
 by_cases h2 : 1000 < m.blocks.length
 ·have q2 : ((1000 : Int) < m.blocks.length) = True := eq_true (by omega)
  simp [go_sem, e1, htm, q1, q2]
  exact hk1
 have q2 : ((1000 : Int) < m.blocks.length) = False := eq_false (by omega)
 simp [go_sem, e1, htm, q1, q2]
 refine ⟨fun E st' => New st st' ∧ E 1 = ptr tm ∧ st' tm = some (.cells true [Val.i m.seq, Val.i m.log, Val.i m.next, Val.i m.now, .slice bb m.blocks.length bc, .slice tb m.tombs.length tc] 6 (.ty 0)) ∧ ∃ i : Nat, E 3 = Val.i i ∧ i ≤ m.tombs.length ∧ ∀ t ∈ m.tombs.take i, NiceM 12 t.m,
  fun E _ => match E 3 with | .int _ i => m.tombs.length - i.toNat | _ => 0, ⟨st1, .rfl' _, hk1, by simp [go_sem, e1], htm, 0, by simp [go_sem], by omega, by simp⟩, ?_⟩
 clear e1 htm hk1
 rintro E st2 ⟨hk2, e1, htm, i, e3, hi, hall⟩
 by_cases hlt : i < m.tombs.length
 ·have hlt' : ((i : Int) < m.tombs.length) = True := eq_true (by omega)
  have hwi := wrS i (by omega)
  obtain ⟨mb, off, cap, rw_, zs, mm, g', hv, hs, hget⟩ := z1d (ht.new hk2) (by omega)
  injection hv with v1 v2 v3
  subst v1; subst v3
  obtain ⟨hlen, hcell, hc⟩ := hget i hlt
  have hx : m.tombs[i]? = some m.tombs[i] := List.getElem?_eq_getElem hlt
  have htk : m.tombs.take (i + 1) = m.tombs.take i ++ [m.tombs[i]] := by rw [List.take_add_one, hx]; rfl
  have hti := (hts i _ hx).mono (fun _ _ _ _ h => h.new hk2)
  rw [← hcell] at hti
  generalize m.tombs[i] = x at *
  obtain ⟨ms, hms, hcs⟩ := hti
  obtain ⟨op, name, value, vb', vl', vc', kb', kl', kc', rfl⟩ := z4a hms
  simp only [List.cons_append, List.nil_append] at hcs
  have hm5 : (zs.drop (off + i * 8 + 1)).take 5 = [Val.i op, .string name, .string value, .slice vb' vl' vc', .slice kb' kl' kc'] := by
   have := congrArg (fun l => (l.drop 1).take 5) hcs
   simpa [List.drop_take, List.drop_drop, List.take_take] using this
  have hl6 : off + i * 8 + 1 + 5 ≤ zs.length := by omega
  simp [go_sem, e1, e3, htm, hlt, hlt', hs, hlen, hm5, hl6]
  refine (zfh hms).mono ?_
  rintro e st3 ⟨rfl, hk3⟩
  cases htn : (tinyM x.m 0 0).1 with
  | false =>
   simp [go_sem]
   exact hk2.trans hk3
  | true =>
   simp [go_sem, e1, e3, hwi]
   have hN := ((z8s x.m 0 0).2 htn).2
   refine ⟨_, .rfl' _, ⟨hk2.trans hk3, hk3 _ _ htm, i + 1, by omega, by omega, ?_⟩, by omega⟩
   rw [htk]
   intro t ht
   rcases List.mem_append.1 ht with h | h
   ·exact hall t h
   ·simp at h; subst h; exact hN
 ·have hlt' : ((i : Int) < m.tombs.length) = False := eq_false (by omega)
  have : i = m.tombs.length := by omega
  subst this
  rw [List.take_length] at hall
  simp [go_sem, e1, e3, htm, hlt']
  exact ⟨⟨by omega, by omega, hall⟩, hk2⟩
end
end Go.Proofs.YtahgfnbkkfpcnaaGreat
