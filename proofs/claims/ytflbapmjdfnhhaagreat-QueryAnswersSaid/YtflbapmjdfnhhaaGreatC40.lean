/- Matchers: which label sets are meant (the program's match.Eval, of any matcher that may be). -/
import Derived.Test.YtflbapmjdfnhhaaGreatC34
import Derived.Test.YtflbapmjdfnhhaaGreatC17
set_option linter.unusedVariables false
set_option linter.unusedSimpArgs false
set_option maxRecDepth 100000
set_option maxHeartbeats 1000000
namespace Go.Proofs.YtflbapmjdfnhhaaGreat
open Go.RowKit (Below)
def prefB (s p : ByteArray) : Bool := decide (p.size ≤ s.size) && decide (s.extract 0 p.size = p)
mutual
def evalM : Mat → List Lab → Bool
  | .mk op name value vals kids, l =>
    if op = 0 then true
    else if op = 1 then decide (valueL l name = value)
    else if op = 2 then !decide (valueL l name = value)
    else if op = 3 then prefB (valueL l name) value
    else if op = 4 then vals.any fun v => decide (v = valueL l name)
    else if op = 7 then !headM kids l
    else findM (decide (op = 6)) kids l
def headM : List Mat → List Lab → Bool
  | [], _ => false
  | k :: _, l => evalM k l
def findM : Bool → List Mat → List Lab → Bool
  | ds, [], _ => !ds
  | ds, k :: ks, l => if evalM k l = ds then ds else findM ds ks l
end
/-- A part of a matcher that may be. -/
def HoldM (m : Mat) : Prop := ∃ deep n b, (holdsM m deep n b).1 = true
theorem kidsM_all : ∀ (ms : List Mat) (deep : Nat) (n b : Int), (kidsM ms deep n b).1 = true → ∀ k ∈ ms, HoldM k
  | [], _, _, _, _, k, hk => by simp at hk
  | m :: ms, deep, n, b, h, k, hk => by
    unfold kidsM at h
    split at h
    · rename_i n' b' hm
      rcases List.mem_cons.1 hk with rfl | hk
      · exact ⟨deep, n, b, by rw [hm]⟩
      · exact kidsM_all ms deep n' b' h k hk
    · cases h
theorem HoldM.parts {op : Int} {name value : ByteArray} {vals : List ByteArray} {kids : List Mat} (h : HoldM (.mk op name value vals kids)) : aloneM op name value vals kids.length = true ∧ ∀ k ∈ kids, HoldM k := by
  obtain ⟨deep, n, b, h⟩ := h
  unfold holdsM at h
  split at h
  · cases h
  · rename_i hc
    split at h
    · cases h
    · refine ⟨?_, kidsM_all _ _ _ _ h⟩
      cases ha : aloneM op name value vals kids.length with
      | true => rfl
      | false => exact absurd (.inr (.inr ha)) hc
theorem HoldM.of_check {m : Mat} (h : checkM m = true) : HoldM m := ⟨1, 64, 4096, h⟩
theorem alone_not {name value : ByteArray} {vals : List ByteArray} {nk : Nat} (h : aloneM 7 name value vals nk = true) : nk = 1 := by
  unfold aloneM at h
  simp at h
  exact h.2
section
variable {W0 : World}
theorem hasPrefix_spec {st : Heap} {s p : ByteArray} : ICalls Tryz.prog W0 99 #[.string s, .string p] st fun e st' => e = .returned (.bool (prefB s p)) ∧ st' = st := by
  refine enter (args := [_, _]) Tryz.func99 rfl ?_
  simp [Tryz.f99, go_sem]
  refine ICalls.mono (R := fun e st' => e = .returned (.bool (prefB s p)) ∧ st' = st) ?_ ?_
  · refine enter (args := [_, _]) Tryz.func114 rfl ?_
    by_cases c : p.size ≤ s.size
    · have q : ((p.size : Int) ≤ s.size) = True := eq_true (by omega)
      simp [Tryz.f114, go_sem, q, c, prefB]
    · have q : ((p.size : Int) ≤ s.size) = False := eq_false (by omega)
      simp [Tryz.f114, go_sem, q, c, prefB]
  rintro e st1 ⟨rfl, rfl⟩
  simp [go_sem]
theorem eval_spec : ∀ (d : Nat) (m : Mat) {st : Heap} {cs : List Value} {v : Value} {l : List Lab}, NiceM d m → HoldM m → MatAt st cs m → RegF st 2 v (labV l) l.length → l.length < 2 ^ 50 →
    ICalls Tryz.prog W0 75 #[.agg cs.toArray, v] st fun e st' => e = .returned (.bool (evalM m l)) ∧ New st st' := by
  intro d
  induction d with
  | zero => intro m st cs v l hn; unfold NiceM at hn; exact hn.elim
  | succ d ih =>
  intro m st cs v l hn hhold hm hlab hll
  match m with
  | .mk op name value vals kids =>
  obtain ⟨halone, hkh⟩ := hhold.parts
  have hm0 := hm
  unfold MatAt at hm
  obtain ⟨vv, kv, ks, rfl, hv, hk, hkids⟩ := hm
  obtain ⟨vb, vc, rfl⟩ := hv.slice
  obtain ⟨kb, kc, rfl⟩ := hk.slice
  obtain ⟨lb, lc, rfl⟩ := id hlab.slice
  unfold NiceM at hn
  obtain ⟨n1, n2, n3, n4, n5, n6⟩ := hn
  obtain ⟨C, hC⟩ : ∃ C : List Value, [Val.i op, .string name, .string value, .slice vb vals.length vc, .slice kb kids.length kc] = C := ⟨_, rfl⟩
  have hCl : C.length = 5 := by rw [← hC]; rfl
  have c0 : C[0]? = some (Val.i op) := by rw [← hC]; rfl
  have c1 : C[1]? = some (.string name) := by rw [← hC]; rfl
  have c2 : C[2]? = some (.string value) := by rw [← hC]; rfl
  have c3 : C[3]? = some (.slice vb vals.length vc) := by rw [← hC]; rfl
  have c4 : C[4]? = some (.slice kb kids.length kc) := by rw [← hC]; rfl
  rw [hC]
  obtain ⟨w, hw⟩ : ∃ w, valueL l name = w := ⟨_, rfl⟩
  obtain ⟨RES, hRES⟩ : ∃ R, evalM (.mk op name value vals kids) l = R := ⟨_, rfl⟩
  rw [hRES]
  unfold evalM at hRES
  rw [hw] at hRES
  refine enter (args := [_, _]) Tryz.func75 rfl ?_
  iterate 2 refine IW_assoc ?_
  refine IW_cut' (fun E' st' => ¬ op = 0 ∧ ¬ op = 1 ∧ ¬ op = 2 ∧ ¬ op = 3 ∧ ¬ op = 4 ∧ ¬ op = 7 ∧ ∃ tb, New st st' ∧ E' 1 = .slice lb l.length lc ∧ E' 2 = ptr tb ∧ st' tb = some (.cells true C 5 (.ty 1))) ?_ ?_
  · simp [go_sem]
    unfold NewP
    intro tb htb
    refine ⟨.ty 1, ?_⟩
    rw [hCl]
    have k1 := (New.refl st).add (b := tb) (o := .cells true C 5 (.ty 1)) htb
    have g1 := upd_same st tb (.cells true C 5 (.ty 1))
    simp [go_sem]
    generalize upd st tb (.cells true C 5 (.ty 1)) = st1 at *
    simp [go_sem, g1, c1]
    refine (labelValue_spec (hlab.new k1) hll).mono ?_
    rintro e st2 ⟨rfl, k2⟩
    rw [hw]
    have g2 := k2 _ _ g1
    have kk := k1.trans k2
    by_cases o0 : op = 0
    · rw [if_pos o0] at hRES
      subst hRES
      simp [go_sem, g2, c0, o0]
      exact kk
    rw [if_neg o0] at hRES
    by_cases o1 : op = 1
    · rw [if_pos o1] at hRES
      subst hRES
      subst o1
      simp [go_sem, g2, c0, c2]
      exact kk
    rw [if_neg o1] at hRES
    by_cases o2 : op = 2
    · rw [if_pos o2] at hRES
      subst hRES
      subst o2
      simp [go_sem, g2, c0, c2]
      exact kk
    rw [if_neg o2] at hRES
    by_cases o3 : op = 3
    · rw [if_pos o3] at hRES
      subst hRES
      subst o3
      simp [go_sem, g2, c0, c2]
      refine hasPrefix_spec.mono ?_
      rintro e st3 ⟨rfl, rfl⟩
      simp [go_sem]
      exact kk
    rw [if_neg o3] at hRES
    by_cases o4 : op = 4
    · rw [if_pos o4] at hRES
      subst o4
      simp [go_sem, g2, c0, c3]
      refine ⟨fun E st' => st' = st2 ∧ E 5 = .string w ∧ E 40 = .slice vb vals.length vc ∧ E 41 = Val.i vals.length ∧ ∃ i : Nat, E 42 = Val.i (i : Int) ∧ i ≤ vals.length ∧ ((vals.drop i).any fun v => decide (v = w)) = RES,
        fun E _ => match E 42 with | .int _ z => vals.length - z.toNat | _ => 0, ⟨st2, .rfl' _, rfl, by simp [go_sem], by simp [go_sem], by simp [go_sem], 0, by simp [go_sem], by omega, by simpa using hRES⟩, ?_⟩
      rintro E st' ⟨rfl, e5, e40, e41, i, e42, hi, hr⟩
      by_cases hlt : i < vals.length
      · have t1 : ((i : Int) < vals.length) = True := eq_true (by omega)
        have hwi : IntKind.i64.wrap ((i : Int) + 1) = ((i + 1 : Nat) : Int) := by rw [wrap_id (by omega) (by omega)]; omega
        obtain ⟨blk, off, rfl, hg⟩ := src_get (hv.new kk).src (by omega)
        have hgi := hg i (by omega)
        have hvi : vals[i]? = some vals[i] := List.getElem?_eq_getElem hlt
        have hgv : (vals.map Value.string)[i]? = some (.string vals[i]) := by simp [hvi]
        rw [hgv] at hgi
        rw [List.drop_eq_getElem_cons hlt, List.any_cons] at hr
        generalize vals[i] = x at hgi hr
        by_cases cx : x = w
        · simp [cx] at hr
          subst hr
          simp [go_sem, e5, e40, e41, e42, t1, hlt, hgi, cx]
          exact kk
        · simp only [decide_eq_false cx, Bool.false_or] at hr
          simp [go_sem, e5, e40, e41, e42, t1, hlt, hgi, cx, hwi]
          exact ⟨_, .rfl' _, ⟨rfl, i + 1, by simp, by omega, hr⟩, by omega⟩
      · have : i = vals.length := by omega
        subst this
        rw [List.drop_length] at hr
        simp at hr
        subst hr
        simp [go_sem, e5, e40, e41, e42]
        exact kk
    rw [if_neg o4] at hRES
    by_cases o7 : op = 7
    · rw [if_pos o7] at hRES
      subst o7
      have h1 := alone_not halone
      obtain ⟨kid, rfl⟩ : ∃ k, kids = [k] := List.length_eq_one_iff.1 h1
      unfold headM at hRES
      obtain ⟨mb, off, cap, rw_, zs, mm, g', hv', hsm, hget⟩ := rows_get (hk.new kk) (by simp)
      injection hv' with v1 v2 v3
      subst v1; subst v3
      obtain ⟨hlen, hcell, _⟩ := hget 0 (by simp)
      obtain ⟨hmi, hil⟩ := KidsAt.get (i := 0) (m := kid) (hkids.new kk) rfl
      rw [← hcell] at hmi
      simp only [Nat.zero_mul, Nat.add_zero] at hlen hcell hmi
      have hkn := n6 kid (by simp)
      have hkk := hkh kid (by simp)
      simp [go_sem, g2, c0, c4, hsm, hlen]
      refine (ih kid hkn hkk hmi (hlab.new kk) hll).mono ?_
      rintro e st3 ⟨rfl, k3⟩
      subst hRES
      simp [go_sem]
      exact kk.trans k3
    rw [if_neg o7] at hRES
    simp [go_sem, g2, c0, o0, o1, o2, o3, o4, o7]
    exact kk
  rintro E st1 ⟨o0, o1, o2, o3, o4, o7, tb, k1, e1, e2, g1⟩
  rw [if_neg o0, if_neg o1, if_neg o2, if_neg o3, if_neg o4, if_neg o7] at hRES
  obtain ⟨ds, hds⟩ : ∃ ds, decide (op = 6) = ds := ⟨_, rfl⟩
  rw [hds] at hRES
  simp [go_sem, e1, e2, g1, c0, c4, hds]
  refine ⟨fun E st' => New st st' ∧ E 1 = .slice lb l.length lc ∧ E 8 = .bool ds ∧ E 63 = .slice kb kids.length kc ∧ E 64 = Val.i kids.length ∧ ∃ i : Nat, E 65 = Val.i (i : Int) ∧ i ≤ kids.length ∧ findM ds (kids.drop i) l = RES,
    fun E _ => match E 65 with | .int _ z => kids.length - z.toNat | _ => 0, ⟨st1, .rfl' _, k1, by simp [go_sem, e1], by simp [go_sem], by simp [go_sem], by simp [go_sem], 0, by simp [go_sem], by omega, by simpa using hRES⟩, ?_⟩
  clear e1 e2
  clear E
  rintro E s0 ⟨k0, e1, e8, e63, e64, i, e65, hi, hr⟩
  by_cases hlt : i < kids.length
  rotate_left
  · have : i = kids.length := by omega
    subst this
    rw [List.drop_length] at hr
    unfold findM at hr
    subst hr
    simp [go_sem, e1, e8, e63, e64, e65]
    exact k0
  have t1 : ((i : Int) < kids.length) = True := eq_true (by omega)
  have hwi : IntKind.i64.wrap ((i : Int) + 1) = ((i + 1 : Nat) : Int) := by rw [wrap_id (by omega) (by omega)]; omega
  obtain ⟨mb, off, cap, rw_, zs, mm, g', hv', hsm, hget⟩ := rows_get (hk.new k0) (by omega)
  injection hv' with v1 v2 v3
  subst v1; subst v3
  obtain ⟨hlen, hcell, _⟩ := hget i (by omega)
  have hki : kids[i]? = some kids[i] := List.getElem?_eq_getElem hlt
  obtain ⟨hmi, hil⟩ := KidsAt.get (hkids.new k0) hki
  rw [← hcell] at hmi
  have hmem : kids[i] ∈ kids := List.getElem_mem hlt
  have hkn := n6 _ hmem
  have hkk := hkh _ hmem
  rw [List.drop_eq_getElem_cons hlt] at hr
  unfold findM at hr
  generalize kids[i] = kid at *
  have hcl := hmi.length
  obtain ⟨kc', hkc'⟩ : ∃ kc, (zs.drop (off + i * 5)).take 5 = kc := ⟨_, rfl⟩
  rw [hkc'] at hmi hcl
  obtain ⟨⟨op', name', value', vals', kids'⟩, hkd⟩ : ∃ k, kid = k := ⟨_, rfl⟩
  have hmi' := hmi
  rw [hkd] at hmi'
  unfold MatAt at hmi'
  obtain ⟨vv', kv', ks', hcs, hv', hk', -⟩ := hmi'
  obtain ⟨vb', vc', rfl⟩ := hv'.slice
  obtain ⟨kb', kc2, rfl⟩ := hk'.slice
  subst hcs
  simp [go_sem, e1, e8, e63, e64, e65, t1, hlt, hsm, hlen, hkc']
  unfold NewP
  intro t ht
  refine ⟨.ty 1, ?_⟩
  have k2 := (New.refl s0).add (b := t) (o := .cells true [Val.i op', .string name', .string value', .slice vb' vals'.length vc', .slice kb' kids'.length kc2] 5 (.ty 1)) ht
  simp [go_sem, e1, e8, e63, e64, e65]
  refine (ih kid hkn hkk (hmi.new k2) (hlab.new (k0.trans k2)) hll).mono ?_
  rintro e s2 ⟨rfl, k3⟩
  have kk := (k0.trans k2).trans k3
  by_cases cx : evalM kid l = ds
  · rw [if_pos cx] at hr
    subst hr
    simp [go_sem, e1, e8, e63, e64, e65, cx]
    exact kk
  · rw [if_neg cx] at hr
    simp [go_sem, e1, e8, e63, e64, e65, cx, hwi]
    exact ⟨s2, .rfl' _, ⟨kk, i + 1, by simp, by omega, hr⟩, by omega⟩
theorem Eval_spec {d : Nat} {m : Mat} {st : Heap} {cs : List Value} {v : Value} {l : List Lab} (hn : NiceM d m) (hc : checkM m = true) (hm : MatAt st cs m) (hlab : RegF st 2 v (labV l) l.length) (hll : l.length < 2 ^ 50) :
    ICalls Tryz.prog W0 48 #[.agg cs.toArray, v] st fun e st' => e = .returned (.bool (evalM m l)) ∧ New st st' := by
  obtain ⟨tb, tc, rfl⟩ := id hlab.slice
  refine enter (args := [_, _]) Tryz.func48 rfl ?_
  have hcz := hm.length
  have htz : cs.take 5 = cs := List.take_of_length_le (by omega)
  simp [Tryz.f48, go_sem]
  unfold NewP
  intro a ha
  refine ⟨.ty 1, ?_⟩
  rw [hcz]
  have k1 := (New.refl st).add (b := a) (o := .cells true cs 5 (.ty 1)) ha
  have g1 := upd_same st a (.cells true cs 5 (.ty 1))
  simp [go_sem]
  generalize upd st a (.cells true cs 5 (.ty 1)) = st1 at *
  simp [go_sem, g1, hcz, htz]
  refine (matCheck_spec m (hm.new k1)).mono ?_
  rintro e st2 ⟨rfl, k2⟩
  rw [hc]
  have g2 := k2 _ _ g1
  simp [go_sem, g2, hcz, htz]
  refine (eval_spec d m hn (.of_check hc) (hm.new (k1.trans k2)) (hlab.new (k1.trans k2)) hll).mono ?_
  rintro e st3 ⟨rfl, k3⟩
  simp [go_sem]
  exact (k1.trans k2).trans k3
end
end Go.Proofs.YtflbapmjdfnhhaaGreat
set_option linter.unusedVariables false
set_option linter.unusedSimpArgs false
set_option maxRecDepth 100000
set_option maxHeartbeats 2000000
namespace Go.Proofs.YtflbapmjdfnhhaaGreat
open Go.RowKit (Below)
theorem checkL_eq (l : List Lab) : checkL l = (labsM none l && (decide (1 ≤ l.length) && decide (l.length ≤ 8))) := by
  unfold checkL
  cases labsM none l <;> simp
section
variable {W0 : World} {st : Heap}
theorem refLabCheck_spec {v : Value} {l : List Lab} (h : RegF st 2 v (labV l) l.length) (hll : l.length < 2 ^ 50) (hsz : ∀ x ∈ l, x.1.size < 2 ^ 60 ∧ x.2.size < 2 ^ 60) : ICalls Tryz.prog W0 19 #[v] st fun e st' => e = .returned (.bool (checkL l)) ∧ st' = st := by
  have hv0 := h
  obtain ⟨tb, tc, rfl⟩ := h.slice
  rw [checkL_eq]
  obtain ⟨res, hres⟩ : ∃ r, labsM none l = r := ⟨_, rfl⟩
  rw [hres]
  refine enter (args := [_]) Tryz.func19 rfl ?_
  simp [Tryz.f19, go_sem]
  refine ⟨fun E st' => st = st' ∧ E 0 = .slice tb l.length tc ∧ ∃ (i : Nat) (p : Option ByteArray), E 3 = Val.i (i : Int) ∧ i ≤ l.length ∧ labsM p (l.drop i) = res ∧ (i = 0 → p = none) ∧ (∀ j, i = j + 1 → ∃ x, l[j]? = some x ∧ p = some x.1), fun E _ => match E 3 with | .int _ z => l.length - z.toNat | _ => 0,
    ⟨st, .rfl' _, rfl, by simp [go_sem], 0, none, by simp [go_sem], by omega, hres, fun _ => rfl, fun j hj => by omega⟩, ?_⟩
  rintro E s0 ⟨rfl, e0, i, p, e3, hi, hc, hp0, hp1⟩
  by_cases hlt : i < l.length
  rotate_left
  · have : i = l.length := by omega
    subst this
    rw [List.drop_length] at hc
    simp only [labsM] at hc
    subst hc
    by_cases c1 : 1 ≤ l.length
    · by_cases c2 : l.length ≤ 8
      · have q1 : ((1 : Int) ≤ l.length) = True := eq_true (by omega)
        have q2 : ((l.length : Int) ≤ 8) = True := eq_true (by omega)
        simp [go_sem, e0, e3, q1, q2, c1, c2]
      · have q1 : ((1 : Int) ≤ l.length) = True := eq_true (by omega)
        have q2 : ((l.length : Int) ≤ 8) = False := eq_false (by omega)
        simp [go_sem, e0, e3, q1, q2, c1, c2]
    · have q1 : ((1 : Int) ≤ l.length) = False := eq_false (by omega)
      simp [go_sem, e0, e3, q1, c1]
  have t1 : ((i : Int) < l.length) = True := eq_true (by omega)
  obtain ⟨mb, off, cap, rw_, zs, mm, g', hv', hs, hget⟩ := rows_get hv0 (by omega)
  injection hv' with v1 v2 v3
  subst v1; subst v3
  obtain ⟨hlen, hcell, hcc⟩ := hget i hlt
  have hx : l[i]? = some l[i] := List.getElem?_eq_getElem hlt
  have hmem := hsz _ (List.getElem_mem hlt)
  rw [labV_get l i _ hx] at hcell hcc
  have hd : l.drop i = l[i] :: l.drop (i + 1) := List.drop_eq_getElem_cons hlt
  rw [hd] at hc
  generalize l[i] = x at *
  obtain ⟨xn, xv⟩ := x
  simp only [labsM] at hc
  simp only at hcell hcc hmem
  have z0 := hcc 0 (by omega)
  have z1 := hcc 1 (by omega)
  simp only [List.getElem?_cons_succ, List.getElem?_cons_zero, Nat.add_zero] at z0 z1
  simp [go_sem, e0, e3, t1, hlt, hs, hlen]
  refine draw [0, 1, 2, 3, 4, 5, 6, 7, 8, 9, 10, 11, 12, 13, 14, 15, 16, 17, 18, 19, 20, 21, 22, 23, 24, 25, 26, 27, 28, 29, 30, 31, 32, 34, 35, 36, 37, 38, 33, 39, 40, 41, 42] (by kernel_rfl) ?_
  simp [go_sem, e0, e3, t1, hlt, hs, hlen, z0, z1]
  refine (refName_spec hmem.1).mono ?_
  rintro e s2 ⟨rfl, rfl⟩
  cases c3 : labelM xn.data.toList with
  | false =>
    rw [c3, Bool.false_and, Bool.false_and] at hc
    subst hc
    simp [go_sem, e0, e3]
  | true =>
  rw [c3, Bool.true_and] at hc
  by_cases c4 : xv.size < 1
  · have q4 : ((xv.size : Int) < 1) = True := eq_true (by omega)
    have : decide (1 ≤ xv.size) = false := decide_eq_false (by omega)
    rw [this, Bool.false_and, Bool.false_and] at hc
    subst hc
    simp [go_sem, e0, e3, t1, hlt, hs, hlen, z0, z1, q4]
  have q4 : ((xv.size : Int) < 1) = False := eq_false (by omega)
  have d4 : decide (1 ≤ xv.size) = true := decide_eq_true (by omega)
  rw [d4, Bool.true_and] at hc
  by_cases c5 : 64 < xv.size
  · have q5 : ((64 : Int) < xv.size) = True := eq_true (by omega)
    have : decide (xv.size ≤ 64) = false := decide_eq_false (by omega)
    rw [this, Bool.false_and, Bool.false_and] at hc
    subst hc
    simp [go_sem, e0, e3, t1, hlt, hs, hlen, z0, z1, q4, q5]
  have q5 : ((64 : Int) < xv.size) = False := eq_false (by omega)
  have d5 : decide (xv.size ≤ 64) = true := decide_eq_true (by omega)
  rw [d5, Bool.true_and] at hc
  match i, hi, e3, hlt, t1, hlen, hcell, hcc, hx, hd, hp0, hp1, z0, z1 with
  | 0, hi, e3, hlt, t1, hlen, hcell, hcc, hx, hd, hp0, hp1, z0, z1 =>
    have hp' := hp0 rfl
    subst hp'
    simp only [Bool.true_and] at hc
    have e3' : E 3 = Val.i 0 := e3
    have hw1 : IntKind.i64.wrap 1 = 1 := wrap_id (by omega) (by omega)
    simp only [Nat.zero_mul, Nat.add_zero] at z0 z1 hlen
    simp [go_sem, e0, e3', hlt, hs, hlen, z0, z1, q4, q5, hw1]
    exact ⟨_, .rfl' _, ⟨rfl, 1, by simp, by omega, some xn, hc, by omega, fun j hj => by rw [show j = 0 by omega]; exact ⟨xn, ⟨xv, hx⟩, rfl⟩⟩, by omega⟩
  | j + 1, hi, e3, hlt, t1, hlen, hcell, hcc, hx, hd, hp0, hp1, z0, z1 =>
    obtain ⟨x', hx', hxp⟩ := hp1 j rfl
    subst hxp
    obtain ⟨hlen', hcell', hcc'⟩ := hget j (by omega)
    rw [labV_get l j _ hx'] at hcc'
    have hc0' := hcc' 0 (by omega)
    simp only [List.getElem?_cons_succ, List.getElem?_cons_zero, Nat.add_zero] at hc0'
    obtain ⟨i, hij⟩ : ∃ i, j + 1 = i := ⟨_, rfl⟩
    rw [hij] at e3 z0 z1 hlen t1 hlt
    have hwj : IntKind.i64.wrap ((i : Int) - 1) = (j : Int) := by rw [wrap_id (by omega) (by omega)]; omega
    have hwi' : IntKind.i64.wrap ((i : Int) + 1) = ((i + 1 : Nat) : Int) := by rw [wrap_id (by omega) (by omega)]; omega
    have s4 : ((0 : Int) < (i : Int)) = True := eq_true (by omega)
    have s4' : 0 < i := by omega
    have s5 : j < l.length := by omega
    have hle := leT_not xn x'.1
    simp only at hc
    cases c6 : ltT x'.1 xn with
    | false =>
      rw [c6, Bool.false_and] at hc
      rw [c6, Bool.not_false] at hle
      subst hc
      simp [go_sem, e0, e3, t1, hlt, hs, hlen, z0, z1, q4, q5, s4, s4', s5, hwj, hlen', hc0', hle]
    | true =>
      rw [c6, Bool.true_and] at hc
      rw [c6, Bool.not_true] at hle
      simp [go_sem, e0, e3, t1, hlt, hs, hlen, z0, z1, q4, q5, s4, s4', s5, hwj, hlen', hc0', hle, hwi']
      exact ⟨_, .rfl' _, ⟨rfl, i + 1, by simp, by omega, some xn, by rw [← hij]; exact hc, by omega, fun k hk => by rw [show k = j + 1 by omega]; exact ⟨xn, ⟨xv, hx⟩, rfl⟩⟩, by omega⟩
theorem refLabValue_spec {v : Value} {l : List Lab} {n : ByteArray} (h : RegF st 2 v (labV l) l.length) (hll : l.length < 2 ^ 50) : ICalls Tryz.prog W0 55 #[v, .string n] st fun e st' => e = .returned (.string (valueL l n)) ∧ st' = st := by
  have hv0 := h
  obtain ⟨tb, tc, rfl⟩ := h.slice
  obtain ⟨res, hres⟩ : ∃ r, valueL l n = r := ⟨_, rfl⟩
  rw [hres]
  refine enter (args := [_, _]) Tryz.func55 rfl ?_
  simp [Tryz.f55, go_sem]
  refine ⟨fun E st' => st = st' ∧ E 0 = .slice tb l.length tc ∧ E 1 = .string n ∧ ∃ (i : Nat), E 5 = Val.i (i : Int) ∧ i ≤ l.length ∧ valueL (l.drop i) n = res, fun E _ => match E 5 with | .int _ z => l.length - z.toNat | _ => 0,
    ⟨st, .rfl' _, rfl, by simp [go_sem], by simp [go_sem], 0, by simp [go_sem], by omega, hres⟩, ?_⟩
  rintro E s0 ⟨rfl, e0, e1, i, e5, hi, hc⟩
  by_cases hlt : i < l.length
  rotate_left
  · have : i = l.length := by omega
    subst this
    rw [List.drop_length] at hc
    simp only [valueL] at hc
    subst hc
    simp [go_sem, e0, e1, e5]
  have t1 : ((i : Int) < l.length) = True := eq_true (by omega)
  have hwi : IntKind.i64.wrap ((i : Int) + 1) = ((i + 1 : Nat) : Int) := by rw [wrap_id (by omega) (by omega)]; omega
  obtain ⟨mb, off, cap, rw_, zs, mm, g', hv', hs, hget⟩ := rows_get hv0 (by omega)
  injection hv' with v1 v2 v3
  subst v1; subst v3
  obtain ⟨hlen, hcell, hcc⟩ := hget i hlt
  have hx : l[i]? = some l[i] := List.getElem?_eq_getElem hlt
  rw [labV_get l i _ hx] at hcc
  rw [List.drop_eq_getElem_cons hlt] at hc
  generalize l[i] = x at *
  obtain ⟨xn, xv⟩ := x
  simp only [valueL] at hc
  have z0 := hcc 0 (by omega)
  have z1 := hcc 1 (by omega)
  simp only [List.getElem?_cons_succ, List.getElem?_cons_zero, Nat.add_zero] at z0 z1
  by_cases c : xn = n
  · have c' : strEq xn n = true := by subst c; simp [strEq]
    rw [if_pos c'] at hc
    subst hc
    simp [go_sem, e0, e1, e5, t1, hlt, hs, hlen, z0, z1, c]
  · have c' : strEq xn n = false := by
      cases hss : strEq xn n with
      | false => rfl
      | true =>
        exfalso
        apply c
        unfold strEq at hss
        cases xn; cases n
        simp at hss
        rw [hss]
    rw [c', if_neg (by simp)] at hc
    simp [go_sem, e0, e1, e5, t1, hlt, hs, hlen, z0, z1, c, hwi]
    exact ⟨_, .rfl' _, ⟨rfl, i + 1, by simp, by omega, hc⟩, by omega⟩
end
theorem alone_op {op : Int} {name value : ByteArray} {vals : List ByteArray} {nk : Nat} (h : aloneM op name value vals nk = true) : 0 ≤ op ∧ op ≤ 7 := by
  unfold aloneM at h
  simp only at h
  split at h
  · omega
  split at h
  · omega
  split at h
  · omega
  split at h
  · omega
  split at h
  · omega
  · cases h
section
variable {W0 : World}
theorem refEval_spec : ∀ (d : Nat) (m : Mat) {st : Heap} {cs : List Value} {v : Value} {l : List Lab}, NiceM d m → HoldM m → MatAt st cs m → RegF st 2 v (labV l) l.length → l.length < 2 ^ 50 →
    ICalls Tryz.prog W0 32 #[.agg cs.toArray, v] st fun e st' => e = .returned (.bool (evalM m l)) ∧ New st st' := by
  intro d
  induction d with
  | zero => intro m st cs v l hn; unfold NiceM at hn; exact hn.elim
  | succ d ih =>
  intro m st cs v l hn hhold hm hlab hll
  match m with
  | .mk op name value vals kids =>
  obtain ⟨halone, hkh⟩ := hhold.parts
  have hm0 := hm
  unfold MatAt at hm
  obtain ⟨vv, kv, ks, rfl, hv, hk, hkids⟩ := hm
  obtain ⟨vb, vc, rfl⟩ := hv.slice
  obtain ⟨kb, kc, rfl⟩ := hk.slice
  obtain ⟨lb, lc, rfl⟩ := id hlab.slice
  unfold NiceM at hn
  obtain ⟨n1, n2, n3, n4, n5, n6⟩ := hn
  obtain ⟨C, hC⟩ : ∃ C : List Value, [Val.i op, .string name, .string value, .slice vb vals.length vc, .slice kb kids.length kc] = C := ⟨_, rfl⟩
  have hCl : C.length = 5 := by rw [← hC]; rfl
  have c0 : C[0]? = some (Val.i op) := by rw [← hC]; rfl
  have c1 : C[1]? = some (.string name) := by rw [← hC]; rfl
  have c2 : C[2]? = some (.string value) := by rw [← hC]; rfl
  have c3 : C[3]? = some (.slice vb vals.length vc) := by rw [← hC]; rfl
  have c4 : C[4]? = some (.slice kb kids.length kc) := by rw [← hC]; rfl
  rw [hC]
  obtain ⟨w, hw⟩ : ∃ w, valueL l name = w := ⟨_, rfl⟩
  obtain ⟨RES, hRES⟩ : ∃ R, evalM (.mk op name value vals kids) l = R := ⟨_, rfl⟩
  rw [hRES]
  unfold evalM at hRES
  rw [hw] at hRES
  refine enter (args := [_, _]) Tryz.func32 rfl ?_
  · simp [go_sem]
    unfold NewP
    intro tb htb
    refine ⟨.ty 1, ?_⟩
    rw [hCl]
    have k1 := (New.refl st).add (b := tb) (o := .cells true C 5 (.ty 1)) htb
    have g1 := upd_same st tb (.cells true C 5 (.ty 1))
    simp [go_sem]
    generalize upd st tb (.cells true C 5 (.ty 1)) = st1 at *
    simp [go_sem, g1, c1]
    refine (refLabValue_spec (hlab.new k1) hll).mono ?_
    rintro e st2 ⟨rfl, rfl⟩
    rw [hw]
    have g2 := g1
    have kk := k1
    by_cases o0 : op = 0
    · rw [if_pos o0] at hRES
      subst hRES
      simp [go_sem, g2, c0, o0]
      exact kk
    rw [if_neg o0] at hRES
    by_cases o1 : op = 1
    · rw [if_pos o1] at hRES
      subst hRES
      subst o1
      simp [go_sem, g2, c0, c2]
      exact kk
    rw [if_neg o1] at hRES
    by_cases o2 : op = 2
    · rw [if_pos o2] at hRES
      subst hRES
      subst o2
      simp [go_sem, g2, c0, c2]
      exact kk
    rw [if_neg o2] at hRES
    by_cases o3 : op = 3
    · rw [if_pos o3] at hRES
      subst hRES
      subst o3
      simp [go_sem, g2, c0, c2]
      refine draw [0, 2, 1, 3, 4, 5, 6, 7, 8, 12, 9, 10, 11, 13, 14, 15, 16] (by kernel_rfl) ?_
      by_cases c : value.size ≤ w.size
      · have q : ((value.size : Int) ≤ w.size) = True := eq_true (by omega)
        simp [go_sem, g2, c2, q, c, prefB]
        exact kk
      · have q : ((value.size : Int) ≤ w.size) = False := eq_false (by omega)
        simp [go_sem, g2, c2, q, c, prefB]
        exact kk
    rw [if_neg o3] at hRES
    by_cases o4 : op = 4
    · rw [if_pos o4] at hRES
      subst o4
      simp [go_sem, g2, c0]
      refine ⟨fun E st' => st' = st2 ∧ E 5 = .string w ∧ E 2 = ptr tb ∧ ∃ i : Nat, E 6 = Val.i (i : Int) ∧ i ≤ vals.length ∧ ((vals.drop i).any fun v => decide (v = w)) = RES,
        fun E _ => match E 6 with | .int _ z => vals.length - z.toNat | _ => 0, ⟨st2, .rfl' _, rfl, by simp [go_sem], by simp [go_sem], 0, by simp [go_sem], by omega, by simpa using hRES⟩, ?_⟩
      rintro E st' ⟨rfl, e5, e2, i, e6, hi, hr⟩
      by_cases hlt : i < vals.length
      · have t1 : ((i : Int) < vals.length) = True := eq_true (by omega)
        have hwi : IntKind.i64.wrap ((i : Int) + 1) = ((i + 1 : Nat) : Int) := by rw [wrap_id (by omega) (by omega)]; omega
        obtain ⟨blk, off, rfl, hg⟩ := src_get (hv.new kk).src (by omega)
        have hgi := hg i (by omega)
        have hvi : vals[i]? = some vals[i] := List.getElem?_eq_getElem hlt
        have hgv : (vals.map Value.string)[i]? = some (.string vals[i]) := by simp [hvi]
        rw [hgv] at hgi
        rw [List.drop_eq_getElem_cons hlt, List.any_cons] at hr
        generalize vals[i] = x at hgi hr
        by_cases cx : x = w
        · simp [cx] at hr
          subst hr
          simp [go_sem, e5, e2, e6, t1, hlt, hgi, cx, g2, c3]
          exact kk
        · simp only [decide_eq_false cx, Bool.false_or] at hr
          simp [go_sem, e5, e2, e6, t1, hlt, hgi, cx, hwi, g2, c3]
          exact ⟨_, .rfl' _, ⟨rfl, i + 1, by simp, by omega, hr⟩, by omega⟩
      · have : i = vals.length := by omega
        subst this
        rw [List.drop_length] at hr
        simp at hr
        subst hr
        simp [go_sem, e5, e2, e6, g2, c3]
        exact kk
    rw [if_neg o4] at hRES
    by_cases o7 : op = 7
    · rw [if_pos o7] at hRES
      subst o7
      have h1 := alone_not halone
      obtain ⟨kid, rfl⟩ : ∃ k, kids = [k] := List.length_eq_one_iff.1 h1
      unfold headM at hRES
      obtain ⟨mb, off, cap, rw_, zs, mm, g', hv', hsm, hget⟩ := rows_get (hk.new kk) (by simp)
      injection hv' with v1 v2 v3
      subst v1; subst v3
      obtain ⟨hlen, hcell, _⟩ := hget 0 (by simp)
      obtain ⟨hmi, hil⟩ := KidsAt.get (i := 0) (m := kid) (hkids.new kk) rfl
      rw [← hcell] at hmi
      simp only [Nat.zero_mul, Nat.add_zero] at hlen hcell hmi
      have hkn := n6 kid (by simp)
      have hkk := hkh kid (by simp)
      simp [go_sem, g2, c0, c4, hsm, hlen]
      refine (ih kid hkn hkk hmi (hlab.new kk) hll).mono ?_
      rintro e st3 ⟨rfl, k3⟩
      subst hRES
      simp [go_sem]
      exact kk.trans k3
    rw [if_neg o7] at hRES
    obtain ⟨op0, op7⟩ := alone_op halone
    have o56 : op = 5 ∨ op = 6 := by omega
    obtain ⟨ds, hds⟩ : ∃ ds, decide (op = 6) = ds := ⟨_, rfl⟩
    have hds5 : decide (op = 5) = !ds := by
      rw [← hds]
      rcases o56 with rfl | rfl <;> decide
    rw [hds] at hRES
    have LOOP : ∀ (E0 : Env) (Q : IPost), E0 1 = .slice lb l.length lc → E0 2 = ptr tb → True := fun _ _ _ _ => trivial
    rcases o56 with h56 | h56
    all_goals
      simp [go_sem, g2, c0, h56]
      refine ⟨fun E st' => New st2 st' ∧ E 1 = .slice lb l.length lc ∧ E 2 = ptr tb ∧ ∃ j0 : Nat, E 7 = Val.i (j0 : Int) ∧ j0 ≤ kids.length ∧ findM ds (kids.drop j0) l = RES,
        fun E _ => match E 7 with | .int _ z => kids.length - z.toNat | _ => 0, ⟨st2, .rfl' _, New.refl _, by simp [go_sem], by simp [go_sem], 0, by simp [go_sem], by omega, by simpa using hRES⟩, ?_⟩
      rintro E s0 ⟨k0', e1, e2, j0, e7, hi, hr⟩
      have g3 := k0' _ _ g2
      have k0 := kk.trans k0'
      by_cases hlt : j0 < kids.length
      rotate_left
      · have : j0 = kids.length := by omega
        subst this
        rw [List.drop_length] at hr
        unfold findM at hr
        subst hr
        simp [go_sem, e1, e2, e7, g3, c0, c4, hds5]
        exact k0
      have t1 : ((j0 : Int) < kids.length) = True := eq_true (by omega)
      have hwi : IntKind.i64.wrap ((j0 : Int) + 1) = ((j0 + 1 : Nat) : Int) := by rw [wrap_id (by omega) (by omega)]; omega
      obtain ⟨mb, off, cap, rw_, zs, mm, g', hv', hsm, hget⟩ := rows_get (hk.new k0) (by omega)
      injection hv' with v1 v2 v3
      subst v1; subst v3
      obtain ⟨hlen, hcell, _⟩ := hget j0 (by omega)
      have hki : kids[j0]? = some kids[j0] := List.getElem?_eq_getElem hlt
      obtain ⟨hmi, hil⟩ := KidsAt.get (hkids.new k0) hki
      rw [← hcell] at hmi
      have hmem : kids[j0] ∈ kids := List.getElem_mem hlt
      have hkn := n6 _ hmem
      have hkk := hkh _ hmem
      rw [List.drop_eq_getElem_cons hlt] at hr
      unfold findM at hr
      generalize kids[j0] = kid at *
      obtain ⟨kc', hkc'⟩ : ∃ kc, (zs.drop (off + j0 * 5)).take 5 = kc := ⟨_, rfl⟩
      rw [hkc'] at hmi
      simp [go_sem, e1, e2, e7, t1, hlt, g3, c4]
      refine drawV [0, 1, 2, 3, 4, 5, 6, 7, 8, 9, 10] (fun i v st' => match i with
        | 0 => v = .pointer (some ⟨tb, 4, none⟩)
        | 1 => v = .slice (some ⟨mb, off, none⟩) kids.length kc
        | 2 => v = Val.i (j0 : Int)
        | 3 => v = .pointer (some ⟨mb, off + j0 * 5, none⟩)
        | 4 => v = .agg kc'.toArray
        | 5 => v = .slice lb l.length lc
        | 6 => v = .bool (evalM kid l)
        | 7 => v = .pointer (some ⟨tb, 0, none⟩)
        | 8 => v = Val.i op
        | 9 => v = .bool ds
        | 10 => v = .bool (decide (evalM kid l = ds))
        | _ => True) (by kernel_rfl) (by kernel_rfl) ?_ ?_ ?_ ?_
      · intro i v sta stb hNw h
        match i with
        | 0 => exact h
        | 1 => exact h
        | 2 => exact h
        | 3 => exact h
        | 4 => exact h
        | 5 => exact h
        | 6 => exact h
        | 7 => exact h
        | 8 => exact h
        | 9 => exact h
        | 10 => exact h
        | i + 11 => exact h
      · intro i oo hi E sta hNw hd hE
        have ta := hNw _ _ g3
        have hsm2 := hNw _ _ hsm
        match i with
        | 0 =>
          have x2 := hE 2 (oldB_spec (by kernel_rfl))
          injection hi with hi; subst hi
          simp [wantedE, go_sem, x2, e2, ta, hsm2, c0, c4, hlt, hlen, hkc', hds]
          exact New.refl _
        | 1 =>
          injection hi with hi; subst hi
          have d0 := hd { on := 0, ground := .data } (by simp) (by decide) _ _ rfl rfl
          simp only at d0
          simp [wantedE, go_sem, d0, ta, hsm2, c0, c4, hlt, hlen, hkc', hds]
          exact New.refl _
        | 2 =>
          have x7 := hE 7 (oldB_spec (by kernel_rfl))
          injection hi with hi; subst hi
          simp [wantedE, go_sem, x7, e7, ta, hsm2, c0, c4, hlt, hlen, hkc', hds]
          exact New.refl _
        | 3 =>
          injection hi with hi; subst hi
          have d1 := hd { on := 1, ground := .data } (by simp) (by decide) _ _ rfl rfl
          have d2 := hd { on := 2, ground := .data } (by simp) (by decide) _ _ rfl rfl
          simp only at d1 d2
          simp [wantedE, go_sem, d1, d2, ta, hsm2, c0, c4, hlt, hlen, hkc', hds]
          exact New.refl _
        | 4 =>
          injection hi with hi; subst hi
          have d3 := hd { on := 3, ground := .data } (by simp) (by decide) _ _ rfl rfl
          simp only at d3
          simp [wantedE, go_sem, d3, ta, hsm2, c0, c4, hlt, hlen, hkc', hds]
          exact New.refl _
        | 5 =>
          have x1 := hE 1 (oldB_spec (by kernel_rfl))
          injection hi with hi; subst hi
          simp [wantedE, go_sem, x1, e1, ta, hsm2, c0, c4, hlt, hlen, hkc', hds]
          exact New.refl _
        | 6 =>
          injection hi with hi; subst hi
          have d4 := hd { on := 4, ground := .data } (by simp) (by decide) _ _ rfl rfl
          have d5 := hd { on := 5, ground := .data } (by simp) (by decide) _ _ rfl rfl
          simp only at d4 d5
          simp [wantedE, go_sem, d4, d5, ta, hsm2, c0, c4, hlt, hlen, hkc', hds]
          refine (ih kid hkn hkk (hmi.new hNw) (hlab.new (k0.trans hNw)) hll).mono ?_
          rintro e s5 ⟨rfl, n5⟩
          simp [go_sem]
          exact n5
        | 7 =>
          have x2 := hE 2 (oldB_spec (by kernel_rfl))
          injection hi with hi; subst hi
          simp [wantedE, go_sem, x2, e2, ta, hsm2, c0, c4, hlt, hlen, hkc', hds]
          exact New.refl _
        | 8 =>
          injection hi with hi; subst hi
          have d7 := hd { on := 7, ground := .data } (by simp) (by decide) _ _ rfl rfl
          simp only at d7
          simp [wantedE, go_sem, d7, ta, hsm2, c0, c4, hlt, hlen, hkc', hds]
          exact New.refl _
        | 9 =>
          injection hi with hi; subst hi
          have d8 := hd { on := 8, ground := .data } (by simp) (by decide) _ _ rfl rfl
          simp only at d8
          simp [wantedE, go_sem, d8, ta, hsm2, c0, c4, hlt, hlen, hkc', hds]
          exact New.refl _
        | 10 =>
          injection hi with hi; subst hi
          have d6 := hd { on := 6, ground := .data } (by simp) (by decide) _ _ rfl rfl
          have d9 := hd { on := 9, ground := .data } (by simp) (by decide) _ _ rfl rfl
          simp only at d6 d9
          simp [wantedE, go_sem, d6, d9, ta, hsm2, c0, c4, hlt, hlen, hkc', hds]
          refine ⟨New.refl _, ?_⟩
          cases evalM kid l <;> cases ds <;> rfl
        | i + 11 => simp at hi
      · intro E sta hNw hd hE
        have d10 := hd 10 _ 82 rfl rfl
        simp only at d10
        have y1 : E 1 = .slice lb l.length lc := by rw [hE 1 (noB_spec (by kernel_rfl))]; simp [go_sem, e1]
        have y2 : E 2 = ptr tb := by rw [hE 2 (noB_spec (by kernel_rfl))]; simp [go_sem, e2]
        have y7 : E 7 = Val.i (j0 : Int) := by rw [hE 7 (noB_spec (by kernel_rfl))]; simp [go_sem, e7]
        have g4 := hNw _ _ g3
        have kf := k0.trans hNw
        by_cases cx : evalM kid l = ds
        · rw [if_pos cx] at hr
          subst hr
          simp [go_sem, d10, y1, y2, y7, cx, g4, c0, hds]
          exact kf
        · rw [if_neg cx] at hr
          simp [go_sem, d10, y1, y2, y7, cx, hwi]
          exact ⟨sta, .rfl' _, ⟨k0'.trans hNw, j0 + 1, by simp, by omega, hr⟩, by omega⟩
      · intro j oj hj
        match j with
        | 0 | 1 | 2 | 3 | 4 | 5 | 6 | 7 | 8 | 9 | 10 => simp at hj; subst hj; decide
        | j + 11 => simp at hj
end
end Go.Proofs.YtflbapmjdfnhhaaGreat
