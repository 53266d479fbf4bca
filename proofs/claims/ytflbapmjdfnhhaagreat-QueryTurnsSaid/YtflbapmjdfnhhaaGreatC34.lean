/- Matchers: which label sets are meant (the program's match.Eval, of any matcher that may be). -/
import Derived.Test.YtflbapmjdfnhhaaGreatC32
set_option linter.unusedVariables false
set_option linter.unusedSimpArgs false
set_option maxRecDepth 100000
set_option maxHeartbeats 1000000
namespace Go.Proofs.YtflbapmjdfnhhaaGreat
open Go.RowKit (Below)
def prefB (s p : ByteArray) : Bool := decide (p.size ≤ s.size) && decide (s.extract 0 p.size = p)
mutual
def evalM : Mat → List Lab → Bool
  | .mk op name value vals kids, l =>
    if op = 0 then true
    else if op = 1 then decide (valueL l name = value)
    else if op = 2 then !decide (valueL l name = value)
    else if op = 3 then prefB (valueL l name) value
    else if op = 4 then vals.any fun v => decide (v = valueL l name)
    else if op = 7 then !headM kids l
    else findM (decide (op = 6)) kids l
def headM : List Mat → List Lab → Bool
  | [], _ => false
  | k :: _, l => evalM k l
def findM : Bool → List Mat → List Lab → Bool
  | ds, [], _ => !ds
  | ds, k :: ks, l => if evalM k l = ds then ds else findM ds ks l
end
/-- A part of a matcher that may be. -/
def HoldM (m : Mat) : Prop := ∃ deep n b, (holdsM m deep n b).1 = true
theorem kidsM_all : ∀ (ms : List Mat) (deep : Nat) (n b : Int), (kidsM ms deep n b).1 = true → ∀ k ∈ ms, HoldM k
  | [], _, _, _, _, k, hk => by simp at hk
  | m :: ms, deep, n, b, h, k, hk => by
    unfold kidsM at h
    split at h
    · rename_i n' b' hm
      rcases List.mem_cons.1 hk with rfl | hk
      · exact ⟨deep, n, b, by rw [hm]⟩
      · exact kidsM_all ms deep n' b' h k hk
    · cases h
theorem HoldM.parts {op : Int} {name value : ByteArray} {vals : List ByteArray} {kids : List Mat} (h : HoldM (.mk op name value vals kids)) : aloneM op name value vals kids.length = true ∧ ∀ k ∈ kids, HoldM k := by
  obtain ⟨deep, n, b, h⟩ := h
  unfold holdsM at h
  split at h
  · cases h
  · rename_i hc
    split at h
    · cases h
    · refine ⟨?_, kidsM_all _ _ _ _ h⟩
      cases ha : aloneM op name value vals kids.length with
      | true => rfl
      | false => exact absurd (.inr (.inr ha)) hc
theorem HoldM.of_check {m : Mat} (h : checkM m = true) : HoldM m := ⟨1, 64, 4096, h⟩
theorem alone_not {name value : ByteArray} {vals : List ByteArray} {nk : Nat} (h : aloneM 7 name value vals nk = true) : nk = 1 := by
  unfold aloneM at h
  simp at h
  exact h.2
section
variable {W0 : World}
theorem hasPrefix_spec {st : Heap} {s p : ByteArray} : ICalls Tryz.prog W0 99 #[.string s, .string p] st fun e st' => e = .returned (.bool (prefB s p)) ∧ st' = st := by
  refine enter (args := [_, _]) Tryz.func99 rfl ?_
  simp [Tryz.f99, go_sem]
  refine ICalls.mono (R := fun e st' => e = .returned (.bool (prefB s p)) ∧ st' = st) ?_ ?_
  · refine enter (args := [_, _]) Tryz.func114 rfl ?_
    by_cases c : p.size ≤ s.size
    · have q : ((p.size : Int) ≤ s.size) = True := eq_true (by omega)
      simp [Tryz.f114, go_sem, q, c, prefB]
    · have q : ((p.size : Int) ≤ s.size) = False := eq_false (by omega)
      simp [Tryz.f114, go_sem, q, c, prefB]
  rintro e st1 ⟨rfl, rfl⟩
  simp [go_sem]
theorem eval_spec : ∀ (d : Nat) (m : Mat) {st : Heap} {cs : List Value} {v : Value} {l : List Lab}, NiceM d m → HoldM m → MatAt st cs m → RegF st 2 v (labV l) l.length → l.length < 2 ^ 50 →
    ICalls Tryz.prog W0 75 #[.agg cs.toArray, v] st fun e st' => e = .returned (.bool (evalM m l)) ∧ New st st' := by
  intro d
  induction d with
  | zero => intro m st cs v l hn; unfold NiceM at hn; exact hn.elim
  | succ d ih =>
  intro m st cs v l hn hhold hm hlab hll
  match m with
  | .mk op name value vals kids =>
  obtain ⟨halone, hkh⟩ := hhold.parts
  have hm0 := hm
  unfold MatAt at hm
  obtain ⟨vv, kv, ks, rfl, hv, hk, hkids⟩ := hm
  obtain ⟨vb, vc, rfl⟩ := hv.slice
  obtain ⟨kb, kc, rfl⟩ := hk.slice
  obtain ⟨lb, lc, rfl⟩ := id hlab.slice
  unfold NiceM at hn
  obtain ⟨n1, n2, n3, n4, n5, n6⟩ := hn
  obtain ⟨C, hC⟩ : ∃ C : List Value, [Val.i op, .string name, .string value, .slice vb vals.length vc, .slice kb kids.length kc] = C := ⟨_, rfl⟩
  have hCl : C.length = 5 := by rw [← hC]; rfl
  have c0 : C[0]? = some (Val.i op) := by rw [← hC]; rfl
  have c1 : C[1]? = some (.string name) := by rw [← hC]; rfl
  have c2 : C[2]? = some (.string value) := by rw [← hC]; rfl
  have c3 : C[3]? = some (.slice vb vals.length vc) := by rw [← hC]; rfl
  have c4 : C[4]? = some (.slice kb kids.length kc) := by rw [← hC]; rfl
  rw [hC]
  obtain ⟨w, hw⟩ : ∃ w, valueL l name = w := ⟨_, rfl⟩
  obtain ⟨RES, hRES⟩ : ∃ R, evalM (.mk op name value vals kids) l = R := ⟨_, rfl⟩
  rw [hRES]
  unfold evalM at hRES
  rw [hw] at hRES
  refine enter (args := [_, _]) Tryz.func75 rfl ?_
  iterate 2 refine IW_assoc ?_
  refine IW_cut' (fun E' st' => ¬ op = 0 ∧ ¬ op = 1 ∧ ¬ op = 2 ∧ ¬ op = 3 ∧ ¬ op = 4 ∧ ¬ op = 7 ∧ ∃ tb, New st st' ∧ E' 1 = .slice lb l.length lc ∧ E' 2 = ptr tb ∧ st' tb = some (.cells true C 5 (.ty 1))) ?_ ?_
  · simp [go_sem]
    unfold NewP
    intro tb htb
    refine ⟨.ty 1, ?_⟩
    rw [hCl]
    have k1 := (New.refl st).add (b := tb) (o := .cells true C 5 (.ty 1)) htb
    have g1 := upd_same st tb (.cells true C 5 (.ty 1))
    simp [go_sem]
    generalize upd st tb (.cells true C 5 (.ty 1)) = st1 at *
    simp [go_sem, g1, c1]
    refine (labelValue_spec (hlab.new k1) hll).mono ?_
    rintro e st2 ⟨rfl, k2⟩
    rw [hw]
    have g2 := k2 _ _ g1
    have kk := k1.trans k2
    by_cases o0 : op = 0
    · rw [if_pos o0] at hRES
      subst hRES
      simp [go_sem, g2, c0, o0]
      exact kk
    rw [if_neg o0] at hRES
    by_cases o1 : op = 1
    · rw [if_pos o1] at hRES
      subst hRES
      subst o1
      simp [go_sem, g2, c0, c2]
      exact kk
    rw [if_neg o1] at hRES
    by_cases o2 : op = 2
    · rw [if_pos o2] at hRES
      subst hRES
      subst o2
      simp [go_sem, g2, c0, c2]
      exact kk
    rw [if_neg o2] at hRES
    by_cases o3 : op = 3
    · rw [if_pos o3] at hRES
      subst hRES
      subst o3
      simp [go_sem, g2, c0, c2]
      refine hasPrefix_spec.mono ?_
      rintro e st3 ⟨rfl, rfl⟩
      simp [go_sem]
      exact kk
    rw [if_neg o3] at hRES
    by_cases o4 : op = 4
    · rw [if_pos o4] at hRES
      subst o4
      simp [go_sem, g2, c0, c3]
      refine ⟨fun E st' => st' = st2 ∧ E 5 = .string w ∧ E 40 = .slice vb vals.length vc ∧ E 41 = Val.i vals.length ∧ ∃ i : Nat, E 42 = Val.i (i : Int) ∧ i ≤ vals.length ∧ ((vals.drop i).any fun v => decide (v = w)) = RES,
        fun E _ => match E 42 with | .int _ z => vals.length - z.toNat | _ => 0, ⟨st2, .rfl' _, rfl, by simp [go_sem], by simp [go_sem], by simp [go_sem], 0, by simp [go_sem], by omega, by simpa using hRES⟩, ?_⟩
      rintro E st' ⟨rfl, e5, e40, e41, i, e42, hi, hr⟩
      by_cases hlt : i < vals.length
      · have t1 : ((i : Int) < vals.length) = True := eq_true (by omega)
        have hwi : IntKind.i64.wrap ((i : Int) + 1) = ((i + 1 : Nat) : Int) := by rw [wrap_id (by omega) (by omega)]; omega
        obtain ⟨blk, off, rfl, hg⟩ := src_get (hv.new kk).src (by omega)
        have hgi := hg i (by omega)
        have hvi : vals[i]? = some vals[i] := List.getElem?_eq_getElem hlt
        have hgv : (vals.map Value.string)[i]? = some (.string vals[i]) := by simp [hvi]
        rw [hgv] at hgi
        rw [List.drop_eq_getElem_cons hlt, List.any_cons] at hr
        generalize vals[i] = x at hgi hr
        by_cases cx : x = w
        · simp [cx] at hr
          subst hr
          simp [go_sem, e5, e40, e41, e42, t1, hlt, hgi, cx]
          exact kk
        · simp only [decide_eq_false cx, Bool.false_or] at hr
          simp [go_sem, e5, e40, e41, e42, t1, hlt, hgi, cx, hwi]
          exact ⟨_, .rfl' _, ⟨rfl, i + 1, by simp, by omega, hr⟩, by omega⟩
      · have : i = vals.length := by omega
        subst this
        rw [List.drop_length] at hr
        simp at hr
        subst hr
        simp [go_sem, e5, e40, e41, e42]
        exact kk
    rw [if_neg o4] at hRES
    by_cases o7 : op = 7
    · rw [if_pos o7] at hRES
      subst o7
      have h1 := alone_not halone
      obtain ⟨kid, rfl⟩ : ∃ k, kids = [k] := List.length_eq_one_iff.1 h1
      unfold headM at hRES
      obtain ⟨mb, off, cap, rw_, zs, mm, g', hv', hsm, hget⟩ := rows_get (hk.new kk) (by simp)
      injection hv' with v1 v2 v3
      subst v1; subst v3
      obtain ⟨hlen, hcell, _⟩ := hget 0 (by simp)
      obtain ⟨hmi, hil⟩ := KidsAt.get (i := 0) (m := kid) (hkids.new kk) rfl
      rw [← hcell] at hmi
      simp only [Nat.zero_mul, Nat.add_zero] at hlen hcell hmi
      have hkn := n6 kid (by simp)
      have hkk := hkh kid (by simp)
      simp [go_sem, g2, c0, c4, hsm, hlen]
      refine (ih kid hkn hkk hmi (hlab.new kk) hll).mono ?_
      rintro e st3 ⟨rfl, k3⟩
      subst hRES
      simp [go_sem]
      exact kk.trans k3
    rw [if_neg o7] at hRES
    simp [go_sem, g2, c0, o0, o1, o2, o3, o4, o7]
    exact kk
  rintro E st1 ⟨o0, o1, o2, o3, o4, o7, tb, k1, e1, e2, g1⟩
  rw [if_neg o0, if_neg o1, if_neg o2, if_neg o3, if_neg o4, if_neg o7] at hRES
  obtain ⟨ds, hds⟩ : ∃ ds, decide (op = 6) = ds := ⟨_, rfl⟩
  rw [hds] at hRES
  simp [go_sem, e1, e2, g1, c0, c4, hds]
  refine ⟨fun E st' => New st st' ∧ E 1 = .slice lb l.length lc ∧ E 8 = .bool ds ∧ E 63 = .slice kb kids.length kc ∧ E 64 = Val.i kids.length ∧ ∃ i : Nat, E 65 = Val.i (i : Int) ∧ i ≤ kids.length ∧ findM ds (kids.drop i) l = RES,
    fun E _ => match E 65 with | .int _ z => kids.length - z.toNat | _ => 0, ⟨st1, .rfl' _, k1, by simp [go_sem, e1], by simp [go_sem], by simp [go_sem], by simp [go_sem], 0, by simp [go_sem], by omega, by simpa using hRES⟩, ?_⟩
  clear e1 e2
  clear E
  rintro E s0 ⟨k0, e1, e8, e63, e64, i, e65, hi, hr⟩
  by_cases hlt : i < kids.length
  rotate_left
  · have : i = kids.length := by omega
    subst this
    rw [List.drop_length] at hr
    unfold findM at hr
    subst hr
    simp [go_sem, e1, e8, e63, e64, e65]
    exact k0
  have t1 : ((i : Int) < kids.length) = True := eq_true (by omega)
  have hwi : IntKind.i64.wrap ((i : Int) + 1) = ((i + 1 : Nat) : Int) := by rw [wrap_id (by omega) (by omega)]; omega
  obtain ⟨mb, off, cap, rw_, zs, mm, g', hv', hsm, hget⟩ := rows_get (hk.new k0) (by omega)
  injection hv' with v1 v2 v3
  subst v1; subst v3
  obtain ⟨hlen, hcell, _⟩ := hget i (by omega)
  have hki : kids[i]? = some kids[i] := List.getElem?_eq_getElem hlt
  obtain ⟨hmi, hil⟩ := KidsAt.get (hkids.new k0) hki
  rw [← hcell] at hmi
  have hmem : kids[i] ∈ kids := List.getElem_mem hlt
  have hkn := n6 _ hmem
  have hkk := hkh _ hmem
  rw [List.drop_eq_getElem_cons hlt] at hr
  unfold findM at hr
  generalize kids[i] = kid at *
  have hcl := hmi.length
  obtain ⟨kc', hkc'⟩ : ∃ kc, (zs.drop (off + i * 5)).take 5 = kc := ⟨_, rfl⟩
  rw [hkc'] at hmi hcl
  obtain ⟨⟨op', name', value', vals', kids'⟩, hkd⟩ : ∃ k, kid = k := ⟨_, rfl⟩
  have hmi' := hmi
  rw [hkd] at hmi'
  unfold MatAt at hmi'
  obtain ⟨vv', kv', ks', hcs, hv', hk', -⟩ := hmi'
  obtain ⟨vb', vc', rfl⟩ := hv'.slice
  obtain ⟨kb', kc2, rfl⟩ := hk'.slice
  subst hcs
  simp [go_sem, e1, e8, e63, e64, e65, t1, hlt, hsm, hlen, hkc']
  unfold NewP
  intro t ht
  refine ⟨.ty 1, ?_⟩
  have k2 := (New.refl s0).add (b := t) (o := .cells true [Val.i op', .string name', .string value', .slice vb' vals'.length vc', .slice kb' kids'.length kc2] 5 (.ty 1)) ht
  simp [go_sem, e1, e8, e63, e64, e65]
  refine (ih kid hkn hkk (hmi.new k2) (hlab.new (k0.trans k2)) hll).mono ?_
  rintro e s2 ⟨rfl, k3⟩
  have kk := (k0.trans k2).trans k3
  by_cases cx : evalM kid l = ds
  · rw [if_pos cx] at hr
    subst hr
    simp [go_sem, e1, e8, e63, e64, e65, cx]
    exact kk
  · rw [if_neg cx] at hr
    simp [go_sem, e1, e8, e63, e64, e65, cx, hwi]
    exact ⟨s2, .rfl' _, ⟨kk, i + 1, by simp, by omega, hr⟩, by omega⟩
theorem Eval_spec {d : Nat} {m : Mat} {st : Heap} {cs : List Value} {v : Value} {l : List Lab} (hn : NiceM d m) (hc : checkM m = true) (hm : MatAt st cs m) (hlab : RegF st 2 v (labV l) l.length) (hll : l.length < 2 ^ 50) :
    ICalls Tryz.prog W0 48 #[.agg cs.toArray, v] st fun e st' => e = .returned (.bool (evalM m l)) ∧ New st st' := by
  obtain ⟨tb, tc, rfl⟩ := id hlab.slice
  refine enter (args := [_, _]) Tryz.func48 rfl ?_
  have hcz := hm.length
  have htz : cs.take 5 = cs := List.take_of_length_le (by omega)
  simp [Tryz.f48, go_sem]
  unfold NewP
  intro a ha
  refine ⟨.ty 1, ?_⟩
  rw [hcz]
  have k1 := (New.refl st).add (b := a) (o := .cells true cs 5 (.ty 1)) ha
  have g1 := upd_same st a (.cells true cs 5 (.ty 1))
  simp [go_sem]
  generalize upd st a (.cells true cs 5 (.ty 1)) = st1 at *
  simp [go_sem, g1, hcz, htz]
  refine (matCheck_spec m (hm.new k1)).mono ?_
  rintro e st2 ⟨rfl, k2⟩
  rw [hc]
  have g2 := k2 _ _ g1
  simp [go_sem, g2, hcz, htz]
  refine (eval_spec d m hn (.of_check hc) (hm.new (k1.trans k2)) (hlab.new (k1.trans k2)) hll).mono ?_
  rintro e st3 ⟨rfl, k3⟩
  simp [go_sem]
  exact (k1.trans k2).trans k3
end
end Go.Proofs.YtflbapmjdfnhhaaGreat
