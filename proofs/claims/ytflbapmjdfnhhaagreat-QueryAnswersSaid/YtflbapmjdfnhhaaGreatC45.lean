/- A remainder from 0 on; bytes in new memory. -/
import Derived.Test.YtflbapmjdfnhhaaGreatCTab
import Derived.Test.YtflbapmjdfnhhaaGreatC09
import Derived.Test.YtflbapmjdfnhhaaGreatC44
import Derived.Test.YtflbapmjdfnhhaaGreatC36
import Derived.Test.YtflbapmjdfnhhaaGreatC28
import Derived.Test.YtflbapmjdfnhhaaGreatC39
import Derived.Test.YtflbapmjdfnhhaaGreatC40
set_option linter.unusedVariables false
set_option linter.unusedSimpArgs false
set_option maxRecDepth 100000
set_option maxHeartbeats 1000000
namespace Go.Proofs.YtflbapmjdfnhhaaGreat
open Go.RowKit (Below)
section
variable {W0 : World} {st : Heap}
theorem Place_spec {n k : Int} (hk : 0 < k) (hk2 : k < 2 ^ 40) : ICalls Tryz.prog W0 15 #[Val.i n, Val.i k] st fun e st' => (∃ m : Nat, (m : Int) < k ∧ e = .returned (Val.i m)) ∧ st' = st := by
  refine enter (args := [_, _]) Tryz.func15 rfl ?_
  have hk0 : ¬ k = 0 := by omega
  have h1 := Int.tmod_lt_of_pos n hk
  have h2 : -k < n.tmod k := by
    have := Int.lt_tmod_of_pos n hk
    omega
  have hw1 : IntKind.i64.wrap (n.tmod k) = n.tmod k := wrap_id (by omega) (by omega)
  by_cases hneg : n.tmod k < 0
  · have hw2 : IntKind.i64.wrap (n.tmod k + k) = n.tmod k + k := wrap_id (by omega) (by omega)
    simp [Tryz.f15, go_sem, hk0, hneg, hw1, hw2]
    refine ⟨(n.tmod k + k).toNat, by omega, by omega⟩
  · simp [Tryz.f15, go_sem, hk0, hneg, hw1]
    refine ⟨(n.tmod k).toNat, by omega, by omega⟩
end
end Go.Proofs.YtflbapmjdfnhhaaGreat
set_option linter.unusedVariables false
set_option linter.unusedSimpArgs false
set_option maxRecDepth 100000
set_option maxHeartbeats 1000000
namespace Go.Proofs.YtflbapmjdfnhhaaGreat
open Go.RowKit (Below)
structure GoodL (l : List Lab) : Prop where
  ck : checkL l = true
  len : l.length ≤ 8
  sizes : ∀ x ∈ l, x.1.size < 2 ^ 60 ∧ x.2.size < 2 ^ 60
section
variable {W0 : World} {st : Heap}
end
end Go.Proofs.YtflbapmjdfnhhaaGreat
set_option linter.unusedVariables false
set_option linter.unusedSimpArgs false
set_option maxRecDepth 100000
set_option maxHeartbeats 1000000
namespace Go.Proofs.YtflbapmjdfnhhaaGreat
open Go.RowKit (Below)
theorem five {cs : List Value} (h : cs.length = 5) : ∃ a0 a1 a2 a3 a4, cs = [a0, a1, a2, a3, a4] := by
  match cs, h with
  | [a0, a1, a2, a3, a4], _ => exact ⟨a0, a1, a2, a3, a4, rfl⟩
section
variable {W0 : World} {st : Heap}
theorem answers_x {a0 a1 a2 a3 a4 : Value} {start step n kind a b : Int} {m : Mat} {v : Value} {l : List RowD} {d : Nat} (hm : MatAt st [a0, a1, a2, a3, a4] m) (hn : NiceM d m) (hc : checkM m = true) (hv : RowsAt st v l) (hl : l.length < 2 ^ 30) (hok : ∀ r ∈ l, RowOK r) :
    ICalls Tryz.prog W0 12 #[.agg #[a0, a1, a2, a3, a4, Val.i start, Val.i step, Val.i n, Val.i kind, Val.u a, Val.u b], v] st fun e st' => ∃ fv, e = .returned fv ∧ AnsFn st' fv [a0, a1, a2, a3, a4] ⟨m, start, step, n, kind, a, b⟩ (l.filter (keepR (evalM m))) ∧ New st st' :=
  answers_made (q := ⟨m, start, step, n, kind, a, b⟩) (ms := [a0, a1, a2, a3, a4]) hm hn hc hv hl hok
theorem MatAt.cells {st : Heap} {cs : List Value} {m : Mat} (h : MatAt st cs m) : ∃ (mo : Int) (mn mv : ByteArray) (vb : Option Addr) (vn vc : Nat) (kb : Option Addr) (kn kc : Nat), cs = [Val.i mo, .string mn, .string mv, .slice vb vn vc, .slice kb kn kc] := by
  obtain ⟨op, name, value, vals, kids⟩ := m
  unfold MatAt at h
  obtain ⟨vv, kv, ks, rfl, h1, h2, _⟩ := h
  obtain ⟨vb, vc, rfl⟩ := h1.slice
  obtain ⟨kb, kc, rfl⟩ := h2.slice
  exact ⟨_, _, _, _, _, _, _, _, _, rfl⟩
theorem ask_x {a0 a1 a2 a3 a4 : Value} {start step n kind a b : Int} {m : Mat} (hN : NiceM 12 m) (hm : MatAt st [a0, a1, a2, a3, a4] m) :
    ICalls Tryz.prog W0 13 #[.agg #[a0, a1, a2, a3, a4, Val.i start, Val.i step, Val.i n, Val.i kind, Val.u a, Val.u b]] st fun e st' => ∃ (mo : Int) (mn mv : ByteArray) (vb : Option Addr) (vn vc : Nat) (kb : Option Addr) (kn kc : Nat), e = .returned (.agg #[Val.i mo, .string mn, .string mv, .slice vb vn vc, .slice kb kn kc, Val.i start, Val.i step, Val.i n, Val.i kind, Val.u a, Val.u b]) ∧ MatAt st' [Val.i mo, .string mn, .string mv, .slice vb vn vc, .slice kb kn kc] m ∧ New st st' := by
  refine (ask_copy (W0 := W0) (st := st) (cs := [a0, a1, a2, a3, a4]) (start := start) (step := step) (n := n) (kind := kind) (a := a) (b := b) hN hm).mono ?_
  rintro e st' ⟨cs', rfl, h1, h2⟩
  obtain ⟨mo, mn, mv, vb, vn, vc, kb, kn, kc, rfl⟩ := h1.cells
  exact ⟨mo, mn, mv, vb, vn, vc, kb, kn, kc, rfl, h1, h2⟩
end
/-! ### Windows side by side -/
end Go.Proofs.YtflbapmjdfnhhaaGreat
set_option linter.unusedVariables false
set_option linter.unusedSimpArgs false
set_option maxRecDepth 100000
set_option maxHeartbeats 4000000
namespace Go.Proofs.YtflbapmjdfnhhaaGreat
open Go.RowKit (Below)
theorem checkB_len : ∀ (l : List (Int × Nat)) (p : Int), p ≤ 7423 → checkB p l = true → (l.length : Int) ≤ 7423 - p
  | [], p, hp, _ => by simp; omega
  | x :: l, p, hp, h => by
    rw [checkB_cons] at h
    obtain ⟨⟨h1, h2, _⟩, h3⟩ := h
    have := checkB_len l x.1 (by omega) h3
    simp only [List.length_cons]
    omega
theorem SkC.lens {s : SkD} (h : SkC s) : s.hist.length < 2 ^ 30 ∧ s.hashes.length < 2 ^ 30 := by
  have h1 := checkB_len _ _ (by omega) h.hist
  have h2 := h.asc.2
  omega
theorem SkAt.free {st st' : Heap} {cs : List Value} {s : SkD} (h : SkAt st cs s) (hk : Keep Free st st') : SkAt st' cs s := by
  obtain ⟨hv, kv, e, h1, h2⟩ := h
  exact ⟨hv, kv, e, h1.free hk, h2.free hk⟩
theorem SkAt.cells {st : Heap} {cs : List Value} {s : SkD} (h : SkAt st cs s) : ∃ hb hc kb kc, cs = [.slice hb s.hist.length hc, .slice kb s.hashes.length kc, Val.u s.g.n, Val.u s.g.nans, Val.u s.g.lo, Val.u s.g.hi] := by
  obtain ⟨hv, kv, rfl, h2, h3⟩ := h
  obtain ⟨hb, hc, rfl⟩ := h2.slice
  obtain ⟨kb, kc, rfl⟩ := h3.slice
  exact ⟨_, _, _, _, rfl⟩
theorem tell0 : tellS sum0 = ⟨[], [], ⟨0, 0, 0, 0⟩⟩ := by
  unfold tellS sum0
  simp only [bktL_zero]
  rfl
theorem sk0_at {st : Heap} : SkAt st [.slice none 0 0, .slice none 0 0, Val.u 0, Val.u 0, Val.u 0, Val.u 0] (tellS sum0) := by
  rw [tell0]
  exact ⟨_, _, rfl, RegF.nil, RegF.nil⟩
section
variable {W0 : World} {st : Heap}
theorem refWindow_spec {ms : List Value} {q : AskD} {v : Value} {l : List RowD} {frm : Int} {d : Nat} (hm : MatAt st ms q.m) (hn : NiceM d q.m) (hh : HoldM q.m) (aok : AskOK q) (hv : RowsAt st v l) (hl : l.length < 2 ^ 30) (hok : ∀ r ∈ l, RowOK r) (h0 : 0 ≤ frm) (h1 : 0 ≤ q.step) (h2 : frm + q.step < 2 ^ 63) :
    ICalls Tryz.prog W0 17 #[.agg (ms ++ q.tail).toArray, v, Val.i frm] st fun e st' => e = .returned (.agg ((ansOf q (l.filter (keepR (evalM q.m))) q.step frm).cells frm).toArray) ∧ New st st' := by
  obtain ⟨tb, tc, rfl⟩ := hv.slice
  obtain ⟨m0, m1, m2, m3, m4, rfl⟩ := five hm.length
  have hwf : IntKind.i64.wrap (frm + q.step) = frm + q.step := wrap_id (by omega) (by omega)
  refine enter (args := [_, _, _]) Tryz.func17 rfl ?_
  iterate 1 refine IW_assoc ?_
  refine IW_cut (fun E' st' => ∃ ta tx ts : Nat, New st st' ∧ E' 1 = .slice tb l.length tc ∧ E' 2 = Val.i frm ∧ E' 3 = ptr ta ∧ E' 6 = ptr tx ∧ E' 7 = ptr ts ∧ st ts = none ∧ st tx = none ∧ ta ≠ ts ∧ ta ≠ tx ∧ tx ≠ ts ∧ st' ta = some (.cells true [m0, m1, m2, m3, m4, Val.i q.start, Val.i q.step, Val.i q.n, Val.i q.kind, Val.u q.a, Val.u q.b] 11 (.ty 1)) ∧ (∃ z : List Value, z.length = 4 ∧ st' tx = some (.cells true z 4 (.ty 1))) ∧ st' ts = some (.cells true [.slice none 0 0, .slice none 0 0, Val.u 0, Val.u 0, Val.u 0, Val.u 0] 6 (.own ts 0 56))) ?_ ?_
  · simp [go_sem, AskD.tail]
    unfold NewP
    intro ta hta
    refine ⟨.ty 1, ?_⟩
    have k1 := (New.refl st).add (b := ta) (o := .cells true [m0, m1, m2, m3, m4, Val.i q.start, Val.i q.step, Val.i q.n, Val.i q.kind, Val.u q.a, Val.u q.b] 11 (.ty 1)) hta
    have ga := upd_same st ta (.cells true [m0, m1, m2, m3, m4, Val.i q.start, Val.i q.step, Val.i q.n, Val.i q.kind, Val.u q.a, Val.u q.b] 11 (.ty 1))
    simp [go_sem]
    generalize upd st ta (.cells true [m0, m1, m2, m3, m4, Val.i q.start, Val.i q.step, Val.i q.n, Val.i q.kind, Val.u q.a, Val.u q.b] 11 (.ty 1)) = st1 at *
    unfold NewP
    intro tx htx
    refine ⟨.ty 1, ?_⟩
    have k2 := (New.refl st1).add (b := tx) (o := .cells true [Val.i 0, .bool false, Val.u 0, Val.i 0] 4 (.ty 1)) htx
    have gx := upd_same st1 tx (.cells true [Val.i 0, .bool false, Val.u 0, Val.i 0] 4 (.ty 1))
    have ga2 := k2 _ _ ga
    simp [go_sem]
    generalize upd st1 tx (.cells true [Val.i 0, .bool false, Val.u 0, Val.i 0] 4 (.ty 1)) = st2 at *
    unfold NewP
    intro ts hts
    refine ⟨.own ts 0 56, ?_⟩
    have k3 := (New.refl st2).add (b := ts) (o := .cells true [.slice none 0 0, .slice none 0 0, Val.u 0, Val.u 0, Val.u 0, Val.u 0] 6 (.own ts 0 56)) hts
    have gs := upd_same st2 ts (.cells true [.slice none 0 0, .slice none 0 0, Val.u 0, Val.u 0, Val.u 0, Val.u 0] 6 (.own ts 0 56))
    simp [go_sem]
    generalize upd st2 ts (.cells true [.slice none 0 0, .slice none 0 0, Val.u 0, Val.u 0, Val.u 0, Val.u 0] 6 (.own ts 0 56)) = st3 at *
    repeat' apply And.intro
    all_goals first | exact (k1.trans k2).trans k3 | exact (k1.trans k2).none hts | exact k1.none htx | exact ne_of_new ga2 hts | exact ne_of_new ga htx | exact ne_of_new gx hts | exact k3 _ _ ga2 | exact ⟨[Val.i 0, .bool false, Val.u 0, Val.i 0], rfl, k3 _ _ gx⟩ | exact gs | rfl
  rintro E st1 ⟨ta, tx, ts, k1, e1, e2, e3, e6, e7, hts, htx, nas, nax, nxs, ga, gx, gs⟩
  refine IW_cut (fun E' st' => ∃ (cs : List Value) (x : SumD), New st st' ∧ E' 2 = Val.i frm ∧ E' 3 = ptr ta ∧ E' 6 = ptr tx ∧ E' 7 = ptr ts ∧ st' ta = some (.cells true [m0, m1, m2, m3, m4, Val.i q.start, Val.i q.step, Val.i q.n, Val.i q.kind, Val.u q.a, Val.u q.b] 11 (.ty 1)) ∧ (∃ z : List Value, z.length = 4 ∧ st' tx = some (.cells true z 4 (.ty 1))) ∧ st' ts = some (.cells true cs 6 (.own ts 0 56)) ∧ SkAt st' cs (tellS x) ∧ SumOK x ∧ x = (winL (l.filter (keepR (evalM q.m))) frm (frm + q.step)).foldl addS sum0) ?_ ?_
  · simp [go_sem]
    refine ⟨fun E s => New st s ∧ E 1 = .slice tb l.length tc ∧ E 2 = Val.i frm ∧ E 3 = ptr ta ∧ E 6 = ptr tx ∧ E 7 = ptr ts ∧ s ta = some (.cells true [m0, m1, m2, m3, m4, Val.i q.start, Val.i q.step, Val.i q.n, Val.i q.kind, Val.u q.a, Val.u q.b] 11 (.ty 1)) ∧ (∃ z : List Value, z.length = 4 ∧ s tx = some (.cells true z 4 (.ty 1))) ∧ ∃ (i : Nat) (cs : List Value) (x : SumD), E 8 = Val.i (i : Int) ∧ i ≤ l.length ∧ s ts = some (.cells true cs 6 (.own ts 0 56)) ∧ SkAt s cs (tellS x) ∧ SumOK x ∧ x = (winL ((l.take i).filter (keepR (evalM q.m))) frm (frm + q.step)).foldl addS sum0,
      fun E _ => match E 8 with | .int _ z => l.length - z.toNat | _ => 0,
      ⟨st1, .rfl' _, k1, by simp [go_sem, e1], by simp [go_sem, e2], by simp [go_sem, e3], by simp [go_sem, e6], by simp [go_sem, e7], ga, gx, 0, _, sum0, by simp [go_sem], by omega, gs, sk0_at, sum0_ok, by simp [winL]⟩, ?_⟩
    clear e1 e2 e3 e6 e7 ga gx gs k1
    rintro E s0 ⟨k0, e1, e2, e3, e6, e7, ga, gx, i, cs, x, e8, hi, gs, hsk, xok, hx⟩
    by_cases hlt : i < l.length
    rotate_left
    · have : i = l.length := by omega
      subst this
      rw [List.take_length] at hx
      simp [go_sem, e1, e8]
      subst hx
      exact ⟨k0, e2, e3, e6, e7, ga, gx, cs, gs, hsk, xok⟩
    have t1 : ((i : Int) < l.length) = True := eq_true (by omega)
    have hwi : IntKind.i64.wrap ((i : Int) + 1) = (i : Int) + 1 := wrap_id (by omega) (by omega)
    obtain ⟨mb, off, cap, rw_, zs, mm, g', ds, hv', hsm, hlen, hcell, hrow⟩ := (hv.new k0).get hlt
    injection hv' with v1 v2 v3
    subst v1; subst v3
    have rok := hok _ (List.getElem_mem hlt)
    have htk : l.take (i + 1) = l.take i ++ [l[i]] := by rw [List.take_add_one, List.getElem?_eq_getElem hlt]; rfl
    generalize l[i] = r at *
    obtain ⟨lb, lc, hb, hc, kb, kc, rfl⟩ := hrow.cells
    have hlab : RegF s0 2 (.slice lb r.labels.length lc) (labV r.labels) r.labels.length := by
      obtain ⟨lv, ss, he, h1, _⟩ := id hrow
      injection he with he1 he2
      rw [he1]; exact h1
    have hrs : SkAt s0 [.slice hb r.s.hist.length hc, .slice kb r.s.hashes.length kc, Val.u r.s.g.n, Val.u r.s.g.nans, Val.u r.s.g.lo, Val.u r.s.g.hi] r.s := by
      obtain ⟨lv, ss, he, _, h2⟩ := id hrow
      injection he with he1 he2
      injection he2 with he2 he3
      rw [he3]; exact h2
    have nok : (inW frm (frm + q.step) r && keepR (evalM q.m) r) = false → winL ((l.take (i + 1)).filter (keepR (evalM q.m))) frm (frm + q.step) = winL ((l.take i).filter (keepR (evalM q.m))) frm (frm + q.step) := fun h => by
      rw [htk, List.filter_append, winL_append]
      cases hk : keepR (evalM q.m) r with
      | false => simp [hk, winL]
      | true => rw [hk, Bool.and_true] at h; simp [hk, winL, h]
    have yok : inW frm (frm + q.step) r = true → keepR (evalM q.m) r = true → winL ((l.take (i + 1)).filter (keepR (evalM q.m))) frm (frm + q.step) = winL ((l.take i).filter (keepR (evalM q.m))) frm (frm + q.step) ++ [r.s] := fun h hk => by
      rw [htk, List.filter_append, winL_append]
      simp [hk, winL, h]
    simp [go_sem, e1, e8, t1, hlt, hsm, hlen, hcell]
    unfold NewP
    intro t9 ht9
    refine ⟨.ty 1, ?_⟩
    have n1 := (New.refl s0).add (b := t9) (o := (.cells true [.slice lb r.labels.length lc, Val.i r.at_, .slice hb r.s.hist.length hc, .slice kb r.s.hashes.length kc, Val.u r.s.g.n, Val.u r.s.g.nans, Val.u r.s.g.lo, Val.u r.s.g.hi] 8 (.ty 1))) ht9
    have g9 := upd_same s0 t9 (.cells true [.slice lb r.labels.length lc, Val.i r.at_, .slice hb r.s.hist.length hc, .slice kb r.s.hashes.length kc, Val.u r.s.g.n, Val.u r.s.g.nans, Val.u r.s.g.lo, Val.u r.s.g.hi] 8 (.ty 1))
    have ga1 := n1 _ _ ga
    have gs1 := n1 _ _ gs
    obtain ⟨z, hz, gx⟩ := gx
    have gx1 := n1 _ _ gx
    have nt9 : t9 ≠ ts := Ne.symm (ne_of_new gs ht9)
    have na9 : ta ≠ t9 := ne_of_new ga ht9
    by_cases c1 : frm ≤ r.at_
    rotate_left
    · have hin : inW frm (frm + q.step) r = false := by unfold inW; rw [decide_eq_false c1]; rfl
      have q1 : (frm ≤ r.at_) = False := eq_false c1
      have p1 : (r.at_ < frm) = True := eq_true (by omega)
      simp [go_sem, e1, e2, e3, e6, e7, e8, q1, p1, hwi]
      refine ⟨_, .rfl' _, ⟨k0.trans n1, ga1, ⟨z, hz, gx1⟩, i + 1, by simp, by omega, cs, gs1, ?_⟩, by omega⟩
      rw [nok (by rw [hin]; rfl), ← hx]
      exact ⟨hsk.new n1, xok⟩
    have q1 : (frm ≤ r.at_) = True := eq_true c1
    have p1 : (r.at_ < frm) = False := eq_false (by omega)
    by_cases c2 : frm + q.step ≤ r.at_
    · have hin : inW frm (frm + q.step) r = false := by unfold inW; rw [decide_eq_false (show ¬ r.at_ < frm + q.step by omega), Bool.and_false]
      have q2 : (frm + q.step ≤ r.at_) = True := eq_true c2
      have p2 : (r.at_ < frm + q.step) = False := eq_false (by omega)
      simp [go_sem, e1, e2, e3, e6, e7, e8, q1, q2, p1, p2, hwi, hwf, ga, na9, upd_ne]
      refine ⟨_, .rfl' _, ⟨k0.trans n1, ga1, ⟨z, hz, gx1⟩, i + 1, by simp, by omega, cs, gs1, ?_⟩, by omega⟩
      rw [nok (by rw [hin]; rfl), ← hx]
      exact ⟨hsk.new n1, xok⟩
    have hin : inW frm (frm + q.step) r = true := by unfold inW; rw [decide_eq_true c1, decide_eq_true (show r.at_ < frm + q.step by omega)]; rfl
    have q2 : (frm + q.step ≤ r.at_) = False := eq_false c2
    have p2 : (r.at_ < frm + q.step) = True := eq_true (by omega)
    simp [go_sem, e1, e2, e3, e6, e7, e8, q1, q2, p1, p2, hwi, hwf, ga, na9, upd_ne]
    generalize upd s0 t9 (.cells true [.slice lb r.labels.length lc, Val.i r.at_, .slice hb r.s.hist.length hc, .slice kb r.s.hashes.length kc, Val.u r.s.g.n, Val.u r.s.g.nans, Val.u r.s.g.lo, Val.u r.s.g.hi] 8 (.ty 1)) = s1 at *
    have hllen := rok.llen
    refine (refLabCheck_spec (hlab.new n1) (by omega) rok.sizes).mono ?_
    rintro e s2 ⟨rfl, rfl⟩
    have back : ∀ {s' : Heap}, New s0 s' → keepR (evalM q.m) r = false → ∃ cs, s' ts = some (.cells true cs 6 (.own ts 0 56)) ∧ SkAt s' cs (tellS ((winL ((l.take (i + 1)).filter (keepR (evalM q.m))) frm (frm + q.step)).foldl addS sum0)) ∧ SumOK ((winL ((l.take (i + 1)).filter (keepR (evalM q.m))) frm (frm + q.step)).foldl addS sum0) := fun hn hk => by
      rw [nok (by rw [hk, Bool.and_false]), ← hx]
      exact ⟨cs, hn _ _ gs, hsk.new hn, xok⟩
    cases c3 : checkL r.labels with
    | false =>
      have hk : keepR (evalM q.m) r = false := by unfold keepR; rw [c3]; rfl
      simp [go_sem, e1, e2, e3, e6, e7, e8, hwi]
      exact ⟨_, .rfl' _, ⟨k0.trans n1, ga1, ⟨z, hz, gx1⟩, i + 1, by simp, by omega, back n1 hk⟩, by omega⟩
    | true =>
    simp [go_sem, e1, e2, e3, e6, e7, e8, g9]
    refine ICalls.mono (by simpa using refSkCheck_spec (W0 := W0) (hrs.new n1) rok.s) ?_
    rintro e s3 ⟨rfl, n3⟩
    have n13 := n1.trans n3
    have ga3 := n3 _ _ ga1
    have g93 := n3 _ _ g9
    have gs3 := n3 _ _ gs1
    cases c4 : checkS r.s with
    | false =>
      have hk : keepR (evalM q.m) r = false := by unfold keepR; rw [c4, Bool.and_false]; rfl
      simp [go_sem, e1, e2, e3, e6, e7, e8, hwi]
      exact ⟨_, .rfl' _, ⟨k0.trans n13, ga3, ⟨z, hz, n3 _ _ gx1⟩, i + 1, by simp, by omega, back n13 hk⟩, by omega⟩
    | true =>
    simp [go_sem, e1, e2, e3, e6, e7, e8, ga3, g93]
    refine ICalls.mono (by simpa using refEval_spec (W0 := W0) d q.m hn hh (hm.new (k0.trans n13)) (hlab.new n13) (by omega)) ?_
    rintro e s4 ⟨rfl, n4⟩
    have n14 := n13.trans n4
    have ga4 := n4 _ _ ga3
    have g94 := n4 _ _ g93
    have gs4 := n4 _ _ gs3
    cases c5 : evalM q.m r.labels with
    | false =>
      have hk : keepR (evalM q.m) r = false := by unfold keepR; rw [c5, Bool.and_false]
      simp [go_sem, e1, e2, e3, e6, e7, e8, hwi]
      exact ⟨_, .rfl' _, ⟨k0.trans n14, ga4, ⟨z, hz, n14 _ _ gx⟩, i + 1, by simp, by omega, back n14 hk⟩, by omega⟩
    | true =>
    have hk : keepR (evalM q.m) r = true := by unfold keepR; rw [c3, c4, c5]; rfl
    have hkc : SkC r.s := ⟨rok.s, c4⟩
    have hxc : SkC (tellS x) := tellS_ok xok
    obtain ⟨xb, xc, yb, yc, rfl⟩ := hsk.cells
    simp [go_sem, e1, e2, e3, e6, e7, e8, gs4, g94]
    refine ICalls.mono (by simpa using refSkMerge_spec (W0 := W0) (hsk.new n14) (hrs.new n14) hxc.1 hkc.1 hxc.lens hkc.lens) ?_
    rintro e s5 ⟨ns, rfl, hns, n5⟩
    have n15 := n14.trans n5
    have gs5 := n5 _ _ gs4
    obtain ⟨ub, uc, vb, vc, rfl⟩ := hns.cells
    simp [go_sem, e1, e2, e3, e6, e7, e8, gs5, hwi]
    have kf : ∀ o, Keep Free s5 (upd s5 ts o) := fun o => by
      refine Keep.rfl'.old gs5 ?_
      intro g hg hp
      injection hg with hg
      subst hg
      exact hp _ _ _ rfl
    refine ⟨_, .rfl' _, ⟨(k0.trans n15).put hts, by rw [upd_ne _ _ nas]; exact n15 _ _ ga, ⟨z, hz, by rw [upd_ne _ _ nxs]; exact n15 _ _ gx⟩, i + 1, by simp, by omega, _, upd_same _ _ _, ?_⟩, by omega⟩
    rw [yok hin hk, List.foldl_append, ← hx]
    simp only [List.foldl_cons, List.foldl_nil]
    rw [tell_addS xok hkc]
    exact ⟨hns.free (kf _), addS_ok xok hkc.1 hkc.2⟩
  clear e1 e2 e3 e6 e7 ga gx gs k1
  rintro E s0 ⟨cs, x, k0, e2, e3, e6, e7, ga, ⟨z, hz, gx⟩, gs, hsk, xok, hx⟩
  have hxc : SkC (tellS x) := tellS_ok xok
  obtain ⟨xb, xc, yb, yc, rfl⟩ := hsk.cells
  have hans : ansOf q (l.filter (keepR (evalM q.m))) q.step frm = oneM q.kind q.a.toNat q.b.toNat (tellS x) := by
    rw [hx]; rfl
  rw [hans]
  simp [go_sem, e2, e3, e6, e7, ga, gs]
  refine ICalls.mono (by simpa [AskD.tail] using refOne_spec' (W0 := W0) (ms := [m0, m1, m2, m3, m4]) (q := q) rfl hsk hxc.1 hxc.2 aok) ?_
  rintro e s1 ⟨n1, rfl⟩
  generalize oneM q.kind q.a.toNat q.b.toNat (tellS x) = A at *
  have gx1 := n1 _ _ gx
  simp [go_sem, e2, e3, e6, e7]
  unfold NewP
  intro t10 ht10
  refine ⟨.ty 1, ?_⟩
  have ntx : tx ≠ t10 := ne_of_new gx1 ht10
  simp [go_sem, e2, e3, e6, e7, upd_same, AnsD.cells]
  match z, hz with
  | [z0, z1, z2, z3], _ =>
  simp [go_sem, e2, e3, e6, e7, upd_same, gx1, upd_ne, ntx, Ne.symm ntx]
  refine RetI_cell ?_
  simp [go_sem, e6, upd_same]
  exact ((k0.trans n1).put (k0.trans n1 |>.none ht10)).put htx
end
end Go.Proofs.YtflbapmjdfnhhaaGreat
set_option linter.unusedVariables false
set_option linter.unusedSimpArgs false
set_option maxRecDepth 100000
set_option maxHeartbeats 4000000
namespace Go.Proofs.YtflbapmjdfnhhaaGreat
open Go.RowKit (Below)
theorem neq_ans (A : AnsD) (f : Int) : binV Tryz.prog .neq 43 (.agg (A.cells f).toArray) (.agg (A.cells f).toArray) = some (.bool false) := by
  have hs : Tryz.prog.stoodInHeld 43 = false := by kernel_rfl
  have hg : Tryz.prog.eqGuardType Tryz.prog.depth 43 = false := by kernel_rfl
  unfold binV eqBin aggEqB AnsD.cells
  simp only [Tryz.underlying43, hs, hg]
  simp [fieldsEq, Tryz.underlying3, Tryz.underlying4, Tryz.underlying26, Tryz.underlying41]
theorem RowAt.one {st : Heap} {cs : List Value} {r : RowD} (h : RowAt st cs r) : ∀ y ∈ cs, y.oneCell' = true := by
  obtain ⟨lb, lc, hb, hc, kb, kc, rfl⟩ := h.cells
  simp [Value.oneCell']
theorem RowsIn.one {st : Heap} {ys : List Value} {l : List RowD} (h : RowsIn st ys l) : ∀ y ∈ ys, y.oneCell' = true := fun y hy => by
  obtain ⟨j, hj⟩ := List.mem_iff_getElem?.1 hy
  have hjl := (List.getElem?_eq_some_iff.1 hj).1
  have hl := h.1
  have hi : j / 8 < l.length := by omega
  have hr := h.2 (j / 8) l[j / 8] (List.getElem?_eq_getElem hi)
  refine hr.one y ?_
  refine List.mem_iff_getElem?.2 ⟨j % 8, ?_⟩
  rw [List.getElem?_take, if_pos (by omega), List.getElem?_drop, show j / 8 * 8 + j % 8 = j by omega]
  exact hj
theorem RowsIn.append {st : Heap} {ys zs : List Value} {l m : List RowD} (h : RowsIn st ys l) (h' : RowsIn st zs m) : RowsIn st (ys ++ zs) (l ++ m) := by
  have e1 := h.1
  have e2 := h'.1
  refine ⟨by simp [e1, e2]; omega, fun i r hi => ?_⟩
  by_cases hlt : i < l.length
  · rw [List.getElem?_append_left hlt] at hi
    rw [List.drop_append_of_le_length (by omega), List.take_append_of_le_length (by rw [List.length_drop]; omega)]
    exact h.2 i r hi
  · rw [List.getElem?_append_right (by omega)] at hi
    have := h'.2 (i - l.length) r hi
    rw [List.drop_append, List.drop_eq_nil_of_le (by omega), List.nil_append, show i * 8 - ys.length = (i - l.length) * 8 by omega]
    exact this
section
variable {W0 : World} {st : Heap}
end
end Go.Proofs.YtflbapmjdfnhhaaGreat
set_option linter.unusedVariables false
set_option linter.unusedSimpArgs false
set_option maxRecDepth 100000
set_option maxHeartbeats 4000000
namespace Go.Proofs.YtflbapmjdfnhhaaGreat
open Go.RowKit (Below)
theorem neq_lab (x : Lab) : binV Tryz.prog .neq 85 (.agg [.string x.1, .string x.2].toArray) (.agg [.string x.1, .string x.2].toArray) = some (.bool false) := by
  have hs : Tryz.prog.stoodInHeld 85 = false := by kernel_rfl
  have hg : Tryz.prog.eqGuardType Tryz.prog.depth 85 = false := by kernel_rfl
  unfold binV eqBin aggEqB
  simp only [Tryz.underlying85, hs, hg]
  simp [fieldsEq, Tryz.underlying9, strEq]
theorem neq_bkt (x : Int × Nat) : binV Tryz.prog .neq 119 (.agg [Val.i x.1, Val.u (x.2 : Int)].toArray) (.agg [Val.i x.1, Val.u (x.2 : Int)].toArray) = some (.bool false) := by
  have hs : Tryz.prog.stoodInHeld 119 = false := by kernel_rfl
  have hg : Tryz.prog.eqGuardType Tryz.prog.depth 119 = false := by kernel_rfl
  unfold binV eqBin aggEqB
  simp only [Tryz.underlying119, hs, hg]
  simp [fieldsEq, Tryz.underlying3, Tryz.underlying26]
theorem neq_gau (a b c d : Int) : binV Tryz.prog .neq 53 (.agg [Val.u a, Val.u b, Val.u c, Val.u d].toArray) (.agg [Val.u a, Val.u b, Val.u c, Val.u d].toArray) = some (.bool false) := by
  have hs : Tryz.prog.stoodInHeld 53 = false := by kernel_rfl
  have hg : Tryz.prog.eqGuardType Tryz.prog.depth 53 = false := by kernel_rfl
  unfold binV eqBin aggEqB
  simp only [Tryz.underlying53, hs, hg]
  simp [fieldsEq, Tryz.underlying26]
section
variable {W0 : World} {st : Heap}
theorem SameLabels_spec {v w : Value} {l : List Lab} (h : RegF st 2 v (labV l) l.length) (h' : RegF st 2 w (labV l) l.length) (hl : l.length < 2 ^ 50) : ICalls Tryz.prog W0 62 #[v, w] st fun e st' => e = .returned (.bool true) ∧ st' = st := by
  obtain ⟨vb, vc, rfl⟩ := h.slice
  obtain ⟨wb, wc, rfl⟩ := h'.slice
  refine enter (args := [_, _]) Tryz.func62 rfl ?_
  simp [Tryz.f62, go_sem]
  refine ⟨fun E st' => st' = st ∧ E 0 = .slice vb l.length vc ∧ E 1 = .slice wb l.length wc ∧ ∃ i : Nat, E 5 = Val.i i ∧ i ≤ l.length,
    fun E _ => match E 5 with | .int _ i => l.length - i.toNat | _ => 0, ⟨st, .rfl' _, rfl, by simp [go_sem], by simp [go_sem], 0, by simp [go_sem], by omega⟩, ?_⟩
  rintro E st' ⟨rfl, e0, e1, i, e5, hi⟩
  by_cases hlt : i < l.length
  · have hlt' : ((i : Int) < l.length) = True := eq_true (by omega)
    have hwi : IntKind.i64.wrap ((i : Int) + 1) = ((i + 1 : Nat) : Int) := by rw [wrap_id (by omega) (by omega)]; omega
    obtain ⟨m1, o1, c1, rw1, zs1, mm1, g1, hv1, hs1, get1⟩ := rows_get h (by omega)
    obtain ⟨m2, o2, c2, rw2, zs2, mm2, g2, hv2, hs2, get2⟩ := rows_get h' (by omega)
    injection hv1 with v1 v2 v3
    subst v1; subst v3
    injection hv2 with v1 v2 v3
    subst v1; subst v3
    obtain ⟨len1, cell1, _⟩ := get1 i hlt
    obtain ⟨len2, cell2, _⟩ := get2 i hlt
    have hx : l[i]? = some l[i] := List.getElem?_eq_getElem hlt
    rw [labV_get l i _ hx] at cell1 cell2
    generalize l[i] = x at *
    have hne := neq_lab x
    simp [go_sem, e0, e1, e5, hlt', hlt]
    refine draw [0, 1, 2, 4, 5, 6, 3, 7, 8] (by kernel_rfl) ?_
    simp [go_sem, e0, e1, e5, hlt', hlt, hs1, hs2, len1, len2, cell1, cell2, hne, hwi]
    exact ⟨_, .rfl' _, ⟨rfl, i + 1, by omega, by omega⟩, by omega⟩
  · have hlt' : ((i : Int) < l.length) = False := eq_false (by omega)
    simp [go_sem, e0, e1, e5, hlt', hlt]
theorem refSame_spec {cs ds : List Value} {s : SkD} (h : SkAt st cs s) (h' : SkAt st ds s) (ok : SkOK s) : ICalls Tryz.prog W0 63 #[.agg cs.toArray, .agg ds.toArray] st fun e st' => e = .returned (.bool true) ∧ New st st' := by
  obtain ⟨av, au, rfl, ha1, ha2⟩ := h
  obtain ⟨bv, bu, rfl, hb1, hb2⟩ := h'
  obtain ⟨avb, avc, rfl⟩ := ha1.slice
  obtain ⟨aub, auc, rfl⟩ := ha2.slice
  obtain ⟨bvb, bvc, rfl⟩ := hb1.slice
  obtain ⟨bub, buc, rfl⟩ := hb2.slice
  have hl1 := ok.hlen
  have hl2 := ok.klen
  have hgn := neq_gau s.g.n s.g.nans s.g.lo s.g.hi
  refine enter (args := [_, _]) Tryz.func63 rfl ?_
  refine IW_assoc ?_
  refine IW_cut (fun E' st' => ∃ ta tb : Nat, New st st' ∧ E' 2 = ptr ta ∧ E' 3 = ptr tb ∧ st' ta = some (.cells true [.slice avb s.hist.length avc, .slice aub s.hashes.length auc, Val.u s.g.n, Val.u s.g.nans, Val.u s.g.lo, Val.u s.g.hi] 6 (.ty 1)) ∧ st' tb = some (.cells true [.slice bvb s.hist.length bvc, .slice bub s.hashes.length buc, Val.u s.g.n, Val.u s.g.nans, Val.u s.g.lo, Val.u s.g.hi] 6 (.ty 1))) ?_ ?_
  · simp [go_sem]
    unfold NewP
    intro ta hta
    refine ⟨.ty 1, ?_⟩
    have k1 := (New.refl st).add (b := ta) (o := .cells true [.slice avb s.hist.length avc, .slice aub s.hashes.length auc, Val.u s.g.n, Val.u s.g.nans, Val.u s.g.lo, Val.u s.g.hi] 6 (.ty 1)) hta
    have ga := upd_same st ta (.cells true [.slice avb s.hist.length avc, .slice aub s.hashes.length auc, Val.u s.g.n, Val.u s.g.nans, Val.u s.g.lo, Val.u s.g.hi] 6 (.ty 1))
    simp [go_sem]
    generalize upd st ta (.cells true [.slice avb s.hist.length avc, .slice aub s.hashes.length auc, Val.u s.g.n, Val.u s.g.nans, Val.u s.g.lo, Val.u s.g.hi] 6 (.ty 1)) = st1 at *
    unfold NewP
    intro tb htb
    refine ⟨.ty 1, ?_⟩
    have k2 := (New.refl st1).add (b := tb) (o := .cells true [.slice bvb s.hist.length bvc, .slice bub s.hashes.length buc, Val.u s.g.n, Val.u s.g.nans, Val.u s.g.lo, Val.u s.g.hi] 6 (.ty 1)) htb
    have gb := upd_same st1 tb (.cells true [.slice bvb s.hist.length bvc, .slice bub s.hashes.length buc, Val.u s.g.n, Val.u s.g.nans, Val.u s.g.lo, Val.u s.g.hi] 6 (.ty 1))
    have ga2 := k2 _ _ ga
    simp [go_sem]
    generalize upd st1 tb (.cells true [.slice bvb s.hist.length bvc, .slice bub s.hashes.length buc, Val.u s.g.n, Val.u s.g.nans, Val.u s.g.lo, Val.u s.g.hi] 6 (.ty 1)) = st2 at *
    simp [go_sem, ga2, gb, hgn]
    exact k1.trans k2
  rintro E st1 ⟨ta, tb, k1, e2, e3, ga, gb⟩
  refine IW_cut (fun E' st' => st' = st1 ∧ E' 2 = ptr ta ∧ E' 3 = ptr tb) ?_ ?_
  · simp [go_sem]
    refine ⟨fun E st' => st' = st1 ∧ E 2 = ptr ta ∧ E 3 = ptr tb ∧ ∃ i : Nat, E 5 = Val.i i ∧ i ≤ s.hist.length,
      fun E _ => match E 5 with | .int _ i => s.hist.length - i.toNat | _ => 0, ⟨st1, .rfl' _, rfl, by simp [go_sem, e2], by simp [go_sem, e3], 0, by simp [go_sem], by omega⟩, ?_⟩
    clear e2 e3
    rintro E st' ⟨rfl, e2, e3, i, e5, hi⟩
    by_cases hlt : i < s.hist.length
    · have hlt' : ((i : Int) < s.hist.length) = True := eq_true (by omega)
      have hwi : IntKind.i64.wrap ((i : Int) + 1) = ((i + 1 : Nat) : Int) := by rw [wrap_id (by omega) (by omega)]; omega
      obtain ⟨m1, o1, c1, rw1, zs1, mm1, g1, hv1, hs1, get1⟩ := rows_get (ha1.new k1) (by omega)
      obtain ⟨m2, o2, c2, rw2, zs2, mm2, g2, hv2, hs2, get2⟩ := rows_get (hb1.new k1) (by omega)
      injection hv1 with v1 v2 v3
      subst v1; subst v3
      injection hv2 with v1 v2 v3
      subst v1; subst v3
      obtain ⟨len1, cell1, _⟩ := get1 i hlt
      obtain ⟨len2, cell2, _⟩ := get2 i hlt
      have hx : s.hist[i]? = some s.hist[i] := List.getElem?_eq_getElem hlt
      rw [bkV_get s.hist i _ hx] at cell1 cell2
      have hne := neq_bkt s.hist[i]
      generalize s.hist[i] = x at *
      simp [go_sem, e2, e3, e5, ga, gb, hlt', hlt]
      refine draw [0, 2, 5, 7, 1, 3, 4, 6, 8, 9, 10] (by kernel_rfl) ?_
      simp [go_sem, e2, e3, e5, ga, gb, hlt', hlt, hs1, hs2, len1, len2, cell1, cell2, hne, hwi]
      exact ⟨_, .rfl' _, ⟨rfl, i + 1, by omega, by omega⟩, by omega⟩
    · have hlt' : ((i : Int) < s.hist.length) = False := eq_false (by omega)
      simp [go_sem, e2, e3, e5, ga, gb, hlt', hlt]
  clear e2 e3
  rintro E st' ⟨rfl, e2, e3⟩
  simp [go_sem]
  refine ⟨fun E s1 => s1 = st' ∧ E 2 = ptr ta ∧ E 3 = ptr tb ∧ ∃ i : Nat, E 6 = Val.i i ∧ i ≤ s.hashes.length,
    fun E _ => match E 6 with | .int _ i => s.hashes.length - i.toNat | _ => 0, ⟨st', .rfl' _, rfl, by simp [go_sem, e2], by simp [go_sem, e3], 0, by simp [go_sem], by omega⟩, ?_⟩
  clear e2 e3
  rintro E s1 ⟨rfl, e2, e3, i, e5, hi⟩
  by_cases hlt : i < s.hashes.length
  · have hlt' : ((i : Int) < s.hashes.length) = True := eq_true (by omega)
    have hwi : IntKind.i64.wrap ((i : Int) + 1) = ((i + 1 : Nat) : Int) := by rw [wrap_id (by omega) (by omega)]; omega
    obtain ⟨m1, o1, v1, get1⟩ := src_get (ha2.new k1).src (by omega)
    obtain ⟨m2, o2, v2, get2⟩ := src_get (hb2.new k1).src (by omega)
    subst v1; subst v2
    have c1 := get1 i (by omega)
    have c2 := get2 i (by omega)
    have c0 : (cellsU s.hashes)[i]? = some (.int .u64 (s.hashes[i] : Int)) := by simp [cellsU, List.getElem?_eq_getElem hlt]
    rw [c0] at c1 c2
    generalize s.hashes[i] = x at *
    simp [go_sem, e2, e3, e5, ga, gb, hlt', hlt]
    refine draw [0, 2, 5, 7, 1, 3, 4, 6, 8, 9, 10] (by kernel_rfl) ?_
    simp [go_sem, e2, e3, e5, ga, gb, hlt', hlt, c1, c2, hwi]
    exact ⟨_, .rfl' _, ⟨rfl, i + 1, by omega, by omega⟩, by omega⟩
  · have hlt' : ((i : Int) < s.hashes.length) = False := eq_false (by omega)
    simp [go_sem, e2, e3, e5, ga, gb, hlt', hlt]
    exact k1
theorem SameRow_spec {cs ds : List Value} {r : RowD} (h : RowAt st cs r) (h' : RowAt st ds r) (ok : RowOK r) : ICalls Tryz.prog W0 35 #[.agg cs.toArray, .agg ds.toArray] st fun e st' => e = .returned (.bool true) ∧ New st st' := by
  have h0 := h
  have h0' := h'
  obtain ⟨lb, lc, hb, hc, kb, kc, rfl⟩ := h.cells
  obtain ⟨lb', lc', hb', hc', kb', kc', rfl⟩ := h'.cells
  obtain ⟨lv, ss, q1, hlab, hsk⟩ := h
  obtain ⟨lv', ss', q2, hlab', hsk'⟩ := h'
  injection q1 with q1 q3
  injection q3 with q3 q4
  injection q2 with q2 q5
  injection q5 with q5 q6
  subst q1; subst q4; subst q2; subst q6
  refine enter (args := [_, _]) Tryz.func35 rfl ?_
  simp [Tryz.f35, go_sem]
  obtain ⟨L, hL⟩ : ∃ L : List Value, [Value.slice lb r.labels.length lc, Val.i r.at_, .slice hb r.s.hist.length hc, .slice kb r.s.hashes.length kc, Val.u r.s.g.n, Val.u r.s.g.nans, Val.u r.s.g.lo, Val.u r.s.g.hi] = L := ⟨_, rfl⟩
  obtain ⟨M, hM⟩ : ∃ L : List Value, [Value.slice lb' r.labels.length lc', Val.i r.at_, .slice hb' r.s.hist.length hc', .slice kb' r.s.hashes.length kc', Val.u r.s.g.n, Val.u r.s.g.nans, Val.u r.s.g.lo, Val.u r.s.g.hi] = L := ⟨_, rfl⟩
  rw [hL, hM]
  unfold NewP
  intro ta hta
  refine ⟨.ty 1, ?_⟩
  have hLl : L.length = 8 := by rw [← hL]; rfl
  have hMl : M.length = 8 := by rw [← hM]; rfl
  rw [hLl]
  have k1 := (New.refl st).add (b := ta) (o := .cells true L 8 (.ty 1)) hta
  have ga := upd_same st ta (.cells true L 8 (.ty 1))
  simp [go_sem]
  generalize upd st ta (.cells true L 8 (.ty 1)) = st1 at *
  unfold NewP
  intro tb htb
  refine ⟨.ty 1, ?_⟩
  rw [hMl]
  have k2 := (New.refl st1).add (b := tb) (o := .cells true M 8 (.ty 1)) htb
  have gb := upd_same st1 tb (.cells true M 8 (.ty 1))
  have ga2 := k2 _ _ ga
  simp [go_sem]
  generalize upd st1 tb (.cells true M 8 (.ty 1)) = st2 at *
  subst hL
  subst hM
  simp [go_sem, ga2, gb]
  have hlen := ok.llen
  have kk := k1.trans k2
  refine (SameLabels_spec (hlab.new kk) (hlab'.new kk) (by omega)).mono ?_
  rintro e s3 ⟨rfl, rfl⟩
  simp [go_sem, ga2, gb]
  refine ICalls.mono (by simpa using refSame_spec (W0 := W0) (hsk.new kk) (hsk'.new kk) ok.s) ?_
  rintro e s4 ⟨rfl, k4⟩
  simp [go_sem]
  exact kk.trans k4
theorem SameRows_spec {v w : Value} {l : List RowD} (h : RowsAt st v l) (h' : RowsAt st w l) (hl : l.length < 2 ^ 30) (hok : ∀ r ∈ l, RowOK r) : ICalls Tryz.prog W0 18 #[v, w] st fun e st' => e = .returned (.bool true) ∧ New st st' := by
  obtain ⟨vb, vc, rfl⟩ := h.slice
  obtain ⟨wb, wc, rfl⟩ := h'.slice
  refine enter (args := [_, _]) Tryz.func18 rfl ?_
  simp [Tryz.f18, go_sem]
  refine ⟨fun E st' => New st st' ∧ E 0 = .slice vb l.length vc ∧ E 1 = .slice wb l.length wc ∧ ∃ i : Nat, E 5 = Val.i i ∧ i ≤ l.length,
    fun E _ => match E 5 with | .int _ i => l.length - i.toNat | _ => 0, ⟨st, .rfl' _, New.refl _, by simp [go_sem], by simp [go_sem], 0, by simp [go_sem], by omega⟩, ?_⟩
  rintro E s0 ⟨k0, e0, e1, i, e5, hi⟩
  by_cases hlt : i < l.length
  · have hlt' : ((i : Int) < l.length) = True := eq_true (by omega)
    have hwi : IntKind.i64.wrap ((i : Int) + 1) = ((i + 1 : Nat) : Int) := by rw [wrap_id (by omega) (by omega)]; omega
    obtain ⟨mb, off, cap, rw_, zs, mm, g', cs, hv', hsm, hlen, hcell, hrow⟩ := (h.new k0).get hlt
    injection hv' with v1 v2 v3
    subst v1; subst v3
    obtain ⟨mb', off', cap', rw_', zs', mm', g'', cs', hv', hsm', hlen', hcell', hrow'⟩ := (h'.new k0).get hlt
    injection hv' with v1 v2 v3
    subst v1; subst v3
    have rok := hok _ (List.getElem_mem hlt)
    generalize l[i] = r at *
    simp [go_sem, e0, e1, e5, hlt', hlt]
    refine draw [0, 1, 2, 4, 5, 6, 3, 7, 8, 9] (by kernel_rfl) ?_
    simp [go_sem, e0, e1, e5, hlt', hlt, hsm, hlen, hcell, hsm', hlen', hcell']
    refine ICalls.mono (SameRow_spec (W0 := W0) hrow hrow' rok) ?_
    rintro e s2 ⟨rfl, n2⟩
    simp [go_sem, e0, e1, e5, hwi]
    exact ⟨s2, .rfl' _, ⟨k0.trans n2, i + 1, by simp, by omega⟩, by omega⟩
  · have hlt' : ((i : Int) < l.length) = False := eq_false (by omega)
    simp [go_sem, e0, e1, e5, hlt', hlt]
    exact k0
end
end Go.Proofs.YtflbapmjdfnhhaaGreat
