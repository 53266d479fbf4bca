/- A sketch's answer to a question: the document's way. -/
import Derived.Test.YtflbapmjdfnhhaaGreatC31
import Derived.Test.YtflbapmjdfnhhaaGreatC34
import Derived.Test.YtflbapmjdfnhhaaGreatC26
set_option linter.unusedVariables false
set_option linter.unusedSimpArgs false
set_option maxRecDepth 100000
set_option maxHeartbeats 1000000
namespace Go.Proofs.YtflbapmjdfnhhaaGreat
open Go.RowKit (Below)
def RefMid (st : Heap) (c d : Nat) (A : AnsD) (st' : Heap) : Prop := New st st' ∧ st' c = some (.cells true [Val.i 0, .bool false, Val.u 0, Val.i 0] 4 (.ty 1)) ∧ st' d = some (.cells true [Val.i 0, .bool A.has, Val.u A.val, Val.i A.err] 4 (.ty 1))
theorem RefMid.mk {st st1 : Heap} {c d : Nat} {A : AnsD} (kk : New st st1) (hdn : st d = none) (ncd : c ≠ d) (g3 : st1 c = some (.cells true [Val.i 0, .bool false, Val.u 0, Val.i 0] 4 (.ty 1))) : RefMid st c d A (upd st1 d (.cells true [Val.i 0, .bool A.has, Val.u A.val, Val.i A.err] 4 (.ty 1))) :=
  ⟨kk.put hdn, by rw [upd_ne _ _ ncd]; exact g3, upd_same _ _ _⟩
section
variable {W0 : World} {st : Heap}
theorem refOne_spec {c0 c1 c2 c3 c4 c5 c6 c7 : Value} {kind : Int} {a b : Nat} {cs : List Value} {s : SkD} (h : SkAt st cs s) (ok : SkOK s) (hc : checkS s = true) (ha : a < 2 ^ 64) (hb : b < 2 ^ 64) : ICalls Tryz.prog W0 34 #[.agg #[c0, c1, c2, c3, c4, c5, c6, c7, Val.i kind, Val.u a, Val.u b], .agg cs.toArray] st fun e st' => New st st' ∧ e = .returned (.agg ((oneM kind a b s).cells 0).toArray) := by
  have h0 := h
  obtain ⟨hv, kv, rfl, h1, h2⟩ := h
  obtain ⟨o1, o2, o3, o4, o5⟩ := ok
  obtain ⟨hist, hashes, g⟩ := s
  simp only at o1 o2 o3 o4 o5 h1 h2
  unfold checkS at hc
  simp only [Bool.and_eq_true] at hc
  obtain ⟨hc1, hc2, hc3⟩ := hc
  obtain ⟨hvb, hvc, rfl⟩ := h1.slice
  obtain ⟨kvb, kvc, rfl⟩ := h2.slice
  obtain ⟨A, hA⟩ : ∃ A, oneM kind a b ⟨hist, hashes, g⟩ = A := ⟨_, rfl⟩
  rw [hA]
  obtain ⟨K, hK⟩ : ∃ K : List Value, [c0, c1, c2, c3, c4, c5, c6, c7, Val.i kind, Val.u a, Val.u b] = K := ⟨_, rfl⟩
  obtain ⟨L, hL⟩ : ∃ L : List Value, [Value.slice hvb hist.length hvc, .slice kvb hashes.length kvc, Val.u g.n, Val.u g.nans, Val.u g.lo, Val.u g.hi] = L := ⟨_, rfl⟩
  have hKl : K.length = 11 := by rw [← hK]; rfl
  have hLl : L.length = 6 := by rw [← hL]; rfl
  refine enter (args := [_, _]) Tryz.func34 rfl ?_
  iterate 1 refine IW_assoc ?_
  refine IW_cut (fun E' st' => ∃ ta tb c d, E' 2 = ptr ta ∧ E' 3 = ptr tb ∧ E' 4 = ptr c ∧ E' 5 = ptr d ∧ New st st' ∧ st c = none ∧ st d = none ∧ c ≠ d ∧ ta ≠ c ∧ ta ≠ d ∧ tb ≠ c ∧ tb ≠ d ∧ st' ta = some (.cells true K 11 (.ty 1)) ∧ st' tb = some (.cells true L 6 (.ty 1)) ∧ st' c = some (.cells true [Val.i 0, .bool false, Val.u 0, Val.i 0] 4 (.ty 1)) ∧ st' d = some (.cells true [Val.i 0, .bool false, Val.u 0, Val.i 0] 4 (.ty 1))) ?_ ?_
  · simp [go_sem]
    unfold NewP
    intro ta hta
    refine ⟨.ty 1, ?_⟩
    rw [hK, hKl]
    have k1 := (New.refl st).add (b := ta) (o := .cells true K 11 (.ty 1)) hta
    have g1 := upd_same st ta (.cells true K 11 (.ty 1))
    simp [go_sem]
    unfold NewP
    intro tb htb
    refine ⟨.ty 1, ?_⟩
    rw [hL, hLl]
    have k2 := (New.refl (upd st ta (.cells true K 11 (.ty 1)))).add (b := tb) (o := .cells true L 6 (.ty 1)) htb
    have g2 := upd_same (upd st ta (.cells true K 11 (.ty 1))) tb (.cells true L 6 (.ty 1))
    generalize upd st ta (.cells true K 11 (.ty 1)) = st1 at *
    generalize upd st1 tb (.cells true L 6 (.ty 1)) = st2 at *
    simp [go_sem]
    unfold NewP
    intro c hcc
    refine ⟨.ty 1, ?_⟩
    have k3 := (New.refl st2).add (b := c) (o := .cells true [Val.i 0, .bool false, Val.u 0, Val.i 0] 4 (.ty 1)) hcc
    have g3 := upd_same st2 c (.cells true [Val.i 0, .bool false, Val.u 0, Val.i 0] 4 (.ty 1))
    simp [go_sem]
    generalize upd st2 c (.cells true [Val.i 0, .bool false, Val.u 0, Val.i 0] 4 (.ty 1)) = st3 at *
    unfold NewP
    intro d hdd
    refine ⟨.ty 1, ?_⟩
    have k4 := (New.refl st3).add (b := d) (o := .cells true [Val.i 0, .bool false, Val.u 0, Val.i 0] 4 (.ty 1)) hdd
    have g4 := upd_same st3 d (.cells true [Val.i 0, .bool false, Val.u 0, Val.i 0] 4 (.ty 1))
    simp [go_sem]
    generalize upd st3 d (.cells true [Val.i 0, .bool false, Val.u 0, Val.i 0] 4 (.ty 1)) = st4 at *
    have g1' := k4 _ _ (k3 _ _ (k2 _ _ g1))
    have g2' := k4 _ _ (k3 _ _ g2)
    have g3' := k4 _ _ g3
    have kk := ((k1.trans k2).trans k3).trans k4
    have hcn : st c = none := (k1.trans k2).none hcc
    have hdn : st d = none := ((k1.trans k2).trans k3).none hdd
    have ncd : c ≠ d := by rintro rfl; rw [g3] at hdd; cases hdd
    have nac : ta ≠ c := by rintro rfl; rw [k2 _ _ g1] at hcc; cases hcc
    have nad : ta ≠ d := by rintro rfl; rw [k3 _ _ (k2 _ _ g1)] at hdd; cases hdd
    have nbc : tb ≠ c := by rintro rfl; rw [g2] at hcc; cases hcc
    have nbd : tb ≠ d := by rintro rfl; rw [k3 _ _ g2] at hdd; cases hdd
    first | exact ⟨kk, hcn, hdn, ncd, nac, nad, nbc, nbd, g1', g2', g3', g4⟩ | exact ⟨kk, hcn, hdn, ncd, nac, nad, nbc, nbd, g1', g2', g3'⟩
  rintro E1 st1 ⟨ta, tb, c, d, e2, e3, e4, e5, kk, hcn, hdn, ncd, nac, nad, nbc, nbd, g1, g2, g3, g4⟩
  have gK8 : K[8]? = some (Val.i kind) := by rw [← hK]; rfl
  have gK9 : K[9]? = some (Val.u a) := by rw [← hK]; rfl
  have gK10 : K[10]? = some (Val.u b) := by rw [← hK]; rfl
  have gL0 : L[0]? = some (.slice hvb hist.length hvc) := by rw [← hL]; rfl
  have gL1 : L[1]? = some (.slice kvb hashes.length kvc) := by rw [← hL]; rfl
  have gL2 : L[2]? = some (Val.u g.n) := by rw [← hL]; rfl
  have gL3 : L[3]? = some (Val.u g.nans) := by rw [← hL]; rfl
  have gL4 : L[4]? = some (Val.u g.lo) := by rw [← hL]; rfl
  have gL5 : L[5]? = some (Val.u g.hi) := by rw [← hL]; rfl
  have hlo : g.n = 0 → g.lo = 0 ∧ g.hi = 0 := fun h => by
    unfold checkG at hc3
    rw [if_pos h] at hc3
    simpa using hc3
  have hcn2 := ncd
  refine IW_cut' (fun E' st' => E' 4 = ptr c ∧ E' 5 = ptr d ∧ RefMid st c d A st') ?_ ?_
  · unfold oneM at hA
    simp only at hA
    simp only [IW_seq, IW_region]
    by_cases x1 : kind = 1
    · have q1 := eq_true x1
      rw [if_pos x1] at hA
      simp [go_sem, e2, e3, e4, e5, g1, g2, gL0, gK8, q1]
      refine (refCount_spec (h1.new kk) (by omega) o1).mono ?_
      rintro e st2 ⟨rfl, rfl⟩
      by_cases y : satSum (hist.map (·.2)) = 2 ^ 64 - 1
      · rw [if_pos y] at hA ⊢
        subst hA
        simp [go_sem, e2, e3, e4, e5, g4, g3, ncd, Ne.symm ncd, upd_ne, upd_same]
        refine RetI_cell ?_
        simp [go_sem, e4, AnsD.cells]
        exact (kk.put hdn).put hcn
      · rw [if_neg y] at hA ⊢
        subst hA
        simp [go_sem, e2, e3, e4, e5, g4, upd_same]
        exact RefMid.mk kk hdn ncd g3
    have q1 := eq_false x1
    rw [if_neg x1] at hA
    by_cases x2 : kind = 2
    · have q2 := eq_true x2
      rw [if_pos x2] at hA
      simp [go_sem, e2, e3, e4, e5, g1, g2, gL0, gK8, gK9, gK10, q1, q2]
      refine (refQuantile_spec (h1.new kk) (by omega) o1 hc1 ha hb).mono ?_
      rintro e st2 ⟨rfl, rfl⟩
      obtain ⟨⟨qv, qe⟩, hq⟩ : ∃ p, quantL (toN hist) a b = p := ⟨_, rfl⟩
      rw [hq] at hA ⊢
      simp only at hA ⊢
      by_cases y0 : qe = 0
      · rw [if_pos y0] at hA
        subst hA
        subst y0
        simp [go_sem, e2, e3, e4, e5, g4, upd_same]
        exact RefMid.mk kk hdn ncd g3
      rw [if_neg y0] at hA
      have p0 := eq_false y0
      by_cases y3 : qe = 3
      · rw [if_pos y3] at hA
        subst hA
        subst y3
        simp [go_sem, e2, e3, e4, e5, g4, upd_same]
        exact ⟨kk, g3, g4⟩
      · rw [if_neg y3] at hA
        have p3 := eq_false y3
        subst hA
        simp [go_sem, e2, e3, e4, e5, g4, upd_same, p0, p3]
        exact RefMid.mk kk hdn ncd g3
    have q2 := eq_false x2
    rw [if_neg x2] at hA
    by_cases x3 : kind = 3
    · have q3 := eq_true x3
      rw [if_pos x3] at hA
      subst hA
      simp [go_sem, e2, e3, e4, e5, g1, g2, gL1, gK8, q1, q2, q3, nad, nbd, upd_ne, g4]
      refine (refDistinct_spec (h2.new (kk.put hdn)) hc2 o3).mono ?_
      rintro e st2 ⟨rfl, rfl⟩
      simp [go_sem, e2, e3, e4, e5, g4, upd_same]
      exact RefMid.mk kk hdn ncd g3
    have q3 := eq_false x3
    rw [if_neg x3] at hA
    by_cases x4 : kind = 4
    · have q4 := eq_true x4
      rw [if_pos x4] at hA
      simp [go_sem, e2, e3, e4, e5, g1, g2, g4, gL2, gL4, gK8, q1, q2, q3, q4, nad, nbd, upd_ne, upd_same]
      by_cases y : 0 < g.n
      · rw [if_pos y] at hA
        subst hA
        have hd : decide (0 < g.n) = true := decide_eq_true y
        rw [hd]
        exact RefMid.mk kk hdn ncd g3
      · rw [if_neg y] at hA
        subst hA
        have hd : decide (0 < g.n) = false := decide_eq_false y
        rw [hd]
        have hz := hlo (by omega)
        simp only [hz.1, hz.2]
        exact RefMid.mk kk hdn ncd g3
    have q4 := eq_false x4
    rw [if_neg x4] at hA
    by_cases x5 : kind = 5
    · have q5 := eq_true x5
      rw [if_pos x5] at hA
      simp [go_sem, e2, e3, e4, e5, g1, g2, g4, gL2, gL5, gK8, q1, q2, q3, q4, q5, nad, nbd, upd_ne, upd_same]
      by_cases y : 0 < g.n
      · rw [if_pos y] at hA
        subst hA
        have hd : decide (0 < g.n) = true := decide_eq_true y
        rw [hd]
        exact RefMid.mk kk hdn ncd g3
      · rw [if_neg y] at hA
        subst hA
        have hd : decide (0 < g.n) = false := decide_eq_false y
        rw [hd]
        have hz := hlo (by omega)
        simp only [hz.1, hz.2]
        exact RefMid.mk kk hdn ncd g3
    have q5 := eq_false x5
    rw [if_neg x5] at hA
    by_cases x6 : kind = 6
    · have q6 := eq_true x6
      rw [if_pos x6] at hA
      subst hA
      simp [go_sem, e2, e3, e4, e5, g1, g2, g4, gL3, gK8, q1, q2, q3, q4, q5, q6, nad, nbd, upd_ne, upd_same]
      exact RefMid.mk kk hdn ncd g3
    have q6 := eq_false x6
    rw [if_neg x6] at hA
    subst hA
    simp [go_sem, e2, e3, e4, e5, g1, gK8, q1, q2, q3, q4, q5, q6]
    exact ⟨kk, g3, g4⟩
  rintro E2 st2 ⟨e4', e5', kk2, hcz, hdv⟩
  obtain ⟨has, val, err⟩ := A
  simp only at hdv
  simp [go_sem, e4', e5', hdv, hcz]
  refine RetI_cell ?_
  simp [go_sem, e4', AnsD.cells]
  exact kk2.put hcn
end
end Go.Proofs.YtflbapmjdfnhhaaGreat
set_option linter.unusedVariables false
set_option linter.unusedSimpArgs false
set_option maxRecDepth 100000
set_option maxHeartbeats 1000000
namespace Go.Proofs.YtflbapmjdfnhhaaGreat
open Go.RowKit (Below)
section
variable {W0 : World} {st : Heap}
theorem one_spec' {ms cs : List Value} {q : AskD} {s : SkD} (hms : ms.length = 5) (h : SkAt st cs s) (ok : SkOK s) (hc : checkS s = true) (aok : AskOK q) : ICalls Tryz.prog W0 51 #[.agg (ms ++ q.tail).toArray, .agg cs.toArray] st fun e st' => New st st' ∧ e = .returned (.agg ((oneM q.kind q.a.toNat q.b.toNat s).cells 0).toArray) := by
  match ms, hms with
  | [m0, m1, m2, m3, m4], _ =>
    have h1 := aok.a
    have h2 := aok.b
    have e1 : ((q.a.toNat : Nat) : Int) = q.a := Int.toNat_of_nonneg h1.1
    have e2 : ((q.b.toNat : Nat) : Int) = q.b := Int.toNat_of_nonneg h2.1
    have := one_spec (W0 := W0) (st := st) (c0 := m0) (c1 := m1) (c2 := m2) (c3 := m3) (c4 := m4) (c5 := Val.i q.start) (c6 := Val.i q.step) (c7 := Val.i q.n) (kind := q.kind) (a := q.a.toNat) (b := q.b.toNat) h ok hc (by omega) (by omega)
    rw [e1, e2] at this
    exact this
theorem refOne_spec' {ms cs : List Value} {q : AskD} {s : SkD} (hms : ms.length = 5) (h : SkAt st cs s) (ok : SkOK s) (hc : checkS s = true) (aok : AskOK q) : ICalls Tryz.prog W0 34 #[.agg (ms ++ q.tail).toArray, .agg cs.toArray] st fun e st' => New st st' ∧ e = .returned (.agg ((oneM q.kind q.a.toNat q.b.toNat s).cells 0).toArray) := by
  match ms, hms with
  | [m0, m1, m2, m3, m4], _ =>
    have h1 := aok.a
    have h2 := aok.b
    have e1 : ((q.a.toNat : Nat) : Int) = q.a := Int.toNat_of_nonneg h1.1
    have e2 : ((q.b.toNat : Nat) : Int) = q.b := Int.toNat_of_nonneg h2.1
    have := refOne_spec (W0 := W0) (st := st) (c0 := m0) (c1 := m1) (c2 := m2) (c3 := m3) (c4 := m4) (c5 := Val.i q.start) (c6 := Val.i q.step) (c7 := Val.i q.n) (kind := q.kind) (a := q.a.toNat) (b := q.b.toNat) h ok hc (by omega) (by omega)
    rw [e1, e2] at this
    exact this
end
end Go.Proofs.YtflbapmjdfnhhaaGreat
set_option linter.unusedVariables false
set_option linter.unusedSimpArgs false
set_option maxRecDepth 100000
set_option maxHeartbeats 1000000
namespace Go.Proofs.YtflbapmjdfnhhaaGreat
open Go.RowKit (Below)
def SksIn (st : Heap) (ys : List Value) (l : List SkD) : Prop := ys.length = l.length * 6 ∧ ∀ (i : Nat) r, l[i]? = some r → SkAt st ((ys.drop (i * 6)).take 6) r
theorem SksIn.new {st st' : Heap} {ys : List Value} {l : List SkD} (h : SksIn st ys l) (hk : New st st') : SksIn st' ys l := ⟨h.1, fun i r hi => (h.2 i r hi).new hk⟩
theorem SkAt.ext {st st' : Heap} {g : Tg} {cs : List Value} {r : SkD} (h : SkAt st cs r) (hk : Ext g st st') : SkAt st' cs r := by
  obtain ⟨lv, kv, e, h1, h2⟩ := h
  exact ⟨lv, kv, e, h1.ext hk, h2.ext hk⟩
theorem SksIn.ext {st st' : Heap} {g : Tg} {ys : List Value} {l : List SkD} (h : SksIn st ys l) (hk : Ext g st st') : SksIn st' ys l := ⟨h.1, fun i r hi => (h.2 i r hi).ext hk⟩
theorem SksIn.nil {st : Heap} : SksIn st [] [] := ⟨rfl, fun i r h => by simp at h⟩
theorem SksIn.snoc {st : Heap} {ys cs : List Value} {l : List SkD} {r : SkD} (h : SksIn st ys l) (hr : SkAt st cs r) : SksIn st (ys ++ cs) (l ++ [r]) := by
  have hcl := hr.length
  refine ⟨by simp [h.1, hcl]; omega, fun i x hi => ?_⟩
  by_cases hlt : i < l.length
  · rw [List.getElem?_append_left hlt] at hi
    have := h.2 i x hi
    have h8 : i * 6 + 6 ≤ ys.length := by rw [h.1]; omega
    rw [List.drop_append_of_le_length (by omega), List.take_append_of_le_length (by rw [List.length_drop]; omega)]
    exact this
  · rw [List.getElem?_append_right (by omega)] at hi
    have hi0 : i - l.length = 0 := by
      rcases Nat.eq_zero_or_pos (i - l.length) with h | h
      · exact h
      · rw [List.getElem?_eq_none (by simp; omega)] at hi; cases hi
    rw [hi0] at hi
    injection hi with hi
    subst hi
    have : i * 6 = ys.length := by rw [h.1]; omega
    rw [this, List.drop_left, List.take_of_length_le (by omega)]
    exact hr
/-- The sketches of a window. -/
def inW (frm to_ : Int) (r : RowD) : Bool := decide (frm ≤ r.at_) && decide (r.at_ < to_)
def winL (l : List RowD) (frm to_ : Int) : List SkD := (l.filter (inW frm to_)).map (·.s)
theorem winL_take {l : List RowD} {frm to_ : Int} {k : Nat} (h : k < l.length) : winL (l.take (k + 1)) frm to_ = winL (l.take k) frm to_ ++ (if inW frm to_ l[k] then [l[k].s] else []) := by
  unfold winL
  rw [List.take_add_one, List.getElem?_eq_getElem h]
  simp only [Option.toList_some, List.filter_append, List.map_append]
  congr 1
  by_cases hc : inW frm to_ l[k] = true <;> simp [List.filter_cons, hc]
theorem foldl_ok : ∀ (l : List SkD) {x : SumD}, (∀ s ∈ l, SkOK s ∧ checkS s = true) → SumOK x → SumOK (l.foldl addS x)
  | [], x, _, hx => hx
  | s :: l, x, h, hx => foldl_ok l (fun y hy => h y (List.mem_cons_of_mem _ hy)) (addS_ok hx (h s (by simp)).1 (h s (by simp)).2)
section
variable {W0 : World} {st : Heap}
theorem window_spec {ms : List Value} {q : AskD} {v : Value} {l : List RowD} {frm to_ : Int} (hms : ms.length = 5) (aok : AskOK q) (hv : RowsAt st v l) (hl : l.length < 2 ^ 30) (hok : ∀ r ∈ l, RowOK r) (hck : ∀ r ∈ l, checkS r.s = true) (hsort : SortU W0 ((winL l frm to_).foldl addS sum0).S.length) : ICalls Tryz.prog W0 29 #[.agg (ms ++ q.tail).toArray, v, Val.i frm, Val.i to_] st fun e st' => New st st' ∧ e = .returned (.agg ((oneM q.kind q.a.toNat q.b.toNat (sumSk (winL l frm to_))).cells frm).toArray) := by
  obtain ⟨tb, tc, rfl⟩ := hv.slice
  obtain ⟨ka, hka⟩ : ∃ ka, ms ++ q.tail = ka := ⟨_, rfl⟩
  have hkl : ka.length = 11 := by rw [← hka, List.length_append, hms]; rfl
  have htka : ka.take 11 = ka := List.take_of_length_le (by omega)
  have hone : ∀ (s : Heap) {cs : List Value} {x : SkD}, SkAt s cs x → SkOK x → checkS x = true → ICalls Tryz.prog W0 51 #[.agg ka.toArray, .agg cs.toArray] s fun e st' => New s st' ∧ e = .returned (.agg ((oneM q.kind q.a.toNat q.b.toNat x).cells 0).toArray) := by
    intro s cs x h1 h2 h3
    rw [← hka]
    exact one_spec' hms h1 h2 h3 aok
  rw [hka]
  clear hka
  obtain ⟨A, hA⟩ : ∃ A, oneM q.kind q.a.toNat q.b.toNat (sumSk (winL l frm to_)) = A := ⟨_, rfl⟩
  rw [hA]
  refine enter (args := [_, _, _, _]) Tryz.func29 rfl ?_
  simp [Tryz.f29, go_sem]
  unfold NewP
  intro ta hta0
  refine ⟨.ty 1, ?_⟩
  rw [hkl]
  have k1 := (New.refl st).add (b := ta) (o := .cells true ka 11 (.ty 1)) hta0
  have g1 := upd_same st ta (.cells true ka 11 (.ty 1))
  simp [go_sem]
  generalize upd st ta (.cells true ka 11 (.ty 1)) = st1 at *
  unfold NewP
  intro c hc
  refine ⟨.ty 1, ?_⟩
  have k2 := (New.refl st1).add (b := c) (o := .cells true [Val.i 0, .bool false, Val.u 0, Val.i 0] 4 (.ty 1)) hc
  have g2 := upd_same st1 c (.cells true [Val.i 0, .bool false, Val.u 0, Val.i 0] 4 (.ty 1))
  have g12 := k2 _ _ g1
  have kk := k1.trans k2
  simp [go_sem]
  generalize upd st1 c (.cells true [Val.i 0, .bool false, Val.u 0, Val.i 0] 4 (.ty 1)) = st2 at *
  have hv2 := hv.new kk
  refine ⟨fun E st' => New st2 st' ∧ E 2 = Val.i frm ∧ E 3 = Val.i to_ ∧ E 4 = ptr ta ∧ E 8 = ptr c ∧ E 15 = .slice tb l.length tc ∧ E 16 = Val.i l.length ∧ ∃ (k n : Nat) (w : Value) (ys : List Value), E 17 = Val.i (k : Int) ∧ k ≤ l.length ∧ n ≤ k ∧ E 9 = w ∧ Vec st' (.ty 1) 6 w ys n ∧ Fresh st2 w ∧ n = (winL (l.take k) frm to_).length ∧ SksIn st' ys (winL (l.take k) frm to_), fun E _ => match E 17 with | .int _ z => l.length - z.toNat | _ => 0,
    ⟨st2, .rfl' _, New.refl _, by simp [go_sem], by simp [go_sem], by simp [go_sem], by simp [go_sem], by simp [go_sem], by simp [go_sem], 0, 0, .slice none 0 0, [], by simp [go_sem], by omega, by omega, by simp [go_sem], Vec.nil, Fresh.none, rfl, SksIn.nil⟩, ?_⟩
  rintro E s0 ⟨k0, e2, e3, e4, e8, e15, e16, k, n, w, ys, e17, hk, hnk, e9, hV, hF, hn, hR⟩
  obtain ⟨wb, wc, rfl⟩ := hV.slice
  by_cases hlt : k < l.length
  · have t1 : ((k : Int) < l.length) = True := eq_true (by omega)
    have hwk : IntKind.i64.wrap ((k : Int) + 1) = (k : Int) + 1 := wrap_id (by omega) (by omega)
    obtain ⟨mb, off, cap, rw_, zs, mm, g', cs, hv', hsm, hlen, hcell, hrow⟩ := (hv2.new k0).get hlt
    injection hv' with v1 v2 v3
    subst v1; subst v3
    have htk := winL_take (frm := frm) (to_ := to_) hlt
    generalize l[k] = r at *
    have hrow0 := hrow
    obtain ⟨lb, lc, hb, hcp, kb, kc, rfl⟩ := hrow.cells
    have hsk : SkAt s0 [.slice hb r.s.hist.length hcp, .slice kb r.s.hashes.length kc, Val.u r.s.g.n, Val.u r.s.g.nans, Val.u r.s.g.lo, Val.u r.s.g.hi] r.s := by
      obtain ⟨lv, ss, he, h1, h2⟩ := hrow
      injection he with he1 he2
      injection he2 with he2 he3
      rw [he3]; exact h2
    simp [go_sem, e2, e3, e4, e8, e9, e15, e16, e17, t1, hlt, hsm, hlen, hcell]
    unfold NewP
    intro t5 ht5
    refine ⟨.ty 1, ?_⟩
    have n1 := (New.refl s0).add (b := t5) (o := .cells true [.slice lb r.labels.length lc, Val.i r.at_, .slice hb r.s.hist.length hcp, .slice kb r.s.hashes.length kc, Val.u r.s.g.n, Val.u r.s.g.nans, Val.u r.s.g.lo, Val.u r.s.g.hi] 8 (.ty 1)) ht5
    have g5 := upd_same s0 t5 (.cells true [.slice lb r.labels.length lc, Val.i r.at_, .slice hb r.s.hist.length hcp, .slice kb r.s.hashes.length kc, Val.u r.s.g.n, Val.u r.s.g.nans, Val.u r.s.g.lo, Val.u r.s.g.hi] 8 (.ty 1))
    simp [go_sem, e2, e3, e4, e8, e9, e15, e16, e17]
    generalize upd s0 t5 (.cells true [.slice lb r.labels.length lc, Val.i r.at_, .slice hb r.s.hist.length hcp, .slice kb r.s.hashes.length kc, Val.u r.s.g.n, Val.u r.s.g.nans, Val.u r.s.g.lo, Val.u r.s.g.hi] 8 (.ty 1)) = s1 at *
    by_cases c1 : frm ≤ r.at_
    · by_cases c2 : r.at_ < to_
      · have hin : inW frm to_ r = true := by simp [inW, c1, c2]
        rw [if_pos hin] at htk
        simp [go_sem, e2, e3, e4, e8, e9, e15, e16, e17, g5, c1, c2]
        unfold NewS
        intro nb hnb
        refine ⟨.ty 1, ?_⟩
        have n3 := (New.refl s1).add (b := nb) (o := .cells true [.slice hb r.s.hist.length hcp, .slice kb r.s.hashes.length kc, Val.u r.s.g.n, Val.u r.s.g.nans, Val.u r.s.g.lo, Val.u r.s.g.hi] 6 (.ty 1)) hnb
        simp [go_sem, e2, e3, e4, e8, e9, e15, e16, e17]
        have nn := n1.trans n3
        refine AppI_new (st0 := st2) (g := .ty 1) (m := 1) (ys := [.slice hb r.s.hist.length hcp, .slice kb r.s.hashes.length kc, Val.u r.s.g.n, Val.u r.s.g.nans, Val.u r.s.g.lo, Val.u r.s.g.hi]) si95 (hV.new' nn) hF (k0.trans nn) (by simp [srcCells, lkN_mk, upd_same, cellsOf]) (by simp [Value.oneCell']) (by omega) ?_
        intro base cap st4 hV4 hF4 k4 hx4
        simp [go_sem, e2, e3, e4, e8, e9, e15, e16, e17, hwk]
        refine ⟨st4, .rfl' _, ⟨k4, k + 1, by simp, by omega, n + 1, by omega, _, hV4, hF4, ?_⟩, by omega⟩
        rw [htk]
        exact ⟨by simp [hn], ((hR.new nn).ext hx4).snoc ((hsk.new nn).ext hx4)⟩
      · have hin : inW frm to_ r = false := by simp [inW, c2]
        simp only [hin, if_neg, Bool.false_eq_true, not_false_iff, List.append_nil] at htk
        simp [go_sem, e2, e3, e4, e8, e9, e15, e16, e17, g5, c1, c2, hwk]
        refine ⟨s1, .rfl' _, ⟨k0.trans n1, k + 1, by simp, by omega, n, by omega, _, hV.new' n1, hF, by rw [htk]; exact hn, by rw [htk]; exact hR.new n1⟩, by omega⟩
    · have hin : inW frm to_ r = false := by simp [inW, c1]
      simp only [hin, if_neg, Bool.false_eq_true, not_false_iff, List.append_nil] at htk
      simp [go_sem, e2, e3, e4, e8, e9, e15, e16, e17, g5, c1, hwk]
      refine ⟨s1, .rfl' _, ⟨k0.trans n1, k + 1, by simp, by omega, n, by omega, _, hV.new' n1, hF, by rw [htk]; exact hn, by rw [htk]; exact hR.new n1⟩, by omega⟩
  · have : k = l.length := by omega
    subst this
    rw [List.take_length] at hR hn
    subst hn
    simp [go_sem, e2, e3, e4, e8, e9, e15, e16, e17]
    have hSR : SkRows s0 (.slice wb (winL l frm to_).length wc) (winL l frm to_) := ⟨ys, ⟨.ty 1, (by intro g x r; simp), hV.reg⟩, hR.2⟩
    have hoks : ∀ s ∈ winL l frm to_, SkOK s ∧ checkS s = true := by
      intro s hs
      obtain ⟨r, hr, rfl⟩ := List.mem_map.1 hs
      have hr' := (List.mem_filter.1 hr).1
      exact ⟨(hok r hr').s, hck r hr'⟩
    have hwl : (winL l frm to_).length < 2 ^ 30 := by omega
    refine (sum_spec hSR hwl hoks hsort).mono ?_
    rintro e s1 ⟨n1, cs, rfl, hcs⟩
    have hcs0 := hcs
    generalize hX : sumSk (winL l frm to_) = X at *
    obtain ⟨xh, xk, rfl, r1, r2⟩ := hcs0
    obtain ⟨xhb, xhc, rfl⟩ := r1.slice
    obtain ⟨xkb, xkc, rfl⟩ := r2.slice
    simp [go_sem, e2, e3, e4, e8]
    unfold NewP
    intro b hb
    refine ⟨.ty 1, ?_⟩
    have n2 := (New.refl s1).add (b := b) (o := .cells true [.slice xhb X.hist.length xhc, .slice xkb X.hashes.length xkc, Val.u X.g.n, Val.u X.g.nans, Val.u X.g.lo, Val.u X.g.hi] 6 (.ty 1)) hb
    have g5 := upd_same s1 b (.cells true [.slice xhb X.hist.length xhc, .slice xkb X.hashes.length xkc, Val.u X.g.n, Val.u X.g.nans, Val.u X.g.lo, Val.u X.g.hi] 6 (.ty 1))
    have nn := (k0.trans n1).trans n2
    have ga := nn _ _ g12
    have gc := nn _ _ g2
    simp [go_sem, e2, e3, e4, e8]
    generalize upd s1 b (.cells true [.slice xhb X.hist.length xhc, .slice xkb X.hashes.length xkc, Val.u X.g.n, Val.u X.g.nans, Val.u X.g.lo, Val.u X.g.hi] 6 (.ty 1)) = s2 at *
    simp [go_sem, e2, e3, e4, e8, ga, g5, hkl, htka]
    obtain ⟨f1, f2⟩ := tellS_ok (foldl_ok _ hoks sum0_ok)
    change SkOK (sumSk _) at f1
    change checkS (sumSk _) = true at f2
    rw [hX] at f1 f2
    refine (hone s2 (hcs.new n2) f1 f2).mono ?_
    rintro e s3 ⟨n3, rfl⟩
    rw [hA]
    simp [go_sem, AnsD.cells, e2, e3, e4, e8]
    unfold NewP
    intro d hd
    refine ⟨.ty 1, ?_⟩
    have gc' := n3 _ _ gc
    have hcd : c ≠ d := by rintro rfl; rw [gc'] at hd; cases hd
    have kN := (kk.trans nn).trans n3
    have hcn : st c = none := k1.none hc
    have hdn : st d = none := kN.none hd
    simp [go_sem, e2, e4, e8, hcd, Ne.symm hcd, upd_same, upd_ne, gc']
    refine RetI_cell ?_
    simp [go_sem, e8, hcd, Ne.symm hcd, upd_same, upd_ne, gc']
    first | exact (kN.put hdn).put hcn | exact ((kN.put hdn).put hdn).put hcn
end
end Go.Proofs.YtflbapmjdfnhhaaGreat
set_option linter.unusedVariables false
set_option linter.unusedSimpArgs false
set_option maxRecDepth 100000
set_option maxHeartbeats 1000000
namespace Go.Proofs.YtflbapmjdfnhhaaGreat
open Go.RowKit (Below)
section
variable {W0 : World} {st : Heap}
theorem answersR_spec {ms : List Value} {q : AskD} {v : Value} {l : List RowD} {ev : List Lab → Bool} (hms : ms.length = 5) (hv : RowsAt st v l) (hl : l.length < 2 ^ 30) (hok : ∀ r ∈ l, RowOK r) (hev : ∀ s, New st s → ∀ (lv : Value) (l : List Lab), RegF s 2 lv (labV l) l.length → l.length < 2 ^ 50 → (∀ x ∈ l, x.1.size < 2 ^ 60 ∧ x.2.size < 2 ^ 60) → ICalls Tryz.prog W0 48 #[.agg ms.toArray, lv] s fun e s' => e = .returned (.bool (ev l)) ∧ New s s') :
    ICalls Tryz.prog W0 12 #[.agg (ms ++ q.tail).toArray, v] st fun e st' => ∃ a r w, e = .returned (.func (.func 27) #[] #[ptr a, ptr r]) ∧ New st st' ∧ a ≠ r ∧
    (∃ g, st' a = some (.cells true (ms ++ q.tail) 11 g)) ∧ (∃ g, st' r = some (.cells true [w] 1 g)) ∧ RowsAt st' w (l.filter (keepR ev)) := by
  obtain ⟨ka, hka⟩ : ∃ ka, ms ++ q.tail = ka := ⟨_, rfl⟩
  have hkl : ka.length = 11 := by rw [← hka, List.length_append, hms]; rfl
  have htk : ka.take 5 = ms := by rw [← hka, ← hms]; exact List.take_left
  rw [hka]
  clear hka
  refine enter (args := [_, _]) Tryz.func12 rfl ?_
  simp [Tryz.f12, go_sem]
  unfold NewP
  intro a ha
  refine ⟨.ty 1, ?_⟩
  rw [hkl]
  have h1 := (New.refl st).add (b := a) (o := .cells true ka 11 (.ty 1)) ha
  have ga := upd_same st a (.cells true ka 11 (.ty 1))
  simp [go_sem, htk, hkl]
  generalize upd st a (.cells true ka 11 (.ty 1)) = st1 at *
  refine (meant_spec hms (hv.new h1) hl hok (fun s hs => hev s (h1.trans hs))).mono ?_
  rintro e st2 ⟨w, rfl, hw, h2⟩
  simp [go_sem]
  refine (own_spec hw (by have := List.length_filter_le (keepR ev) l; omega) (fun r hr => hok r (List.mem_filter.1 hr).1)).mono ?_
  rintro e st3 ⟨w', rfl, hw', h3⟩
  obtain ⟨wb, wc, rfl⟩ := hw'.slice
  simp [go_sem]
  unfold NewP
  intro r hr
  refine ⟨.ty 1, ?_⟩
  have h4 := (New.refl st3).add (b := r) (o := .cells true [.slice wb (l.filter (keepR ev)).length wc] 1 (.ty 1)) hr
  have gr := upd_same st3 r (.cells true [.slice wb (l.filter (keepR ev)).length wc] 1 (.ty 1))
  have hne : a ≠ r := by rintro rfl; rw [h3 _ _ (h2 _ _ ga)] at hr; cases hr
  simp [go_sem]
  generalize upd st3 r (.cells true [.slice wb (l.filter (keepR ev)).length wc] 1 (.ty 1)) = st4 at *
  exact ⟨a, r, ⟨rfl, rfl⟩, ((h1.trans h2).trans h3).trans h4, hne, ⟨_, h4 _ _ (h3 _ _ (h2 _ _ ga))⟩, _, ⟨_, gr⟩, hw'.new h4⟩
/-- What an ear is told over rows. -/
def ansOf (q : AskD) (l : List RowD) (step frm : Int) : AnsD := oneM q.kind q.a.toNat q.b.toNat (sumSk (winL l frm (frm + step)))
theorem toldR_spec {a r : Nat} {ms : List Value} {q : AskD} {w : Value} {l : List RowD} {most : Int} {ga gr : Tg} (hms : ms.length = 5) (aok : AskOK q) (ha : st a = some (.cells true (ms ++ q.tail) 11 ga)) (hr : st r = some (.cells true [w] 1 gr)) (hv : RowsAt st w l) (hl : l.length < 2 ^ 30) (hok : ∀ r ∈ l, RowOK r) (hck : ∀ r ∈ l, checkS r.s = true) (hsort : ∀ frm : Int, SortU W0 ((winL l frm (frm + q.step)).foldl addS sum0).S.length) (hmost : 1 ≤ most) (hsmall : windowsN q.start q.step q.n < 2 ^ 30) :
    ICalls Tryz.prog W0 16 #[.func (.func 27) #[] #[ptr a, ptr r], Val.i most] st fun e st' => New st st' ∧ ∃ v, e = .returned v ∧ Vec st' (.ty 1) 4 v (ansL (ansOf q l q.step) q.start q.step (min (windowsN q.start q.step q.n) most.toNat)) (min (windowsN q.start q.step q.n) most.toNat) ∧ Fresh st v :=
  told_gen hms aok.n aok.start ha hr hmost hsmall fun s hs frm h1 h2 h3 => window_spec hms aok (hv.new hs) hl hok hck (hsort frm)
end
end Go.Proofs.YtflbapmjdfnhhaaGreat
set_option linter.unusedVariables false
set_option linter.unusedSimpArgs false
set_option maxRecDepth 100000
namespace Go.Proofs.YtflbapmjdfnhhaaGreat
open Go.RowKit (Below)
theorem winL_append (a b : List RowD) (frm to_ : Int) : winL (a ++ b) frm to_ = winL a frm to_ ++ winL b frm to_ := by simp [winL]
theorem keepR_check {ev : List Lab → Bool} {l : List RowD} : ∀ r ∈ l.filter (keepR ev), checkS r.s = true := fun r hr => by
  have := (List.mem_filter.1 hr).2
  unfold keepR at this
  simp only [Bool.and_eq_true] at this
  exact this.1.2
end Go.Proofs.YtflbapmjdfnhhaaGreat
set_option linter.unusedVariables false
set_option linter.unusedSimpArgs false
set_option maxRecDepth 100000
namespace Go.Proofs.YtflbapmjdfnhhaaGreat
open Go.RowKit (Below)
theorem foldl_perm_inv {α β : Type} {f : β → α → β} {I : β → Prop} {p : α → Prop} (hI : ∀ z x, I z → p x → I (f z x)) (hc : ∀ z x y, I z → p x → p y → f (f z x) y = f (f z y) x) {l l' : List α} (h : l.Perm l') : (∀ x ∈ l, p x) → ∀ z, I z → l.foldl f z = l'.foldl f z := by
  induction h with
  | nil => intro _ z _; rfl
  | cons x h ih => intro hp z hz; exact ih (fun y hy => hp y (by simp [hy])) _ (hI _ _ hz (hp x (by simp)))
  | swap x y l => intro hp z hz; simp only [List.foldl_cons]; rw [hc z y x hz (hp y (by simp)) (hp x (by simp))]
  | trans h1 h2 ih1 ih2 => intro hp z hz; rw [ih1 hp z hz]; exact ih2 (fun x hx => hp x (h1.mem_iff.2 hx)) z hz
/-! ### Buckets -/
theorem satAdd_right (x a b : Nat) : satAdd (satAdd x a) b = satAdd (satAdd x b) a := by simp only [satAdd_min]; omega
theorem addB_comm (h : List Nat) (p q : Int × Nat) : addB (addB h p) q = addB (addB h q) p := by
  unfold addB
  by_cases e : p.1.toNat = q.1.toNat
  · rw [e]
    by_cases hl : q.1.toNat < h.length
    · rw [getD_set _ _ _ _ hl, getD_set _ _ _ _ hl, if_pos rfl, if_pos rfl, List.set_set, List.set_set, satAdd_right]
    · have : ∀ v, h.set q.1.toNat v = h := fun v => List.set_eq_of_length_le (by omega)
      simp only [this]
  · rw [List.set_comm _ _ e]
    have h1 : ∀ (i j v : Nat), i ≠ j → (h.set i v).getD j 0 = h.getD j 0 := fun i j v hij => by
      rw [List.getD_eq_getElem?_getD, List.getElem?_set_ne hij, ← List.getD_eq_getElem?_getD]
    rw [h1 _ _ _ e, h1 _ _ _ (Ne.symm e)]
theorem mergeB_comm (h : List Nat) (a b : List (Int × Nat)) : mergeB (mergeB h a) b = mergeB (mergeB h b) a := by
  unfold mergeB
  rw [← List.foldl_append, ← List.foldl_append]
  exact foldl_perm_inv (I := fun _ => True) (p := fun _ => True) (fun _ _ _ _ => trivial) (fun z x y _ _ _ => addB_comm z x y) List.perm_append_comm (fun _ _ => trivial) h trivial
/-! ### Hashes -/
theorem take_insS : ∀ (n : Nat) (L : List Nat) (k : Nat), (insS (L.take n) k).take n = (insS L k).take n
  | 0, L, k => by simp
  | n + 1, [], k => by simp
  | n + 1, x :: L, k => by
    rw [List.take_succ_cons]
    unfold insS
    split
    · simp only [List.take_succ_cons]
      cases n with
      | zero => rfl
      | succ n => simp [List.take_take]
    · split
      · simp [List.take_take]
      · simp only [List.take_succ_cons]
        rw [take_insS n L k]
/-! ### Gauges -/
/-- A gauge that may be. -/
structure GauC (g : GauD) : Prop where
  ok : GauOK g
  ck : checkG g = true
theorem GauC.zero {g : GauD} (h : GauC g) (h0 : g.n = 0) : g.lo = 0 ∧ g.hi = 0 := by
  have := h.ck
  unfold checkG at this
  rw [if_pos h0] at this
  simpa using this
theorem satAdd_pos {a b : Nat} : satAdd a b ≠ 0 ↔ a ≠ 0 ∨ b ≠ 0 := by simp only [satAdd_min]; omega
/-! ### Sums -/
def SkC (s : SkD) : Prop := SkOK s ∧ checkS s = true
theorem SkC.g {s : SkD} (h : SkC s) : GauC s.g := ⟨h.1.g, by have := h.2; unfold checkS at this; simp only [Bool.and_eq_true] at this; exact this.2.2⟩
end Go.Proofs.YtflbapmjdfnhhaaGreat
set_option linter.unusedVariables false
set_option linter.unusedSimpArgs false
set_option maxRecDepth 100000
namespace Go.Proofs.YtflbapmjdfnhhaaGreat
open Go.RowKit (Below)
/-! ### Buckets -/
def mhB : List (Int × Nat) → List (Int × Nat) → List (Int × Nat)
  | [], b => b
  | x :: a, [] => x :: a
  | x :: a, y :: b => if x.1 < y.1 then x :: mhB a (y :: b) else if y.1 < x.1 then y :: mhB (x :: a) b else (x.1, satAdd x.2 y.2) :: mhB a b
termination_by a b => a.length + b.length
theorem addB_twice (h : List Nat) (i : Int) (m n : Nat) : addB h (i, satAdd m n) = addB (addB h (i, m)) (i, n) := by
  unfold addB
  simp only
  by_cases hl : i.toNat < h.length
  · rw [getD_set _ _ _ _ hl, if_pos rfl, List.set_set]
    have : satAdd (h.getD i.toNat 0) (satAdd m n) = satAdd (satAdd (h.getD i.toNat 0) m) n := by simp only [satAdd_min]; omega
    rw [this]
  · have : ∀ v, h.set i.toNat v = h := fun v => List.set_eq_of_length_le (by omega)
    simp only [this]
theorem mergeB_mhB : ∀ (a b : List (Int × Nat)) (h : List Nat), mergeB h (mhB a b) = mergeB (mergeB h a) b
  | [], b, h => by simp [mhB, mergeB]
  | x :: a, [], h => by simp [mhB, mergeB]
  | x :: a, y :: b, h => by
    unfold mhB
    have e1 : ∀ (h : List Nat) (z : Int × Nat) (l : List (Int × Nat)), mergeB h (z :: l) = mergeB (addB h z) l := fun _ _ _ => rfl
    split
    · rw [e1, mergeB_mhB a (y :: b), ← e1]
    · split
      · rw [e1, mergeB_mhB (x :: a) b, e1 (mergeB h (x :: a)) y b]
        congr 1
        have := mergeB_comm h [y] (x :: a)
        simpa [mergeB] using this
      · have hxy : x.1 = y.1 := by omega
        have e3 : addB h (x.1, satAdd x.2 y.2) = addB (addB h x) y := by
          rw [addB_twice]
          have hx : (x.1, x.2) = x := rfl
          have hy : (x.1, y.2) = y := by rw [hxy]
          rw [hx, hy]
        rw [e1, e3, mergeB_mhB a b, e1 h x a, e1 (mergeB (addB h x) a) y b]
        congr 1
        have := mergeB_comm (addB h x) [y] a
        simpa [mergeB] using this
termination_by a b => a.length + b.length
theorem checkB_cons (p : Int) (x : Int × Nat) (l : List (Int × Nat)) : checkB p (x :: l) = true ↔ (p < x.1 ∧ x.1 < 7424 ∧ x.2 ≠ 0) ∧ checkB x.1 l = true := by
  rw [checkB]
  simp only [Bool.and_eq_true, Bool.not_eq_true', Bool.or_eq_false_iff, decide_eq_false_iff_not]
  constructor
  · rintro ⟨⟨⟨h1, h2⟩, h3⟩, h4⟩
    exact ⟨⟨by omega, by omega, h3⟩, h4⟩
  · rintro ⟨⟨h1, h2, h3⟩, h4⟩
    exact ⟨⟨⟨by omega, by omega⟩, h3⟩, h4⟩
theorem checkB_mhB : ∀ (a b : List (Int × Nat)) (p : Int), checkB p a = true → checkB p b = true → checkB p (mhB a b) = true
  | [], b, p, _, hb => by simpa [mhB] using hb
  | x :: a, [], p, ha, _ => by simpa [mhB] using ha
  | x :: a, y :: b, p, ha, hb => by
    have ha' := (checkB_cons p x a).1 ha
    have hb' := (checkB_cons p y b).1 hb
    unfold mhB
    split
    · rename_i h
      rw [checkB_cons]
      exact ⟨ha'.1, checkB_mhB a (y :: b) x.1 ha'.2 ((checkB_cons _ _ _).2 ⟨⟨h, hb'.1.2⟩, hb'.2⟩)⟩
    · split
      · rename_i h1 h2
        rw [checkB_cons]
        exact ⟨hb'.1, checkB_mhB (x :: a) b y.1 ((checkB_cons _ _ _).2 ⟨⟨h2, ha'.1.2⟩, ha'.2⟩) hb'.2⟩
      · rw [checkB_cons]
        have hxy : x.1 = y.1 := by omega
        refine ⟨⟨ha'.1.1, ha'.1.2.1, satAdd_pos.2 (.inl ha'.1.2.2)⟩, checkB_mhB a b x.1 ha'.2 (by rw [hxy]; exact hb'.2)⟩
termination_by a b => a.length + b.length
theorem mhB_val : ∀ (a b : List (Int × Nat)), (∀ x ∈ a, x.2 < 2 ^ 64) → (∀ x ∈ b, x.2 < 2 ^ 64) → ∀ x ∈ mhB a b, x.2 < 2 ^ 64
  | [], b, _, hb => by simpa [mhB] using hb
  | x :: a, [], ha, _ => by simpa [mhB] using ha
  | x :: a, y :: b, ha, hb => by
    have hx := ha x (by simp)
    have hy := hb y (by simp)
    have ha' : ∀ z ∈ a, z.2 < 2 ^ 64 := fun z hz => ha z (by simp [hz])
    have hb' : ∀ z ∈ b, z.2 < 2 ^ 64 := fun z hz => hb z (by simp [hz])
    unfold mhB
    split
    · intro z hz
      rcases List.mem_cons.1 hz with rfl | hz
      · exact hx
      · exact mhB_val a (y :: b) ha' hb z hz
    · split
      · intro z hz
        rcases List.mem_cons.1 hz with rfl | hz
        · exact hy
        · exact mhB_val (x :: a) b ha hb' z hz
      · intro z hz
        rcases List.mem_cons.1 hz with rfl | hz
        · exact satAdd_lt
        · exact mhB_val a b ha' hb' z hz
termination_by a b => a.length + b.length
/-- What a row of counts tells, laid anew, is the row. -/
theorem mergeB_bktL (h : List Nat) (hl : h.length = 7424) (hb : ∀ n ∈ h, n < 2 ^ 64) : ∀ k, k ≤ 7424 → mergeB (List.replicate 7424 0) (toI (bktL h k)) = h.take k ++ List.replicate (7424 - k) 0
  | 0, _ => by simp [bktL, toI, mergeB]
  | k + 1, hk => by
    have ih := mergeB_bktL h hl hb k (by omega)
    have hkl : k < h.length := by omega
    have hg : h.getD k 0 = h[k] := by rw [List.getD_eq_getElem?_getD, List.getElem?_eq_getElem hkl]; rfl
    have hr : List.replicate (7424 - k) 0 = 0 :: List.replicate (7424 - (k + 1)) 0 := by
      rw [show 7424 - k = (7424 - (k + 1)) + 1 by omega, List.replicate_succ]
    have ht : h.take (k + 1) = h.take k ++ [h[k]] := by rw [List.take_add_one, List.getElem?_eq_getElem hkl]; rfl
    have htl : (h.take k).length = k := by rw [List.length_take]; omega
    rw [bktL_succ]
    split
    · rw [toI_append]
      have e : mergeB (List.replicate 7424 0) (toI (bktL h k) ++ toI [(k, h.getD k 0)]) = addB (mergeB (List.replicate 7424 0) (toI (bktL h k))) ((k : Int), h.getD k 0) := by
        unfold mergeB
        rw [List.foldl_append]
        rfl
      rw [e, ih]
      unfold addB
      have h1 : ((k : Int)).toNat = k := by omega
      simp only [h1]
      have h2 : (h.take k ++ List.replicate (7424 - k) 0).getD k 0 = 0 := by
        rw [List.getD_eq_getElem?_getD, List.getElem?_append_right (by omega), htl, hr]
        simp
      have h3 := hb _ (List.getElem_mem hkl)
      have h4 : satAdd 0 h[k] = h[k] := by simp only [satAdd_min]; omega
      rw [h2, hg, h4, hr, List.set_append_right _ _ (by omega), htl, ht, Nat.sub_self, List.set_cons_zero, List.append_assoc, List.singleton_append]
    · rename_i h0
      rw [hg] at h0
      have hz : h[k] = 0 := by omega
      rw [ih, hr, ht, hz, List.append_assoc, List.singleton_append]
theorem mergeB_tell (h : List Nat) (hl : h.length = 7424) (hb : ∀ n ∈ h, n < 2 ^ 64) : mergeB (List.replicate 7424 0) (toI (bktL h 7424)) = h := by
  rw [mergeB_bktL h hl hb 7424 (Nat.le_refl _)]
  simp [← hl]
theorem tell_mergeB {h : List Nat} {b : List (Int × Nat)} (hl : h.length = 7424) (hh : ∀ n ∈ h, n < 2 ^ 64) (hc : checkB (-1) b = true) (hb : ∀ x ∈ b, x.2 < 2 ^ 64) : toI (bktL (mergeB h b) 7424) = mhB (toI (bktL h 7424)) b := by
  have hca := (bktL_check h 7424 (Nat.le_refl _) 0 (fun _ => trivial)).1
  have hva : ∀ x ∈ toI (bktL h 7424), x.2 < 2 ^ 64 := fun x hx => by
    obtain ⟨y, hy, rfl⟩ := List.mem_map.1 hx
    exact bktL_val h hh 7424 y hy
  have e := bktL_merge (checkB_mhB _ _ _ hca hc) (mhB_val _ _ hva hb)
  rw [mergeB_mhB, mergeB_tell h hl hh] at e
  exact e
/-! ### Hashes -/
def mrU : List Nat → List Nat → List Nat
  | [], b => b
  | x :: a, [] => x :: a
  | x :: a, y :: b => if x < y then x :: mrU a (y :: b) else if y < x then y :: mrU (x :: a) b else x :: mrU a b
termination_by a b => a.length + b.length
theorem mem_mrU : ∀ (a b : List Nat) (z : Nat), z ∈ mrU a b ↔ z ∈ a ∨ z ∈ b
  | [], b, z => by simp [mrU]
  | x :: a, [], z => by simp [mrU]
  | x :: a, y :: b, z => by
    unfold mrU
    split
    · simp only [List.mem_cons, mem_mrU a (y :: b) z]
      by_cases h1 : z = x <;> by_cases h2 : z ∈ a <;> by_cases h3 : z = y <;> by_cases h4 : z ∈ b <;> simp [h1, h2, h3, h4]
    · split
      · simp only [List.mem_cons, mem_mrU (x :: a) b z]
        by_cases h1 : z = x <;> by_cases h2 : z ∈ a <;> by_cases h3 : z = y <;> by_cases h4 : z ∈ b <;> simp [h1, h2, h3, h4]
      · have : x = y := by omega
        subst this
        simp only [List.mem_cons, mem_mrU a b z]
        by_cases h1 : z = x <;> by_cases h2 : z ∈ a <;> by_cases h4 : z ∈ b <;> simp [h1, h2, h4]
termination_by a b => a.length + b.length
theorem asc_mrU : ∀ (a b : List Nat), Asc a → Asc b → Asc (mrU a b)
  | [], b, _, hb => by simpa [mrU] using hb
  | x :: a, [], ha, _ => by simpa [mrU] using ha
  | x :: a, y :: b, ha, hb => by
    have ha' := List.pairwise_cons.1 ha
    have hb' := List.pairwise_cons.1 hb
    unfold mrU
    split
    · rename_i h
      refine List.pairwise_cons.2 ⟨fun z hz => ?_, asc_mrU a (y :: b) ha'.2 hb⟩
      rcases (mem_mrU _ _ _).1 hz with hz | hz
      · exact ha'.1 z hz
      · rcases List.mem_cons.1 hz with rfl | hz
        · exact h
        · have := hb'.1 z hz; omega
    · split
      · rename_i h1 h2
        refine List.pairwise_cons.2 ⟨fun z hz => ?_, asc_mrU (x :: a) b ha hb'.2⟩
        rcases (mem_mrU _ _ _).1 hz with hz | hz
        · rcases List.mem_cons.1 hz with rfl | hz
          · exact h2
          · have := ha'.1 z hz; omega
        · exact hb'.1 z hz
      · have hxy : x = y := by omega
        subst hxy
        refine List.pairwise_cons.2 ⟨fun z hz => ?_, asc_mrU a b ha'.2 hb'.2⟩
        rcases (mem_mrU _ _ _).1 hz with hz | hz
        · exact ha'.1 z hz
        · exact hb'.1 z hz
termination_by a b => a.length + b.length
theorem foldl_take_insS : ∀ (l L : List Nat), (l.foldl insK (L.take 1024)) = (l.foldl insS L).take 1024
  | [], L => rfl
  | x :: l, L => by
    simp only [List.foldl_cons]
    have : insK (L.take 1024) x = (insS L x).take 1024 := take_insS 1024 L x
    rw [this, foldl_take_insS l]
theorem asc_foldl : ∀ (l L : List Nat), Asc L → Asc (l.foldl insS L)
  | [], L, h => h
  | x :: l, L, h => asc_foldl l _ (asc_insS L x h)
theorem mem_foldl : ∀ (l L : List Nat) (z : Nat), z ∈ l.foldl insS L ↔ z ∈ L ∨ z ∈ l
  | [], L, z => by simp
  | x :: l, L, z => by
    simp only [List.foldl_cons, mem_foldl l, mem_insS, List.mem_cons]
    by_cases h1 : z = x <;> by_cases h2 : z ∈ L <;> by_cases h3 : z ∈ l <;> simp [h1, h2, h3]
theorem mergeK_mrU {S l : List Nat} (hS : Asc S) (hl : Asc l) (hn : S.length ≤ 1024) : mergeK S l = (mrU S l).take 1024 := by
  unfold mergeK
  have h1 : S.take 1024 = S := List.take_of_length_le hn
  rw [← h1, foldl_take_insS, h1]
  congr 1
  have a1 := asc_foldl l S hS
  have a2 := asc_mrU S l hS hl
  refine asc_unique a1 a2 ((List.perm_ext_iff_of_nodup (asc_nodup a1) (asc_nodup a2)).2 fun z => ?_)
  rw [mem_foldl, mem_mrU]
/-! ### Sketches -/
def mergeSk (a b : SkD) : SkD := ⟨mhB a.hist b.hist, (mrU a.hashes b.hashes).take 1024, mergeG a.g b.g⟩
theorem SkC.hist {s : SkD} (h : SkC s) : checkB (-1) s.hist = true := by have := h.2; unfold checkS at this; simp only [Bool.and_eq_true] at this; exact this.1
theorem SkC.asc {s : SkD} (h : SkC s) : Asc s.hashes ∧ s.hashes.length ≤ 1024 := by
  have := h.2
  unfold checkS at this
  simp only [Bool.and_eq_true] at this
  have h2 := this.2.1
  unfold checkK at h2
  simp only [Bool.and_eq_true, decide_eq_true_eq] at h2
  exact ⟨(ascK_iff _).1 h2.2, h2.1⟩
theorem tell_addS {x : SumD} {s : SkD} (hx : SumOK x) (hs : SkC s) : tellS (addS x s) = mergeSk (tellS x) s := by
  unfold tellS addS mergeSk
  simp only
  rw [tell_mergeB hx.hl hx.hb hs.hist hs.1.hist, mergeK_mrU hx.asc hs.asc.1 hx.len]
end Go.Proofs.YtflbapmjdfnhhaaGreat
