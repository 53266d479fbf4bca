/- A sketch's answer to a question: the document's way. -/
import Derived.Test.YtflbapmjdfnhhaaGreatC29
import Derived.Test.YtflbapmjdfnhhaaGreatC32
import Derived.Test.YtflbapmjdfnhhaaGreatC24
set_option linter.unusedVariables false
set_option linter.unusedSimpArgs false
set_option maxRecDepth 100000
set_option maxHeartbeats 1000000
namespace Go.Proofs.YtflbapmjdfnhhaaGreat
open Go.RowKit (Below)
def RefMid (st : Heap) (c d : Nat) (A : AnsD) (st' : Heap) : Prop := New st st' ∧ st' c = some (.cells true [Val.i 0, .bool false, Val.u 0, Val.i 0] 4 (.ty 1)) ∧ st' d = some (.cells true [Val.i 0, .bool A.has, Val.u A.val, Val.i A.err] 4 (.ty 1))
theorem RefMid.mk {st st1 : Heap} {c d : Nat} {A : AnsD} (kk : New st st1) (hdn : st d = none) (ncd : c ≠ d) (g3 : st1 c = some (.cells true [Val.i 0, .bool false, Val.u 0, Val.i 0] 4 (.ty 1))) : RefMid st c d A (upd st1 d (.cells true [Val.i 0, .bool A.has, Val.u A.val, Val.i A.err] 4 (.ty 1))) :=
  ⟨kk.put hdn, by rw [upd_ne _ _ ncd]; exact g3, upd_same _ _ _⟩
section
variable {W0 : World} {st : Heap}
end
end Go.Proofs.YtflbapmjdfnhhaaGreat
set_option linter.unusedVariables false
set_option linter.unusedSimpArgs false
set_option maxRecDepth 100000
set_option maxHeartbeats 1000000
namespace Go.Proofs.YtflbapmjdfnhhaaGreat
open Go.RowKit (Below)
section
variable {W0 : World} {st : Heap}
theorem one_spec' {ms cs : List Value} {q : AskD} {s : SkD} (hms : ms.length = 5) (h : SkAt st cs s) (ok : SkOK s) (hc : checkS s = true) (aok : AskOK q) : ICalls Tryz.prog W0 51 #[.agg (ms ++ q.tail).toArray, .agg cs.toArray] st fun e st' => New st st' ∧ e = .returned (.agg ((oneM q.kind q.a.toNat q.b.toNat s).cells 0).toArray) := by
  match ms, hms with
  | [m0, m1, m2, m3, m4], _ =>
    have h1 := aok.a
    have h2 := aok.b
    have e1 : ((q.a.toNat : Nat) : Int) = q.a := Int.toNat_of_nonneg h1.1
    have e2 : ((q.b.toNat : Nat) : Int) = q.b := Int.toNat_of_nonneg h2.1
    have := one_spec (W0 := W0) (st := st) (c0 := m0) (c1 := m1) (c2 := m2) (c3 := m3) (c4 := m4) (c5 := Val.i q.start) (c6 := Val.i q.step) (c7 := Val.i q.n) (kind := q.kind) (a := q.a.toNat) (b := q.b.toNat) h ok hc (by omega) (by omega)
    rw [e1, e2] at this
    exact this
end
end Go.Proofs.YtflbapmjdfnhhaaGreat
set_option linter.unusedVariables false
set_option linter.unusedSimpArgs false
set_option maxRecDepth 100000
set_option maxHeartbeats 1000000
namespace Go.Proofs.YtflbapmjdfnhhaaGreat
open Go.RowKit (Below)
def SksIn (st : Heap) (ys : List Value) (l : List SkD) : Prop := ys.length = l.length * 6 ∧ ∀ (i : Nat) r, l[i]? = some r → SkAt st ((ys.drop (i * 6)).take 6) r
theorem SksIn.new {st st' : Heap} {ys : List Value} {l : List SkD} (h : SksIn st ys l) (hk : New st st') : SksIn st' ys l := ⟨h.1, fun i r hi => (h.2 i r hi).new hk⟩
theorem SkAt.ext {st st' : Heap} {g : Tg} {cs : List Value} {r : SkD} (h : SkAt st cs r) (hk : Ext g st st') : SkAt st' cs r := by
  obtain ⟨lv, kv, e, h1, h2⟩ := h
  exact ⟨lv, kv, e, h1.ext hk, h2.ext hk⟩
theorem SksIn.ext {st st' : Heap} {g : Tg} {ys : List Value} {l : List SkD} (h : SksIn st ys l) (hk : Ext g st st') : SksIn st' ys l := ⟨h.1, fun i r hi => (h.2 i r hi).ext hk⟩
theorem SksIn.nil {st : Heap} : SksIn st [] [] := ⟨rfl, fun i r h => by simp at h⟩
theorem SksIn.snoc {st : Heap} {ys cs : List Value} {l : List SkD} {r : SkD} (h : SksIn st ys l) (hr : SkAt st cs r) : SksIn st (ys ++ cs) (l ++ [r]) := by
  have hcl := hr.length
  refine ⟨by simp [h.1, hcl]; omega, fun i x hi => ?_⟩
  by_cases hlt : i < l.length
  · rw [List.getElem?_append_left hlt] at hi
    have := h.2 i x hi
    have h8 : i * 6 + 6 ≤ ys.length := by rw [h.1]; omega
    rw [List.drop_append_of_le_length (by omega), List.take_append_of_le_length (by rw [List.length_drop]; omega)]
    exact this
  · rw [List.getElem?_append_right (by omega)] at hi
    have hi0 : i - l.length = 0 := by
      rcases Nat.eq_zero_or_pos (i - l.length) with h | h
      · exact h
      · rw [List.getElem?_eq_none (by simp; omega)] at hi; cases hi
    rw [hi0] at hi
    injection hi with hi
    subst hi
    have : i * 6 = ys.length := by rw [h.1]; omega
    rw [this, List.drop_left, List.take_of_length_le (by omega)]
    exact hr
/-- The sketches of a window. -/
def inW (frm to_ : Int) (r : RowD) : Bool := decide (frm ≤ r.at_) && decide (r.at_ < to_)
def winL (l : List RowD) (frm to_ : Int) : List SkD := (l.filter (inW frm to_)).map (·.s)
theorem winL_take {l : List RowD} {frm to_ : Int} {k : Nat} (h : k < l.length) : winL (l.take (k + 1)) frm to_ = winL (l.take k) frm to_ ++ (if inW frm to_ l[k] then [l[k].s] else []) := by
  unfold winL
  rw [List.take_add_one, List.getElem?_eq_getElem h]
  simp only [Option.toList_some, List.filter_append, List.map_append]
  congr 1
  by_cases hc : inW frm to_ l[k] = true <;> simp [List.filter_cons, hc]
theorem foldl_ok : ∀ (l : List SkD) {x : SumD}, (∀ s ∈ l, SkOK s ∧ checkS s = true) → SumOK x → SumOK (l.foldl addS x)
  | [], x, _, hx => hx
  | s :: l, x, h, hx => foldl_ok l (fun y hy => h y (List.mem_cons_of_mem _ hy)) (addS_ok hx (h s (by simp)).1 (h s (by simp)).2)
section
variable {W0 : World} {st : Heap}
theorem window_spec {ms : List Value} {q : AskD} {v : Value} {l : List RowD} {frm to_ : Int} (hms : ms.length = 5) (aok : AskOK q) (hv : RowsAt st v l) (hl : l.length < 2 ^ 30) (hok : ∀ r ∈ l, RowOK r) (hck : ∀ r ∈ l, checkS r.s = true) (hsort : SortU W0 ((winL l frm to_).foldl addS sum0).S.length) : ICalls Tryz.prog W0 29 #[.agg (ms ++ q.tail).toArray, v, Val.i frm, Val.i to_] st fun e st' => New st st' ∧ e = .returned (.agg ((oneM q.kind q.a.toNat q.b.toNat (sumSk (winL l frm to_))).cells frm).toArray) := by
  obtain ⟨tb, tc, rfl⟩ := hv.slice
  obtain ⟨ka, hka⟩ : ∃ ka, ms ++ q.tail = ka := ⟨_, rfl⟩
  have hkl : ka.length = 11 := by rw [← hka, List.length_append, hms]; rfl
  have htka : ka.take 11 = ka := List.take_of_length_le (by omega)
  have hone : ∀ (s : Heap) {cs : List Value} {x : SkD}, SkAt s cs x → SkOK x → checkS x = true → ICalls Tryz.prog W0 51 #[.agg ka.toArray, .agg cs.toArray] s fun e st' => New s st' ∧ e = .returned (.agg ((oneM q.kind q.a.toNat q.b.toNat x).cells 0).toArray) := by
    intro s cs x h1 h2 h3
    rw [← hka]
    exact one_spec' hms h1 h2 h3 aok
  rw [hka]
  clear hka
  obtain ⟨A, hA⟩ : ∃ A, oneM q.kind q.a.toNat q.b.toNat (sumSk (winL l frm to_)) = A := ⟨_, rfl⟩
  rw [hA]
  refine enter (args := [_, _, _, _]) Tryz.func29 rfl ?_
  simp [Tryz.f29, go_sem]
  unfold NewP
  intro ta hta0
  refine ⟨.ty 1, ?_⟩
  rw [hkl]
  have k1 := (New.refl st).add (b := ta) (o := .cells true ka 11 (.ty 1)) hta0
  have g1 := upd_same st ta (.cells true ka 11 (.ty 1))
  simp [go_sem]
  generalize upd st ta (.cells true ka 11 (.ty 1)) = st1 at *
  unfold NewP
  intro c hc
  refine ⟨.ty 1, ?_⟩
  have k2 := (New.refl st1).add (b := c) (o := .cells true [Val.i 0, .bool false, Val.u 0, Val.i 0] 4 (.ty 1)) hc
  have g2 := upd_same st1 c (.cells true [Val.i 0, .bool false, Val.u 0, Val.i 0] 4 (.ty 1))
  have g12 := k2 _ _ g1
  have kk := k1.trans k2
  simp [go_sem]
  generalize upd st1 c (.cells true [Val.i 0, .bool false, Val.u 0, Val.i 0] 4 (.ty 1)) = st2 at *
  have hv2 := hv.new kk
  refine ⟨fun E st' => New st2 st' ∧ E 2 = Val.i frm ∧ E 3 = Val.i to_ ∧ E 4 = ptr ta ∧ E 8 = ptr c ∧ E 15 = .slice tb l.length tc ∧ E 16 = Val.i l.length ∧ ∃ (k n : Nat) (w : Value) (ys : List Value), E 17 = Val.i (k : Int) ∧ k ≤ l.length ∧ n ≤ k ∧ E 9 = w ∧ Vec st' (.ty 1) 6 w ys n ∧ Fresh st2 w ∧ n = (winL (l.take k) frm to_).length ∧ SksIn st' ys (winL (l.take k) frm to_), fun E _ => match E 17 with | .int _ z => l.length - z.toNat | _ => 0,
    ⟨st2, .rfl' _, New.refl _, by simp [go_sem], by simp [go_sem], by simp [go_sem], by simp [go_sem], by simp [go_sem], by simp [go_sem], 0, 0, .slice none 0 0, [], by simp [go_sem], by omega, by omega, by simp [go_sem], Vec.nil, Fresh.none, rfl, SksIn.nil⟩, ?_⟩
  rintro E s0 ⟨k0, e2, e3, e4, e8, e15, e16, k, n, w, ys, e17, hk, hnk, e9, hV, hF, hn, hR⟩
  obtain ⟨wb, wc, rfl⟩ := hV.slice
  by_cases hlt : k < l.length
  · have t1 : ((k : Int) < l.length) = True := eq_true (by omega)
    have hwk : IntKind.i64.wrap ((k : Int) + 1) = (k : Int) + 1 := wrap_id (by omega) (by omega)
    obtain ⟨mb, off, cap, rw_, zs, mm, g', cs, hv', hsm, hlen, hcell, hrow⟩ := (hv2.new k0).get hlt
    injection hv' with v1 v2 v3
    subst v1; subst v3
    have htk := winL_take (frm := frm) (to_ := to_) hlt
    generalize l[k] = r at *
    have hrow0 := hrow
    obtain ⟨lb, lc, hb, hcp, kb, kc, rfl⟩ := hrow.cells
    have hsk : SkAt s0 [.slice hb r.s.hist.length hcp, .slice kb r.s.hashes.length kc, Val.u r.s.g.n, Val.u r.s.g.nans, Val.u r.s.g.lo, Val.u r.s.g.hi] r.s := by
      obtain ⟨lv, ss, he, h1, h2⟩ := hrow
      injection he with he1 he2
      injection he2 with he2 he3
      rw [he3]; exact h2
    simp [go_sem, e2, e3, e4, e8, e9, e15, e16, e17, t1, hlt, hsm, hlen, hcell]
    unfold NewP
    intro t5 ht5
    refine ⟨.ty 1, ?_⟩
    have n1 := (New.refl s0).add (b := t5) (o := .cells true [.slice lb r.labels.length lc, Val.i r.at_, .slice hb r.s.hist.length hcp, .slice kb r.s.hashes.length kc, Val.u r.s.g.n, Val.u r.s.g.nans, Val.u r.s.g.lo, Val.u r.s.g.hi] 8 (.ty 1)) ht5
    have g5 := upd_same s0 t5 (.cells true [.slice lb r.labels.length lc, Val.i r.at_, .slice hb r.s.hist.length hcp, .slice kb r.s.hashes.length kc, Val.u r.s.g.n, Val.u r.s.g.nans, Val.u r.s.g.lo, Val.u r.s.g.hi] 8 (.ty 1))
    simp [go_sem, e2, e3, e4, e8, e9, e15, e16, e17]
    generalize upd s0 t5 (.cells true [.slice lb r.labels.length lc, Val.i r.at_, .slice hb r.s.hist.length hcp, .slice kb r.s.hashes.length kc, Val.u r.s.g.n, Val.u r.s.g.nans, Val.u r.s.g.lo, Val.u r.s.g.hi] 8 (.ty 1)) = s1 at *
    by_cases c1 : frm ≤ r.at_
    · by_cases c2 : r.at_ < to_
      · have hin : inW frm to_ r = true := by simp [inW, c1, c2]
        rw [if_pos hin] at htk
        simp [go_sem, e2, e3, e4, e8, e9, e15, e16, e17, g5, c1, c2]
        unfold NewS
        intro nb hnb
        refine ⟨.ty 1, ?_⟩
        have n3 := (New.refl s1).add (b := nb) (o := .cells true [.slice hb r.s.hist.length hcp, .slice kb r.s.hashes.length kc, Val.u r.s.g.n, Val.u r.s.g.nans, Val.u r.s.g.lo, Val.u r.s.g.hi] 6 (.ty 1)) hnb
        simp [go_sem, e2, e3, e4, e8, e9, e15, e16, e17]
        have nn := n1.trans n3
        refine AppI_new (st0 := st2) (g := .ty 1) (m := 1) (ys := [.slice hb r.s.hist.length hcp, .slice kb r.s.hashes.length kc, Val.u r.s.g.n, Val.u r.s.g.nans, Val.u r.s.g.lo, Val.u r.s.g.hi]) si95 (hV.new' nn) hF (k0.trans nn) (by simp [srcCells, lkN_mk, upd_same, cellsOf]) (by simp [Value.oneCell']) (by omega) ?_
        intro base cap st4 hV4 hF4 k4 hx4
        simp [go_sem, e2, e3, e4, e8, e9, e15, e16, e17, hwk]
        refine ⟨st4, .rfl' _, ⟨k4, k + 1, by simp, by omega, n + 1, by omega, _, hV4, hF4, ?_⟩, by omega⟩
        rw [htk]
        exact ⟨by simp [hn], ((hR.new nn).ext hx4).snoc ((hsk.new nn).ext hx4)⟩
      · have hin : inW frm to_ r = false := by simp [inW, c2]
        simp only [hin, if_neg, Bool.false_eq_true, not_false_iff, List.append_nil] at htk
        simp [go_sem, e2, e3, e4, e8, e9, e15, e16, e17, g5, c1, c2, hwk]
        refine ⟨s1, .rfl' _, ⟨k0.trans n1, k + 1, by simp, by omega, n, by omega, _, hV.new' n1, hF, by rw [htk]; exact hn, by rw [htk]; exact hR.new n1⟩, by omega⟩
    · have hin : inW frm to_ r = false := by simp [inW, c1]
      simp only [hin, if_neg, Bool.false_eq_true, not_false_iff, List.append_nil] at htk
      simp [go_sem, e2, e3, e4, e8, e9, e15, e16, e17, g5, c1, hwk]
      refine ⟨s1, .rfl' _, ⟨k0.trans n1, k + 1, by simp, by omega, n, by omega, _, hV.new' n1, hF, by rw [htk]; exact hn, by rw [htk]; exact hR.new n1⟩, by omega⟩
  · have : k = l.length := by omega
    subst this
    rw [List.take_length] at hR hn
    subst hn
    simp [go_sem, e2, e3, e4, e8, e9, e15, e16, e17]
    have hSR : SkRows s0 (.slice wb (winL l frm to_).length wc) (winL l frm to_) := ⟨ys, ⟨.ty 1, (by intro g x r; simp), hV.reg⟩, hR.2⟩
    have hoks : ∀ s ∈ winL l frm to_, SkOK s ∧ checkS s = true := by
      intro s hs
      obtain ⟨r, hr, rfl⟩ := List.mem_map.1 hs
      have hr' := (List.mem_filter.1 hr).1
      exact ⟨(hok r hr').s, hck r hr'⟩
    have hwl : (winL l frm to_).length < 2 ^ 30 := by omega
    refine (sum_spec hSR hwl hoks hsort).mono ?_
    rintro e s1 ⟨n1, cs, rfl, hcs⟩
    have hcs0 := hcs
    generalize hX : sumSk (winL l frm to_) = X at *
    obtain ⟨xh, xk, rfl, r1, r2⟩ := hcs0
    obtain ⟨xhb, xhc, rfl⟩ := r1.slice
    obtain ⟨xkb, xkc, rfl⟩ := r2.slice
    simp [go_sem, e2, e3, e4, e8]
    unfold NewP
    intro b hb
    refine ⟨.ty 1, ?_⟩
    have n2 := (New.refl s1).add (b := b) (o := .cells true [.slice xhb X.hist.length xhc, .slice xkb X.hashes.length xkc, Val.u X.g.n, Val.u X.g.nans, Val.u X.g.lo, Val.u X.g.hi] 6 (.ty 1)) hb
    have g5 := upd_same s1 b (.cells true [.slice xhb X.hist.length xhc, .slice xkb X.hashes.length xkc, Val.u X.g.n, Val.u X.g.nans, Val.u X.g.lo, Val.u X.g.hi] 6 (.ty 1))
    have nn := (k0.trans n1).trans n2
    have ga := nn _ _ g12
    have gc := nn _ _ g2
    simp [go_sem, e2, e3, e4, e8]
    generalize upd s1 b (.cells true [.slice xhb X.hist.length xhc, .slice xkb X.hashes.length xkc, Val.u X.g.n, Val.u X.g.nans, Val.u X.g.lo, Val.u X.g.hi] 6 (.ty 1)) = s2 at *
    simp [go_sem, e2, e3, e4, e8, ga, g5, hkl, htka]
    obtain ⟨f1, f2⟩ := tellS_ok (foldl_ok _ hoks sum0_ok)
    change SkOK (sumSk _) at f1
    change checkS (sumSk _) = true at f2
    rw [hX] at f1 f2
    refine (hone s2 (hcs.new n2) f1 f2).mono ?_
    rintro e s3 ⟨n3, rfl⟩
    rw [hA]
    simp [go_sem, AnsD.cells, e2, e3, e4, e8]
    unfold NewP
    intro d hd
    refine ⟨.ty 1, ?_⟩
    have gc' := n3 _ _ gc
    have hcd : c ≠ d := by rintro rfl; rw [gc'] at hd; cases hd
    have kN := (kk.trans nn).trans n3
    have hcn : st c = none := k1.none hc
    have hdn : st d = none := kN.none hd
    simp [go_sem, e2, e4, e8, hcd, Ne.symm hcd, upd_same, upd_ne, gc']
    refine RetI_cell ?_
    simp [go_sem, e8, hcd, Ne.symm hcd, upd_same, upd_ne, gc']
    first | exact (kN.put hdn).put hcn | exact ((kN.put hdn).put hdn).put hcn
end
end Go.Proofs.YtflbapmjdfnhhaaGreat
set_option linter.unusedVariables false
set_option linter.unusedSimpArgs false
set_option maxRecDepth 100000
set_option maxHeartbeats 1000000
namespace Go.Proofs.YtflbapmjdfnhhaaGreat
open Go.RowKit (Below)
section
variable {W0 : World} {st : Heap}
theorem answersR_spec {ms : List Value} {q : AskD} {v : Value} {l : List RowD} {ev : List Lab → Bool} (hms : ms.length = 5) (hv : RowsAt st v l) (hl : l.length < 2 ^ 30) (hok : ∀ r ∈ l, RowOK r) (hev : ∀ s, New st s → ∀ (lv : Value) (l : List Lab), RegF s 2 lv (labV l) l.length → l.length < 2 ^ 50 → (∀ x ∈ l, x.1.size < 2 ^ 60 ∧ x.2.size < 2 ^ 60) → ICalls Tryz.prog W0 48 #[.agg ms.toArray, lv] s fun e s' => e = .returned (.bool (ev l)) ∧ New s s') :
    ICalls Tryz.prog W0 12 #[.agg (ms ++ q.tail).toArray, v] st fun e st' => ∃ a r w, e = .returned (.func (.func 27) #[] #[ptr a, ptr r]) ∧ New st st' ∧ a ≠ r ∧
    (∃ g, st' a = some (.cells true (ms ++ q.tail) 11 g)) ∧ (∃ g, st' r = some (.cells true [w] 1 g)) ∧ RowsAt st' w (l.filter (keepR ev)) := by
  obtain ⟨ka, hka⟩ : ∃ ka, ms ++ q.tail = ka := ⟨_, rfl⟩
  have hkl : ka.length = 11 := by rw [← hka, List.length_append, hms]; rfl
  have htk : ka.take 5 = ms := by rw [← hka, ← hms]; exact List.take_left
  rw [hka]
  clear hka
  refine enter (args := [_, _]) Tryz.func12 rfl ?_
  simp [Tryz.f12, go_sem]
  unfold NewP
  intro a ha
  refine ⟨.ty 1, ?_⟩
  rw [hkl]
  have h1 := (New.refl st).add (b := a) (o := .cells true ka 11 (.ty 1)) ha
  have ga := upd_same st a (.cells true ka 11 (.ty 1))
  simp [go_sem, htk, hkl]
  generalize upd st a (.cells true ka 11 (.ty 1)) = st1 at *
  refine (meant_spec hms (hv.new h1) hl hok (fun s hs => hev s (h1.trans hs))).mono ?_
  rintro e st2 ⟨w, rfl, hw, h2⟩
  simp [go_sem]
  refine (own_spec hw (by have := List.length_filter_le (keepR ev) l; omega) (fun r hr => hok r (List.mem_filter.1 hr).1)).mono ?_
  rintro e st3 ⟨w', rfl, hw', h3⟩
  obtain ⟨wb, wc, rfl⟩ := hw'.slice
  simp [go_sem]
  unfold NewP
  intro r hr
  refine ⟨.ty 1, ?_⟩
  have h4 := (New.refl st3).add (b := r) (o := .cells true [.slice wb (l.filter (keepR ev)).length wc] 1 (.ty 1)) hr
  have gr := upd_same st3 r (.cells true [.slice wb (l.filter (keepR ev)).length wc] 1 (.ty 1))
  have hne : a ≠ r := by rintro rfl; rw [h3 _ _ (h2 _ _ ga)] at hr; cases hr
  simp [go_sem]
  generalize upd st3 r (.cells true [.slice wb (l.filter (keepR ev)).length wc] 1 (.ty 1)) = st4 at *
  exact ⟨a, r, ⟨rfl, rfl⟩, ((h1.trans h2).trans h3).trans h4, hne, ⟨_, h4 _ _ (h3 _ _ (h2 _ _ ga))⟩, _, ⟨_, gr⟩, hw'.new h4⟩
/-- What an ear is told over rows. -/
def ansOf (q : AskD) (l : List RowD) (step frm : Int) : AnsD := oneM q.kind q.a.toNat q.b.toNat (sumSk (winL l frm (frm + step)))
theorem toldR_spec {a r : Nat} {ms : List Value} {q : AskD} {w : Value} {l : List RowD} {most : Int} {ga gr : Tg} (hms : ms.length = 5) (aok : AskOK q) (ha : st a = some (.cells true (ms ++ q.tail) 11 ga)) (hr : st r = some (.cells true [w] 1 gr)) (hv : RowsAt st w l) (hl : l.length < 2 ^ 30) (hok : ∀ r ∈ l, RowOK r) (hck : ∀ r ∈ l, checkS r.s = true) (hsort : ∀ frm : Int, SortU W0 ((winL l frm (frm + q.step)).foldl addS sum0).S.length) (hmost : 1 ≤ most) (hsmall : windowsN q.start q.step q.n < 2 ^ 30) :
    ICalls Tryz.prog W0 16 #[.func (.func 27) #[] #[ptr a, ptr r], Val.i most] st fun e st' => New st st' ∧ ∃ v, e = .returned v ∧ Vec st' (.ty 1) 4 v (ansL (ansOf q l q.step) q.start q.step (min (windowsN q.start q.step q.n) most.toNat)) (min (windowsN q.start q.step q.n) most.toNat) ∧ Fresh st v :=
  told_gen hms aok.n aok.start ha hr hmost hsmall fun s hs frm h1 h2 h3 => window_spec hms aok (hv.new hs) hl hok hck (hsort frm)
end
end Go.Proofs.YtflbapmjdfnhhaaGreat
