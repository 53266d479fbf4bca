/- Rows that the laws copy. -/
import Derived.Test.YtflbapmjdfnhhaaGreatC34
import Derived.Test.YtflbapmjdfnhhaaGreatC40
import Derived.Test.YtflbapmjdfnhhaaGreatC36
import Derived.Test.YtflbapmjdfnhhaaGreatC43
set_option linter.unusedVariables false
set_option linter.unusedSimpArgs false
set_option maxRecDepth 100000
set_option maxHeartbeats 1000000
namespace Go.Proofs.YtflbapmjdfnhhaaGreat
open Go.RowKit (Below)
section
variable {W0 : World} {st : Heap}
theorem Labels_copy {v : Value} {l : List Lab} (h : RegF st 2 v (labV l) l.length) (hl : l.length * 32 ≤ 140737488355328) : ICalls Tryz.prog W0 44 #[v] st fun e st' => ∃ w, e = .returned w ∧ Vec st' (.ty 1) 2 w (labV l) l.length ∧ Fresh st w ∧ New st st' := by
  refine enter (args := [_]) Tryz.func44 rfl ?_
  simp [Tryz.f44, go_sem]
  refine AppI_newg (.ty 1) si49 h.src hl ?_
  intro base cap st' hV hF hk
  simp [go_sem]
  exact ⟨hV, hF, hk⟩
theorem Row_copy {cs : List Value} {r : RowD} (h : RowAt st cs r) (ok : RowOK r) : ICalls Tryz.prog W0 24 #[.agg cs.toArray] st fun e st' => ∃ ds, e = .returned (.agg ds.toArray) ∧ RowAt st' ds r ∧ New st st' := by
  obtain ⟨lv0, ss, rfl, hl0, hs0⟩ := h
  obtain ⟨lb, lc, rfl⟩ := hl0.slice
  have hs0' := hs0
  obtain ⟨hv0, kv0, rfl, h1, h2⟩ := hs0
  obtain ⟨hb, hc, rfl⟩ := h1.slice
  obtain ⟨kb, kc, rfl⟩ := h2.slice
  have os := ok.s
  have hlsz := ok.llen
  obtain ⟨s, hs⟩ : ∃ s, r.s = s := ⟨_, rfl⟩
  obtain ⟨at_, hat⟩ : ∃ a, r.at_ = a := ⟨_, rfl⟩
  rw [hs] at h1 h2 os hs0' ⊢
  rw [hat]
  refine enter (args := [_]) Tryz.func24 rfl ?_
  simp [Tryz.f24, go_sem]
  unfold NewP
  intro ta hta
  refine ⟨.ty 1, ?_⟩
  have k1 := (New.refl st).add (b := ta) (o := .cells true [.slice lb r.labels.length lc, Val.i at_, .slice hb s.hist.length hc, .slice kb s.hashes.length kc, Val.u s.g.n, Val.u s.g.nans, Val.u s.g.lo, Val.u s.g.hi] 8 (.ty 1)) hta
  have g1 := upd_same st ta (.cells true [.slice lb r.labels.length lc, Val.i at_, .slice hb s.hist.length hc, .slice kb s.hashes.length kc, Val.u s.g.n, Val.u s.g.nans, Val.u s.g.lo, Val.u s.g.hi] 8 (.ty 1))
  simp [go_sem]
  generalize upd st ta (.cells true [.slice lb r.labels.length lc, Val.i at_, .slice hb s.hist.length hc, .slice kb s.hashes.length kc, Val.u s.g.n, Val.u s.g.nans, Val.u s.g.lo, Val.u s.g.hi] 8 (.ty 1)) = st1 at *
  unfold NewP
  intro tz htz
  refine ⟨.ty 1, ?_⟩
  have k2 := (New.refl st1).add (b := tz) (o := .cells true [.slice none 0 0, Val.i 0, .slice none 0 0, .slice none 0 0, Val.u 0, Val.u 0, Val.u 0, Val.u 0] 8 (.ty 1)) htz
  have gz := upd_same st1 tz (.cells true [.slice none 0 0, Val.i 0, .slice none 0 0, .slice none 0 0, Val.u 0, Val.u 0, Val.u 0, Val.u 0] 8 (.ty 1))
  have nab : ta ≠ tz := by rintro rfl; rw [g1] at htz; cases htz
  have htan : st ta = none := hta
  have htzn : st tz = none := k1.none htz
  have g2 := k2 _ _ g1
  simp [go_sem]
  generalize upd st1 tz (.cells true [.slice none 0 0, Val.i 0, .slice none 0 0, .slice none 0 0, Val.u 0, Val.u 0, Val.u 0, Val.u 0] 8 (.ty 1)) = st2 at *
  have kk := k1.trans k2
  simp [go_sem, g2]
  refine (Labels_copy (hl0.new kk) hlsz).mono ?_
  rintro e st3 ⟨lv, rfl, hlvV, hlvF, k3⟩
  obtain ⟨wb, wc, rfl⟩ := hlvV.slice
  have g3 := k3 _ _ g2
  have gz3 := k3 _ _ gz
  simp [go_sem, g3]
  obtain ⟨s0, hs0⟩ : ∃ s0, upd st3 ta (.cells true [.slice wb r.labels.length wc, Val.i at_, .slice hb s.hist.length hc, .slice kb s.hashes.length kc, Val.u s.g.n, Val.u s.g.nans, Val.u s.g.lo, Val.u s.g.hi] 8 (.ty 1)) = s0 := ⟨_, rfl⟩
  rw [hs0]
  have gt0 : s0 ta = some (.cells true [.slice wb r.labels.length wc, Val.i at_, .slice hb s.hist.length hc, .slice kb s.hashes.length kc, Val.u s.g.n, Val.u s.g.nans, Val.u s.g.lo, Val.u s.g.hi] 8 (.ty 1)) := by rw [← hs0]; exact upd_same _ _ _
  have gz0 : s0 tz = some (.cells true [.slice none 0 0, Val.i 0, .slice none 0 0, .slice none 0 0, Val.u 0, Val.u 0, Val.u 0, Val.u 0] 8 (.ty 1)) := by rw [← hs0, upd_ne _ _ (Ne.symm nab)]; exact gz3
  have k00 : New st s0 := by rw [← hs0]; exact (kk.trans k3).put hta
  have hlvf : ∀ b off n c, Value.slice wb r.labels.length wc = .slice (some ⟨b, off, none⟩) n c → b ≠ ta ∧ b ≠ tz := fun b off n c he => by
    have := hlvF b off n c he
    exact ⟨(by rintro rfl; rw [g2] at this; cases this), (by rintro rfl; rw [gz] at this; cases this)⟩
  have hlv : Vec s0 (.ty 1) 2 (.slice wb r.labels.length wc) (labV r.labels) r.labels.length := by rw [← hs0]; exact hlvV.away fun b off n c he => upd_ne _ _ (hlvf _ _ _ _ he).1
  refine ICalls.mono (by simpa using Sketch_fresh (W0 := W0) (st := s0) (hs0'.new k00) os) ?_
  rintro e st4 ⟨hv, kv, rfl, hhV, hhF, hkV, hkF, k4⟩
  obtain ⟨xhb, xhc, rfl⟩ := hhV.slice
  obtain ⟨xkb, xkc, rfl⟩ := hkV.slice
  have gt4 := k4 _ _ gt0
  have gz4 := k4 _ _ gz0
  simp [go_sem, gt4]
  obtain ⟨s5, hs5⟩ : ∃ s5, upd st4 ta (.cells true [.slice wb r.labels.length wc, Val.i at_, .slice xhb s.hist.length xhc, .slice xkb s.hashes.length xkc, Val.u s.g.n, Val.u s.g.nans, Val.u s.g.lo, Val.u s.g.hi] 8 (.ty 1)) = s5 := ⟨_, rfl⟩
  rw [hs5]
  have gt5 : s5 ta = some (.cells true [.slice wb r.labels.length wc, Val.i at_, .slice xhb s.hist.length xhc, .slice xkb s.hashes.length xkc, Val.u s.g.n, Val.u s.g.nans, Val.u s.g.lo, Val.u s.g.hi] 8 (.ty 1)) := by rw [← hs5]; exact upd_same _ _ _
  have gz5 : s5 tz = some (.cells true [.slice none 0 0, Val.i 0, .slice none 0 0, .slice none 0 0, Val.u 0, Val.u 0, Val.u 0, Val.u 0] 8 (.ty 1)) := by rw [← hs5, upd_ne _ _ (Ne.symm nab)]; exact gz4
  have k05 : New st s5 := by rw [← hs5]; exact (k00.trans k4).put hta
  have a5 : ∀ {v : Value} {size len : Nat} {xs : List Value}, (∀ b off n c, v = .slice (some ⟨b, off, none⟩) n c → b ≠ ta ∧ b ≠ tz) → Vec st4 (.ty 1) size v xs len → Vec s5 (.ty 1) size v xs len := fun hF hV => by
    rw [← hs5]
    exact hV.away fun b off n c he => upd_ne _ _ (hF _ _ _ _ he).1
  have fr : ∀ {v : Value}, Fresh s0 v → ∀ b off n c, v = .slice (some ⟨b, off, none⟩) n c → b ≠ ta ∧ b ≠ tz := fun hF b off n c he => by
    have := hF b off n c he
    exact ⟨(by rintro rfl; rw [gt0] at this; cases this), (by rintro rfl; rw [gz0] at this; cases this)⟩
  simp [go_sem, gt5, gz5, nab, Ne.symm nab, upd_ne]
  refine RetI_cell ?_
  simp [go_sem, gt5, gz5, nab, Ne.symm nab, upd_ne]
  have a6 : ∀ {v : Value} {size len : Nat} {xs : List Value} {o : HObj}, (∀ b off n c, v = .slice (some ⟨b, off, none⟩) n c → b ≠ ta ∧ b ≠ tz) → Vec s5 (.ty 1) size v xs len → RegF (upd s5 tz o) size v xs len := fun hF hV => ⟨.ty 1, (by intro g x r; simp), (hV.away fun b off n c he => upd_ne _ _ (hF _ _ _ _ he).2).reg⟩
  refine ⟨⟨_, [_, _, _, _, _, _], by rw [hat], a6 hlvf (a5 hlvf (hlv.new' k4)), ⟨_, _, by rw [hs], ?_, ?_⟩⟩, k05.put htzn⟩
  · rw [hs]; exact a6 (fr hhF) (a5 (fr hhF) hhV)
  · rw [hs]; exact a6 (fr hkF) (a5 (fr hkF) hkV)
theorem Rows_copyV {v : Value} {l : List RowD} (hv : RowsAt st v l) (hl : l.length < 2 ^ 30) (hok : ∀ r ∈ l, RowOK r) : ICalls Tryz.prog W0 11 #[v] st fun e st' => ∃ w ys, e = .returned w ∧ Vec st' (.ty 1) 8 w ys l.length ∧ RowsIn st' ys l ∧ Fresh st w ∧ New st st' := by
  obtain ⟨tb, tc, rfl⟩ := hv.slice
  refine enter (args := [_]) Tryz.func11 rfl ?_
  simp [Tryz.f11, go_sem]
  refine ⟨fun E st' => New st st' ∧ E 0 = .slice tb l.length tc ∧ ∃ (k : Nat) (w : Value) (ys : List Value), E 4 = Val.i (k : Int) ∧ k ≤ l.length ∧ E 3 = w ∧ Vec st' (.ty 1) 8 w ys k ∧ Fresh st w ∧ RowsIn st' ys (l.take k), fun E _ => match E 4 with | .int _ z => l.length - z.toNat | _ => 0,
    ⟨st, .rfl' _, New.refl _, by simp [go_sem], 0, .slice none 0 0, [], by simp [go_sem], by omega, by simp [go_sem], Vec.nil, Fresh.none, RowsIn.nil⟩, ?_⟩
  rintro E s0 ⟨k0, e0, k, w, ys, e4, hk, e3, hV, hF, hR⟩
  obtain ⟨wb, wc, rfl⟩ := hV.slice
  by_cases hlt : k < l.length
  · have t1 : ((k : Int) < l.length) = True := eq_true (by omega)
    have hwk : IntKind.i64.wrap ((k : Int) + 1) = (k : Int) + 1 := wrap_id (by omega) (by omega)
    obtain ⟨mb, off, cap, rw_, zs, mm, g', cs, hv', hsm, hlen, hcell, hrow⟩ := (hv.new k0).get hlt
    injection hv' with v1 v2 v3
    subst v1; subst v3
    have rok := hok _ (List.getElem_mem hlt)
    have htk : l.take (k + 1) = l.take k ++ [l[k]] := by rw [List.take_add_one, List.getElem?_eq_getElem hlt]; rfl
    generalize l[k] = r at *
    simp [go_sem, e0, e3, e4, t1, hlt, hsm, hlen, hcell]
    refine ICalls.mono (by simpa using Row_copy (W0 := W0) (st := s0) hrow rok) ?_
    rintro e s2 ⟨ds, rfl, hd, n2⟩
    obtain ⟨lb', lc', hb', hc', kb', kc', rfl⟩ := hd.cells
    simp [go_sem, e0, e3, e4]
    unfold NewS
    intro nb hnb
    refine ⟨.ty 1, ?_⟩
    have n3 := (New.refl s2).add (b := nb) (o := .cells true [.slice lb' r.labels.length lc', Val.i r.at_, .slice hb' r.s.hist.length hc', .slice kb' r.s.hashes.length kc', Val.u r.s.g.n, Val.u r.s.g.nans, Val.u r.s.g.lo, Val.u r.s.g.hi] 8 (.ty 1)) hnb
    simp [go_sem, e0, e3, e4]
    have nn := n2.trans n3
    refine AppI_new (st0 := st) (g := .ty 1) (m := 1) (ys := [.slice lb' r.labels.length lc', Val.i r.at_, .slice hb' r.s.hist.length hc', .slice kb' r.s.hashes.length kc', Val.u r.s.g.n, Val.u r.s.g.nans, Val.u r.s.g.lo, Val.u r.s.g.hi]) si29 (hV.new' nn) hF (k0.trans nn) (by simp [srcCells, lkN_mk, upd_same, cellsOf]) (by simp [Value.oneCell']) (by omega) ?_
    intro base cap st4 hV4 hF4 k4 hx4
    simp [go_sem, e0, e3, e4, hwk]
    refine ⟨st4, .rfl' _, ⟨k4, k + 1, by simp, by omega, _, hV4, hF4, ?_⟩, by omega⟩
    rw [htk]
    exact ((hR.new nn).ext hx4).snoc ((hd.new n3).ext hx4)
  · have : k = l.length := by omega
    subst this
    rw [List.take_length] at hR
    simp [go_sem, e0, e3, e4]
    exact ⟨ys, hV, hR, hF, k0⟩
theorem Rows_copy {v : Value} {l : List RowD} (hv : RowsAt st v l) (hl : l.length < 2 ^ 30) (hok : ∀ r ∈ l, RowOK r) : ICalls Tryz.prog W0 11 #[v] st fun e st' => ∃ w, e = .returned w ∧ RowsAt st' w l ∧ New st st' := by
  refine (Rows_copyV hv hl hok).mono ?_
  rintro e st' ⟨w, ys, rfl, hV, hR, hF, hk⟩
  exact ⟨w, rfl, ⟨ys, ⟨.ty 1, (by intro g x r; simp), hV.reg⟩, hR⟩, hk⟩
end
end Go.Proofs.YtflbapmjdfnhhaaGreat
set_option linter.unusedVariables false
set_option linter.unusedSimpArgs false
set_option maxRecDepth 100000
set_option maxHeartbeats 1000000
namespace Go.Proofs.YtflbapmjdfnhhaaGreat
open Go.RowKit (Below)
/-- The answers' iterator. -/
def AnsFn (st : Heap) (v : Value) (ms : List Value) (q : AskD) (L : List RowD) : Prop := ∃ a r w, v = .func (.func 27) #[] #[ptr a, ptr r] ∧ a ≠ r ∧ (∃ g, st a = some (.cells true (ms ++ q.tail) 11 g)) ∧ (∃ g, st r = some (.cells true [w] 1 g)) ∧ RowsAt st w L
theorem AnsFn.new {st st' : Heap} {v : Value} {ms : List Value} {q : AskD} {L : List RowD} (h : AnsFn st v ms q L) (hk : New st st') : AnsFn st' v ms q L := by
  obtain ⟨a, r, w, h1, h2, ⟨g, h3⟩, ⟨g', h4⟩, h5⟩ := h
  exact ⟨a, r, w, h1, h2, ⟨g, hk _ _ h3⟩, ⟨g', hk _ _ h4⟩, h5.new hk⟩
/-- So many answers. -/
def ToldAt (st : Heap) (v : Value) (f : Int → AnsD) (start step : Int) (n : Nat) : Prop := Vec st (.ty 1) 4 v (ansL f start step n) n
theorem ToldAt.new {st st' : Heap} {v : Value} {f : Int → AnsD} {start step : Int} {n : Nat} (h : ToldAt st v f start step n) (hk : New st st') : ToldAt st' v f start step n := Vec.new' h hk
theorem ToldAt.slice {st : Heap} {v : Value} {f : Int → AnsD} {start step : Int} {n : Nat} (h : ToldAt st v f start step n) : ∃ b c, v = .slice b n c := Vec.slice h
theorem ansL_get (f : Int → AnsD) (start step : Int) : ∀ (n i : Nat), i < n → ((ansL f start step n).drop (i * 4)).take 4 = (f (start + i * step)).cells (start + i * step)
  | 0, i, h => by omega
  | n + 1, i, h => by
    have hl := ansL_length f start step n
    rw [ansL_succ]
    by_cases c : i < n
    · rw [List.drop_append_of_le_length (by omega), List.take_append_of_le_length (by rw [List.length_drop]; omega)]
      exact ansL_get f start step n i c
    · have : i = n := by omega
      subst this
      rw [← hl, List.drop_left, List.take_of_length_le (by simp [AnsD.cells])]
/-- An answer, where it lies. -/
theorem ToldAt.get {st : Heap} {v : Value} {f : Int → AnsD} {start step : Int} {n i : Nat} (h : ToldAt st v f start step n) (hi : i < n) : ∃ b c m, v = .slice (some ⟨b, 0, none⟩) n c ∧ st b = some (.cells true (ansL f start step n) m (.ty 1)) ∧ i * 4 + 4 ≤ (ansL f start step n).length ∧ ((ansL f start step n).drop (i * 4)).take 4 = (f (start + i * step)).cells (start + i * step) ∧
    (ansL f start step n)[i * 4]? = some (Val.i (start + i * step)) ∧ (ansL f start step n)[i * 4 + 1]? = some (.bool (f (start + i * step)).has) ∧ (ansL f start step n)[i * 4 + 2]? = some (Val.u (f (start + i * step)).val) ∧ (ansL f start step n)[i * 4 + 3]? = some (Val.i (f (start + i * step)).err) := by
  obtain ⟨hvl, vb, vc, rfl, hvc, hvv⟩ := h
  have hl := ansL_length f start step n
  have hg := ansL_get f start step n i hi
  have hc : ∀ j, j < 4 → (ansL f start step n)[i * 4 + j]? = ((f (start + i * step)).cells (start + i * step))[j]? := fun j hj => by
    rw [← hg, List.getElem?_take, if_pos hj, List.getElem?_drop]
  rcases hvv with ⟨b, nn, rfl, hb, _⟩ | ⟨rfl, rfl⟩
  · exact ⟨b, vc, nn, rfl, hb, by omega, hg, hc 0 (by omega), hc 1 (by omega), hc 2 (by omega), hc 3 (by omega)⟩
  · omega
/-- Rows, cut. -/
theorem RowsAt.take {st : Heap} {a a' : Option Addr} {n cap cap' k : Nat} {l : List RowD} (h : RowsAt st (.slice a n cap) l) (hn : n = l.length) (hk : k ≤ l.length) (ha : 0 < k → a' = a) (hc : k ≤ cap') : RowsAt st (.slice a' k cap') (l.take k) := by
  obtain ⟨ys, ⟨g, hg, hl, base, cap0, hv, hcap, hr⟩, hin⟩ := h
  injection hv with v1 v2 v3
  subst v1
  have hkl : (l.take k).length = k := by rw [List.length_take]; omega
  have hyl : ys.length = l.length * 8 := hl
  refine ⟨ys.take (k * 8), ⟨g, hg, by rw [List.length_take, hkl]; omega, a', cap', by rw [hkl], by rw [hkl]; exact hc, ?_⟩, by rw [List.length_take, hkl]; omega, fun i r hi => ?_⟩
  · rw [hkl]
    by_cases h0 : k = 0
    · exact .inl h0
    · rcases hr with hr | ⟨b, off, rw_, zs, m, h1, h2, h3, h4⟩
      · omega
      · exact .inr ⟨b, off, rw_, zs, m, (ha (by omega)).trans h1, h2, (List.take_prefix _ _).trans h3, h4⟩
  · have hik : i < k := by
      have := (List.getElem?_eq_some_iff.1 hi).1
      omega
    rw [List.getElem?_take, if_pos hik] at hi
    have := hin.2 i r hi
    rw [List.drop_take, List.take_take, Nat.min_eq_left (by omega)]
    exact this
theorem RowsAt.drop {st : Heap} {a a' : Option Addr} {n cap cap' k m : Nat} {l : List RowD} (h : RowsAt st (.slice a n cap) l) (hn : n = l.length) (hk : k ≤ l.length) (hm : m = l.length - k) (ha : k < l.length → a' = a.map (·.add (k * 8))) (hc : m ≤ cap') : RowsAt st (.slice a' m cap') (l.drop k) := by
  obtain ⟨ys, ⟨g, hg, hl, base, cap0, hv, hcap, hr⟩, hin⟩ := h
  injection hv with v1 v2 v3
  subst v1
  have hkl : (l.drop k).length = m := by rw [List.length_drop]; omega
  have hyl : ys.length = l.length * 8 := hl
  have hdl : (ys.drop (k * 8)).length = (l.drop k).length * 8 := by rw [List.length_drop, hkl, hyl, hm]; clear hr hin hl; omega
  refine ⟨ys.drop (k * 8), ⟨g, hg, hdl, a', cap', by rw [hkl], by rw [hkl]; exact hc, ?_⟩, hdl, fun i r hi => ?_⟩
  · rw [hkl]
    by_cases h0 : m = 0
    · exact .inl h0
    · rcases hr with hr | ⟨b, off, rw_, zs, mm, h1, h2, h3, h4⟩
      · omega
      · refine .inr ⟨b, off + k * 8, rw_, zs, mm, ?_, h2, ?_, ?_⟩
        · rw [ha (by omega), h1]; simp [add_mk]
        · rw [← List.drop_drop]
          obtain ⟨t, ht⟩ := h3
          rw [← ht, List.drop_append_of_le_length (by omega)]
          exact List.prefix_append _ _
        · obtain ⟨t, ht⟩ := h3
          have := congrArg List.length ht
          simp at this
          omega
  · rw [List.getElem?_drop] at hi
    have := hin.2 (k + i) r hi
    rw [List.drop_drop]
    rw [show k * 8 + i * 8 = (k + i) * 8 by omega]
    exact this
section
variable {W0 : World} {st : Heap}
theorem answers_made {ms : List Value} {q : AskD} {v : Value} {l : List RowD} {d : Nat} (hm : MatAt st ms q.m) (hn : NiceM d q.m) (hc : checkM q.m = true) (hv : RowsAt st v l) (hl : l.length < 2 ^ 30) (hok : ∀ r ∈ l, RowOK r) :
    ICalls Tryz.prog W0 12 #[.agg (ms ++ q.tail).toArray, v] st fun e st' => ∃ fv, e = .returned fv ∧ AnsFn st' fv ms q (l.filter (keepR (evalM q.m))) ∧ New st st' := by
  refine (answersR_spec (W0 := W0) (ms := ms) (q := q) (ev := evalM q.m) hm.length hv hl hok (fun s hs lv l h1 h2 h3 => Eval_spec hn hc (hm.new hs) h1 h2)).mono ?_
  rintro e st' ⟨a, r, w, rfl, h1, h2, h3, h4, h5⟩
  exact ⟨_, rfl, ⟨a, r, w, rfl, h2, h3, h4, h5⟩, h1⟩
theorem told_made {ms : List Value} {q : AskD} {fv : Value} {L : List RowD} {most : Int} (hf : AnsFn st fv ms q L) (hms : ms.length = 5) (aok : AskOK q) (hl : L.length < 2 ^ 30) (hok : ∀ r ∈ L, RowOK r) (hck : ∀ r ∈ L, checkS r.s = true) (hmost : 1 ≤ most) (hsmall : windowsN q.start q.step q.n < 2 ^ 30) :
    ICalls Tryz.prog W0 16 #[fv, Val.i most] st fun e st' => ∃ v, e = .returned v ∧ ToldAt st' v (ansOf q L q.step) q.start q.step (min (windowsN q.start q.step q.n) most.toNat) ∧ New st st' := by
  obtain ⟨a, r, w, rfl, hne, ⟨g, ha⟩, ⟨g', hr⟩, hw⟩ := hf
  refine (toldR_spec hms aok ha hr hw hl hok hck (fun frm => sortU_all _ ?_) hmost hsmall).mono ?_
  · have hx := foldl_ok (winL L frm (frm + q.step)) (x := sum0) (fun s hs => by
      obtain ⟨r, hr, rfl⟩ := List.mem_map.1 hs
      exact ⟨(hok r (List.mem_filter.1 hr).1).s, hck r (List.mem_filter.1 hr).1⟩) sum0_ok
    have := hx.len
    omega
  · rintro e st' ⟨h1, v, rfl, h2, h3⟩
    exact ⟨v, rfl, h2, h1⟩
end
end Go.Proofs.YtflbapmjdfnhhaaGreat
