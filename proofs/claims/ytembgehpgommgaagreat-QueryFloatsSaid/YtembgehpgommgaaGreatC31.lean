/- Rows that the laws copy. -/
import Derived.Test.YtembgehpgommgaaGreatC30
set_option linter.unusedVariables false
set_option linter.unusedSimpArgs false
set_option maxRecDepth 100000
set_option maxHeartbeats 1000000
namespace Go.Proofs.YtembgehpgommgaaGreat
open Go.RowKit (Below)
section
variable {W0 : World} {st : Heap}
theorem Labels_copy {v : Value} {l : List Lab} (h : RegF st 2 v (labV l) l.length) (hl : l.length * 32 ≤ 140737488355328) : ICalls Tryz.prog W0 91 #[v] st fun e st' => ∃ w, e = .returned w ∧ Vec st' (.ty 1) 2 w (labV l) l.length ∧ Fresh st w ∧ New st st' := by
  refine enter (args := [_]) Tryz.func91 rfl ?_
  simp [Tryz.f91, go_sem]
  refine AppI_newg (.ty 1) si65 h.src hl ?_
  intro base cap st' hV hF hk
  simp [go_sem]
  exact ⟨hV, hF, hk⟩
theorem Row_copy {cs : List Value} {r : RowD} (h : RowAt st cs r) (ok : RowOK r) : ICalls Tryz.prog W0 56 #[.agg cs.toArray] st fun e st' => ∃ ds, e = .returned (.agg ds.toArray) ∧ RowAt st' ds r ∧ New st st' := by
  obtain ⟨lv0, ss, rfl, hl0, hs0⟩ := h
  obtain ⟨lb, lc, rfl⟩ := hl0.slice
  have hs0' := hs0
  obtain ⟨hv0, kv0, rfl, h1, h2⟩ := hs0
  obtain ⟨hb, hc, rfl⟩ := h1.slice
  obtain ⟨kb, kc, rfl⟩ := h2.slice
  have os := ok.s
  have hlsz := ok.llen
  obtain ⟨s, hs⟩ : ∃ s, r.s = s := ⟨_, rfl⟩
  obtain ⟨at_, hat⟩ : ∃ a, r.at_ = a := ⟨_, rfl⟩
  rw [hs] at h1 h2 os hs0' ⊢
  rw [hat]
  refine enter (args := [_]) Tryz.func56 rfl ?_
  simp [Tryz.f56, go_sem]
  unfold NewP
  intro ta hta
  refine ⟨.ty 1, ?_⟩
  have k1 := (New.refl st).add (b := ta) (o := .cells true [.slice lb r.labels.length lc, Val.i at_, .slice hb s.hist.length hc, .slice kb s.hashes.length kc, Val.u s.g.n, Val.u s.g.nans, Val.u s.g.lo, Val.u s.g.hi] 8 (.ty 1)) hta
  have g1 := upd_same st ta (.cells true [.slice lb r.labels.length lc, Val.i at_, .slice hb s.hist.length hc, .slice kb s.hashes.length kc, Val.u s.g.n, Val.u s.g.nans, Val.u s.g.lo, Val.u s.g.hi] 8 (.ty 1))
  simp [go_sem]
  generalize upd st ta (.cells true [.slice lb r.labels.length lc, Val.i at_, .slice hb s.hist.length hc, .slice kb s.hashes.length kc, Val.u s.g.n, Val.u s.g.nans, Val.u s.g.lo, Val.u s.g.hi] 8 (.ty 1)) = st1 at *
  unfold NewP
  intro tz htz
  refine ⟨.ty 1, ?_⟩
  have k2 := (New.refl st1).add (b := tz) (o := .cells true [.slice none 0 0, Val.i 0, .slice none 0 0, .slice none 0 0, Val.u 0, Val.u 0, Val.u 0, Val.u 0] 8 (.ty 1)) htz
  have gz := upd_same st1 tz (.cells true [.slice none 0 0, Val.i 0, .slice none 0 0, .slice none 0 0, Val.u 0, Val.u 0, Val.u 0, Val.u 0] 8 (.ty 1))
  have nab : ta ≠ tz := by rintro rfl; rw [g1] at htz; cases htz
  have htan : st ta = none := hta
  have htzn : st tz = none := k1.none htz
  have g2 := k2 _ _ g1
  simp [go_sem]
  generalize upd st1 tz (.cells true [.slice none 0 0, Val.i 0, .slice none 0 0, .slice none 0 0, Val.u 0, Val.u 0, Val.u 0, Val.u 0] 8 (.ty 1)) = st2 at *
  have kk := k1.trans k2
  simp [go_sem, g2]
  refine (Labels_copy (hl0.new kk) hlsz).mono ?_
  rintro e st3 ⟨lv, rfl, hlvV, hlvF, k3⟩
  obtain ⟨wb, wc, rfl⟩ := hlvV.slice
  have g3 := k3 _ _ g2
  have gz3 := k3 _ _ gz
  simp [go_sem, g3]
  obtain ⟨s0, hs0⟩ : ∃ s0, upd st3 ta (.cells true [.slice wb r.labels.length wc, Val.i at_, .slice hb s.hist.length hc, .slice kb s.hashes.length kc, Val.u s.g.n, Val.u s.g.nans, Val.u s.g.lo, Val.u s.g.hi] 8 (.ty 1)) = s0 := ⟨_, rfl⟩
  rw [hs0]
  have gt0 : s0 ta = some (.cells true [.slice wb r.labels.length wc, Val.i at_, .slice hb s.hist.length hc, .slice kb s.hashes.length kc, Val.u s.g.n, Val.u s.g.nans, Val.u s.g.lo, Val.u s.g.hi] 8 (.ty 1)) := by rw [← hs0]; exact upd_same _ _ _
  have gz0 : s0 tz = some (.cells true [.slice none 0 0, Val.i 0, .slice none 0 0, .slice none 0 0, Val.u 0, Val.u 0, Val.u 0, Val.u 0] 8 (.ty 1)) := by rw [← hs0, upd_ne _ _ (Ne.symm nab)]; exact gz3
  have k00 : New st s0 := by rw [← hs0]; exact (kk.trans k3).put hta
  have hlvf : ∀ b off n c, Value.slice wb r.labels.length wc = .slice (some ⟨b, off, none⟩) n c → b ≠ ta ∧ b ≠ tz := fun b off n c he => by
    have := hlvF b off n c he
    exact ⟨(by rintro rfl; rw [g2] at this; cases this), (by rintro rfl; rw [gz] at this; cases this)⟩
  have hlv : Vec s0 (.ty 1) 2 (.slice wb r.labels.length wc) (labV r.labels) r.labels.length := by rw [← hs0]; exact hlvV.away fun b off n c he => upd_ne _ _ (hlvf _ _ _ _ he).1
  refine ICalls.mono (by simpa using Sketch_fresh (W0 := W0) (st := s0) (hs0'.new k00) os) ?_
  rintro e st4 ⟨hv, kv, rfl, hhV, hhF, hkV, hkF, k4⟩
  obtain ⟨xhb, xhc, rfl⟩ := hhV.slice
  obtain ⟨xkb, xkc, rfl⟩ := hkV.slice
  have gt4 := k4 _ _ gt0
  have gz4 := k4 _ _ gz0
  simp [go_sem, gt4]
  obtain ⟨s5, hs5⟩ : ∃ s5, upd st4 ta (.cells true [.slice wb r.labels.length wc, Val.i at_, .slice xhb s.hist.length xhc, .slice xkb s.hashes.length xkc, Val.u s.g.n, Val.u s.g.nans, Val.u s.g.lo, Val.u s.g.hi] 8 (.ty 1)) = s5 := ⟨_, rfl⟩
  rw [hs5]
  have gt5 : s5 ta = some (.cells true [.slice wb r.labels.length wc, Val.i at_, .slice xhb s.hist.length xhc, .slice xkb s.hashes.length xkc, Val.u s.g.n, Val.u s.g.nans, Val.u s.g.lo, Val.u s.g.hi] 8 (.ty 1)) := by rw [← hs5]; exact upd_same _ _ _
  have gz5 : s5 tz = some (.cells true [.slice none 0 0, Val.i 0, .slice none 0 0, .slice none 0 0, Val.u 0, Val.u 0, Val.u 0, Val.u 0] 8 (.ty 1)) := by rw [← hs5, upd_ne _ _ (Ne.symm nab)]; exact gz4
  have k05 : New st s5 := by rw [← hs5]; exact (k00.trans k4).put hta
  have a5 : ∀ {v : Value} {size len : Nat} {xs : List Value}, (∀ b off n c, v = .slice (some ⟨b, off, none⟩) n c → b ≠ ta ∧ b ≠ tz) → Vec st4 (.ty 1) size v xs len → Vec s5 (.ty 1) size v xs len := fun hF hV => by
    rw [← hs5]
    exact hV.away fun b off n c he => upd_ne _ _ (hF _ _ _ _ he).1
  have fr : ∀ {v : Value}, Fresh s0 v → ∀ b off n c, v = .slice (some ⟨b, off, none⟩) n c → b ≠ ta ∧ b ≠ tz := fun hF b off n c he => by
    have := hF b off n c he
    exact ⟨(by rintro rfl; rw [gt0] at this; cases this), (by rintro rfl; rw [gz0] at this; cases this)⟩
  simp [go_sem, gt5, gz5, nab, Ne.symm nab, upd_ne]
  refine RetI_cell ?_
  simp [go_sem, gt5, gz5, nab, Ne.symm nab, upd_ne]
  have a6 : ∀ {v : Value} {size len : Nat} {xs : List Value} {o : HObj}, (∀ b off n c, v = .slice (some ⟨b, off, none⟩) n c → b ≠ ta ∧ b ≠ tz) → Vec s5 (.ty 1) size v xs len → RegF (upd s5 tz o) size v xs len := fun hF hV => ⟨.ty 1, (by intro g x r; simp), (hV.away fun b off n c he => upd_ne _ _ (hF _ _ _ _ he).2).reg⟩
  refine ⟨⟨_, [_, _, _, _, _, _], by rw [hat], a6 hlvf (a5 hlvf (hlv.new' k4)), ⟨_, _, by rw [hs], ?_, ?_⟩⟩, k05.put htzn⟩
  · rw [hs]; exact a6 (fr hhF) (a5 (fr hhF) hhV)
  · rw [hs]; exact a6 (fr hkF) (a5 (fr hkF) hkV)
theorem Rows_copy {v : Value} {l : List RowD} (hv : RowsAt st v l) (hl : l.length < 2 ^ 30) (hok : ∀ r ∈ l, RowOK r) : ICalls Tryz.prog W0 22 #[v] st fun e st' => ∃ w, e = .returned w ∧ RowsAt st' w l ∧ New st st' := by
  obtain ⟨tb, tc, rfl⟩ := hv.slice
  refine enter (args := [_]) Tryz.func22 rfl ?_
  simp [Tryz.f22, go_sem]
  refine ⟨fun E st' => New st st' ∧ E 0 = .slice tb l.length tc ∧ ∃ (k : Nat) (w : Value) (ys : List Value), E 4 = Val.i (k : Int) ∧ k ≤ l.length ∧ E 3 = w ∧ Vec st' (.ty 1) 8 w ys k ∧ Fresh st w ∧ RowsIn st' ys (l.take k), fun E _ => match E 4 with | .int _ z => l.length - z.toNat | _ => 0,
    ⟨st, .rfl' _, New.refl _, by simp [go_sem], 0, .slice none 0 0, [], by simp [go_sem], by omega, by simp [go_sem], Vec.nil, Fresh.none, RowsIn.nil⟩, ?_⟩
  rintro E s0 ⟨k0, e0, k, w, ys, e4, hk, e3, hV, hF, hR⟩
  obtain ⟨wb, wc, rfl⟩ := hV.slice
  by_cases hlt : k < l.length
  · have t1 : ((k : Int) < l.length) = True := eq_true (by omega)
    have hwk : IntKind.i64.wrap ((k : Int) + 1) = (k : Int) + 1 := wrap_id (by omega) (by omega)
    obtain ⟨mb, off, cap, rw_, zs, mm, g', cs, hv', hsm, hlen, hcell, hrow⟩ := (hv.new k0).get hlt
    injection hv' with v1 v2 v3
    subst v1; subst v3
    have rok := hok _ (List.getElem_mem hlt)
    have htk : l.take (k + 1) = l.take k ++ [l[k]] := by rw [List.take_add_one, List.getElem?_eq_getElem hlt]; rfl
    generalize l[k] = r at *
    simp [go_sem, e0, e3, e4, t1, hlt, hsm, hlen, hcell]
    refine ICalls.mono (by simpa using Row_copy (W0 := W0) (st := s0) hrow rok) ?_
    rintro e s2 ⟨ds, rfl, hd, n2⟩
    obtain ⟨lb', lc', hb', hc', kb', kc', rfl⟩ := hd.cells
    simp [go_sem, e0, e3, e4]
    unfold NewS
    intro nb hnb
    refine ⟨.ty 1, ?_⟩
    have n3 := (New.refl s2).add (b := nb) (o := .cells true [.slice lb' r.labels.length lc', Val.i r.at_, .slice hb' r.s.hist.length hc', .slice kb' r.s.hashes.length kc', Val.u r.s.g.n, Val.u r.s.g.nans, Val.u r.s.g.lo, Val.u r.s.g.hi] 8 (.ty 1)) hnb
    simp [go_sem, e0, e3, e4]
    have nn := n2.trans n3
    refine AppI_new (st0 := st) (g := .ty 1) (m := 1) (ys := [.slice lb' r.labels.length lc', Val.i r.at_, .slice hb' r.s.hist.length hc', .slice kb' r.s.hashes.length kc', Val.u r.s.g.n, Val.u r.s.g.nans, Val.u r.s.g.lo, Val.u r.s.g.hi]) si51 (hV.new' nn) hF (k0.trans nn) (by simp [srcCells, lkN_mk, upd_same, cellsOf]) (by simp [Value.oneCell']) (by omega) ?_
    intro base cap st4 hV4 hF4 k4 hx4
    simp [go_sem, e0, e3, e4, hwk]
    refine ⟨st4, .rfl' _, ⟨k4, k + 1, by simp, by omega, _, hV4, hF4, ?_⟩, by omega⟩
    rw [htk]
    exact ((hR.new nn).ext hx4).snoc ((hd.new n3).ext hx4)
  · have : k = l.length := by omega
    subst this
    rw [List.take_length] at hR
    simp [go_sem, e0, e3, e4]
    exact ⟨⟨ys, ⟨.ty 1, (by intro g x r; simp), hV.reg⟩, hR⟩, k0⟩
end
end Go.Proofs.YtembgehpgommgaaGreat
