/- The document's merges of sketches. -/
import Derived.Test.YtflbapmjdfnhhaaGreatC36
import Derived.Test.YtflbapmjdfnhhaaGreatC25
import Derived.Test.YtflbapmjdfnhhaaGreatC37
import Derived.Test.YtflbapmjdfnhhaaGreatC31
set_option linter.unusedVariables false
set_option linter.unusedSimpArgs false
set_option maxRecDepth 100000
set_option maxHeartbeats 4000000
namespace Go.Proofs.YtflbapmjdfnhhaaGreat
open Go.RowKit (Below)
theorem bkV_app (a b : List (Int × Nat)) : bkV (a ++ b) = bkV a ++ bkV b := by simp [bkV]
theorem cellsU_app (a b : List Nat) : cellsU (a ++ b) = cellsU a ++ cellsU b := by simp [cellsU]
section
variable {W0 : World} {st : Heap}
theorem refHistMerge_spec {va vb : Value} {a b : List (Int × Nat)} (ha : RegF st 2 va (bkV a) a.length) (hb : RegF st 2 vb (bkV b) b.length) (hla : a.length < 2 ^ 30) (hlb : b.length < 2 ^ 30) (hba : ∀ x ∈ a, x.2 < 2 ^ 64) (hbb : ∀ x ∈ b, x.2 < 2 ^ 64) :
    ICalls Tryz.prog W0 56 #[va, vb] st fun e st' => ∃ w, e = .returned w ∧ RegF st' 2 w (bkV (mhB a b)) (mhB a b).length ∧ Fresh st w ∧ New st st' := by
  obtain ⟨ab, ac, rfl⟩ := ha.slice
  obtain ⟨bb, bc, rfl⟩ := hb.slice
  obtain ⟨R, hR⟩ : ∃ R, mhB a b = R := ⟨_, rfl⟩
  rw [hR]
  refine enter (args := [_, _]) Tryz.func56 rfl ?_
  simp [Tryz.f56, go_sem]
  refine ⟨fun E st' => New st st' ∧ E 0 = .slice ab a.length ac ∧ E 1 = .slice bb b.length bc ∧ ∃ (i k : Nat) (w : Value), E 6 = Val.i (i : Int) ∧ E 7 = Val.i (k : Int) ∧ E 5 = w ∧ i ≤ a.length ∧ k ≤ b.length ∧ ∃ out : List (Int × Nat), Vec st' (.ty 1) 2 w (bkV out) out.length ∧ Fresh st w ∧ out ++ mhB (a.drop i) (b.drop k) = R ∧ out.length ≤ i + k,
    fun E _ => match E 6, E 7 with | .int _ i, .int _ k => (a.length + b.length) - (i.toNat + k.toNat) | _, _ => 0,
    ⟨st, .rfl' _, New.refl _, by simp [go_sem], by simp [go_sem], 0, 0, .slice none 0 0, by simp [go_sem], by simp [go_sem], by simp [go_sem], by omega, by omega, [], Vec.nil, Fresh.none, by simpa using hR, by simp⟩, ?_⟩
  rintro E s0 ⟨k0, e0, e1, i, k, w, e6, e7, e5, hi, hk, out, hV, hF, hout, hol⟩
  obtain ⟨wb, wc, rfl⟩ := hV.slice
  have hwi : IntKind.i64.wrap ((i : Int) + 1) = ((i + 1 : Nat) : Int) := by rw [wrap_id (by omega) (by omega)]; omega
  have hwk : IntKind.i64.wrap ((k : Int) + 1) = ((k + 1 : Nat) : Int) := by rw [wrap_id (by omega) (by omega)]; omega
  by_cases hia : i < a.length
  · have t1 : ((i : Int) < a.length) = True := eq_true (by omega)
    have t1' : ((a.length : Int) ≤ i) = False := eq_false (by omega)
    by_cases hkb : k < b.length
    · have t2 : ((k : Int) < b.length) = True := eq_true (by omega)
      have t2' : ((b.length : Int) ≤ k) = False := eq_false (by omega)
      obtain ⟨amb, aoff, acap, arw, azs, amm, ag, ahv, ahs, aget⟩ := rows_get (ha.new k0) (by omega)
      injection ahv with v1 v2 v3
      subst v1; subst v3
      obtain ⟨alen, acell, acc⟩ := aget i (by omega)
      have ahx : a[i]? = some a[i] := List.getElem?_eq_getElem (by omega)
      rw [bkV_get a i _ ahx] at acell acc
      have a0 := acc 0 (by omega)
      have a1 := acc 1 (by omega)
      simp only [List.getElem?_cons_succ, List.getElem?_cons_zero, Nat.add_zero] at a0 a1
      have ad : a.drop i = a[i] :: a.drop (i + 1) := List.drop_eq_getElem_cons (by omega)
      have abd := hba _ (List.getElem_mem (show i < a.length by omega))
      obtain ⟨bmb, boff, bcap, brw, bzs, bmm, bg, bhv, bhs, bget⟩ := rows_get (hb.new k0) (by omega)
      injection bhv with v1 v2 v3
      subst v1; subst v3
      obtain ⟨blen, bcell, bcc⟩ := bget k (by omega)
      have bhx : b[k]? = some b[k] := List.getElem?_eq_getElem (by omega)
      rw [bkV_get b k _ bhx] at bcell bcc
      have b0 := bcc 0 (by omega)
      have b1 := bcc 1 (by omega)
      simp only [List.getElem?_cons_succ, List.getElem?_cons_zero, Nat.add_zero] at b0 b1
      have bd : b.drop k = b[k] :: b.drop (k + 1) := List.drop_eq_getElem_cons (by omega)
      have bbd := hbb _ (List.getElem_mem (show k < b.length by omega))
      generalize a[i] = x at *
      generalize b[k] = y at *
      by_cases c1 : x.1 < y.1
      · have q1 : (x.1 < y.1) = True := eq_true (by omega)
        simp [go_sem, e0, e1, e5, e6, e7, t1, t1', hia, t2, t2', hkb, ahs, alen, a0, a1, acell, bhs, blen, b0, b1, bcell]
        refine draw [0, 1, 2, 3, 4, 5, 6, 7, 8, 9, 10, 11, 12, 13, 15, 16, 17, 18, 14, 19, 20, 21, 22, 23] (by kernel_rfl) ?_
        simp [go_sem, e0, e1, e5, e6, e7, t1, t1', hia, t2, t2', hkb, ahs, alen, a0, a1, acell, bhs, blen, b0, b1, bcell, q1, c1]
        unfold NewS
        intro nb hnb
        refine ⟨.ty 1, ?_⟩
        have n1 := (New.refl s0).add (b := nb) (o := .cells true [Val.i x.1, Val.u (x.2 : Int)] 2 (.ty 1)) hnb
        simp [go_sem, e0, e1, e5, e6, e7]
        refine AppI_new (st0 := st) (g := .ty 1) (m := 1) (ys := [Val.i x.1, Val.u (x.2 : Int)]) si50 (hV.new' n1) hF (k0.trans n1) (by simp [srcCells, lkN_mk, upd_same, cellsOf]) (by simp [Value.oneCell']) (by omega) ?_
        intro base cap st4 hV4 hF4 k4 hx4
        simp [go_sem, e0, e1, e5, e6, e7, hwi]
        refine ⟨st4, .rfl' _, ⟨k4, i + 1, by simp, k, rfl, by omega, by omega, out ++ [x], ?_, ?_, ?_, by simp; omega⟩, by omega⟩
        · have e : bkV (out ++ [x]) = bkV out ++ [Val.i x.1, Val.u (x.2 : Int)] := by rw [bkV_app]; rfl
          rw [e, List.length_append]
          exact hV4
        · exact hF4
        · rw [← hout, List.append_assoc, List.singleton_append]
          rw [ad, bd, mhB, if_pos c1]
      have q1 : (x.1 < y.1) = False := eq_false (by omega)
      by_cases c2 : y.1 < x.1
      · have q2 : (y.1 < x.1) = True := eq_true (by omega)
        simp [go_sem, e0, e1, e5, e6, e7, t1, t1', hia, t2, t2', hkb, ahs, alen, a0, a1, acell, bhs, blen, b0, b1, bcell]
        refine draw [0, 1, 2, 3, 4, 5, 6, 7, 8, 9, 10, 11, 12, 13, 15, 16, 17, 18, 14, 19, 20, 21, 22, 23] (by kernel_rfl) ?_
        simp [go_sem, e0, e1, e5, e6, e7, t1, t1', hia, t2, t2', hkb, ahs, alen, a0, a1, acell, bhs, blen, b0, b1, bcell, q1, c1]
        refine draw [0, 1, 2, 3, 4, 5, 6, 7, 8, 10, 11, 12, 13, 9, 14, 15, 16, 17] (by kernel_rfl) ?_
        simp [go_sem, e0, e1, e5, e6, e7, t1, t1', hia, t2, t2', hkb, ahs, alen, a0, a1, acell, bhs, blen, b0, b1, bcell, q1, c1, q2, c2]
        unfold NewS
        intro nb hnb
        refine ⟨.ty 1, ?_⟩
        have n1 := (New.refl s0).add (b := nb) (o := .cells true [Val.i y.1, Val.u (y.2 : Int)] 2 (.ty 1)) hnb
        simp [go_sem, e0, e1, e5, e6, e7]
        refine AppI_new (st0 := st) (g := .ty 1) (m := 1) (ys := [Val.i y.1, Val.u (y.2 : Int)]) si50 (hV.new' n1) hF (k0.trans n1) (by simp [srcCells, lkN_mk, upd_same, cellsOf]) (by simp [Value.oneCell']) (by omega) ?_
        intro base cap st4 hV4 hF4 k4 hx4
        simp [go_sem, e0, e1, e5, e6, e7, hwk]
        refine ⟨st4, .rfl' _, ⟨k4, i, rfl, k + 1, by simp, by omega, by omega, out ++ [y], ?_, ?_, ?_, by simp; omega⟩, by omega⟩
        · have e : bkV (out ++ [y]) = bkV out ++ [Val.i y.1, Val.u (y.2 : Int)] := by rw [bkV_app]; rfl
          rw [e, List.length_append]
          exact hV4
        · exact hF4
        · rw [← hout, List.append_assoc, List.singleton_append]
          rw [ad, bd, mhB, if_neg c1, if_pos c2]
      have q2 : (y.1 < x.1) = False := eq_false (by omega)
      simp [go_sem, e0, e1, e5, e6, e7, t1, t1', hia, t2, t2', hkb, ahs, alen, a0, a1, acell, bhs, blen, b0, b1, bcell]
      refine draw [0, 1, 2, 3, 4, 5, 6, 7, 8, 9, 10, 11, 12, 13, 15, 16, 17, 18, 14, 19, 20, 21, 22, 23] (by kernel_rfl) ?_
      simp [go_sem, e0, e1, e5, e6, e7, t1, t1', hia, t2, t2', hkb, ahs, alen, a0, a1, acell, bhs, blen, b0, b1, bcell, q1, c1]
      refine draw [0, 1, 2, 3, 4, 5, 6, 7, 8, 10, 11, 12, 13, 9, 14, 15, 16, 17] (by kernel_rfl) ?_
      simp [go_sem, e0, e1, e5, e6, e7, t1, t1', hia, t2, t2', hkb, ahs, alen, a0, a1, acell, bhs, blen, b0, b1, bcell, q1, c1, q2, c2]
      refine drawT 19 [0, 1, 2, 3, 4, 5, 6, 7, 8, 9, 10, 11, 12, 13, 14, 15, 16, 17, 18, 19, 20] (fun ix v st' => match ix with
        | 0 => v = .slice wb out.length wc
        | 1 | 6 => v = .slice (some ⟨amb, aoff, none⟩) a.length ac
        | 2 | 7 => v = Val.i (i : Int)
        | 3 | 4 | 8 => v = .pointer (some ⟨amb, aoff + i * 2, none⟩)
        | 5 => v = Val.i x.1
        | 9 => v = .pointer (some ⟨amb, aoff + i * 2 + 1, none⟩)
        | 10 => v = Val.u (x.2 : Int)
        | 11 => v = .slice (some ⟨bmb, boff, none⟩) b.length bc
        | 12 => v = Val.i (k : Int)
        | 13 => v = .pointer (some ⟨bmb, boff + k * 2, none⟩)
        | 14 => v = .pointer (some ⟨bmb, boff + k * 2 + 1, none⟩)
        | 15 => v = Val.u (y.2 : Int)
        | 16 => v = Val.u ((satAdd x.2 y.2 : Nat) : Int)
        | 17 => v = .agg #[Val.i x.1, Val.u ((satAdd x.2 y.2 : Nat) : Int)]
        | 18 => ∃ nb, v = .slice (some ⟨nb, 0, none⟩) 1 1 ∧ st' nb = some (.cells true [Val.i x.1, Val.u ((satAdd x.2 y.2 : Nat) : Int)] 2 (.ty 1))
        | _ => True) (by kernel_rfl) (by kernel_rfl) (by kernel_rfl) (by decide) ?_ ?_ ?_ ?_
      · intro ix v sta stb hNw h
        match ix with
        | 18 => obtain ⟨nb, h1, h2⟩ := h; exact ⟨nb, h1, hNw _ _ h2⟩
        | 0 => exact h
        | 1 => exact h
        | 2 => exact h
        | 3 => exact h
        | 4 => exact h
        | 5 => exact h
        | 6 => exact h
        | 7 => exact h
        | 8 => exact h
        | 9 => exact h
        | 10 => exact h
        | 11 => exact h
        | 12 => exact h
        | 13 => exact h
        | 14 => exact h
        | 15 => exact h
        | 16 => exact h
        | 17 => exact h
        | ix + 19 => exact h
      · intro ix oo hin hi E sta hNw hd hE
        have as1 := hNw _ _ ahs
        have bs1 := hNw _ _ bhs
        match ix with
        | 0 =>
          have x5 := hE 5 (oldT_spec (by kernel_rfl))
          injection hi with hi; subst hi
          simp [wantedE, go_sem, x5, e5, as1, bs1, alen, blen, a0, a1, b0, b1, hia, hkb]
          exact New.refl _
        | 1 =>
          have x0 := hE 0 (oldT_spec (by kernel_rfl))
          injection hi with hi; subst hi
          simp [wantedE, go_sem, x0, e0, as1, bs1, alen, blen, a0, a1, b0, b1, hia, hkb]
          exact New.refl _
        | 2 =>
          have x6 := hE 6 (oldT_spec (by kernel_rfl))
          injection hi with hi; subst hi
          simp [wantedE, go_sem, x6, e6, as1, bs1, alen, blen, a0, a1, b0, b1, hia, hkb]
          exact New.refl _
        | 3 =>
          injection hi with hi; subst hi
          have d1 := hd { on := 1, ground := .data } (by simp) (by decide) _ _ rfl rfl
          have d2 := hd { on := 2, ground := .data } (by simp) (by decide) _ _ rfl rfl
          simp only at d1 d2
          simp [wantedE, go_sem, d1, d2, as1, bs1, alen, blen, a0, a1, b0, b1, hia, hkb]
          exact New.refl _
        | 4 =>
          injection hi with hi; subst hi
          have d3 := hd { on := 3, ground := .data } (by simp) (by decide) _ _ rfl rfl
          simp only at d3
          simp [wantedE, go_sem, d3, as1, bs1, alen, blen, a0, a1, b0, b1, hia, hkb]
          exact New.refl _
        | 5 =>
          injection hi with hi; subst hi
          have d4 := hd { on := 4, ground := .data } (by simp) (by decide) _ _ rfl rfl
          simp only at d4
          simp [wantedE, go_sem, d4, as1, bs1, alen, blen, a0, a1, b0, b1, hia, hkb]
          exact New.refl _
        | 6 =>
          have x0 := hE 0 (oldT_spec (by kernel_rfl))
          injection hi with hi; subst hi
          simp [wantedE, go_sem, x0, e0, as1, bs1, alen, blen, a0, a1, b0, b1, hia, hkb]
          exact New.refl _
        | 7 =>
          have x6 := hE 6 (oldT_spec (by kernel_rfl))
          injection hi with hi; subst hi
          simp [wantedE, go_sem, x6, e6, as1, bs1, alen, blen, a0, a1, b0, b1, hia, hkb]
          exact New.refl _
        | 8 =>
          injection hi with hi; subst hi
          have d6 := hd { on := 6, ground := .data } (by simp) (by decide) _ _ rfl rfl
          have d7 := hd { on := 7, ground := .data } (by simp) (by decide) _ _ rfl rfl
          simp only at d6 d7
          simp [wantedE, go_sem, d6, d7, as1, bs1, alen, blen, a0, a1, b0, b1, hia, hkb]
          exact New.refl _
        | 9 =>
          injection hi with hi; subst hi
          have d8 := hd { on := 8, ground := .data } (by simp) (by decide) _ _ rfl rfl
          simp only at d8
          simp [wantedE, go_sem, d8, as1, bs1, alen, blen, a0, a1, b0, b1, hia, hkb]
          exact New.refl _
        | 10 =>
          injection hi with hi; subst hi
          have d9 := hd { on := 9, ground := .data } (by simp) (by decide) _ _ rfl rfl
          simp only at d9
          simp [wantedE, go_sem, d9, as1, bs1, alen, blen, a0, a1, b0, b1, hia, hkb]
          exact New.refl _
        | 11 =>
          have x1 := hE 1 (oldT_spec (by kernel_rfl))
          injection hi with hi; subst hi
          simp [wantedE, go_sem, x1, e1, as1, bs1, alen, blen, a0, a1, b0, b1, hia, hkb]
          exact New.refl _
        | 12 =>
          have x7 := hE 7 (oldT_spec (by kernel_rfl))
          injection hi with hi; subst hi
          simp [wantedE, go_sem, x7, e7, as1, bs1, alen, blen, a0, a1, b0, b1, hia, hkb]
          exact New.refl _
        | 13 =>
          injection hi with hi; subst hi
          have d11 := hd { on := 11, ground := .data } (by simp) (by decide) _ _ rfl rfl
          have d12 := hd { on := 12, ground := .data } (by simp) (by decide) _ _ rfl rfl
          simp only at d11 d12
          simp [wantedE, go_sem, d11, d12, as1, bs1, alen, blen, a0, a1, b0, b1, hia, hkb]
          exact New.refl _
        | 14 =>
          injection hi with hi; subst hi
          have d13 := hd { on := 13, ground := .data } (by simp) (by decide) _ _ rfl rfl
          simp only at d13
          simp [wantedE, go_sem, d13, as1, bs1, alen, blen, a0, a1, b0, b1, hia, hkb]
          exact New.refl _
        | 15 =>
          injection hi with hi; subst hi
          have d14 := hd { on := 14, ground := .data } (by simp) (by decide) _ _ rfl rfl
          simp only at d14
          simp [wantedE, go_sem, d14, as1, bs1, alen, blen, a0, a1, b0, b1, hia, hkb]
          exact New.refl _
        | 16 =>
          injection hi with hi; subst hi
          have d10 := hd { on := 10, ground := .data } (by simp) (by decide) _ _ rfl rfl
          have d15 := hd { on := 15, ground := .data } (by simp) (by decide) _ _ rfl rfl
          simp only at d10 d15
          simp [wantedE, go_sem, d10, d15, as1, bs1, alen, blen, a0, a1, b0, b1, hia, hkb]
          refine (refAdd_spec abd bbd).mono ?_
          rintro e s5 ⟨rfl, rfl⟩
          simp [go_sem]
          exact New.refl _
        | 17 =>
          injection hi with hi; subst hi
          have d5 := hd { on := 5, ground := .data } (by simp) (by decide) _ _ rfl rfl
          have d16 := hd { on := 16, ground := .data } (by simp) (by decide) _ _ rfl rfl
          simp only at d5 d16
          simp [wantedE, go_sem, d5, d16, as1, bs1, alen, blen, a0, a1, b0, b1, hia, hkb]
          exact New.refl _
        | 18 =>
          injection hi with hi; subst hi
          have d17 := hd { on := 17, ground := .data } (by simp) (by decide) _ _ rfl rfl
          simp only at d17
          simp [wantedE, go_sem, d17, as1, bs1, alen, blen, a0, a1, b0, b1, hia, hkb]
          unfold NewS
          intro nb hnb
          refine ⟨.ty 1, ?_⟩
          exact ⟨(New.refl _).add hnb, nb, rfl, upd_same _ _ _⟩
        | ix + 19 => omega
      · intro E sta hNw hd hE
        obtain ⟨nb, h18, hn18⟩ := hd 18 _ 36 (by omega) rfl rfl
        have d0 := hd 0 _ 18 (by omega) rfl rfl
        simp only at d0
        have y0 : E 0 = .slice (some ⟨amb, aoff, none⟩) a.length ac := by rw [hE 0 (noT_spec (by kernel_rfl))]; simp [go_sem, e0]
        have y1 : E 1 = .slice (some ⟨bmb, boff, none⟩) b.length bc := by rw [hE 1 (noT_spec (by kernel_rfl))]; simp [go_sem, e1]
        have y6 : E 6 = Val.i (i : Int) := by rw [hE 6 (noT_spec (by kernel_rfl))]; simp [go_sem, e6]
        have y7 : E 7 = Val.i (k : Int) := by rw [hE 7 (noT_spec (by kernel_rfl))]; simp [go_sem, e7]
        simp [go_sem, h18, d0]
        refine AppI_new (st0 := st) (g := .ty 1) (m := 1) (ys := [Val.i x.1, Val.u ((satAdd x.2 y.2 : Nat) : Int)]) si50 (hV.new' hNw) hF (k0.trans hNw) (by simp [srcCells, lkN_mk, hn18, cellsOf]) (by simp [Value.oneCell']) (by omega) ?_
        intro base cap st4 hV4 hF4 k4 hx4
        simp [go_sem, y0, y1, y6, y7, hwi, hwk]
        refine ⟨st4, .rfl' _, ⟨k4, i + 1, by simp, k + 1, by simp, by omega, by omega, out ++ [(x.1, satAdd x.2 y.2)], ?_, ?_, ?_, by simp; omega⟩, by omega⟩
        · have e : bkV (out ++ [(x.1, satAdd x.2 y.2)]) = bkV out ++ [Val.i x.1, Val.u ((satAdd x.2 y.2 : Nat) : Int)] := by rw [bkV_app]; rfl
          rw [e, List.length_append]
          exact hV4
        · exact hF4
        · rw [← hout, List.append_assoc, List.singleton_append]
          rw [ad, bd, mhB, if_neg c1, if_neg c2]
      · intro j oj hj
        match j with
        | 0 | 1 | 2 | 3 | 4 | 5 | 6 | 7 | 8 | 9 | 10 | 11 | 12 | 13 | 14 | 15 | 16 | 17 | 18 | 19 | 20 => simp at hj; subst hj; decide
        | j + 21 => simp at hj
    · have t2 : ((k : Int) < b.length) = False := eq_false (by omega)
      have t2' : ((b.length : Int) ≤ k) = True := eq_true (by omega)
      have hkb' : b.length ≤ k := by omega
      obtain ⟨amb, aoff, acap, arw, azs, amm, ag, ahv, ahs, aget⟩ := rows_get (ha.new k0) (by omega)
      injection ahv with v1 v2 v3
      subst v1; subst v3
      obtain ⟨alen, acell, acc⟩ := aget i (by omega)
      have ahx : a[i]? = some a[i] := List.getElem?_eq_getElem (by omega)
      rw [bkV_get a i _ ahx] at acell acc
      have a0 := acc 0 (by omega)
      have a1 := acc 1 (by omega)
      simp only [List.getElem?_cons_succ, List.getElem?_cons_zero, Nat.add_zero] at a0 a1
      have ad : a.drop i = a[i] :: a.drop (i + 1) := List.drop_eq_getElem_cons (by omega)
      have abd := hba _ (List.getElem_mem (show i < a.length by omega))
      have bd : b.drop k = [] := List.drop_eq_nil_of_le (by omega)
      generalize a[i] = x at *
      simp [go_sem, e0, e1, e5, e6, e7, t1, t1', hia, t2, t2', hkb', ahs, alen, a0, a1, acell]
      refine draw [0, 1, 2, 3, 4, 5, 6, 7, 8, 9, 10, 11, 12, 13, 15, 16, 17, 18, 14, 19, 20, 21, 22, 23] (by kernel_rfl) ?_
      simp [go_sem, e0, e1, e5, e6, e7, t1, t1', hia, t2, t2', hkb', ahs, alen, a0, a1, acell]
      unfold NewS
      intro nb hnb
      refine ⟨.ty 1, ?_⟩
      have n1 := (New.refl s0).add (b := nb) (o := .cells true [Val.i x.1, Val.u (x.2 : Int)] 2 (.ty 1)) hnb
      simp [go_sem, e0, e1, e5, e6, e7]
      refine AppI_new (st0 := st) (g := .ty 1) (m := 1) (ys := [Val.i x.1, Val.u (x.2 : Int)]) si50 (hV.new' n1) hF (k0.trans n1) (by simp [srcCells, lkN_mk, upd_same, cellsOf]) (by simp [Value.oneCell']) (by omega) ?_
      intro base cap st4 hV4 hF4 k4 hx4
      simp [go_sem, e0, e1, e5, e6, e7, hwi]
      refine ⟨st4, .rfl' _, ⟨k4, i + 1, by simp, k, rfl, by omega, by omega, out ++ [x], ?_, ?_, ?_, by simp; omega⟩, by omega⟩
      · have e : bkV (out ++ [x]) = bkV out ++ [Val.i x.1, Val.u (x.2 : Int)] := by rw [bkV_app]; rfl
        rw [e, List.length_append]
        exact hV4
      · exact hF4
      · rw [← hout, List.append_assoc, List.singleton_append]
        rw [ad, bd]
        have z : ∀ l : List (Int × Nat), mhB l [] = l := fun l => by cases l <;> simp [mhB]
        rw [z, z]
  · have t1 : ((i : Int) < a.length) = False := eq_false (by omega)
    have t1' : ((a.length : Int) ≤ i) = True := eq_true (by omega)
    have hia' : a.length ≤ i := by omega
    have ad : a.drop i = [] := List.drop_eq_nil_of_le (by omega)
    by_cases hkb : k < b.length
    · have t2 : ((k : Int) < b.length) = True := eq_true (by omega)
      have t2' : ((b.length : Int) ≤ k) = False := eq_false (by omega)
      obtain ⟨bmb, boff, bcap, brw, bzs, bmm, bg, bhv, bhs, bget⟩ := rows_get (hb.new k0) (by omega)
      injection bhv with v1 v2 v3
      subst v1; subst v3
      obtain ⟨blen, bcell, bcc⟩ := bget k (by omega)
      have bhx : b[k]? = some b[k] := List.getElem?_eq_getElem (by omega)
      rw [bkV_get b k _ bhx] at bcell bcc
      have b0 := bcc 0 (by omega)
      have b1 := bcc 1 (by omega)
      simp only [List.getElem?_cons_succ, List.getElem?_cons_zero, Nat.add_zero] at b0 b1
      have bd : b.drop k = b[k] :: b.drop (k + 1) := List.drop_eq_getElem_cons (by omega)
      have bbd := hbb _ (List.getElem_mem (show k < b.length by omega))
      generalize b[k] = y at *
      simp [go_sem, e0, e1, e5, e6, e7, t1, t1', hia', t2, t2', hkb, bhs, blen, b0, b1, bcell]
      refine draw [0, 1, 2, 3, 4, 5, 6, 7, 8, 9, 10, 11, 12, 13, 15, 16, 17, 18, 14, 19, 20, 21, 22, 23] (by kernel_rfl) ?_
      simp [go_sem, e0, e1, e5, e6, e7, t1, t1', hia', t2, t2', hkb, bhs, blen, b0, b1, bcell]
      refine draw [0, 1, 2, 3, 4, 5, 6, 7, 8, 10, 11, 12, 13, 9, 14, 15, 16, 17] (by kernel_rfl) ?_
      simp [go_sem, e0, e1, e5, e6, e7, t1, t1', hia', t2, t2', hkb, bhs, blen, b0, b1, bcell]
      unfold NewS
      intro nb hnb
      refine ⟨.ty 1, ?_⟩
      have n1 := (New.refl s0).add (b := nb) (o := .cells true [Val.i y.1, Val.u (y.2 : Int)] 2 (.ty 1)) hnb
      simp [go_sem, e0, e1, e5, e6, e7]
      refine AppI_new (st0 := st) (g := .ty 1) (m := 1) (ys := [Val.i y.1, Val.u (y.2 : Int)]) si50 (hV.new' n1) hF (k0.trans n1) (by simp [srcCells, lkN_mk, upd_same, cellsOf]) (by simp [Value.oneCell']) (by omega) ?_
      intro base cap st4 hV4 hF4 k4 hx4
      simp [go_sem, e0, e1, e5, e6, e7, hwk]
      refine ⟨st4, .rfl' _, ⟨k4, i, rfl, k + 1, by simp, by omega, by omega, out ++ [y], ?_, ?_, ?_, by simp; omega⟩, by omega⟩
      · have e : bkV (out ++ [y]) = bkV out ++ [Val.i y.1, Val.u (y.2 : Int)] := by rw [bkV_app]; rfl
        rw [e, List.length_append]
        exact hV4
      · exact hF4
      · rw [← hout, List.append_assoc, List.singleton_append]
        rw [ad, bd, mhB, mhB]
    · have t2 : ((k : Int) < b.length) = False := eq_false (by omega)
      have bd : b.drop k = [] := List.drop_eq_nil_of_le (by omega)
      rw [ad, bd, mhB, List.append_nil] at hout
      subst hout
      simp [go_sem, e0, e1, e5, e6, e7, t1, hia, t2, hkb]
      exact ⟨⟨.ty 1, (by intro g x r; simp), hV.reg⟩, hF, k0⟩
theorem refHashMerge_spec {va vb : Value} {a b : List Nat} (ha : RegF st 1 va (cellsU a) a.length) (hb : RegF st 1 vb (cellsU b) b.length) (hla : a.length < 2 ^ 30) (hlb : b.length < 2 ^ 30)  :
    ICalls Tryz.prog W0 57 #[va, vb] st fun e st' => ∃ w, e = .returned w ∧ RegF st' 1 w (cellsU ((mrU a b).take 1024)) ((mrU a b).take 1024).length ∧ Fresh st w ∧ New st st' := by
  obtain ⟨ab, ac, rfl⟩ := ha.slice
  obtain ⟨bb, bc, rfl⟩ := hb.slice
  obtain ⟨R, hR⟩ : ∃ R, mrU a b = R := ⟨_, rfl⟩
  rw [hR]
  obtain ⟨RL, hRL⟩ : ∃ RL, R.take 1024 = RL := ⟨_, rfl⟩
  rw [hRL]
  refine enter (args := [_, _]) Tryz.func57 rfl ?_
  simp [Tryz.f57, go_sem]
  refine ⟨fun E st' => New st st' ∧ E 0 = .slice ab a.length ac ∧ E 1 = .slice bb b.length bc ∧ ∃ (i k : Nat) (w : Value), E 6 = Val.i (i : Int) ∧ E 7 = Val.i (k : Int) ∧ E 5 = w ∧ i ≤ a.length ∧ k ≤ b.length ∧ ∃ out : List Nat, Vec st' (.ty 1) 1 w (cellsU out) out.length ∧ Fresh st w ∧ out ++ mrU (a.drop i) (b.drop k) = R ∧ out.length ≤ 1024,
    fun E _ => match E 6, E 7 with | .int _ i, .int _ k => (a.length + b.length) - (i.toNat + k.toNat) | _, _ => 0,
    ⟨st, .rfl' _, New.refl _, by simp [go_sem], by simp [go_sem], 0, 0, .slice none 0 0, by simp [go_sem], by simp [go_sem], by simp [go_sem], by omega, by omega, [], Vec.nil, Fresh.none, by simpa using hR, by simp⟩, ?_⟩
  rintro E s0 ⟨k0, e0, e1, i, k, w, e6, e7, e5, hi, hk, out, hV, hF, hout, hol⟩
  obtain ⟨wb, wc, rfl⟩ := hV.slice
  have hwi : IntKind.i64.wrap ((i : Int) + 1) = ((i + 1 : Nat) : Int) := by rw [wrap_id (by omega) (by omega)]; omega
  have hwk : IntKind.i64.wrap ((k : Int) + 1) = ((k + 1 : Nat) : Int) := by rw [wrap_id (by omega) (by omega)]; omega
  by_cases hfull : out.length = 1024
  · have hres : RL = out := by rw [← hRL, ← hout, ← hfull, List.take_left]
    subst hres
    have tf : ((RL.length : Int) < 1024) = False := eq_false (by omega)
    have fin : RegF s0 1 (.slice wb RL.length wc) (cellsU RL) RL.length := ⟨.ty 1, (by intro g x r; simp), hV.reg⟩
    by_cases hia : i < a.length
    · have t1 : ((i : Int) < a.length) = True := eq_true (by omega)
      simp [go_sem, e0, e1, e5, e6, e7, t1, hia, tf]
      exact ⟨fin, hF, k0⟩
    have t1 : ((i : Int) < a.length) = False := eq_false (by omega)
    by_cases hkb : k < b.length
    · have t2 : ((k : Int) < b.length) = True := eq_true (by omega)
      simp [go_sem, e0, e1, e5, e6, e7, t1, hia, t2, hkb, tf]
      exact ⟨fin, hF, k0⟩
    · have t2 : ((k : Int) < b.length) = False := eq_false (by omega)
      simp [go_sem, e0, e1, e5, e6, e7, t1, hia, t2, hkb, tf]
      exact ⟨fin, hF, k0⟩
  have tf : ((out.length : Int) < 1024) = True := eq_true (by omega)
  have tf' : out.length < 1024 := by omega
  by_cases hia : i < a.length
  · have t1 : ((i : Int) < a.length) = True := eq_true (by omega)
    have t1' : ((a.length : Int) ≤ i) = False := eq_false (by omega)
    by_cases hkb : k < b.length
    · have t2 : ((k : Int) < b.length) = True := eq_true (by omega)
      have t2' : ((b.length : Int) ≤ k) = False := eq_false (by omega)
      obtain ⟨amb, aoff, av, aget⟩ := src_get (ha.new k0).src (by omega)
      subst av
      have a0 := aget i (by omega)
      have a1 : (cellsU a)[i]? = some (.int .u64 (a[i] : Int)) := by simp [cellsU, List.getElem?_eq_getElem (show i < a.length by omega)]
      rw [a1] at a0
      have ad : a.drop i = a[i] :: a.drop (i + 1) := List.drop_eq_getElem_cons (by omega)
      obtain ⟨bmb, boff, bv, bget⟩ := src_get (hb.new k0).src (by omega)
      subst bv
      have b0 := bget k (by omega)
      have b1 : (cellsU b)[k]? = some (.int .u64 (b[k] : Int)) := by simp [cellsU, List.getElem?_eq_getElem (show k < b.length by omega)]
      rw [b1] at b0
      have bd : b.drop k = b[k] :: b.drop (k + 1) := List.drop_eq_getElem_cons (by omega)
      generalize a[i] = x at *
      generalize b[k] = y at *
      by_cases c1 : x < y
      · have q1 : ((x : Int) < (y : Int)) = True := eq_true (by omega)
        simp [go_sem, e0, e1, e5, e6, e7, t1, t1', hia, t2, t2', hkb, tf, tf', a0, b0]
        refine draw [0, 1, 2, 3, 4, 5, 6, 7, 8, 9, 10, 11, 12, 14, 15, 16, 13, 17, 18, 19, 20, 21] (by kernel_rfl) ?_
        simp [go_sem, e0, e1, e5, e6, e7, t1, t1', hia, t2, t2', hkb, tf, tf', a0, b0, q1, c1]
        unfold NewS
        intro nb hnb
        refine ⟨.ty 1, ?_⟩
        have n1 := (New.refl s0).add (b := nb) (o := .cells true [Val.u (x : Int)] 1 (.ty 1)) hnb
        simp [go_sem, e0, e1, e5, e6, e7]
        refine AppI_new (st0 := st) (g := .ty 1) (m := 1) (ys := [Val.u (x : Int)]) si51 (hV.new' n1) hF (k0.trans n1) (by simp [srcCells, lkN_mk, upd_same, cellsOf]) (by simp [Value.oneCell']) (by omega) ?_
        intro base cap st4 hV4 hF4 k4 hx4
        simp [go_sem, e0, e1, e5, e6, e7, hwi]
        refine ⟨st4, .rfl' _, ⟨k4, i + 1, by simp, k, rfl, by omega, by omega, out ++ [x], ?_, ?_, ?_, by simp; omega⟩, by omega⟩
        · have e : cellsU (out ++ [x]) = cellsU out ++ [Val.u (x : Int)] := by rw [cellsU_app]; rfl
          rw [e, List.length_append]
          exact hV4
        · exact hF4
        · rw [← hout, List.append_assoc, List.singleton_append]
          rw [ad, bd, mrU, if_pos c1]
      have q1 : ((x : Int) < (y : Int)) = False := eq_false (by omega)
      by_cases c2 : y < x
      · have q2 : ((y : Int) < (x : Int)) = True := eq_true (by omega)
        simp [go_sem, e0, e1, e5, e6, e7, t1, t1', hia, t2, t2', hkb, tf, tf', a0, b0]
        refine draw [0, 1, 2, 3, 4, 5, 6, 7, 8, 9, 10, 11, 12, 14, 15, 16, 13, 17, 18, 19, 20, 21] (by kernel_rfl) ?_
        simp [go_sem, e0, e1, e5, e6, e7, t1, t1', hia, t2, t2', hkb, tf, tf', a0, b0, q1, c1]
        refine draw [0, 1, 2, 3, 4, 5, 6, 7, 9, 10, 11, 8, 12, 13, 14, 15] (by kernel_rfl) ?_
        simp [go_sem, e0, e1, e5, e6, e7, t1, t1', hia, t2, t2', hkb, tf, tf', a0, b0, q1, c1, q2, c2]
        unfold NewS
        intro nb hnb
        refine ⟨.ty 1, ?_⟩
        have n1 := (New.refl s0).add (b := nb) (o := .cells true [Val.u (y : Int)] 1 (.ty 1)) hnb
        simp [go_sem, e0, e1, e5, e6, e7]
        refine AppI_new (st0 := st) (g := .ty 1) (m := 1) (ys := [Val.u (y : Int)]) si51 (hV.new' n1) hF (k0.trans n1) (by simp [srcCells, lkN_mk, upd_same, cellsOf]) (by simp [Value.oneCell']) (by omega) ?_
        intro base cap st4 hV4 hF4 k4 hx4
        simp [go_sem, e0, e1, e5, e6, e7, hwk]
        refine ⟨st4, .rfl' _, ⟨k4, i, rfl, k + 1, by simp, by omega, by omega, out ++ [y], ?_, ?_, ?_, by simp; omega⟩, by omega⟩
        · have e : cellsU (out ++ [y]) = cellsU out ++ [Val.u (y : Int)] := by rw [cellsU_app]; rfl
          rw [e, List.length_append]
          exact hV4
        · exact hF4
        · rw [← hout, List.append_assoc, List.singleton_append]
          rw [ad, bd, mrU, if_neg c1, if_pos c2]
      have q2 : ((y : Int) < (x : Int)) = False := eq_false (by omega)
      simp [go_sem, e0, e1, e5, e6, e7, t1, t1', hia, t2, t2', hkb, tf, tf', a0, b0]
      refine draw [0, 1, 2, 3, 4, 5, 6, 7, 8, 9, 10, 11, 12, 14, 15, 16, 13, 17, 18, 19, 20, 21] (by kernel_rfl) ?_
      simp [go_sem, e0, e1, e5, e6, e7, t1, t1', hia, t2, t2', hkb, tf, tf', a0, b0, q1, c1]
      refine draw [0, 1, 2, 3, 4, 5, 6, 7, 9, 10, 11, 8, 12, 13, 14, 15] (by kernel_rfl) ?_
      simp [go_sem, e0, e1, e5, e6, e7, t1, t1', hia, t2, t2', hkb, tf, tf', a0, b0, q1, c1, q2, c2]
      unfold NewS
      intro nb hnb
      refine ⟨.ty 1, ?_⟩
      have n1 := (New.refl s0).add (b := nb) (o := .cells true [Val.u (x : Int)] 1 (.ty 1)) hnb
      simp [go_sem, e0, e1, e5, e6, e7]
      refine AppI_new (st0 := st) (g := .ty 1) (m := 1) (ys := [Val.u (x : Int)]) si51 (hV.new' n1) hF (k0.trans n1) (by simp [srcCells, lkN_mk, upd_same, cellsOf]) (by simp [Value.oneCell']) (by omega) ?_
      intro base cap st4 hV4 hF4 k4 hx4
      simp [go_sem, e0, e1, e5, e6, e7, hwi, hwk]
      refine ⟨st4, .rfl' _, ⟨k4, i + 1, by simp, k + 1, by simp, by omega, by omega, out ++ [x], ?_, ?_, ?_, by simp; omega⟩, by omega⟩
      · have e : cellsU (out ++ [x]) = cellsU out ++ [Val.u (x : Int)] := by rw [cellsU_app]; rfl
        rw [e, List.length_append]
        exact hV4
      · exact hF4
      · rw [← hout, List.append_assoc, List.singleton_append]
        rw [ad, bd, mrU, if_neg c1, if_neg c2]
    · have t2 : ((k : Int) < b.length) = False := eq_false (by omega)
      have t2' : ((b.length : Int) ≤ k) = True := eq_true (by omega)
      have hkb' : b.length ≤ k := by omega
      obtain ⟨amb, aoff, av, aget⟩ := src_get (ha.new k0).src (by omega)
      subst av
      have a0 := aget i (by omega)
      have a1 : (cellsU a)[i]? = some (.int .u64 (a[i] : Int)) := by simp [cellsU, List.getElem?_eq_getElem (show i < a.length by omega)]
      rw [a1] at a0
      have ad : a.drop i = a[i] :: a.drop (i + 1) := List.drop_eq_getElem_cons (by omega)
      have bd : b.drop k = [] := List.drop_eq_nil_of_le (by omega)
      generalize a[i] = x at *
      simp [go_sem, e0, e1, e5, e6, e7, t1, t1', hia, t2, t2', hkb', a0, tf, tf']
      refine draw [0, 1, 2, 3, 4, 5, 6, 7, 8, 9, 10, 11, 12, 14, 15, 16, 13, 17, 18, 19, 20, 21] (by kernel_rfl) ?_
      simp [go_sem, e0, e1, e5, e6, e7, t1, t1', hia, t2, t2', hkb', a0, tf, tf']
      unfold NewS
      intro nb hnb
      refine ⟨.ty 1, ?_⟩
      have n1 := (New.refl s0).add (b := nb) (o := .cells true [Val.u (x : Int)] 1 (.ty 1)) hnb
      simp [go_sem, e0, e1, e5, e6, e7]
      refine AppI_new (st0 := st) (g := .ty 1) (m := 1) (ys := [Val.u (x : Int)]) si51 (hV.new' n1) hF (k0.trans n1) (by simp [srcCells, lkN_mk, upd_same, cellsOf]) (by simp [Value.oneCell']) (by omega) ?_
      intro base cap st4 hV4 hF4 k4 hx4
      simp [go_sem, e0, e1, e5, e6, e7, hwi]
      refine ⟨st4, .rfl' _, ⟨k4, i + 1, by simp, k, rfl, by omega, by omega, out ++ [x], ?_, ?_, ?_, by simp; omega⟩, by omega⟩
      · have e : cellsU (out ++ [x]) = cellsU out ++ [Val.u (x : Int)] := by rw [cellsU_app]; rfl
        rw [e, List.length_append]
        exact hV4
      · exact hF4
      · rw [← hout, List.append_assoc, List.singleton_append]
        rw [ad, bd]
        have z : ∀ l : List Nat, mrU l [] = l := fun l => by cases l <;> simp [mrU]
        rw [z, z]
  · have t1 : ((i : Int) < a.length) = False := eq_false (by omega)
    have t1' : ((a.length : Int) ≤ i) = True := eq_true (by omega)
    have hia' : a.length ≤ i := by omega
    have ad : a.drop i = [] := List.drop_eq_nil_of_le (by omega)
    by_cases hkb : k < b.length
    · have t2 : ((k : Int) < b.length) = True := eq_true (by omega)
      have t2' : ((b.length : Int) ≤ k) = False := eq_false (by omega)
      obtain ⟨bmb, boff, bv, bget⟩ := src_get (hb.new k0).src (by omega)
      subst bv
      have b0 := bget k (by omega)
      have b1 : (cellsU b)[k]? = some (.int .u64 (b[k] : Int)) := by simp [cellsU, List.getElem?_eq_getElem (show k < b.length by omega)]
      rw [b1] at b0
      have bd : b.drop k = b[k] :: b.drop (k + 1) := List.drop_eq_getElem_cons (by omega)
      generalize b[k] = y at *
      simp [go_sem, e0, e1, e5, e6, e7, t1, t1', hia', t2, t2', hkb, b0, tf, tf']
      refine draw [0, 1, 2, 3, 4, 5, 6, 7, 8, 9, 10, 11, 12, 14, 15, 16, 13, 17, 18, 19, 20, 21] (by kernel_rfl) ?_
      simp [go_sem, e0, e1, e5, e6, e7, t1, t1', hia', t2, t2', hkb, b0, tf, tf']
      refine draw [0, 1, 2, 3, 4, 5, 6, 7, 9, 10, 11, 8, 12, 13, 14, 15] (by kernel_rfl) ?_
      simp [go_sem, e0, e1, e5, e6, e7, t1, t1', hia', t2, t2', hkb, b0, tf, tf']
      unfold NewS
      intro nb hnb
      refine ⟨.ty 1, ?_⟩
      have n1 := (New.refl s0).add (b := nb) (o := .cells true [Val.u (y : Int)] 1 (.ty 1)) hnb
      simp [go_sem, e0, e1, e5, e6, e7]
      refine AppI_new (st0 := st) (g := .ty 1) (m := 1) (ys := [Val.u (y : Int)]) si51 (hV.new' n1) hF (k0.trans n1) (by simp [srcCells, lkN_mk, upd_same, cellsOf]) (by simp [Value.oneCell']) (by omega) ?_
      intro base cap st4 hV4 hF4 k4 hx4
      simp [go_sem, e0, e1, e5, e6, e7, hwk]
      refine ⟨st4, .rfl' _, ⟨k4, i, rfl, k + 1, by simp, by omega, by omega, out ++ [y], ?_, ?_, ?_, by simp; omega⟩, by omega⟩
      · have e : cellsU (out ++ [y]) = cellsU out ++ [Val.u (y : Int)] := by rw [cellsU_app]; rfl
        rw [e, List.length_append]
        exact hV4
      · exact hF4
      · rw [← hout, List.append_assoc, List.singleton_append]
        rw [ad, bd, mrU, mrU]
    · have t2 : ((k : Int) < b.length) = False := eq_false (by omega)
      have bd : b.drop k = [] := List.drop_eq_nil_of_le (by omega)
      rw [ad, bd, mrU, List.append_nil] at hout
      subst hout
      simp [go_sem, e0, e1, e5, e6, e7, t1, hia, t2, hkb]
      rw [List.take_of_length_le hol] at hRL; subst hRL; exact ⟨⟨.ty 1, (by intro g x r; simp), hV.reg⟩, hF, k0⟩
end
end Go.Proofs.YtflbapmjdfnhhaaGreat
