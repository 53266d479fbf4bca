/- A file's bytes after so many units; a file that is laid. -/
import Derived.Test.YtenencpnnjacdaaVfsF
import Derived.Test.YtenencpnnjacdaaSortA
set_option linter.unusedVariables false
set_option linter.unusedSimpArgs false
set_option maxRecDepth 100000
namespace Go.Proofs.Ytenencpnnjacdaa
open Go.RowKit (Below)

/-- Units done one by one; none: a cut that can't be. -/
def withM : Bs → List VUnit → Int → Option Bs
  | b, [], _ => some b
  | b, p :: ps, u =>
    if u ≤ 0 then some b
    else if p.cut = true then (if p.size ≤ b.length then withM (b.take p.size) ps (u - 1) else none)
    else withM (b ++ p.b.take (min (p.b.length : Int) u).toNat) ps (u - min (p.b.length : Int) u)
theorem unitsAt.get {st : Heap} {g : Tg} : ∀ {us : List VUnit} {cs : List Value} {j : Nat} {u : VUnit}, unitsAt st g us cs → us[j]? = some u → ∃ v, (cs.drop (j * 3)).take 3 = [.bool u.cut, Val.i u.size, v] ∧ j * 3 + 3 ≤ cs.length ∧ Reg st g 1 v (bytesV u.b) u.b.length
  | u :: us, a :: b :: c :: cs, 0, x, h, hx => by
    injection hx with hx; subst hx
    exact ⟨c, by simp [h.1, h.2.1], by simp, h.2.2.1⟩
  | u :: us, a :: b :: c :: cs, j + 1, x, h, hx => by
    obtain ⟨v, h1, h2, h3⟩ := unitsAt.get (j := j) h.2.2.2 (by simpa using hx)
    refine ⟨v, ?_, by simp; omega, h3⟩
    rw [show (j + 1) * 3 = j * 3 + 1 + 1 + 1 by omega]
    simpa using h1
section
variable {W0 : World} {st : Heap}
theorem with_spec {f i a : Nat} {F : VFile} {u : Int} {r : Bs} (g : Tg) (hg : Out f g) (h : FileAt st f i a F) (hr : withM F.sure F.pend u = some r) (hu0 : -2 ^ 63 ≤ u) (hu1 : u < 2 ^ 63) (hs1 : F.sure.length < 2 ^ 40) (hs2 : F.pend.length < 2 ^ 40) (hs3 : F.sure.length + (F.pend.map (·.b.length)).sum < 2 ^ 40) :
    ICalls Try.prog W0 80 #[ptr a, Val.i u] st fun e st' => ∃ v, e = .returned v ∧ Vec st' g 1 v (bytesV r) r.length ∧ Keep (fun t => t ≠ g) st st' := by
  obtain ⟨sv, pv, nv, us, h1, h2, h3, h4, h5⟩ := h
  obtain ⟨sb, sc, rfl⟩ := h2.slice
  obtain ⟨pb, pc, rfl⟩ := h4.slice
  refine enter (args := [_, _]) Try.func80 rfl ?_
  have hb1 : (F.sure.length : Int) ≤ 281474976710656 := by omega
  simp [Try.f80, go_sem, h1, hb1]
  unfold NewS
  intro b hb
  refine ⟨g, ?_⟩
  have k1 : ∀ o, Keep (fun t => t ≠ g) st (upd st b o) := fun o => Keep.rfl'.new hb
  have hab := ne_of_new h1 hb
  simp [go_sem, h1, hab]
  have hzl : (zerosL [Value.int IntKind.u8 0] F.sure.length).length = F.sure.length := by rw [zerosL_length]; simp
  refine CopyI_full (len := F.sure.length) si29 (upd_same _ _ _) (by rw [hzl]; simp) (by rw [hzl]; simp) (srcCells_le (.new _ hb) h2.src) (bytesV_one _) ?_
  rw [upd_upd, hzl]
  have k1 : Keep (fun t => t ≠ g) st (upd st b (.cells true (bytesV F.sure) F.sure.length g)) := Keep.rfl'.new hb
  have hv1 : Vec (upd st b (.cells true (bytesV F.sure) F.sure.length g)) g 1 (.slice (some ⟨b, 0, none⟩) F.sure.length F.sure.length) (bytesV F.sure) F.sure.length := Vec.new (by simp [bytesV]) (Nat.le_refl _) (upd_same _ _ _) (by simp)
  generalize hst1 : upd st b _ = st1 at *
  have h1' := k1.get h1 (by simpa using (Ne.symm (hg i 1)))
  simp [go_sem, h1']
  refine ⟨fun E st' => Keep (fun t => t ≠ g) st st' ∧ E 24 = .slice pb F.pend.length pc ∧ E 25 = Val.i F.pend.length ∧ ∃ j u bs v, j ≤ F.pend.length ∧ E 26 = Val.i j ∧ E 1 = Val.i u ∧ -2 ^ 63 ≤ u ∧ u < 2 ^ 63 ∧ E 5 = v ∧ Vec st' g 1 v (bytesV bs) bs.length ∧ withM bs (F.pend.drop j) u = some r ∧ bs.length + ((F.pend.drop j).map (·.b.length)).sum < 2 ^ 40,
    fun E _ => match E 26 with | .int _ j => F.pend.length - j.toNat | _ => 0, ⟨st1, .rfl' _, k1, by simp [go_sem], by simp [go_sem], 0, u, F.sure, _, Nat.zero_le _, by simp [go_sem], by simp [go_sem], hu0, hu1, by simp [go_sem], hv1, by simpa using hr, by simpa using hs3⟩, ?_⟩
  rintro E st' ⟨hk, e24, e25, j, u, bs, v, hj, e26, e1, hu0, hu1, e5, hv, hr, hbl⟩
  obtain ⟨vb, vc, rfl⟩ := hv.slice
  by_cases hlt : j < F.pend.length
  · have h4' := h4.keep hk (by simpa using (Ne.symm (hg i 2)))
    have h3' := unitsAt.keep hk (by simpa using (Ne.symm (hg i 4))) _ _ h3
    have hp : F.pend[j]? = some F.pend[j] := List.getElem?_eq_getElem hlt
    obtain ⟨w, hw1, hw2, hw3⟩ := unitsAt.get h3' hp
    obtain ⟨wb, wc, rfl⟩ := hw3.slice
    generalize hpj : F.pend[j] = p at *
    obtain ⟨hl, base, cap, hv', hc, hbase⟩ := h4'
    injection hv' with q1 q2 q3; subst q1; subst q3
    rcases hbase with ⟨b0, n0, rfl, hb0, hn0⟩ | ⟨rfl, hc0⟩
    · simp [go_sem, e24, e25, e26, hlt, hb0, hw1, hw2]
      unfold NewP
      intro b2 hb2
      refine ⟨.ty 0, ?_⟩
      have hdrop : F.pend.drop j = p :: F.pend.drop (j + 1) := by rw [List.drop_eq_getElem_cons hlt, hpj]
      rw [hdrop] at hr hbl
      simp only [List.map_cons, List.sum_cons] at hbl
      have hw : IntKind.i64.wrap ((j : Int) + 1) = j + 1 := wrap_id (by omega) (by omega)
      have k2 : ∀ o, Keep (fun _ => True) st' (upd st' b2 o) := fun o => Keep.rfl'.new hb2
      unfold withM at hr
      by_cases hu : u ≤ 0
      · rw [if_pos hu] at hr
        injection hr with hr
        subst hr
        simp [go_sem, e24, e25, e26, e1, e5, hu]
        exact ⟨hv.keep (k2 _) trivial, hk.trans ((k2 _).imp fun _ _ => trivial)⟩
      · rw [if_neg hu] at hr
        cases hcut : p.cut with
        | true =>
          rw [hcut, if_pos rfl] at hr
          by_cases hsz : p.size ≤ bs.length
          · rw [if_pos hsz] at hr
            have hvc := hv.reg.cap
            have hsc : p.size ≤ vc := by omega
            have hw2 : IntKind.i64.wrap (u - 1) = u - 1 := wrap_id (by omega) (by omega)
            simp [go_sem, e24, e25, e26, e1, e5, hu, hcut, hsc, hw, hw2]
            have kk := hk.trans ((k2 (.cells true [.bool true, Val.i p.size, .slice wb p.b.length wc] 3 (.ty 0))).imp fun _ _ => trivial)
            have hv2 := hv.keep (k2 (.cells true [.bool true, Val.i p.size, .slice wb p.b.length wc] 3 (.ty 0))) trivial
            generalize upd st' b2 _ = st2 at *
            have hsum : (bs.take p.size).length + ((F.pend.drop (j + 1)).map (·.b.length)).sum < 2 ^ 40 := by rw [List.length_take]; omega
            have hlen2 : (bs.take p.size).length = p.size := by rw [List.length_take]; omega
            obtain ⟨hvl, vb', vc', hveq, hvc', hvr⟩ := hv2
            injection hveq with z1 z2 z3; subst z1; subst z3
            rcases hvr with ⟨b4, n4, rfl, hb4, hn4⟩ | ⟨rfl, hz⟩
            · refine ⟨upd st2 b4 (.cells true ((bytesV bs).take p.size) n4 g), .cut hb4 (List.take_prefix _ _), ⟨kk.old hb4 (by simp [HObj.tag]), j + 1, hlt, by omega, by omega, by omega, bs.take p.size, ?_, hr, by simpa using hsum⟩, by omega⟩
              rw [hlen2]
              exact Vec.new (by rw [bytesV_length, hlen2]; simp) hsc (by rw [upd_same]; simp [bytesV, List.map_take]) hn4
            · refine ⟨st2, .rfl' _, ⟨kk, j + 1, hlt, by omega, by omega, by omega, bs.take p.size, ?_, hr, by simpa using hsum⟩, by omega⟩
              rw [hlen2]
              exact ⟨by rw [bytesV_length, hlen2]; simp, none, vc, rfl, hsc, .inr ⟨rfl, hz⟩⟩
          · rw [if_neg hsz] at hr; cases hr
        | false =>
          obtain ⟨m, hm1, hm2, hm3⟩ : ∃ m : Nat, (if u < (p.b.length : Int) then u else p.b.length) = (m : Int) ∧ min (p.b.length : Int) u = m ∧ m ≤ p.b.length := by
            refine ⟨(min (p.b.length : Int) u).toNat, ?_, ?_, ?_⟩
            · split <;> omega
            · omega
            · omega
          rw [hcut, if_neg (by simp), hm2] at hr
          simp only [Int.toNat_natCast] at hr
          have hmc : m ≤ wc := Nat.le_trans hm3 hw3.cap
          have hw2 : IntKind.i64.wrap (u - m) = u - m := wrap_id (by omega) (by omega)
          have kk := hk.trans ((k2 (.cells true [.bool false, Val.i p.size, .slice wb p.b.length wc] 3 (.ty 0))).imp fun _ _ => trivial)
          have hv2 := hv.keep (k2 (.cells true [.bool false, Val.i p.size, .slice wb p.b.length wc] 3 (.ty 0))) trivial
          have hw4 := ((hw3.take hm3).keep (k2 (.cells true [.bool false, Val.i p.size, .slice wb p.b.length wc] 3 (.ty 0))) trivial).src
          simp [go_sem, e24, e25, e26, e1, e5, hu, hcut, hw, hw2, hm1, hmc]
          generalize upd st' b2 _ = st2 at *
          refine AppI_vec (g := g) si29 hv2 hw4 (fun y hy => bytesV_one _ y (List.mem_of_mem_take hy)) (by omega) ?_
          intro s5 c5 st5 hv5 he5
          have hsum : (bs ++ p.b.take m).length + ((F.pend.drop (j + 1)).map (·.b.length)).sum < 2 ^ 40 := by rw [List.length_append, List.length_take]; omega
          have hlen2 : (bs ++ p.b.take m).length = bs.length + m := by rw [List.length_append, List.length_take]; omega
          simp [go_sem, e24, e25, e26, e1, e5, hu, hcut, hw, hw2, hm1, hmc]
          refine ⟨st5, .rfl' _, ⟨kk.trans (he5.toKeep (by simp)), j + 1, hlt, by omega, by omega, by omega, bs ++ p.b.take m, ?_, hr, by simpa using hsum⟩, by omega⟩
          rw [hlen2]
          have : bytesV (bs ++ p.b.take m) = bytesV bs ++ (bytesV p.b).take m := by simp [bytesV, List.map_take]
          rw [this]
          exact hv5
    · omega
  · have hje : j = F.pend.length := by omega
    subst hje
    rw [List.drop_length] at hr
    injection hr with hr
    subst hr
    simp [go_sem, e24, e25, e26, e5]
    exact ⟨hv, hk⟩
end
end Go.Proofs.Ytenencpnnjacdaa
