/- Copies of manifests; small ones: the walks. -/
import Derived.Test.YtgppogppdmbgmaaGreatC33
import Derived.Test.YtgppogppdmbgmaaGreatC15
import Derived.Test.YtgppogppdmbgmaaGreatC29
set_option linter.unusedVariables false
set_option linter.unusedSimpArgs false
set_option maxRecDepth 100000
set_option maxHeartbeats 8000000
namespace Go.Proofs.YtgppogppdmbgmaaGreat
open Go.RowKit (Below)
section
variable {W0 : World} {st : Heap}
theorem matcher_copy {cs : List Value} {m : Mat} (hN : NiceM 12 m) (hm : MatAt st cs m) : ICalls Tryz.prog W0 33 #[.agg cs.toArray] st fun e st' => ∃ cs', e = .returned (.agg cs'.toArray) ∧ MatAt st' cs' m ∧ New st st' := by
  match m with
  | .mk op name value vals kids =>
  have hm0 := hm
  unfold MatAt at hm
  obtain ⟨vv, kv, ks, rfl, hv, hk, hkids⟩ := hm
  obtain ⟨vb, vc, rfl⟩ := hv.slice
  obtain ⟨kb, kc, rfl⟩ := hk.slice
  refine enter (args := [_]) Tryz.func33 rfl ?_
  simp [Tryz.f33, go_sem]
  unfold NewP
  intro tb htb
  refine ⟨.own tb 0 66, ?_⟩
  simp [go_sem]
  unfold NewP
  intro to hto
  refine ⟨.own to 0 67, ?_⟩
  have hne : tb ≠ to := by
    rintro rfl
    rw [upd_same] at hto
    cases hto
  have hne' := Ne.symm hne
  have hN2 : New st (upd (upd st tb (.cells true [Val.i op, .string name, .string value, .slice vb vals.length vc, .slice kb kids.length kc] 5 (.own tb 0 66))) to (.cells true [Val.i 0, .string ⟨#[]⟩, .string ⟨#[]⟩, .slice none 0 0, .slice none 0 0] 5 (.own to 0 67))) := ((New.refl _).add htb).add hto
  have htn : st to = none := ((New.refl _).add htb).none hto
  simp [go_sem, hne, hne']
  refine (matCopy_spec 12 (.mk op name value vals kids) (deep := 0) hN (by omega) (hm0.new hN2)).mono ?_
  rintro e st3 ⟨cs', rfl, hm3, hk3⟩
  have hto3 := hk3 _ _ (upd_same _ to _)
  obtain ⟨vv', kv', ks', rfl, hv', hk', hkids'⟩ := hm3
  obtain ⟨vb', vc', rfl⟩ := hv'.slice
  obtain ⟨kb', kc', rfl⟩ := hk'.slice
  simp [go_sem, hto3]
  refine RetI_cell ?_
  simp [go_sem]
  have hR := fun size v xs len (h : RegF st3 size v xs len) => h.but (But1.put (o := .cells true [Val.i op, .string name, .string value, .slice vb' vals.length vc', .slice kb' kids.length kc'] 5 (.own to 0 67)) (But1.refl to st3)) hto3
  refine ⟨?_, (hN2.trans hk3).put htn⟩
  unfold MatAt
  exact ⟨_, _, ks', rfl, hR _ _ _ _ hv', hR _ _ _ _ hk', KidsAt.mono hR _ _ hkids'⟩
theorem tomb_copy {cs : List Value} {t : TombD} (hN : NiceM 12 t.m) (h : TombAt st cs t) : ICalls Tryz.prog W0 179 #[.agg cs.toArray] st fun e st' => ∃ cs', e = .returned (.agg cs'.toArray) ∧ TombAt st' cs' t ∧ New st st' := by
  obtain ⟨ms, hm, rfl⟩ := h
  obtain ⟨op, name, value, vb, vl, vc, kb, kl, kc, rfl⟩ := mat_cells hm
  refine enter (args := [_]) Tryz.func179 rfl ?_
  simp [Tryz.f179, go_sem]
  unfold NewP
  intro tb htb
  refine ⟨.own tb 0 78, ?_⟩
  simp [go_sem]
  unfold NewP
  intro to hto
  refine ⟨.own to 0 79, ?_⟩
  have hne : tb ≠ to := by
    rintro rfl
    rw [upd_same] at hto
    cases hto
  have hne' := Ne.symm hne
  simp [go_sem, hne, hne']
  generalize hst2 : upd (upd st tb _) to _ = st2
  have hN2 : New st st2 := by rw [← hst2]; exact ((New.refl _).add htb).add hto
  have htb2 : st2 tb = some (.cells true [Val.i t.seq, Val.i op, .string name, .string value, .slice vb vl vc, .slice kb kl kc, Val.i t.fro, Val.i t.to] 8 (.own tb 0 78)) := by
    rw [← hst2, upd_ne _ _ hne, upd_same]
  obtain ⟨zs, hzs, hto2⟩ : ∃ zs, zs.length = 8 ∧ st2 to = some (.cells true zs 8 (.own to 0 79)) := by
    rw [← hst2]
    exact ⟨_, rfl, upd_same _ _ _⟩
  have htn : st to = none := ((New.refl _).add htb).none hto
  refine (matcher_copy hN (hm.new hN2)).mono ?_
  rintro e st3 ⟨cs', rfl, hm3, hk3⟩
  have htb3 := hk3 _ _ htb2
  have hto3 := hk3 _ _ hto2
  obtain ⟨op', name', value', vb', vl', vc', kb', kl', kc', rfl⟩ := mat_cells hm3
  have hz0 : zs.drop 8 = [] := by rw [List.drop_eq_nil_iff]; omega
  simp [go_sem, htb3, hto3, hne, hne', hzs, hz0]
  refine RetI_cell ?_
  simp [go_sem]
  have hR := fun size v xs len (h : RegF st3 size v xs len) => h.but (But1.put (o := .cells true [Val.i t.seq, Val.i op', .string name', .string value', .slice vb' vl' vc', .slice kb' kl' kc', Val.i t.fro, Val.i t.to] 8 (.own tb 0 78)) (But1.refl tb st3)) htb3
  have hto4 : (upd st3 tb (.cells true [Val.i t.seq, Val.i op', .string name', .string value', .slice vb' vl' vc', .slice kb' kl' kc', Val.i t.fro, Val.i t.to] 8 (.own tb 0 78))) to = some (.cells true zs 8 (.own to 0 79)) := (upd_ne _ _ hne').trans hto3
  have hR2 := fun size v xs len (h : RegF (upd st3 tb (.cells true [Val.i t.seq, Val.i op', .string name', .string value', .slice vb' vl' vc', .slice kb' kl' kc', Val.i t.fro, Val.i t.to] 8 (.own tb 0 78))) size v xs len) => h.but (But1.put (o := (.cells true [Val.i t.seq, Val.i op', .string name', .string value', .slice vb' vl' vc', .slice kb' kl' kc', Val.i t.fro, Val.i t.to] 8 (.own to 0 79))) (But1.refl to _)) hto4
  exact ⟨⟨_, MatAt.mono (fun _ _ _ _ h => hR2 _ _ _ _ (hR _ _ _ _ h)) _ _ hm3, rfl⟩, ((hN2.trans hk3).put htb).put htn⟩
theorem TombsAt.append {ts cs : List Value} {l : List TombD} {t : TombD} (hl : ts.length = l.length * 8) (h : TombsAt st ts l) (ht : TombAt st cs t) (hc : cs.length = 8) : TombsAt st (ts ++ cs) (l ++ [t]) := by
  intro i x hi
  by_cases hlt : i < l.length
  · rw [List.getElem?_append_left hlt] at hi
    have := h i x hi
    rwa [List.drop_append_of_le_length (by omega), List.take_append_of_le_length (by rw [List.length_drop]; omega)]
  · rw [List.getElem?_append_right (by omega)] at hi
    have h0 : i - l.length = 0 := by
      rcases Nat.eq_zero_or_pos (i - l.length) with h | h
      · exact h
      · rw [List.getElem?_eq_none (by simp; omega)] at hi; cases hi
    rw [h0] at hi
    injection hi with hi
    subst hi
    have hi' : i = l.length := by omega
    subst hi'
    rw [← hl, List.drop_left, List.take_of_length_le (by omega)]
    exact ht
theorem tombs_copy {tv : Value} {ts : List Value} {l : List TombD} (hn : ∀ t ∈ l, NiceM 12 t.m) (hll : l.length < 2 ^ 40) (h : RegF st 8 tv ts l.length) (hts : TombsAt st ts l) : ICalls Tryz.prog W0 114 #[tv] st fun e st' => ∃ v ts', e = .returned v ∧ RegF st' 8 v ts' l.length ∧ TombsAt st' ts' l ∧ New st st' := by
  obtain ⟨tb, tc, rfl⟩ := h.slice
  refine enter (args := [_]) Tryz.func114 rfl ?_
  simp [Tryz.f114, go_sem]
  refine ⟨fun E st' => New st st' ∧ E 0 = .slice tb l.length tc ∧ ∃ (i : Nat) (ts' : List Value), E 4 = Val.i i ∧ i ≤ l.length ∧ Vec st' (.ty 0) 8 (E 3) ts' i ∧ Fresh st (E 3) ∧ TombsAt st' ts' (l.take i),
    fun E _ => match E 4 with | .int _ i => l.length - i.toNat | _ => 0, ⟨st, .rfl' _, New.refl _, by simp [go_sem], 0, [], by simp [go_sem], by omega, by simpa [go_sem] using Vec.nil, by simpa [go_sem] using Fresh.none, by intro i x hi; simp at hi⟩, ?_⟩
  rintro E st2 ⟨hk2, e0, i, ts', e4, hi, hV, hF, hT⟩
  by_cases hlt : i < l.length
  · have hlt' : ((i : Int) < l.length) = True := eq_true (by omega)
    have hwi : IntKind.i64.wrap ((i : Int) + 1) = ((i + 1 : Nat) : Int) := by rw [wrap_id (by omega) (by omega)]; omega
    obtain ⟨mb, off, cap, rw_, zs, mm, g', hv, hs, hget⟩ := rows_get (h.new hk2) (by omega)
    injection hv with v1 v2 v3
    subst v1; subst v3
    obtain ⟨hlen, hcell, hc⟩ := hget i hlt
    have hx : l[i]? = some l[i] := List.getElem?_eq_getElem hlt
    have htk : l.take (i + 1) = l.take i ++ [l[i]] := by rw [List.take_add_one, hx]; rfl
    have hti := (hts i _ hx).mono (fun _ _ _ _ h => h.new hk2)
    have hni := hn _ (List.getElem_mem hlt)
    rw [← hcell] at hti
    generalize l[i] = x at *
    have hti0 := hti
    obtain ⟨ms, hms, hcs⟩ := hti
    obtain ⟨op, name, value, vb', vl', vc', kb', kl', kc', rfl⟩ := mat_cells hms
    simp only [List.cons_append, List.nil_append] at hcs
    simp [go_sem, e0, e4, hlt, hlt', hs, hlen, hcs]
    rw [hcs] at hti0
    refine (tomb_copy hni hti0).mono ?_
    rintro e st3 ⟨cs', rfl, ht3, hk3⟩
    have ht30 := ht3
    obtain ⟨ms', hms', hcs'⟩ := ht3
    obtain ⟨op2, name2, value2, vb2, vl2, vc2, kb2, kl2, kc2, rfl⟩ := mat_cells hms'
    simp only [List.cons_append, List.nil_append] at hcs'
    subst hcs'
    simp [go_sem]
    unfold NewS
    intro nb hnb
    refine ⟨.own nb 0 80, ?_⟩
    simp [go_sem]
    have hN := (New.refl st3).add (b := nb) (o := .cells true [Val.i x.seq, Val.i op2, .string name2, .string value2, .slice vb2 vl2 vc2, .slice kb2 kl2 kc2, Val.i x.fro, Val.i x.to] 8 (.own nb 0 80)) hnb
    refine AppI_new (st0 := st) (g := .ty 0) (m := 1) (ys := [Val.i x.seq, Val.i op2, .string name2, .string value2, .slice vb2 vl2 vc2, .slice kb2 kl2 kc2, Val.i x.fro, Val.i x.to]) si79 ((hV.new' hk3).new' hN) hF ((hk2.trans hk3).trans hN) ?_ ?_ (by omega) ?_
    · simp [srcCells, lkN_mk, upd_same, cellsOf]
    · intro y hy
      simp at hy
      rcases hy with rfl | rfl | rfl | rfl | rfl | rfl | rfl | rfl <;> rfl
    intro base cap4 st4 hV4 hF4 hN4 hE4
    simp [go_sem, e0, e4, hwi]
    have hmono : ∀ size v xs len, RegF st3 size v xs len → RegF st4 size v xs len := fun _ _ _ _ hx => (hx.new hN).ext hE4
    refine ⟨_, .rfl' _, ⟨hN4, i + 1, by omega, by omega, _, hV4, hF4, ?_⟩, by omega⟩
    rw [htk]
    refine TombsAt.append (by rw [hV.1, List.length_take]; omega) (fun j y hj => (hT j y hj).mono fun _ _ _ _ hx => hmono _ _ _ _ (hx.new hk3)) (ht30.mono hmono) rfl
  · have hlt' : ((i : Int) < l.length) = False := eq_false (by omega)
    have : i = l.length := by omega
    subst this
    rw [List.take_length] at hT
    simp [go_sem, e0, e4, hlt']
    exact ⟨ts', hV.reg.toF (by intro g x r; simp), hT, hk2⟩
theorem man_copy {cs : List Value} {m : ManD} (hn : ∀ t ∈ m.tombs, NiceM 12 t.m) (hl1 : m.blocks.length < 2 ^ 40) (hl2 : m.tombs.length < 2 ^ 40) (h : ManAt st cs m) : ICalls Tryz.prog W0 46 #[.agg cs.toArray] st fun e st' => ∃ cs', e = .returned (.agg cs'.toArray) ∧ ManAt st' cs' m ∧ New st st' := by
  have h0 := h
  obtain ⟨bv, tv, bs, ts, rfl, hb, hbs, ht, hts⟩ := h
  obtain ⟨bb, bc, rfl⟩ := hb.slice
  obtain ⟨tb, tc, rfl⟩ := ht.slice
  refine enter (args := [_]) Tryz.func46 rfl ?_
  simp [Tryz.f46, go_sem]
  unfold NewP
  intro tx htx
  refine ⟨.own tx 0 81, ?_⟩
  simp [go_sem]
  unfold NewP
  intro to hto
  refine ⟨.own to 0 82, ?_⟩
  have hne : tx ≠ to := by
    rintro rfl
    rw [upd_same] at hto
    cases hto
  have hne' := Ne.symm hne
  simp [go_sem, hne, hne']
  generalize hst2 : upd (upd st tx _) to _ = st2
  have hN2 : New st st2 := by rw [← hst2]; exact ((New.refl _).add htx).add hto
  have htx2 : st2 tx = some (.cells true [Val.i m.seq, Val.i m.log, Val.i m.next, Val.i m.now, .slice bb m.blocks.length bc, .slice tb m.tombs.length tc] 6 (.own tx 0 81)) := by
    rw [← hst2, upd_ne _ _ hne, upd_same]
  obtain ⟨zs, hzs, hto2⟩ : ∃ zs, zs.length = 6 ∧ st2 to = some (.cells true zs 6 (.own to 0 82)) := by
    rw [← hst2]
    exact ⟨_, rfl, upd_same _ _ _⟩
  have htn : st to = none := ((New.refl _).add htx).none hto
  refine AppI_newg (.ty 0) si78 (m := m.blocks.length) (ys := bs) (hb.new hN2).src (by omega) ?_
  intro base cap st3 hV3 hF3 hN3
  have htx3 := hN3 _ _ htx2
  have hto3 := hN3 _ _ hto2
  simp [go_sem, htx3, hto3, hne, hne']
  generalize hst4 : upd st3 tx _ = st4
  have hB4 : But1 tx st3 st4 := by rw [← hst4]; exact (But1.refl _ _).put
  have htx4 : st4 tx = some (.cells true [Val.i m.seq, Val.i m.log, Val.i m.next, Val.i m.now, .slice base m.blocks.length cap, .slice tb m.tombs.length tc] 6 (.own tx 0 81)) := by rw [← hst4, upd_same]
  have hto4 := hB4 _ _ hne' hto3
  have hN4 : New st st4 := by rw [← hst4]; exact (hN2.trans hN3).put htx
  have hb4 : RegF st4 7 (.slice base m.blocks.length cap) bs m.blocks.length := (hV3.reg.toF (by intro g x r; simp)).but hB4 htx3
  refine (tombs_copy hn hl2 (ht.new hN4) (fun i x hx => (hts i x hx).mono (fun _ _ _ _ h => h.new hN4))).mono ?_
  rintro e st5 ⟨v, ts', rfl, ht5, hts5, hk5⟩
  obtain ⟨tb', tc', rfl⟩ := ht5.slice
  have htx5 := hk5 _ _ htx4
  have hto5 := hk5 _ _ hto4
  have hz0 : zs.drop 6 = [] := by rw [List.drop_eq_nil_iff]; omega
  simp [go_sem, htx5, hto5, hne, hne', hzs, hz0]
  refine RetI_cell ?_
  simp [go_sem]
  have hR := fun size v xs len (h : RegF st5 size v xs len) => h.but (But1.put (o := .cells true [Val.i m.seq, Val.i m.log, Val.i m.next, Val.i m.now, .slice base m.blocks.length cap, .slice tb' m.tombs.length tc'] 6 (.own tx 0 81)) (But1.refl tx st5)) htx5
  have hto6 : (upd st5 tx (.cells true [Val.i m.seq, Val.i m.log, Val.i m.next, Val.i m.now, .slice base m.blocks.length cap, .slice tb' m.tombs.length tc'] 6 (.own tx 0 81))) to = some (.cells true zs 6 (.own to 0 82)) := (upd_ne _ _ hne').trans hto5
  have hR2 := fun size v xs len (h : RegF (upd st5 tx (.cells true [Val.i m.seq, Val.i m.log, Val.i m.next, Val.i m.now, .slice base m.blocks.length cap, .slice tb' m.tombs.length tc'] 6 (.own tx 0 81))) size v xs len) => h.but (But1.put (o := (.cells true [Val.i m.seq, Val.i m.log, Val.i m.next, Val.i m.now, .slice base m.blocks.length cap, .slice tb' m.tombs.length tc'] 6 (.own to 0 82))) (But1.refl to _)) hto6
  have hR3 := fun size v xs len (h : RegF st5 size v xs len) => hR2 _ _ _ _ (hR size v xs len h)
  exact ⟨⟨_, _, bs, ts', rfl, hR3 _ _ _ _ (hb4.new hk5), hbs, hR3 _ _ _ _ ht5, fun i x hx => (hts5 i x hx).mono hR3⟩, ((hN4.trans hk5).put htx).put htn⟩
theorem small_spec {cs : List Value} {m : ManD} (h : ManAt st cs m) : ICalls Tryz.prog W0 38 #[.agg cs.toArray] st fun e st' => ∃ r, e = .returned (.bool r) ∧ (r = true → m.tombs.length ≤ 70 ∧ m.blocks.length ≤ 1000 ∧ ∀ t ∈ m.tombs, NiceM 12 t.m) ∧ New st st' := by
  have h0 := h
  obtain ⟨bv, tv, bs, ts, rfl, hb, hbs, ht, hts⟩ := h
  obtain ⟨bb, bc, rfl⟩ := hb.slice
  obtain ⟨tb, tc, rfl⟩ := ht.slice
  refine enter (args := [_]) Tryz.func38 rfl ?_
  refine IW_cut (fun E' st' => ∃ tm, New st st' ∧ E' 1 = ptr tm ∧ st' tm = some (.cells true [Val.i m.seq, Val.i m.log, Val.i m.next, Val.i m.now, .slice bb m.blocks.length bc, .slice tb m.tombs.length tc] 6 (.ty 0))) ?_ ?_
  · simp [go_sem]
    unfold NewP
    intro tm htm
    refine ⟨.ty 0, ?_⟩
    simp [go_sem]
    exact (New.refl _).add htm
  rintro E1 st1 ⟨tm, hk1, e1, htm⟩
  by_cases h1 : 70 < m.tombs.length
  · have q1 : ((70 : Int) < m.tombs.length) = True := eq_true (by omega)
    simp [go_sem, e1, htm, q1]
    exact hk1
  have q1 : ((70 : Int) < m.tombs.length) = False := eq_false (by omega)
  by_cases h2 : 1000 < m.blocks.length
  · have q2 : ((1000 : Int) < m.blocks.length) = True := eq_true (by omega)
    simp [go_sem, e1, htm, q1, q2]
    exact hk1
  have q2 : ((1000 : Int) < m.blocks.length) = False := eq_false (by omega)
  simp [go_sem, e1, htm, q1, q2]
  refine ⟨fun E st' => New st st' ∧ E 1 = ptr tm ∧ st' tm = some (.cells true [Val.i m.seq, Val.i m.log, Val.i m.next, Val.i m.now, .slice bb m.blocks.length bc, .slice tb m.tombs.length tc] 6 (.ty 0)) ∧ ∃ i : Nat, E 3 = Val.i i ∧ i ≤ m.tombs.length ∧ ∀ t ∈ m.tombs.take i, NiceM 12 t.m,
    fun E _ => match E 3 with | .int _ i => m.tombs.length - i.toNat | _ => 0, ⟨st1, .rfl' _, hk1, by simp [go_sem, e1], htm, 0, by simp [go_sem], by omega, by simp⟩, ?_⟩
  clear e1 htm hk1
  rintro E st2 ⟨hk2, e1, htm, i, e3, hi, hall⟩
  by_cases hlt : i < m.tombs.length
  · have hlt' : ((i : Int) < m.tombs.length) = True := eq_true (by omega)
    have hwi : IntKind.i64.wrap ((i : Int) + 1) = ((i + 1 : Nat) : Int) := by rw [wrap_id (by omega) (by omega)]; omega
    obtain ⟨mb, off, cap, rw_, zs, mm, g', hv, hs, hget⟩ := rows_get (ht.new hk2) (by omega)
    injection hv with v1 v2 v3
    subst v1; subst v3
    obtain ⟨hlen, hcell, hc⟩ := hget i hlt
    have hx : m.tombs[i]? = some m.tombs[i] := List.getElem?_eq_getElem hlt
    have htk : m.tombs.take (i + 1) = m.tombs.take i ++ [m.tombs[i]] := by rw [List.take_add_one, hx]; rfl
    have hti := (hts i _ hx).mono (fun _ _ _ _ h => h.new hk2)
    rw [← hcell] at hti
    generalize m.tombs[i] = x at *
    obtain ⟨ms, hms, hcs⟩ := hti
    obtain ⟨op, name, value, vb', vl', vc', kb', kl', kc', rfl⟩ := mat_cells hms
    simp only [List.cons_append, List.nil_append] at hcs
    have hm5 : (zs.drop (off + i * 8 + 1)).take 5 = [Val.i op, .string name, .string value, .slice vb' vl' vc', .slice kb' kl' kc'] := by
      have := congrArg (fun l => (l.drop 1).take 5) hcs
      simpa [List.drop_take, List.drop_drop, List.take_take] using this
    have hl6 : off + i * 8 + 1 + 5 ≤ zs.length := by omega
    simp [go_sem, e1, e3, htm, hlt, hlt', hs, hlen, hm5, hl6]
    refine (Tiny_spec hms).mono ?_
    rintro e st3 ⟨rfl, hk3⟩
    cases htn : (tinyM x.m 0 0).1 with
    | false =>
      simp [go_sem]
      exact hk2.trans hk3
    | true =>
      simp [go_sem, e1, e3, hwi]
      have hN := ((tinyM_spec x.m 0 0).2 htn).2
      refine ⟨_, .rfl' _, ⟨hk2.trans hk3, hk3 _ _ htm, i + 1, by omega, by omega, ?_⟩, by omega⟩
      rw [htk]
      intro t ht
      rcases List.mem_append.1 ht with h | h
      · exact hall t h
      · simp at h; subst h; exact hN
  · have hlt' : ((i : Int) < m.tombs.length) = False := eq_false (by omega)
    have : i = m.tombs.length := by omega
    subst this
    rw [List.take_length] at hall
    simp [go_sem, e1, e3, htm, hlt']
    exact ⟨⟨by omega, by omega, hall⟩, hk2⟩
end
end Go.Proofs.YtgppogppdmbgmaaGreat
set_option linter.unusedVariables false
set_option linter.unusedSimpArgs false
set_option maxRecDepth 100000
set_option maxHeartbeats 8000000
namespace Go.Proofs.YtgppogppdmbgmaaGreat
open Go.RowKit (Below)
def intsM (b : Bs) : Nat → Int → Option (List Int × Int)
  | 0, a => some ([], a)
  | k + 1, a => (vgetIntM b a).bind fun p => (intsM b k p.2).map fun q => (p.1 :: q.1, q.2)
theorem intsM_length {b : Bs} : ∀ {k : Nat} {a : Int} {l : List Int} {a' : Int}, intsM b k a = some (l, a') → l.length = k
  | 0, a, l, a', h => by unfold intsM at h; injection h with h; injection h with h1 h2; subst h1; rfl
  | k + 1, a, l, a', h => by
    unfold intsM at h
    obtain ⟨p, hp, h⟩ := Option.bind_eq_some_iff.1 h
    obtain ⟨q, hq, h⟩ := Option.map_eq_some_iff.1 h
    injection h with h1 h2
    subst h1
    have := intsM_length (l := q.1) (a' := q.2) hq
    simp [this]
def tombM1 (b : Bs) (a : Int) : Option (TombD × Int) := (intsM b 3 a).bind fun p => (getMatM b p.2).map fun q => (⟨p.1.getD 0 0, q.1, p.1.getD 1 0, p.1.getD 2 0⟩, q.2)
def tombsM1 (b : Bs) : Option Int → Nat → Int → Option (List TombD × Int)
  | _, 0, a => some ([], a)
  | prev, k + 1, a => (tombM1 b a).bind fun p => if tombOK p.1 ∧ (∀ q ∈ prev, q < p.1.seq) then (tombsM1 b (some p.1.seq) k p.2).map fun r => (p.1 :: r.1, r.2) else none
def tombsGetM (b : Bs) (a : Int) : Option (List TombD × Int) := (vgetM b a).bind fun p => if 64 < p.1 then none else tombsM1 b none p.1 p.2
def lastSeq (l : List TombD) : Option Int := (l.getLast?).map (·.seq)
section
variable {W0 : World} {st : Heap}
/-- Numbers got into a row of variables. -/
theorem ints_spec {bv lv : Value} {b : Bs} {g0 gl : Tg} {k tm n : Nat} {at_ : Int} {xs : List Value} {tg : Tg} (hb : Reg st g0 1 bv (bytesV b) b.length) (hl : b.length < 2 ^ 60) (hL : Reg st gl 1 lv ((List.range k).map fun j => .pointer (some ⟨tm, j, none⟩)) k) (hk : k < 100) (ht : st tm = some (.cells true xs n tg)) (hx : k ≤ xs.length) (hn : k ≤ n) (hg0 : g0 ≠ tg) (hgl : gl ≠ tg) :
    ICalls Tryz.prog W0 241 #[bv, Val.i at_, lv] st fun e st' => But1 tm st st' ∧ match intsM b k at_ with
      | some (vs, a) => e = .returned (.tuple #[Val.i a, .bool true]) ∧ st' tm = some (.cells true (vs.map Val.i ++ xs.drop k) n tg)
      | none => e = .returned (.tuple #[Val.i 0, .bool false]) ∧ ∃ xs', xs'.length = xs.length ∧ (∀ y ∈ xs', y ∈ xs ∨ y.oneCell' = true) ∧ st' tm = some (.cells true xs' n tg) := by
  obtain ⟨bb, bc, rfl⟩ := hb.slice
  obtain ⟨lb, lc, rfl⟩ := hL.slice
  generalize hRES : intsM b k at_ = RES
  refine enter (args := [_, _, _]) Tryz.func241 rfl ?_
  simp [Tryz.f241, go_sem]
  refine ⟨fun E st' => But1 tm st st' ∧ E 0 = .slice bb b.length bc ∧ E 11 = .slice lb k lc ∧ E 12 = Val.i k ∧ ∃ (i : Nat) (vs : List Int) (a : Int), E 13 = Val.i i ∧ i ≤ k ∧ vs.length = i ∧ E 1 = Val.i a ∧ st' tm = some (.cells true (vs.map Val.i ++ xs.drop i) n tg) ∧ (intsM b (k - i) a).map (fun q => (vs ++ q.1, q.2)) = RES,
    fun E _ => match E 13 with | .int _ i => k - i.toNat | _ => 0, ⟨st, .rfl' _, But1.refl _ _, by simp [go_sem], by simp [go_sem], by simp [go_sem], 0, [], at_, by simp [go_sem], by omega, rfl, by simp [go_sem], by simpa using ht, by rw [← hRES]; cases h : intsM b (k - 0) at_ <;> simp_all⟩, ?_⟩
  rintro E st2 ⟨hk2, e0, e11, e12, i, vs, a, e13, hi, hvl, e1, ht2, hrec⟩
  have hb2 : Reg st2 g0 1 (.slice bb b.length bc) (bytesV b) b.length := by
    obtain ⟨q1, base, cap, q2, q3, q4⟩ := hb
    refine ⟨q1, base, cap, q2, q3, q4.imp id ?_⟩
    rintro ⟨blk, off, rw_, ys, m, r1, r2, r3⟩
    refine ⟨blk, off, rw_, ys, m, r1, hk2 _ _ ?_ r2, r3⟩
    rintro rfl
    rw [ht] at r2
    injection r2 with r2
    injection r2 with _ _ _ r2
    exact hg0 r2.symm
  have hL2 : Reg st2 gl 1 (.slice lb k lc) ((List.range k).map fun j => .pointer (some ⟨tm, j, none⟩)) k := by
    obtain ⟨q1, base, cap, q2, q3, q4⟩ := hL
    refine ⟨q1, base, cap, q2, q3, q4.imp id ?_⟩
    rintro ⟨blk, off, rw_, ys, m, r1, r2, r3⟩
    refine ⟨blk, off, rw_, ys, m, r1, hk2 _ _ ?_ r2, r3⟩
    rintro rfl
    rw [ht] at r2
    injection r2 with r2
    injection r2 with _ _ _ r2
    exact hgl r2.symm
  by_cases hlt : i < k
  · have hlt' : ((i : Int) < k) = True := eq_true (by omega)
    have hwi : IntKind.i64.wrap ((i : Int) + 1) = ((i + 1 : Nat) : Int) := by rw [wrap_id (by omega) (by omega)]; omega
    obtain ⟨blk, off, rfl, hget⟩ := src_get hL2.src (by omega)
    have hgi := hget i (by omega)
    have hpi : ((List.range k).map fun j => Value.pointer (some ⟨tm, j, none⟩))[i]? = some (.pointer (some ⟨tm, i, none⟩)) := by simp [hlt]
    rw [hpi] at hgi
    obtain ⟨q, hq⟩ : ∃ q, k - i = q + 1 := ⟨k - i - 1, by omega⟩
    rw [hq] at hrec
    unfold intsM at hrec
    simp [go_sem, e11, e12, e13, hlt, hlt', hgi]
    rw [e0, e1]
    refine (vGetInt_spec hb2 hl).mono ?_
    rintro e st3 ⟨rfl, rfl⟩
    have hLl : i < (vs.map Val.i ++ xs.drop i).length := by simp [hvl]; omega
    have hn' : i < n := by omega
    have hlen0 : (vs.map Val.i ++ xs.drop i).length = xs.length := by simp [hvl]; omega
    have hset : ∀ v, (vs.map Val.i ++ xs.drop i).set i (Val.i v) = (vs ++ [v]).map Val.i ++ xs.drop (i + 1) := by
      intro v
      have h1 : xs.drop i = xs[i] :: xs.drop (i + 1) := List.drop_eq_getElem_cons (by omega)
      rw [List.set_append_right _ _ (by simp [hvl]), show i - (vs.map Val.i).length = 0 by simp [hvl], h1, List.set_cons_zero]
      simp
    obtain ⟨L, hL0⟩ : ∃ L, vs.map Val.i ++ xs.drop i = L := ⟨_, rfl⟩
    rw [hL0] at ht2 hLl hlen0 hset
    have hLe : i ≤ L.length := by omega
    cases hv : vgetIntM b a with
    | none =>
      rw [hv] at hrec
      simp at hrec
      subst hrec
      simp [go_sem, vgetIntV, ht2, hLl, hn', hLe]
      refine ⟨hk2.put, hlen0, fun y hy => ?_⟩
      rcases List.mem_or_eq_of_mem_set hy with h | h
      · rw [← hL0] at h
        rcases List.mem_append.1 h with h | h
        · obtain ⟨z, _, rfl⟩ := List.mem_map.1 h
          exact .inr rfl
        · exact .inl (List.mem_of_mem_drop h)
      · exact .inr (by subst h; rfl)
    | some p =>
      obtain ⟨v, a'⟩ := p
      rw [hv] at hrec
      simp only [Option.bind_some] at hrec
      simp [go_sem, vgetIntV, ht2, hLl, hn', hLe, e0, e11, e12, e13, hwi]
      refine ⟨_, .rfl' _, ⟨hk2.put, i + 1, by omega, by omega, vs ++ [v], by simp [hvl], ?_, ?_⟩, by omega⟩
      · rw [upd_same, hset]
      · rw [← hrec, show k - (i + 1) = q by omega]
        cases intsM b q a' <;> simp
  · have hlt' : ((i : Int) < k) = False := eq_false (by omega)
    have : i = k := by omega
    subst this
    simp [intsM] at hrec
    subst hrec
    simp [go_sem, e1, e11, e12, e13, hlt']
    exact ⟨hk2, ht2⟩
def tombZ (vs : List Int) : List Value := [Val.i (vs.getD 0 0), Val.i 0, .string ⟨#[]⟩, .string ⟨#[]⟩, .slice none 0 0, .slice none 0 0, Val.i (vs.getD 1 0), Val.i (vs.getD 2 0)]
theorem tombGet_spec {bv : Value} {b : Bs} {g0 : Tg} {at_ : Int} (hb : Reg st g0 1 bv (bytesV b) b.length) (hl : b.length < 2 ^ 60) (hg : Free g0) :
    ICalls Tryz.prog W0 242 #[bv, Val.i at_] st fun e st' => New st st' ∧ match tombsGetM b at_ with
      | some (l, a) => ∃ v ts, e = .returned (.tuple #[v, Val.i a, .bool true]) ∧ RegF st' 8 v ts l.length ∧ TombsAt st' ts l
      | none => e = .returned (.tuple #[.slice none 0 0, Val.i 0, .bool false]) := by
  obtain ⟨bb, bc, rfl⟩ := hb.slice
  generalize hRES : tombsGetM b at_ = RES
  unfold tombsGetM at hRES
  have w0 : IntKind.i64.wrap 0 = 0 := wrap_id (by omega) (by omega)
  have w1 : IntKind.i64.wrap 1 = 1 := wrap_id (by omega) (by omega)
  have w2 : IntKind.i64.wrap 2 = 2 := wrap_id (by omega) (by omega)
  have w3 : IntKind.i64.wrap 3 = 3 := wrap_id (by omega) (by omega)
  refine enter (args := [_, _]) Tryz.func242 rfl ?_
  simp [Tryz.f242, go_sem]
  refine (vGet_spec hb hl).mono ?_
  rintro e st1 ⟨rfl, rfl⟩
  cases hv : vgetM b at_ with
  | none =>
    rw [hv] at hRES
    simp at hRES
    subst hRES
    simp [go_sem, vgetV]
    exact New.refl _
  | some p =>
  obtain ⟨n, a0⟩ := p
  rw [hv] at hRES
  simp only [Option.bind_some] at hRES
  by_cases hn : 64 < n
  · have hn' : ((64 : Int) < n) = True := eq_true (by omega)
    rw [if_pos hn] at hRES
    subst hRES
    simp [go_sem, vgetV, hn']
    exact New.refl _
  have hn' : ((64 : Int) < n) = False := eq_false (by omega)
  rw [if_neg hn] at hRES
  have hwn : IntKind.i64.wrap (n : Int) = (n : Int) := wrap_id (by omega) (by omega)
  simp [go_sem, vgetV, hn', hwn]
  refine ⟨fun E st' => New st1 st' ∧ E 0 = .slice bb b.length bc ∧ E 28 = Val.i n ∧ ∃ (i : Nat) (l : List TombD) (ts : List Value) (a : Int), E 29 = Val.i i ∧ i ≤ n ∧ l.length = i ∧ E 1 = Val.i a ∧ Vec st' (.ty 1) 8 (E 9) ts i ∧ Fresh st1 (E 9) ∧ TombsAt st' ts l ∧ (tombsM1 b (lastSeq l) (n - i) a).map (fun q => (l ++ q.1, q.2)) = RES,
    fun E _ => match E 29 with | .int _ i => n - i.toNat | _ => 0, ⟨st1, .rfl' _, New.refl _, by simp [go_sem], by simp [go_sem], 0, [], [], a0, by simp [go_sem], by omega, rfl, by simp [go_sem], by simpa [go_sem] using Vec.nil, by simpa [go_sem] using Fresh.none, by intro i x hi; simp at hi, by rw [← hRES]; simp [lastSeq]⟩, ?_⟩
  rintro E st2 ⟨hk2, e0, e28, i, l, ts, a, e29, hi, hll, e1, hV, hF, hT, hrec⟩
  by_cases hlt : i < n
  rotate_left
  · have hlt' : ((i : Int) < n) = False := eq_false (by omega)
    have : i = n := by omega
    subst this
    simp [tombsM1] at hrec
    subst hrec
    simp [go_sem, e1, e28, e29, hlt']
    rw [hll]
    exact ⟨hk2, ts, hV.reg.toF Free.ty, hT⟩
  have hlt' : ((i : Int) < n) = True := eq_true (by omega)
  have hwi : IntKind.i64.wrap ((i : Int) + 1) = ((i + 1 : Nat) : Int) := by rw [wrap_id (by omega) (by omega)]; omega
  obtain ⟨q, hq⟩ : ∃ q, n - i = q + 1 := ⟨n - i - 1, by omega⟩
  rw [hq] at hrec
  unfold tombsM1 tombM1 at hrec
  simp [go_sem, e28, e29, hlt, hlt']
  unfold NewP
  intro tm htm
  refine ⟨.own tm 0 86, ?_⟩
  simp [go_sem, e0, e1, e28, e29]
  obtain ⟨lv, hlv⟩ : ∃ v, E 9 = v := ⟨_, rfl⟩
  rw [hlv] at hV hF
  have htm0 := upd_same st2 tm (.cells true [Val.i 0, Val.i 0, .string ⟨#[]⟩, .string ⟨#[]⟩, .slice none 0 0, .slice none 0 0, Val.i 0, Val.i 0] 8 (.own tm 0 86))
  have hN3 := (New.refl st2).add (b := tm) (o := .cells true [Val.i 0, Val.i 0, .string ⟨#[]⟩, .string ⟨#[]⟩, .slice none 0 0, .slice none 0 0, Val.i 0, Val.i 0] 8 (.own tm 0 86)) htm
  obtain ⟨R3, hR3⟩ : ∃ R, intsM b 3 a = R := ⟨_, rfl⟩
  rw [hR3] at hrec
  refine ⟨fun E' st' => New st2 st' ∧ E' 0 = .slice bb b.length bc ∧ E' 9 = lv ∧ E' 10 = Val.i i ∧ E' 11 = ptr tm ∧ E' 28 = Val.i n ∧ E' 29 = Val.i i ∧ E' 36 = .agg #[.pointer (some ⟨tm, 0, none⟩), .pointer (some ⟨tm, 6, none⟩), .pointer (some ⟨tm, 7, none⟩)] ∧ ∃ (j : Nat) (vs : List Int) (a' : Int), E' 37 = Val.i j ∧ j ≤ 3 ∧ vs.length = j ∧ E' 1 = Val.i a' ∧ st' tm = some (.cells true (tombZ vs) 8 (.own tm 0 86)) ∧ (intsM b (3 - j) a').map (fun p => (vs ++ p.1, p.2)) = R3,
    fun E' _ => match E' 37 with | .int _ j => 3 - j.toNat | _ => 0, ⟨_, .rfl' _, hN3, by simp [go_sem, e0], by simp [go_sem, hlv], by simp [go_sem], by simp [go_sem], by simp [go_sem, e28], by simp [go_sem, e29], by simp [go_sem], 0, [], a, by simp [go_sem], by omega, rfl, by simp [go_sem, e1], htm0, by rw [← hR3]; cases intsM b 3 a <;> simp⟩, ?_⟩
  clear htm0 hN3 e0 e1 e28 e29 hlv
  rintro E' st4 ⟨hk4, e0, e9, e10, e11, e28, e29, e36, j, vs, a', e37, hj, hvl, e1, htm4, hrec4⟩
  have hbb : Reg st4 g0 1 (.slice bb b.length bc) (bytesV b) b.length := (hb.new hk2).new hk4
  have hN4 := hk2.trans hk4
  by_cases hj3 : j < 3
  · obtain ⟨q4, hq4⟩ : ∃ q, 3 - j = q + 1 := ⟨3 - j - 1, by omega⟩
    rw [hq4] at hrec4
    unfold intsM at hrec4
    have hjc : j = 0 ∨ j = 1 ∨ j = 2 := by omega
    rcases hjc with rfl | rfl | rfl
    · have hvs : vs = [] := List.eq_nil_of_length_eq_zero hvl
      subst hvs
      simp [go_sem, e0, e1, e36, e37]
      refine (vGetInt_spec hbb hl).mono ?_
      rintro e st5 ⟨rfl, rfl⟩
      cases hv2 : vgetIntM b a' with
      | none =>
        rw [hv2] at hrec4
        simp at hrec4
        subst hrec4
        simp at hrec
        subst hrec
        simp [go_sem, vgetIntV, tombZ, htm4]
        exact hN4.put (hk2.none htm)
      | some p =>
        obtain ⟨v, a2⟩ := p
        rw [hv2] at hrec4
        simp only [Option.bind_some] at hrec4
        have hq4' : q4 = 2 := by omega
        subst hq4'
        simp [go_sem, vgetIntV, tombZ, htm4, e0, e9, e10, e11, e28, e29, e36, e37, w0, w1, w2, w3]
        refine ⟨_, .rfl' _, hk4.put htm, 1, rfl, by omega, [v], rfl, by rw [upd_same]; simp, ?_⟩
        rw [← hrec4]
        show Option.map _ (intsM b 2 a2) = _
        cases intsM b 2 a2 <;> simp
    · obtain ⟨s0, rfl⟩ : ∃ s0, vs = [s0] := by
        match vs, hvl with
        | [x], _ => exact ⟨x, rfl⟩
      simp [go_sem, e0, e1, e36, e37]
      refine (vGetInt_spec hbb hl).mono ?_
      rintro e st5 ⟨rfl, rfl⟩
      cases hv2 : vgetIntM b a' with
      | none =>
        rw [hv2] at hrec4
        simp at hrec4
        subst hrec4
        simp at hrec
        subst hrec
        simp [go_sem, vgetIntV, tombZ, htm4]
        exact hN4.put (hk2.none htm)
      | some p =>
        obtain ⟨v, a2⟩ := p
        rw [hv2] at hrec4
        simp only [Option.bind_some] at hrec4
        have hq4' : q4 = 1 := by omega
        subst hq4'
        simp [go_sem, vgetIntV, tombZ, htm4, e0, e9, e10, e11, e28, e29, e36, e37, w0, w1, w2, w3]
        refine ⟨_, .rfl' _, hk4.put htm, 2, rfl, by omega, [s0, v], rfl, by rw [upd_same]; simp, ?_⟩
        rw [← hrec4]
        show Option.map _ (intsM b 1 a2) = _
        cases intsM b 1 a2 <;> simp
    · obtain ⟨s0, s1, rfl⟩ : ∃ s0 s1, vs = [s0, s1] := by
        match vs, hvl with
        | [x, y], _ => exact ⟨x, y, rfl⟩
      simp [go_sem, e0, e1, e36, e37]
      refine (vGetInt_spec hbb hl).mono ?_
      rintro e st5 ⟨rfl, rfl⟩
      cases hv2 : vgetIntM b a' with
      | none =>
        rw [hv2] at hrec4
        simp at hrec4
        subst hrec4
        simp at hrec
        subst hrec
        simp [go_sem, vgetIntV, tombZ, htm4]
        exact hN4.put (hk2.none htm)
      | some p =>
        obtain ⟨v, a2⟩ := p
        rw [hv2] at hrec4
        simp only [Option.bind_some] at hrec4
        have hq4' : q4 = 0 := by omega
        subst hq4'
        simp [go_sem, vgetIntV, tombZ, htm4, e0, e9, e10, e11, e28, e29, e36, e37, w0, w1, w2, w3]
        refine ⟨_, .rfl' _, hk4.put htm, 3, rfl, by omega, [s0, s1, v], rfl, by rw [upd_same]; simp, ?_⟩
        rw [← hrec4]
        show Option.map _ (intsM b 0 a2) = _
        cases intsM b 0 a2 <;> simp
  · have : j = 3 := by omega
    subst this
    obtain ⟨s0, s1, s2, rfl⟩ : ∃ s0 s1 s2, vs = [s0, s1, s2] := by
      match vs, hvl with
      | [x, y, z], _ => exact ⟨x, y, z, rfl⟩
    simp [intsM] at hrec4
    subst hrec4
    simp only [Option.bind_some] at hrec
    simp [go_sem, e0, e1, e36, e37]
    refine (matGet_spec hl hbb hg).mono ?_
    rintro e st5 ⟨hk5, hR⟩
    have htm5 := hk5 _ _ htm4
    cases hmg : getMatM b a' with
    | none =>
      rw [hmg] at hR hrec
      simp at hrec
      subst hrec
      simp only at hR
      subst hR
      unfold zeroMat
      simp [go_sem, tombZ, e11, htm5]
      refine draw [0, 1, 2, 3, 4, 5, 6, 7, 8, 9, 10, 11, 13, 14, 15, 16, 17, 12, 18, 19, 20, 21] (by kernel_rfl) ?_
      simp [go_sem]
      exact (hN4.trans hk5).put (hk2.none htm)
    | some p =>
      obtain ⟨m, a6⟩ := p
      rw [hmg] at hR hrec
      simp only [Option.map_some, Option.bind_some] at hrec
      obtain ⟨cs, rfl, hm⟩ := hR
      obtain ⟨op, name, value, vb, vl, vc, kb, kl, kc, rfl⟩ := mat_cells' hm
      simp [go_sem, tombZ, e11, htm5]
      refine draw [0, 1, 2, 3, 4, 5, 6, 7, 8, 9, 10, 11, 13, 14, 15, 16, 17, 12, 18, 19, 20, 21] (by kernel_rfl) ?_
      generalize hst6 : upd st5 tm _ = st6
      have hB6 : But1 tm st5 st6 := by rw [← hst6]; exact (But1.refl _ _).put
      have htm6 : st6 tm = some (.cells true [Val.i s0, Val.i op, .string name, .string value, .slice vb vl vc, .slice kb kl kc, Val.i s1, Val.i s2] 8 (.own tm 0 86)) := by rw [← hst6, upd_same]
      have hN6 : New st1 st6 := by rw [← hst6]; exact (hN4.trans hk5).put (hk2.none htm)
      have hV6 : Vec st6 (.ty 1) 8 lv ts i := ((hV.new' hk4).new' hk5).but hB6 htm5
      have hm6 := MatAt.mono (fun _ _ _ _ hx => hx.but hB6 htm5) _ _ hm
      have hT6 : TombsAt st6 ts l := fun j y hj => (hT j y hj).mono fun _ _ _ _ hx => ((hx.new hk4).new hk5).but hB6 htm5
      have htA : TombAt st6 [Val.i s0, Val.i op, .string name, .string value, .slice vb vl vc, .slice kb kl kc, Val.i s1, Val.i s2] ⟨s0, m, s1, s2⟩ := ⟨_, hm6, rfl⟩
      simp [go_sem, e11, htm6]
      refine (tombCheck_spec htA).mono ?_
      rintro e st7 ⟨rfl, hk7⟩
      have htm7 := hk7 _ _ htm6
      have hV7 := hV6.new' hk7
      have hN7 := hN6.trans hk7
      by_cases hok : tombOK ⟨s0, m, s1, s2⟩
      rotate_left
      · have hok' := eq_false hok
        rw [if_neg (by intro h; exact hok h.1)] at hrec
        simp at hrec
        subst hrec
        simp [go_sem, hok']
        exact hN7
      have hok' := eq_true hok
      have hprev : (i = 0 ∧ l = []) ∨ (0 < i ∧ ∃ x, l[i - 1]? = some x ∧ lastSeq l = some x.seq) := by
        rcases Nat.eq_zero_or_pos i with h0 | h0
        · exact .inl ⟨h0, List.eq_nil_of_length_eq_zero (by omega)⟩
        · refine .inr ⟨h0, l[i - 1], List.getElem?_eq_getElem (by omega), ?_⟩
          unfold lastSeq
          rw [List.getLast?_eq_getElem?, show l.length - 1 = i - 1 by omega, List.getElem?_eq_getElem (by omega)]
          rfl
      rcases hprev with ⟨h0, hl0⟩ | ⟨h0, x, hx, hls⟩
      · have hi0 : (0 < i) = False := eq_false (by omega)
        rw [if_pos ⟨hok, by rw [hl0]; simp [lastSeq]⟩] at hrec
        simp [go_sem, hok', e9, e10, e11, hi0, htm7]
        unfold NewS
        intro nb hnb
        refine ⟨.own nb 0 87, ?_⟩
        simp [go_sem, e9]
        have hN8 := (New.refl st7).add (b := nb) (o := .cells true [Val.i s0, Val.i op, .string name, .string value, .slice vb vl vc, .slice kb kl kc, Val.i s1, Val.i s2] 8 (.own nb 0 87)) hnb
        refine AppI_new (st0 := st1) (g := .ty 1) (m := 1) (ys := [Val.i s0, Val.i op, .string name, .string value, .slice vb vl vc, .slice kb kl kc, Val.i s1, Val.i s2]) si79 (hV7.new' hN8) hF (hN7.trans hN8) ?_ ?_ (by omega) ?_
        · simp [srcCells, lkN_mk, upd_same, cellsOf]
        · intro y hy
          simp at hy
          rcases hy with rfl | rfl | rfl | rfl | rfl | rfl | rfl | rfl <;> rfl
        intro base cap9 st9 hV9 hF9 hN9 hE9
        simp [go_sem, e0, e1, e28, e29, hwi]
        have hmono : ∀ size v xs len, RegF st7 size v xs len → RegF st9 size v xs len := fun _ _ _ _ hx => (hx.new hN8).ext hE9
        refine ⟨_, .rfl' _, ⟨hN9, i + 1, by omega, by omega, l ++ [⟨s0, m, s1, s2⟩], by simp [hll], _, hV9, hF9, ?_, ?_⟩, by omega⟩
        · exact TombsAt.append (by rw [hV.1]; omega) (fun j y hj => (hT6 j y hj).mono fun _ _ _ _ hx => hmono _ _ _ _ (hx.new hk7)) (htA.mono fun _ _ _ _ hx => hmono _ _ _ _ (hx.new hk7)) rfl
        · rw [← hrec, show n - (i + 1) = q by omega]
          have : lastSeq (l ++ [⟨s0, m, s1, s2⟩]) = some s0 := by simp [lastSeq]
          rw [this]
          cases hh : tombsM1 b (some s0) q a6 <;> simp [hh]
      · have hi0 : (0 < i) = True := eq_true h0
        have hwm : IntKind.i64.wrap ((i : Int) - 1) = ((i - 1 : Nat) : Int) := by rw [wrap_id (by omega) (by omega)]; omega
        obtain ⟨mb, off, cap, rw_, zs, mm, g', hv7, hs7, hget⟩ := rows_get (hV7.reg.toF Free.ty) (by omega)
        subst hv7
        obtain ⟨hlen, hcell, hc⟩ := hget (i - 1) (by omega)
        obtain ⟨ms, hms, hcs⟩ := hT (i - 1) x hx
        have hc0 := hc 0 (by omega)
        rw [hcs] at hc0
        simp at hc0
        have hlt1 : i - 1 < i := by omega
        have hlt1' : (((i - 1 : Nat) : Int) < i) = True := eq_true (by omega)
        by_cases hseq : x.seq < s0
        rotate_left
        · have hseq' : (s0 ≤ x.seq) = True := eq_true (by omega)
          rw [if_neg (by rw [hls]; simp; omega)] at hrec
          simp at hrec
          subst hrec
          simp [go_sem, hok', e9, e10, e11, hi0, htm7, hwm, hs7, hlen, hc0, hlt1, hlt1', hseq']
          exact hN7
        have hseq' : (s0 ≤ x.seq) = False := eq_false (by omega)
        rw [if_pos ⟨hok, by rw [hls]; simpa using hseq⟩] at hrec
        simp [go_sem, hok', e9, e10, e11, hi0, htm7, hwm, hs7, hlen, hc0, hlt1, hlt1', hseq']
        unfold NewS
        intro nb hnb
        refine ⟨.own nb 0 87, ?_⟩
        simp [go_sem, e9]
        have hN8 := (New.refl st7).add (b := nb) (o := .cells true [Val.i s0, Val.i op, .string name, .string value, .slice vb vl vc, .slice kb kl kc, Val.i s1, Val.i s2] 8 (.own nb 0 87)) hnb
        refine AppI_new (st0 := st1) (g := .ty 1) (m := 1) (ys := [Val.i s0, Val.i op, .string name, .string value, .slice vb vl vc, .slice kb kl kc, Val.i s1, Val.i s2]) si79 (hV7.new' hN8) hF (hN7.trans hN8) ?_ ?_ (by omega) ?_
        · simp [srcCells, lkN_mk, upd_same, cellsOf]
        · intro y hy
          simp at hy
          rcases hy with rfl | rfl | rfl | rfl | rfl | rfl | rfl | rfl <;> rfl
        intro base cap9 st9 hV9 hF9 hN9 hE9
        simp [go_sem, e0, e1, e28, e29, hwi]
        have hmono : ∀ size v xs len, RegF st7 size v xs len → RegF st9 size v xs len := fun _ _ _ _ hx => (hx.new hN8).ext hE9
        refine ⟨_, .rfl' _, ⟨hN9, i + 1, by omega, by omega, l ++ [⟨s0, m, s1, s2⟩], by simp [hll], _, hV9, hF9, ?_, ?_⟩, by omega⟩
        · exact TombsAt.append (by rw [hV.1]; omega) (fun j y hj => (hT6 j y hj).mono fun _ _ _ _ hx => hmono _ _ _ _ (hx.new hk7)) (htA.mono fun _ _ _ _ hx => hmono _ _ _ _ (hx.new hk7)) rfl
        · rw [← hrec, show n - (i + 1) = q by omega]
          have : lastSeq (l ++ [⟨s0, m, s1, s2⟩]) = some s0 := by simp [lastSeq]
          rw [this]
          cases hh : tombsM1 b (some s0) q a6 <;> simp [hh]
end
end Go.Proofs.YtgppogppdmbgmaaGreat
