/- A remainder from 0 on; bytes in new memory. -/
import Derived.Test.YtmgbknkjgfdllaaCTab
import Derived.Test.YtmgbknkjgfdllaaC10
import Derived.Test.YtmgbknkjgfdllaaC37
set_option linter.unusedVariables false
set_option linter.unusedSimpArgs false
set_option maxRecDepth 100000
set_option maxHeartbeats 1000000
namespace Go.Proofs.Ytmgbknkjgfdllaa
open Go.RowKit (Below)
section
variable {W0 : World} {st : Heap}
theorem Place_spec {n k : Int} (hk : 0 < k) (hk2 : k < 2 ^ 40) : ICalls Try.prog W0 19 #[Val.i n, Val.i k] st fun e st' => (∃ m : Nat, (m : Int) < k ∧ e = .returned (Val.i m)) ∧ st' = st := by
  refine enter (args := [_, _]) Try.func19 rfl ?_
  have hk0 : ¬ k = 0 := by omega
  have h1 := Int.tmod_lt_of_pos n hk
  have h2 : -k < n.tmod k := by
    have := Int.lt_tmod_of_pos n hk
    omega
  have hw1 : IntKind.i64.wrap (n.tmod k) = n.tmod k := wrap_id (by omega) (by omega)
  by_cases hneg : n.tmod k < 0
  · have hw2 : IntKind.i64.wrap (n.tmod k + k) = n.tmod k + k := wrap_id (by omega) (by omega)
    simp [Try.f19, go_sem, hk0, hneg, hw1, hw2]
    refine ⟨(n.tmod k + k).toNat, by omega, by omega⟩
  · simp [Try.f19, go_sem, hk0, hneg, hw1]
    refine ⟨(n.tmod k).toNat, by omega, by omega⟩
theorem Bytes_spec {v : Value} {bs : Bs} {g : Tg} (h : Reg st g 1 v (bytesV bs) bs.length) (hl : bs.length < 2 ^ 40) : ICalls Try.prog W0 17 #[v] st fun e st' => ∃ b c, e = .returned (.slice b bs.length c) ∧ Vec st' (.ty 0) 1 (.slice b bs.length c) (bytesV bs) bs.length ∧ Keep (fun _ => True) st st' := by
  refine enter (args := [_]) Try.func17 rfl ?_
  simp [Try.f17, go_sem]
  refine AppI_fresh (.ty 0) si29 h.src (by omega) ?_
  intro b c st1 hv he
  simp [go_sem]
  exact ⟨b, c, ⟨rfl, rfl⟩, hv, he⟩
end
end Go.Proofs.Ytmgbknkjgfdllaa
set_option linter.unusedVariables false
set_option linter.unusedSimpArgs false
set_option maxRecDepth 100000
set_option maxHeartbeats 8000000
namespace Go.Proofs.Ytmgbknkjgfdllaa
open Go.RowKit (Below)
theorem frame_len {m : ManD} (hm : manM m = true) (hf : ManFits m) : 0 < (frameM (bodyM m)).length ∧ (frameM (bodyM m)).length ≤ 600000 := by
  have hbl := bodyM_len hm hf
  have h2 := vputM_len (bodyM m).length (by omega)
  unfold frameM le4
  simp only [List.length_append, List.length_cons, List.length_nil]
  omega
theorem frame_eq {x y : Bs} (hx : x.length < 2 ^ 60) (hy : y.length < 2 ^ 60) (h : frameM x <+: frameM y) : frameM x = frameM y := by
  have hpx : Pre (frameM x) (frameM y) 0 := h
  have hpy : Pre (frameM y) (frameM y) 0 := List.prefix_refl _
  have hlx : (frameM x).length = (vputM x.length).length + 4 + x.length := by unfold frameM le4; simp only [List.length_append, List.length_cons, List.length_nil]; omega
  have hly : (frameM y).length = (vputM y.length).length + 4 + y.length := by unfold frameM le4; simp only [List.length_append, List.length_cons, List.length_nil]; omega
  unfold frameM at hpx
  have h1 := vget_put (a := 0) (by omega) (hpx.split).1
  conv at hpy => arg 1; unfold frameM
  have h2 := vget_put (a := 0) (by omega) (hpy.split).1
  have e1 : vputM x.length ++ (le4 (crcM x) ++ x) = frameM x := rfl
  have h12 := h1.symm.trans h2
  injection h12 with h12
  injection h12 with h12 _
  exact h.eq_of_length (by rw [hlx, hly, h12])
theorem decode_some {b : Bs} {m : ManD} (h : decodeM b = some m) : manM m = true ∧ ManFits m ∧ frameM (bodyM m) = b := by
  unfold decodeM at h
  split at h
  · cases h
  split at h
  · obtain ⟨m', h1, h2⟩ := Option.bind_eq_some_iff.1 h
    split at h2
    · injection h2 with h2
      subst h2
      exact ⟨‹_ ∧ _›.1, readMan_fits h1, ‹_ ∧ _›.2⟩
    · cases h2
  · cases h
theorem decode_cut {m : ManD} {p : Nat} (hm : manM m = true) (hf : ManFits m) (hp : p < (frameM (bodyM m)).length) : decodeM ((frameM (bodyM m)).take p) = none := by
  cases hd : decodeM ((frameM (bodyM m)).take p) with
  | none => rfl
  | some m' =>
    obtain ⟨h1, h2, h3⟩ := decode_some hd
    have l1 := (bodyM_len hm hf).2
    have l2 := (bodyM_len h1 h2).2
    have h4 := frame_eq (by omega) (by omega) (show frameM (bodyM m') <+: frameM (bodyM m) by rw [h3]; exact List.take_prefix _ _)
    have h5 := congrArg List.length (h3.symm.trans h4)
    rw [List.length_take] at h5
    omega
theorem decode_more {m : ManD} {x : UInt8} (hm : manM m = true) (hf : ManFits m) : decodeM (frameM (bodyM m) ++ [x]) = none := by
  cases hd : decodeM (frameM (bodyM m) ++ [x]) with
  | none => rfl
  | some m' =>
    obtain ⟨h1, h2, h3⟩ := decode_some hd
    have l1 := (bodyM_len hm hf).2
    have l2 := (bodyM_len h1 h2).2
    have h4 := frame_eq (by omega) (by omega) (show frameM (bodyM m) <+: frameM (bodyM m') by rw [h3]; exact List.prefix_append _ _)
    have h5 := congrArg List.length (h4.trans h3)
    rw [List.length_append] at h5
    simp at h5
section
variable {W0 : World} {st : Heap}
theorem Bytes_new {v : Value} {bs : Bs} {g0 : Tg} (g : Tg) (h : Reg st g0 1 v (bytesV bs) bs.length) (hl : bs.length < 2 ^ 40) : ICalls Try.prog W0 17 #[v] st fun e st' => ∃ b c, e = .returned (.slice b bs.length c) ∧ Vec st' g 1 (.slice b bs.length c) (bytesV bs) bs.length ∧ Fresh st (.slice b bs.length c) ∧ New st st' := by
  refine enter (args := [_]) Try.func17 rfl ?_
  simp [Try.f17, go_sem]
  refine AppI_newg g si29 h.src (by omega) ?_
  intro b c st1 hv hf he
  simp [go_sem]
  exact ⟨b, c, ⟨rfl, rfl⟩, hv, hf, he⟩
end
end Go.Proofs.Ytmgbknkjgfdllaa
set_option linter.unusedVariables false
set_option linter.unusedSimpArgs false
set_option maxRecDepth 100000
set_option maxHeartbeats 8000000
namespace Go.Proofs.Ytmgbknkjgfdllaa
open Go.RowKit (Below)
section
variable {W0 : World} {st : Heap}
theorem manOwn_walk {cs : List Value} {m : ManD} (h : ManAt st cs m) (hf : ManFits m) : ICalls Try.prog W0 6 #[.agg cs.toArray] st fun e st' => e = .returned (.bool true) := by
  have h0 := h
  obtain ⟨bv, tv, bs, ts, rfl, hb, hbs, ht, hts⟩ := h
  obtain ⟨bb, bc, rfl⟩ := hb.slice
  obtain ⟨tb, tc, rfl⟩ := ht.slice
  refine enter (args := [_]) Try.func6 rfl ?_
  simp [Try.f6, go_sem]
  unfold NewP
  intro t1 ht1
  refine ⟨.ty 0, ?_⟩
  simp [go_sem]
  have hc1 := upd_same st t1 (.cells true [Val.i m.seq, Val.i m.log, Val.i m.next, Val.i m.now, .slice bb m.blocks.length bc, .slice tb m.tombs.length tc] 6 (.ty 0))
  generalize hst1 : upd st t1 _ = st1 at hc1 ⊢
  have hN1 : New st st1 := by rw [← hst1]; exact (New.refl _).add ht1
  refine (small_spec (h0.new hN1)).mono ?_
  rintro e st2 ⟨r, rfl, hr, hk2⟩
  cases r with
  | false =>
    simp [go_sem]
    refine awake21_spec.mono ?_
    rintro e st3 ⟨rfl, -⟩
    simp [go_sem]
  | true =>
  obtain ⟨hl2, hl1, hnice⟩ := hr rfl
  have hc2 := hk2 _ _ hc1
  have hN2 := hN1.trans hk2
  simp [go_sem, hc2]
  refine (refMan_spec hnice (h0.new hN2)).mono ?_
  rintro e st3 ⟨rfl, hk3⟩
  have hc3 := hk3 _ _ hc2
  have hN3 := hN2.trans hk3
  cases hm : manM m with
  | false =>
    simp [go_sem]
    refine awake21_spec.mono ?_
    rintro e st4 ⟨rfl, -⟩
    simp [go_sem]
  | true =>
  simp [go_sem, hc3]
  refine (man_copy hnice (by omega) (by omega) (h0.new hN3)).mono ?_
  rintro e st4 ⟨cs', rfl, hm4, hk4⟩
  have hc4 := hk4 _ _ hc3
  have hN4 := hN3.trans hk4
  simp [go_sem]
  refine (manEncode_spec (.own 0 0 95) hm4 hf).mono ?_
  rintro e st5 ⟨hk5, hR⟩
  rw [if_pos hm] at hR
  obtain ⟨v, rfl, hV, hF⟩ := hR
  have hc5 := hk5 _ _ hc4
  have hN5 := hN4.trans hk5
  have hdec := decode_put hm hf
  have hfl := frame_len hm hf
  generalize hFR : frameM (bodyM m) = B at *
  have hV0 := hV
  obtain ⟨hBl, base, cap, rfl, hcap, hbase⟩ := hV
  rcases hbase with ⟨vb, vn, rfl, hvb, hvn⟩ | ⟨rfl, hz⟩
  rotate_left
  · omega
  have hvs : st1 vb = none := ((hk2.trans hk3).trans hk4).none hF.at
  have hN15 : New st1 st5 := ((hk2.trans hk3).trans hk4).trans hk5
  simp [go_sem]
  refine (manDecode_spec hV0.reg (by omega)).mono ?_
  rintro e st6 ⟨hk6, hR⟩
  rw [hdec] at hR
  obtain ⟨mbv, mtv, bs6, ts6, rfl, hmV, hmF, hmM, hmt, hmT⟩ := hR
  obtain ⟨mb, mc, rfl⟩ := hmV.reg.slice
  obtain ⟨tb6, tc6, rfl⟩ := hmt.slice
  have hc6 := hk6 _ _ hc5
  have hvb6 := hk6 _ _ hvb
  have hN6 := hN5.trans hk6
  simp [go_sem]
  unfold NewP
  intro t5 ht5
  refine ⟨.ty 0, ?_⟩
  have n15 : t1 ≠ t5 := ne_of_new hc6 ht5
  have nv5 : vb ≠ t5 := ne_of_new hvb6 ht5
  simp [go_sem]
  have hd7 := upd_same st6 t5 (.cells true [Val.i m.seq, Val.i m.log, Val.i m.next, Val.i m.now, .slice mb m.blocks.length mc, .slice tb6 m.tombs.length tc6] 6 (.ty 0))
  generalize hst7 : upd st6 t5 _ = st7 at hd7 ⊢
  have hN67 : New st6 st7 := by rw [← hst7]; exact (New.refl _).add ht5
  have hc7 := hN67 _ _ hc6
  have hvb7 := hN67 _ _ hvb6
  have hN7 := hN6.trans hN67
  have hN17 : New st1 st7 := (hN15.trans hk6).trans hN67
  have n1v : t1 ≠ vb := ne_of_tag hc7 hvb7 (by simp [HObj.tag])
  have nv5' : t5 ≠ vb := Ne.symm nv5
  refine ⟨fun E' st' => But1 vb st7 st' ∧ New st1 st' ∧ E' 1 = ptr t1 ∧ E' 5 = ptr t5 ∧ E' 6 = Val.i 0 ∧ E' 3 = .slice (some ⟨vb, 0, none⟩) B.length cap ∧ ∃ i : Nat, ∃ xs : List Value, i ≤ B.length ∧ E' 7 = Val.i i ∧ xs.length = B.length ∧ st' vb = some (.cells true xs vn (.own 0 0 95)),
    fun E _ => match E 7 with | .int _ i => B.length - i.toNat | _ => 0, ⟨st7, .rfl' _, But1.refl _ _, hN17, by simp [go_sem], by simp [go_sem], by simp [go_sem], by simp [go_sem], 0, bytesV B, by omega, by simp [go_sem], by simp [bytesV], hvb7⟩, ?_⟩
  rintro E8 st8 ⟨hB8, hN8, e1, e5, e6, e3, i, xs, hi, e7, hxl, hvb8⟩
  by_cases hlt : i < B.length
  · have hlt' : ((i : Int) < B.length) = True := eq_true (by omega)
    have hwi : IntKind.i64.wrap ((i : Int) + 1) = ((i + 1 : Nat) : Int) := by rw [wrap_id (by omega) (by omega)]; omega
    have hvn' : i < vn := by omega
    simp [go_sem, e3, e7, hlt', hlt, hvb8, hvn', hxl, hwi, hi]
    exact ⟨_, .rfl' _, ⟨hB8.put, hN8.put hvs, e1, e5, e6, i + 1, by omega, by omega, xs.set i (.int .u8 0), by simp [hxl], upd_same _ _ _⟩, by omega⟩
  have hlt' : ((i : Int) < B.length) = False := eq_false (by omega)
  have hc8 := hB8.get hc7 n1v
  have hd8 := hB8.get hd7 nv5'
  have hX8 : ManAt st8 [Val.i m.seq, Val.i m.log, Val.i m.next, Val.i m.now, .slice mb m.blocks.length mc, .slice tb6 m.tombs.length tc6] m := ⟨_, _, bs6, ts6, rfl, ((hmV.new' hN67).reg.toF Free.ty).but hB8 hvb7, hmM, (hmt.new hN67).but hB8 hvb7, fun i x hx => (hmT i x hx).mono fun _ _ _ _ hh => (hh.new hN67).but hB8 hvb7⟩
  simp [go_sem, e3, e7, hlt', hlt, hvb8, hxl, e6, e1, e5, hc8, hd8]
  refine (manSame_spec hnice (by omega) (by omega) hX8 (h0.new (hN1.trans hN8))).mono ?_
  rintro e st9 ⟨r, rfl, hr9, hk9⟩
  rw [hr9 rfl]
  have hc9 := hk9 _ _ hc8
  have hd9 := hk9 _ _ hd8
  have hN19 : New st1 st9 := hN8.trans hk9
  have hmV9 := ((hmV.new' hN67).but hB8 hvb7).new' hk9
  have hrow : m.blocks.length = 0 ∨ ∃ xb n, mb = some ⟨xb, 0, none⟩ ∧ st1 xb = none ∧ xb ≠ t5 ∧ m.blocks.length * 7 ≤ n ∧ ∃ ys : List Value, ys.length = m.blocks.length * 7 ∧ st9 xb = some (.cells true ys n (.ty 1)) := by
    obtain ⟨hl9, base9, cap9, he9, hc9', hbase9⟩ := hmV9
    injection he9 with he1 he2 he3
    subst he1
    subst he3
    rcases hbase9 with ⟨xb, xn, rfl, hxb, hxn⟩ | ⟨rfl, hz⟩
    · right
      refine ⟨xb, xn, rfl, hN15.none hmF.at, ?_, ?_, bs6, hl9, hxb⟩
      · obtain ⟨_, base6, cap6, he6, _, hbase6⟩ := hmV
        injection he6 with he1 he2 he3
        subst he1
        rcases hbase6 with ⟨xb', xn', he, hxb', hxn'⟩ | ⟨he, _⟩
        · injection he with he
          injection he with he
          subst he
          exact ne_of_new hxb' ht5
        · cases he
      · exact Nat.le_trans (Nat.mul_le_mul_right 7 hc9') hxn
    · left; omega
  simp [go_sem, e6, e1, e5]
  refine ⟨fun E' st' => New st1 st' ∧ E' 1 = ptr t1 ∧ E' 5 = ptr t5 ∧ st' t5 = some (.cells true [Val.i m.seq, Val.i m.log, Val.i m.next, Val.i m.now, .slice mb m.blocks.length mc, .slice tb6 m.tombs.length tc6] 6 (.ty 0)) ∧ ∃ i : Nat, i ≤ m.blocks.length ∧ E' 8 = Val.i i ∧ (m.blocks.length = 0 ∨ ∃ xb n, mb = some ⟨xb, 0, none⟩ ∧ st1 xb = none ∧ xb ≠ t5 ∧ m.blocks.length * 7 ≤ n ∧ ∃ ys : List Value, ys.length = m.blocks.length * 7 ∧ st' xb = some (.cells true ys n (.ty 1))),
    fun E _ => match E 8 with | .int _ i => m.blocks.length - i.toNat | _ => 0, ⟨st9, .rfl' _, hN19, by simp [go_sem, e1], by simp [go_sem, e5], hd9, 0, by omega, by simp [go_sem], hrow⟩, ?_⟩
  clear hrow
  rintro E10 st10 ⟨hN10, e1, e5, hd10, i, hi, e8, hrow⟩
  have hc10 := hN10 _ _ hc1
  by_cases hlt : i < m.blocks.length
  · have hlt' : ((i : Int) < m.blocks.length) = True := eq_true (by omega)
    have hwi : IntKind.i64.wrap ((i : Int) + 1) = ((i + 1 : Nat) : Int) := by rw [wrap_id (by omega) (by omega)]; omega
    rcases hrow with hrow | ⟨xb, xn, rfl, hx1, hx5, hxn, ys, hyl, hxb⟩
    · omega
    have hi1 : i * 7 ≤ ys.length := by omega
    have hi3 : i * 7 < ys.length := by omega
    have hi2 : i * 7 < xn := by omega
    simp [go_sem, e1, e5, e8, hd10, hlt', hlt, hxb, hi1, hi2, hi3, hwi]
    exact ⟨_, .rfl' _, ⟨hN10.put hx1, by rw [upd_ne _ _ (Ne.symm hx5)]; exact hd10, i + 1, by omega, by omega, .inr ⟨hx1, hx5, xn, hxn, ys.set (i * 7) (Val.i (-1)), by simp [hyl], upd_same _ _ _⟩⟩, by omega⟩
  have hlt' : ((i : Int) < m.blocks.length) = False := eq_false (by omega)
  simp [go_sem, e1, e5, e8, hd10, hlt', hc10]
  have hNa := hN1.trans hN10
  refine (man_copy hnice (by omega) (by omega) (h0.new hNa)).mono ?_
  rintro e st11 ⟨cs', rfl, hm11, hk11⟩
  have hc11 := hk11 _ _ hc10
  simp [go_sem]
  refine (manEncode_spec (.ty 1) hm11 hf).mono ?_
  rintro e st12 ⟨hk12, hR⟩
  rw [if_pos hm, hFR] at hR
  obtain ⟨v, rfl, hV, -⟩ := hR
  have hc12 := hk12 _ _ hc11
  obtain ⟨wb, wc, rfl⟩ := hV.slice
  simp [go_sem]
  refine (manDecode_spec hV.reg (by omega)).mono ?_
  rintro e st13 ⟨hk13, hR⟩
  rw [hdec] at hR
  obtain ⟨mbv, mtv, bs13, ts13, rfl, hmV, -, hmM, hmt, hmT⟩ := hR
  have hY13 : ManAt st13 [Val.i m.seq, Val.i m.log, Val.i m.next, Val.i m.now, mbv, mtv] m := ⟨_, _, bs13, ts13, rfl, hmV.reg.toF Free.ty, hmM, hmt, hmT⟩
  obtain ⟨mb', mc', rfl⟩ := hmV.reg.slice
  obtain ⟨tb13, tc13, rfl⟩ := hmt.slice
  have hc13 := hk13 _ _ hc12
  simp [go_sem]
  unfold NewP
  intro t11 ht11
  refine ⟨.ty 0, ?_⟩
  have n111 : t1 ≠ t11 := ne_of_new hc13 ht11
  simp [go_sem, n111, e1, hc13]
  have hN134 := (New.refl st13).add (o := .cells true [Val.i m.seq, Val.i m.log, Val.i m.next, Val.i m.now, .slice mb' m.blocks.length mc', .slice tb13 m.tombs.length tc13] 6 (.ty 0)) ht11
  refine (manSame_spec hnice (by omega) (by omega) (hY13.new hN134) (h0.new ((((hNa.trans hk11).trans hk12).trans hk13).trans hN134))).mono ?_
  rintro e st14 ⟨r, rfl, hr14, hk14⟩
  rw [hr14 rfl]
  simp [go_sem]
  refine awake21_spec.mono ?_
  rintro e st15 ⟨rfl, -⟩
  simp [go_sem]
end
end Go.Proofs.Ytmgbknkjgfdllaa
