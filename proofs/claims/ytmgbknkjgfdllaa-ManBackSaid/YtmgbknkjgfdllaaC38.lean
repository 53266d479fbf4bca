/- A remainder from 0 on; bytes in new memory. -/
import Derived.Test.YtmgbknkjgfdllaaCTab
import Derived.Test.YtmgbknkjgfdllaaC10
import Derived.Test.YtmgbknkjgfdllaaC37
set_option linter.unusedVariables false
set_option linter.unusedSimpArgs false
set_option maxRecDepth 100000
set_option maxHeartbeats 1000000
namespace Go.Proofs.Ytmgbknkjgfdllaa
open Go.RowKit (Below)
section
variable {W0 : World} {st : Heap}
theorem Place_spec {n k : Int} (hk : 0 < k) (hk2 : k < 2 ^ 40) : ICalls Try.prog W0 19 #[Val.i n, Val.i k] st fun e st' => (∃ m : Nat, (m : Int) < k ∧ e = .returned (Val.i m)) ∧ st' = st := by
  refine enter (args := [_, _]) Try.func19 rfl ?_
  have hk0 : ¬ k = 0 := by omega
  have h1 := Int.tmod_lt_of_pos n hk
  have h2 : -k < n.tmod k := by
    have := Int.lt_tmod_of_pos n hk
    omega
  have hw1 : IntKind.i64.wrap (n.tmod k) = n.tmod k := wrap_id (by omega) (by omega)
  by_cases hneg : n.tmod k < 0
  · have hw2 : IntKind.i64.wrap (n.tmod k + k) = n.tmod k + k := wrap_id (by omega) (by omega)
    simp [Try.f19, go_sem, hk0, hneg, hw1, hw2]
    refine ⟨(n.tmod k + k).toNat, by omega, by omega⟩
  · simp [Try.f19, go_sem, hk0, hneg, hw1]
    refine ⟨(n.tmod k).toNat, by omega, by omega⟩
theorem Bytes_spec {v : Value} {bs : Bs} {g : Tg} (h : Reg st g 1 v (bytesV bs) bs.length) (hl : bs.length < 2 ^ 40) : ICalls Try.prog W0 17 #[v] st fun e st' => ∃ b c, e = .returned (.slice b bs.length c) ∧ Vec st' (.ty 0) 1 (.slice b bs.length c) (bytesV bs) bs.length ∧ Keep (fun _ => True) st st' := by
  refine enter (args := [_]) Try.func17 rfl ?_
  simp [Try.f17, go_sem]
  refine AppI_fresh (.ty 0) si29 h.src (by omega) ?_
  intro b c st1 hv he
  simp [go_sem]
  exact ⟨b, c, ⟨rfl, rfl⟩, hv, he⟩
end
end Go.Proofs.Ytmgbknkjgfdllaa
set_option linter.unusedVariables false
set_option linter.unusedSimpArgs false
set_option maxRecDepth 100000
set_option maxHeartbeats 8000000
namespace Go.Proofs.Ytmgbknkjgfdllaa
open Go.RowKit (Below)
theorem frame_len {m : ManD} (hm : manM m = true) (hf : ManFits m) : 0 < (frameM (bodyM m)).length ∧ (frameM (bodyM m)).length ≤ 600000 := by
  have hbl := bodyM_len hm hf
  have h2 := vputM_len (bodyM m).length (by omega)
  unfold frameM le4
  simp only [List.length_append, List.length_cons, List.length_nil]
  omega
theorem frame_eq {x y : Bs} (hx : x.length < 2 ^ 60) (hy : y.length < 2 ^ 60) (h : frameM x <+: frameM y) : frameM x = frameM y := by
  have hpx : Pre (frameM x) (frameM y) 0 := h
  have hpy : Pre (frameM y) (frameM y) 0 := List.prefix_refl _
  have hlx : (frameM x).length = (vputM x.length).length + 4 + x.length := by unfold frameM le4; simp only [List.length_append, List.length_cons, List.length_nil]; omega
  have hly : (frameM y).length = (vputM y.length).length + 4 + y.length := by unfold frameM le4; simp only [List.length_append, List.length_cons, List.length_nil]; omega
  unfold frameM at hpx
  have h1 := vget_put (a := 0) (by omega) (hpx.split).1
  conv at hpy => arg 1; unfold frameM
  have h2 := vget_put (a := 0) (by omega) (hpy.split).1
  have e1 : vputM x.length ++ (le4 (crcM x) ++ x) = frameM x := rfl
  have h12 := h1.symm.trans h2
  injection h12 with h12
  injection h12 with h12 _
  exact h.eq_of_length (by rw [hlx, hly, h12])
theorem decode_some {b : Bs} {m : ManD} (h : decodeM b = some m) : manM m = true ∧ ManFits m ∧ frameM (bodyM m) = b := by
  unfold decodeM at h
  split at h
  · cases h
  split at h
  · obtain ⟨m', h1, h2⟩ := Option.bind_eq_some_iff.1 h
    split at h2
    · injection h2 with h2
      subst h2
      exact ⟨‹_ ∧ _›.1, readMan_fits h1, ‹_ ∧ _›.2⟩
    · cases h2
  · cases h
theorem decode_cut {m : ManD} {p : Nat} (hm : manM m = true) (hf : ManFits m) (hp : p < (frameM (bodyM m)).length) : decodeM ((frameM (bodyM m)).take p) = none := by
  cases hd : decodeM ((frameM (bodyM m)).take p) with
  | none => rfl
  | some m' =>
    obtain ⟨h1, h2, h3⟩ := decode_some hd
    have l1 := (bodyM_len hm hf).2
    have l2 := (bodyM_len h1 h2).2
    have h4 := frame_eq (by omega) (by omega) (show frameM (bodyM m') <+: frameM (bodyM m) by rw [h3]; exact List.take_prefix _ _)
    have h5 := congrArg List.length (h3.symm.trans h4)
    rw [List.length_take] at h5
    omega
theorem decode_more {m : ManD} {x : UInt8} (hm : manM m = true) (hf : ManFits m) : decodeM (frameM (bodyM m) ++ [x]) = none := by
  cases hd : decodeM (frameM (bodyM m) ++ [x]) with
  | none => rfl
  | some m' =>
    obtain ⟨h1, h2, h3⟩ := decode_some hd
    have l1 := (bodyM_len hm hf).2
    have l2 := (bodyM_len h1 h2).2
    have h4 := frame_eq (by omega) (by omega) (show frameM (bodyM m) <+: frameM (bodyM m') by rw [h3]; exact List.prefix_append _ _)
    have h5 := congrArg List.length (h4.trans h3)
    rw [List.length_append] at h5
    simp at h5
section
variable {W0 : World} {st : Heap}
theorem Bytes_new {v : Value} {bs : Bs} {g0 : Tg} (g : Tg) (h : Reg st g0 1 v (bytesV bs) bs.length) (hl : bs.length < 2 ^ 40) : ICalls Try.prog W0 17 #[v] st fun e st' => ∃ b c, e = .returned (.slice b bs.length c) ∧ Vec st' g 1 (.slice b bs.length c) (bytesV bs) bs.length ∧ Fresh st (.slice b bs.length c) ∧ New st st' := by
  refine enter (args := [_]) Try.func17 rfl ?_
  simp [Try.f17, go_sem]
  refine AppI_newg g si29 h.src (by omega) ?_
  intro b c st1 hv hf he
  simp [go_sem]
  exact ⟨b, c, ⟨rfl, rfl⟩, hv, hf, he⟩
end
end Go.Proofs.Ytmgbknkjgfdllaa
set_option linter.unusedVariables false
set_option linter.unusedSimpArgs false
set_option maxRecDepth 100000
set_option maxHeartbeats 8000000
namespace Go.Proofs.Ytmgbknkjgfdllaa
open Go.RowKit (Below)
section
variable {W0 : World} {st : Heap}
theorem manBack_walk {cs : List Value} {m : ManD} {at_ more : Int} (h : ManAt st cs m) (hf : ManFits m) (hx0 : 0 ≤ more) (hx1 : more < 256) : ICalls Try.prog W0 5 #[.agg cs.toArray, Val.i at_, .int .u8 more] st fun e st' => e = .returned (.bool true) := by
  have h0 := h
  obtain ⟨bv, tv, bs, ts, rfl, hb, hbs, ht, hts⟩ := h
  obtain ⟨bb, bc, rfl⟩ := hb.slice
  obtain ⟨tb, tc, rfl⟩ := ht.slice
  refine enter (args := [_, _, _]) Try.func5 rfl ?_
  simp [Try.f5, go_sem]
  unfold NewP
  intro t1 ht1
  refine ⟨.ty 0, ?_⟩
  simp [go_sem]
  have hc1 := upd_same st t1 (.cells true [Val.i m.seq, Val.i m.log, Val.i m.next, Val.i m.now, .slice bb m.blocks.length bc, .slice tb m.tombs.length tc] 6 (.ty 0))
  generalize hst1 : upd st t1 _ = st1 at hc1 ⊢
  have hN1 : New st st1 := by rw [← hst1]; exact (New.refl _).add ht1
  refine (small_spec (h0.new hN1)).mono ?_
  rintro e st2 ⟨r, rfl, hr, hk2⟩
  cases r with
  | false =>
    simp [go_sem]
    refine awake21_spec.mono ?_
    rintro e st3 ⟨rfl, -⟩
    simp [go_sem]
  | true =>
  obtain ⟨hl2, hl1, hnice⟩ := hr rfl
  have hc2 := hk2 _ _ hc1
  have hN2 := hN1.trans hk2
  simp [go_sem, hc2]
  refine (refMan_spec hnice (h0.new hN2)).mono ?_
  rintro e st3 ⟨rfl, hk3⟩
  have hc3 := hk3 _ _ hc2
  have hN3 := hN2.trans hk3
  cases hm : manM m with
  | false =>
    simp [go_sem]
    refine awake21_spec.mono ?_
    rintro e st4 ⟨rfl, -⟩
    simp [go_sem]
  | true =>
  simp [go_sem, hc3]
  refine (man_copy hnice (by omega) (by omega) (h0.new hN3)).mono ?_
  rintro e st4 ⟨cs', rfl, hm4, hk4⟩
  have hc4 := hk4 _ _ hc3
  have hN4 := hN3.trans hk4
  simp [go_sem]
  refine (manEncode_spec (.ty 1) hm4 hf).mono ?_
  rintro e st5 ⟨hk5, hR⟩
  rw [if_pos hm] at hR
  obtain ⟨v, rfl, hV, hF⟩ := hR
  have hc5 := hk5 _ _ hc4
  have hN5 := hN4.trans hk5
  have hdec := decode_put hm hf
  have hfl := frame_len hm hf
  have hcut := fun p => decode_cut (p := p) hm hf
  have hmore := fun x => decode_more (x := x) hm hf
  generalize hFR : frameM (bodyM m) = B at *
  obtain ⟨vb, vc, rfl⟩ := hV.slice
  have hb0 : (B.length = 0) = False := eq_false (by omega)
  simp [go_sem, hb0]
  refine (Bytes_new (.ty 1) hV.reg (by omega)).mono ?_
  rintro e st6 ⟨b6, c6, rfl, hV6, -, hk6⟩
  simp [go_sem]
  refine (manDecode_spec hV6.reg (by omega)).mono ?_
  rintro e st7 ⟨hk7, hR⟩
  rw [hdec] at hR
  obtain ⟨mbv, mtv, bs7, ts7, rfl, hmV, -, hmM, hmt, hmT⟩ := hR
  have hX7 : ManAt st7 [Val.i m.seq, Val.i m.log, Val.i m.next, Val.i m.now, mbv, mtv] m := ⟨_, _, bs7, ts7, rfl, hmV.reg.toF Free.ty, hmM, hmt, hmT⟩
  obtain ⟨mb, mc, rfl⟩ := hmV.reg.slice
  obtain ⟨tb7, tc7, rfl⟩ := hmt.slice
  have hN57 := hk6.trans hk7
  have hc7 := hN57 _ _ hc5
  simp [go_sem]
  unfold NewP
  intro t9 ht9
  refine ⟨.ty 0, ?_⟩
  have n19 : t1 ≠ t9 := ne_of_new hc7 ht9
  simp [go_sem]
  have hd8 := upd_same st7 t9 (.cells true [Val.i m.seq, Val.i m.log, Val.i m.next, Val.i m.now, .slice mb m.blocks.length mc, .slice tb7 m.tombs.length tc7] 6 (.ty 0))
  generalize hst8 : upd st7 t9 _ = st8 at hd8 ⊢
  have hN78 : New st7 st8 := by rw [← hst8]; exact (New.refl _).add ht9
  have hN58 := hN57.trans hN78
  have hX8 := hX7.new hN78
  have hc8 := hN78 _ _ hc7
  have hV8 := hV.reg.new hN58
  refine (Place_spec (n := at_) (k := B.length) (by omega) (by omega)).mono ?_
  rintro e st8' ⟨⟨p, hp, rfl⟩, rfl⟩
  have hp' : (p : Int) ≤ vc := by have := hV.reg.cap; omega
  simp [go_sem, hp']
  have hcutp := hcut p (by omega)
  have hT8 : Reg st8' (.ty 1) 1 (.slice vb p vc) (bytesV (B.take p)) p := by
    rw [show bytesV (B.take p) = (bytesV B).take p by simp [bytesV, List.map_take]]
    exact hV8.take (by omega)
  have hTl : (B.take p).length = p := by rw [List.length_take]; omega
  generalize B.take p = T at *
  subst hTl
  refine ⟨by omega, ?_⟩
  refine (Bytes_new (.ty 1) hT8 (by omega)).mono ?_
  rintro e st9 ⟨b9, c9, rfl, hV9, -, hk9⟩
  simp [go_sem]
  refine (manDecode_spec hV9.reg (by omega)).mono ?_
  rintro e st10 ⟨hk10, hR⟩
  rw [hcutp] at hR
  simp only at hR
  subst hR
  have hN810 := hk9.trans hk10
  have hd10 := hN810 _ _ hd8
  have hc10 := hN810 _ _ hc8
  have hX10 := hX8.new hN810
  have hV10 := hV8.new hN810
  simp [go_sem]
  unfold NewP
  intro t11 ht11
  refine ⟨.ty 0, ?_⟩
  have n111 : t1 ≠ t11 := ne_of_new hc10 ht11
  have n911 : t9 ≠ t11 := ne_of_new hd10 ht11
  simp [go_sem]
  have hN1011 : New st10 (upd st10 t11 (.cells true [Val.i 0, Val.i 0, Val.i 0, Val.i 0, .slice none 0 0, .slice none 0 0] 6 (.ty 0))) := (New.refl st10).add ht11
  generalize hst11 : upd st10 t11 _ = st11 at hN1011 ⊢
  have hd11 := hN1011 _ _ hd10
  have hc11 := hN1011 _ _ hc10
  have hX11 := hX10.new hN1011
  have hV11 := hV10.new hN1011
  refine (Bytes_new (.ty 1) hV11 (by omega)).mono ?_
  rintro e st12 ⟨b12, c12, rfl, hV12, hF12, hk12⟩
  simp [go_sem]
  unfold NewS
  intro tn htn
  refine ⟨.ty 0, ?_⟩
  simp [go_sem]
  have hNt : New st12 (upd st12 tn (.cells true [.int .u8 more] 1 (.ty 0))) := (New.refl st12).add htn
  refine AppI_new (st0 := st11) (g := .ty 1) si29 (hV12.new' hNt) hF12 (hk12.trans hNt) (m := 1) (ys := [.int .u8 more]) (by simp [srcCells, lkN, cellsOf, upd_same]) (by simp [Value.oneCell']) (by omega) ?_
  intro b13 c13 st13 hV13 hF13 hN13 _
  have hby : bytesV B ++ [.int .u8 more] = bytesV (B ++ [UInt8.ofNat more.toNat]) := by
    have h1 : (UInt8.ofNat more.toNat).toNat = more.toNat % 256 := by simp
    have : ((UInt8.ofNat more.toNat).toNat : Int) = more := by rw [h1]; omega
    rw [bytesV_append]
    show _ = bytesV B ++ [.int .u8 ((UInt8.ofNat more.toNat).toNat : Int)]
    rw [this]
  have hm13 := hmore (UInt8.ofNat more.toNat)
  rw [hby] at hV13
  obtain ⟨T, hT⟩ : ∃ T, B ++ [UInt8.ofNat more.toNat] = T := ⟨_, rfl⟩
  have hTl : B.length + 1 = T.length := by rw [← hT]; simp
  rw [hT] at hV13 hm13
  rw [hTl] at hV13 ⊢
  simp [go_sem]
  refine (manDecode_spec hV13.reg (by omega)).mono ?_
  rintro e st14 ⟨hk14, hR⟩
  rw [hm13] at hR
  simp only at hR
  subst hR
  have hN1114 := hN13.trans hk14
  have hd14 := hN1114 _ _ hd11
  have hc14 := hN1114 _ _ hc11
  have hX14 := hX11.new hN1114
  simp [go_sem]
  unfold NewP
  intro t13 ht13
  refine ⟨.ty 0, ?_⟩
  have n113 : t1 ≠ t13 := ne_of_new hc14 ht13
  have n913 : t9 ≠ t13 := ne_of_new hd14 ht13
  have hN1415 : New st14 (upd st14 t13 (.cells true [Val.i 0, Val.i 0, Val.i 0, Val.i 0, .slice none 0 0, .slice none 0 0] 6 (.ty 0))) := (New.refl st14).add ht13
  simp [go_sem, n113, n913, hd14, hc14]
  have hAll : New st (upd st14 t13 (.cells true [Val.i 0, Val.i 0, Val.i 0, Val.i 0, .slice none 0 0, .slice none 0 0] 6 (.ty 0))) := (((((hN5.trans hN58).trans hN810).trans hN1011).trans hN1114)).trans hN1415
  refine (manSame_spec hnice (by omega) (by omega) (hX14.new hN1415) (h0.new hAll)).mono ?_
  rintro e st15 ⟨r, rfl, hr15, hk15⟩
  rw [hr15 rfl]
  simp [go_sem]
  refine awake21_spec.mono ?_
  rintro e st16 ⟨rfl, -⟩
  simp [go_sem]
end
end Go.Proofs.Ytmgbknkjgfdllaa
