/- A manifest loaded; the layer is awake: the walks. -/
import Derived.Test.YtmgbknkjgfdllaaC35
set_option linter.unusedVariables false
set_option linter.unusedSimpArgs false
set_option maxRecDepth 100000
set_option maxHeartbeats 8000000
namespace Go.Proofs.Ytmgbknkjgfdllaa
open Go.RowKit (Below)
def zeroMan : List Value := [Val.i 0, Val.i 0, Val.i 0, Val.i 0, .slice none 0 0, .slice none 0 0]
def loadM (S : VFS) : Except Int ManD := match aget S.now manN with
  | none => .error 3
  | some i => match S.files[i]? with
    | none => .error 3
    | some F => match decodeM F.now with
      | some m => .ok m
      | none => .error 13
def pubEnd (b : Bs) : VFS := ⟨[(manN, 0)], [(manN, 0)], [], [⟨0, b, [], b⟩], ⟨5, false, 0, 0, false⟩⟩
def pubS1 : VFS := ⟨[], [(tmpN, 0)], [⟨0, tmpN, ⟨#[]⟩, some 0⟩], [⟨0, [], [], []⟩], ⟨1, false, 0, 0, false⟩⟩
def pubS2 (b : Bs) : VFS := ⟨[], [(tmpN, 0)], [⟨0, tmpN, ⟨#[]⟩, some 0⟩], [⟨0, [], [⟨false, 0, b⟩], b⟩], ⟨2, false, 0, 0, false⟩⟩
def pubS3 (b : Bs) : VFS := ⟨[], [(tmpN, 0)], [⟨0, tmpN, ⟨#[]⟩, some 0⟩], [⟨0, b, [], b⟩], ⟨3, false, 0, 0, false⟩⟩
def pubS4 (b : Bs) : VFS := ⟨[], [(manN, 0)], [⟨0, tmpN, ⟨#[]⟩, some 0⟩, ⟨1, tmpN, manN, none⟩], [⟨0, b, [], b⟩], ⟨4, false, 0, 0, false⟩⟩
theorem pub_new {b : Bs} (hb : b.length ≤ 1073741824) : PubOK b [0, 1, 2, 3, 4] VFS.new ∧ pubGo b [0, 1, 2, 3, 4] 0 VFS.new = (0, pubEnd b) := by
  have w1 : W 1 = 1 := by decide
  have w2 : W 2 = 2 := by decide
  have w3 : W 3 = 3 := by decide
  have w4 : W 4 = 4 := by decide
  have w5 : W 5 = 5 := by decide
  have o1 : okName tmpN = true := by decide
  have o2 : okName manN = true := by decide
  have hne : (manN == tmpN) = false := by decide
  have htt : (tmpN == tmpN) = true := by decide
  have e0 : pubStep b 0 VFS.new = (0, pubS1) := by
    simp [pubStep, VFS.new, VFS.create, Ctl.call, o1, aget, afind, aset, w1, pubS1]
  have e1 : pubStep b 1 pubS1 = (0, pubS2 b) := by
    simp [pubStep, VFS.append, Ctl.call, o1, aget, afind, htt, w2, pubS1, pubS2, VFS.lenOf, VFS.put, VFile.app, hb]
  have e2 : pubStep b 2 (pubS2 b) = (0, pubS3 b) := by
    simp [pubStep, VFS.syncF, Ctl.call, o1, aget, afind, htt, w3, pubS2, pubS3, VFS.ctl, VFile.synced, List.modify]
  have e3 : pubStep b 3 (pubS3 b) = (0, pubS4 b) := by
    simp [pubStep, VFS.rename, Ctl.call, o1, o2, aget, afind, aset, adel, htt, w4, pubS3, pubS4, VFS.turn]
  have hs : syncM (pubS4 b).turns (pubS4 b).sure = some [(manN, 0)] := by
    simp [pubS4, syncM, VTurn.does, aget, afind, aset, adel, htt]
  have e4 : pubStep b 4 (pubS4 b) = (0, pubEnd b) := by
    show VFS.syncD (pubS4 b) = _
    unfold VFS.syncD
    rw [hs]
    simp [pubS4, pubEnd, Ctl.call, w5]
  constructor
  · refine ⟨?_, by simp, fun _ => ?_⟩
    · simp [VFS.small, VFS.new]
    rw [e0]
    refine ⟨?_, by simp, fun _ => ?_⟩
    · simp [VFS.small, pubS1]
    rw [e1]
    refine ⟨?_, by simp, fun _ => ?_⟩
    · simp [VFS.small, pubS2]; omega
    rw [e2]
    refine ⟨?_, by simp, fun _ => ?_⟩
    · simp [VFS.small, pubS3]; omega
    rw [e3]
    refine ⟨?_, fun _ => ⟨_, hs⟩, fun _ => ?_⟩
    · simp [VFS.small, pubS4]; omega
    trivial
  · simp only [pubGo, e0, e1, e2, e3, e4]
    simp
section
variable {W0 : World} {st : Heap}
theorem load_spec {f : Nat} {S : VFS} (h : FSAt st f S) (hs : S.small) : ICalls Try.prog W0 36 #[ptr f] st fun e st' => Keep (fun _ => True) st st' ∧ match loadM S with
    | .error k => e = .returned (.tuple #[.agg zeroMan.toArray, Val.i k])
    | .ok m => ∃ cs : List Value, e = .returned (.tuple #[.agg cs.toArray, Val.i 0]) ∧ ManAt st' cs m := by
  refine enter (args := [_]) Try.func36 rfl ?_
  simp [Try.f36, go_sem]
  unfold NewP
  intro to hto
  refine ⟨.own to 1 93, ?_⟩
  simp [go_sem]
  have hto1 := upd_same st to (.cells true zeroMan 6 (.own to 1 93))
  have hst : ∃ st1, st1 = upd st to (.cells true zeroMan 6 (.own to 1 93)) := ⟨_, rfl⟩
  obtain ⟨st1, hst1⟩ := hst
  rw [← hst1] at hto1
  have hN1 : New st st1 := by rw [hst1]; exact (New.refl _).add hto
  have hgo : upd st to (.cells true [Val.i 0, Val.i 0, Val.i 0, Val.i 0, .slice none 0 0, .slice none 0 0] 6 (.own to 1 93)) = st1 := hst1.symm
  rw [hgo]
  have hf1 : FSAt st1 f S := h.keep (hN1.to fun _ => True) (by simp)
  refine (Read_spec (n := manN) hf1 (fun F hF => (hs.2.2 F hF).2.1)).mono ?_
  rintro e st2 ⟨hk2, hR⟩
  have hto2 := hk2.get hto1 trivial
  have hk02 : Keep (fun _ => True) st st2 := (hN1.to _).trans hk2
  have fin : ∀ {st' : Heap} {xs : List Value}, Keep (fun _ => True) st st' → Keep (fun _ => True) st (upd st' to (.cells true xs 6 (.own to 1 93))) := by
    intro st' xs hk k o g ho ht hp
    rw [upd_ne _ _ (ne_of_new ho hto)]
    exact hk k o g ho ht hp
  unfold loadM
  cases hg : aget S.now manN with
  | none =>
    rw [hg] at hR
    simp only at hR
    subst hR
    unfold zeroMan at hto2 ⊢
    simp [go_sem, hto2]
    refine RetI_cell_tmp ?_
    simp [go_sem]
    exact fin hk02
  | some i =>
    rw [hg] at hR
    obtain ⟨F, b, c, hFi, rfl, hV⟩ := hR
    simp only [hFi]
    have hFl : F.now.length < 2 ^ 40 := (hs.2.2 F (List.mem_of_getElem? hFi)).2.1
    simp [go_sem]
    refine (manDecode_spec hV.reg hFl).mono ?_
    rintro e st3 ⟨hk3, hR⟩
    have hto3 := hk3 _ _ hto2
    have hk03 : Keep (fun _ => True) st st3 := hk02.trans (hk3.to _)
    cases hd : decodeM F.now with
    | none =>
      rw [hd] at hR
      simp only at hR
      subst hR
      unfold zeroMan at hto3
      simp [go_sem]
      unfold NewP
      intro t6 ht6
      refine ⟨.ty 0, ?_⟩
      have n6 : to ≠ t6 := ne_of_new hto3 ht6
      have n6' := Ne.symm n6
      simp [go_sem, hto3, n6, n6']
      refine RetI_cell_tmp ?_
      simp [go_sem]
      refine ⟨fin (hk03.new ht6), ?_⟩
      rfl
    | some m =>
      rw [hd] at hR
      obtain ⟨bv, tv, bs, ts, rfl, hmV, hmF, hmM, hmt, hmT⟩ := hR
      obtain ⟨mb, mc, rfl⟩ := hmV.reg.slice
      obtain ⟨tb, tc, rfl⟩ := hmt.slice
      unfold zeroMan at hto3
      simp [go_sem]
      unfold NewP
      intro t6 ht6
      refine ⟨.ty 0, ?_⟩
      have n6 : to ≠ t6 := ne_of_new hto3 ht6
      have n6' := Ne.symm n6
      have hN6 := (New.refl st3).add (b := t6) (o := .cells true [Val.i m.seq, Val.i m.log, Val.i m.next, Val.i m.now, .slice mb m.blocks.length mc, .slice tb m.tombs.length tc] 6 (.ty 0)) ht6
      have hto6 := hN6 _ _ hto3
      simp [go_sem, hto3, n6, n6']
      refine RetI_cell_tmp ?_
      simp [go_sem]
      have hB := But1.put (o := .cells true [Val.i m.seq, Val.i m.log, Val.i m.next, Val.i m.now, .slice mb m.blocks.length mc, .slice tb m.tombs.length tc] 6 (.own to 1 93)) (But1.refl to (upd st3 t6 (.cells true [Val.i m.seq, Val.i m.log, Val.i m.next, Val.i m.now, .slice mb m.blocks.length mc, .slice tb m.tombs.length tc] 6 (.ty 0))))
      refine ⟨fin (hk03.new ht6), _, _, bs, ts, rfl, ((hmV.new' hN6).reg.toF Free.ty).but hB hto6, hmM, (hmt.new hN6).but hB hto6, fun i x hx => (hmT i x hx).mono fun _ _ _ _ hh => (hh.new hN6).but hB hto6⟩
def firstM : ManD := ⟨0, 1, 1, 0, [], []⟩
def firstC : List Value := [Val.i 0, Val.i 1, Val.i 1, Val.i 0, .slice none 0 0, .slice none 0 0]
theorem firstAt (st : Heap) : ManAt st firstC firstM := ⟨.slice none 0 0, .slice none 0 0, [], [], rfl, RegF.nil, by intro i x hi; simp [firstM] at hi, RegF.nil, by intro i x hi; simp [firstM] at hi⟩
theorem first_ok : manM firstM = true := by decide
theorem first_fits : ManFits firstM := by intro x hx; simp [firstM] at hx
theorem first_spec : ICalls Try.prog W0 34 #[] st fun e st' => e = .returned (.agg firstC.toArray) ∧ New st st' := by
  refine enter (args := []) Try.func34 rfl ?_
  simp [Try.f34, go_sem]
  unfold NewP
  intro to hto
  refine ⟨.ty 0, ?_⟩
  simp [go_sem]
  refine RetI_cell ?_
  simp [go_sem]
  exact ⟨rfl, (New.refl _).add hto⟩
theorem awake21_spec : ICalls Try.prog W0 9 #[] st fun e st' => e = .returned (.bool true) ∧ Keep Free st st' := by
  have hbl := bodyM_len first_ok first_fits
  obtain ⟨B, hB⟩ : ∃ B, frameM (bodyM firstM) = B := ⟨_, rfl⟩
  have hfl : B.length ≤ 600000 := by
    have h2 := vputM_len (bodyM firstM).length (by omega)
    rw [← hB]
    unfold frameM le4
    simp only [List.length_append, List.length_cons, List.length_nil]
    omega
  have hdec : decodeM B = some firstM := by rw [← hB]; exact decode_put first_ok first_fits
  obtain ⟨hpok, hpgo⟩ := pub_new (b := B) (by omega)
  have hload : loadM (pubEnd B) = .ok firstM := by
    have htt : (manN == manN) = true := by decide
    simp [loadM, pubEnd, aget, afind, htt, hdec]
  have hsE : (pubEnd B).small := by simp [VFS.small, pubEnd]; omega
  have hsN : VFS.new.small := by simp [VFS.small, VFS.new]
  have hloadN : loadM VFS.new = .error 3 := by simp [loadM, VFS.new, aget, afind]
  have fr : ∀ f, ∀ g, Free g → Out f g := fun f g hg x r => hg f x r
  have tr : ∀ g, Free g → True := fun _ _ => trivial
  refine enter (args := []) Try.func9 rfl ?_
  simp [Try.f9, go_sem]
  refine New_spec.mono ?_
  rintro e st1 ⟨f, rfl, hfn, hf1, hk1⟩
  simp [go_sem]
  refine first_spec.mono ?_
  rintro e st2 ⟨rfl, hk2⟩
  simp [go_sem]
  refine (publish_spec (hf1.keep (hk2.to fun _ => True) (by simp)) (firstAt st2) first_fits (fun _ => by rw [hB]; exact hpok)).mono ?_
  rintro e st3 ⟨hR, hk3⟩
  rw [if_pos first_ok, hB, hpgo] at hR
  obtain ⟨rfl, hf3⟩ := hR
  simp [go_sem]
  refine (Calls_spec hf3).mono ?_
  rintro e st4 ⟨rfl, rfl⟩
  have h5 : (pubEnd B).c.calls = 5 := rfl
  simp [go_sem, h5]
  refine (load_spec hf3 hsE).mono ?_
  rintro e st5 ⟨hk5, hR⟩
  rw [hload] at hR
  obtain ⟨cs5, rfl, hm5⟩ := hR
  obtain ⟨bv, tv, bs, ts, rfl, hb5, hbs5, ht5, hts5⟩ := hm5
  obtain ⟨bb, bc, rfl⟩ := hb5.slice
  obtain ⟨tb, tc, rfl⟩ := ht5.slice
  simp [go_sem]
  unfold NewP
  intro t2 ht2
  refine ⟨.ty 0, ?_⟩
  simp [go_sem]
  have ht26 := upd_same st5 t2 (.cells true [Val.i firstM.seq, Val.i firstM.log, Val.i firstM.next, Val.i firstM.now, .slice bb firstM.blocks.length bc, .slice tb firstM.tombs.length tc] 6 (.ty 0))
  generalize hst6 : upd st5 t2 _ = st6 at ht26 ⊢
  have hN6 : New st5 st6 := by rw [← hst6]; exact (New.refl _).add ht2
  refine New_spec.mono ?_
  rintro e st7 ⟨f2, rfl, hf2n, hf7, hk7⟩
  simp [go_sem]
  refine (load_spec hf7 hsN).mono ?_
  rintro e st8 ⟨hk8, hR⟩
  rw [hloadN] at hR
  simp only at hR
  subst hR
  have ht27 := hk7.get ht26 trivial
  have ht28 := hk8.get ht27 trivial
  unfold zeroMan
  simp [go_sem]
  unfold NewP
  intro t4 ht4
  refine ⟨.ty 0, ?_⟩
  have n24 : t2 ≠ t4 := ne_of_new ht28 ht4
  have hl1 : firstM.log = 1 := rfl
  simp [go_sem, n24, ht28, hl1]
  refine first_spec.mono ?_
  rintro e st9 ⟨rfl, hk9⟩
  simp [go_sem]
  refine (manCheck_spec (firstAt st9)).mono ?_
  rintro e st10 ⟨rfl, hk10⟩
  simp [go_sem, first_ok]
  have K1 : Keep Free st st1 := hk1.imp tr
  have K2 : Keep Free st1 st2 := hk2.to _
  have K3 : Keep Free st2 st4 := hk3.imp (fr f)
  have K5 : Keep Free st4 st5 := hk5.imp tr
  have K6 : Keep Free st5 st6 := hN6.to _
  have K7 : Keep Free st6 st7 := hk7.imp tr
  have K8 : Keep Free st7 st8 := hk8.imp tr
  exact ((((((((K1.trans K2).trans K3).trans K5).trans K6).trans K7).trans K8).new ht4).trans (hk9.to _)).trans (hk10.to _)
end
end Go.Proofs.Ytmgbknkjgfdllaa
set_option linter.unusedVariables false
set_option linter.unusedSimpArgs false
set_option maxRecDepth 100000
set_option maxHeartbeats 8000000
namespace Go.Proofs.Ytmgbknkjgfdllaa
open Go.RowKit (Below)
section
variable {W0 : World} {st : Heap}
/-- What an encoding gives, whether it may be or not. -/
theorem EncR.flat {g : Tg} {m : ManD} {e : Ending} {st' : Heap} (h : EncR st g m e st') : New st st' ∧ ∃ v, e = .returned (.tuple #[v, Val.i (if manM m = true then 0 else 5)]) ∧ Reg st' g 1 v (bytesV (if manM m = true then frameM (bodyM m) else [])) (if manM m = true then frameM (bodyM m) else []).length := by
  obtain ⟨hk, h⟩ := h
  refine ⟨hk, ?_⟩
  by_cases hm : manM m = true
  · rw [if_pos hm] at h
    simp only [hm, if_true]
    obtain ⟨v, rfl, hV, hF⟩ := h
    exact ⟨v, rfl, hV.reg⟩
  · rw [if_neg hm] at h
    simp only [hm, if_false]
    exact ⟨_, h, Reg.nil⟩
theorem ManAt.free {st st' : Heap} (hk : Keep Free st st') {cs : List Value} {m : ManD} (h : ManAt st cs m) : ManAt st' cs m := h.mono fun _ _ _ _ h => h.free hk
theorem manChecks_walk {cs : List Value} {m : ManD} (h : ManAt st cs m) (hf : ManFits m) : ICalls Try.prog W0 3 #[.agg cs.toArray] st fun e st' => e = .returned (.bool true) := by
  have h0 := h
  obtain ⟨bv, tv, bs, ts, rfl, hb, hbs, ht, hts⟩ := h
  obtain ⟨bb, bc, rfl⟩ := hb.slice
  obtain ⟨tb, tc, rfl⟩ := ht.slice
  refine enter (args := [_]) Try.func3 rfl ?_
  simp [Try.f3, go_sem]
  unfold NewP
  intro t1 ht1
  refine ⟨.ty 0, ?_⟩
  simp [go_sem]
  have hc1 := upd_same st t1 (.cells true [Val.i m.seq, Val.i m.log, Val.i m.next, Val.i m.now, .slice bb m.blocks.length bc, .slice tb m.tombs.length tc] 6 (.ty 0))
  generalize hst1 : upd st t1 _ = st1 at hc1 ⊢
  have hN1 : New st st1 := by rw [← hst1]; exact (New.refl _).add ht1
  refine (small_spec (h0.new hN1)).mono ?_
  rintro e st2 ⟨r, rfl, hr, hk2⟩
  cases r with
  | false =>
    simp [go_sem]
    refine awake21_spec.mono ?_
    rintro e st3 ⟨rfl, -⟩
    simp [go_sem]
  | true =>
  obtain ⟨hl2, hl1, hnice⟩ := hr rfl
  have hc2 := hk2 _ _ hc1
  have hN2 := hN1.trans hk2
  simp [go_sem, hc2]
  refine (man_copy hnice (by omega) (by omega) (h0.new hN2)).mono ?_
  rintro e st3 ⟨cs', rfl, hm3, hk3⟩
  have hm30 := hm3
  obtain ⟨bv', tv', bs', ts', rfl, hb', hbs', ht', hts'⟩ := hm3
  obtain ⟨bb', bc', rfl⟩ := hb'.slice
  obtain ⟨tb', tc', rfl⟩ := ht'.slice
  have hc3 := hk3 _ _ hc2
  have hN3 := hN2.trans hk3
  simp [go_sem]
  unfold NewP
  intro t3 ht3
  refine ⟨.ty 0, ?_⟩
  have n13 : t1 ≠ t3 := ne_of_new hc3 ht3
  simp [go_sem, n13]
  have hd4 := upd_same st3 t3 (.cells true [Val.i m.seq, Val.i m.log, Val.i m.next, Val.i m.now, .slice bb' m.blocks.length bc', .slice tb' m.tombs.length tc'] 6 (.ty 0))
  generalize hst4 : upd st3 t3 _ = st4 at hd4 ⊢
  have hN34 : New st3 st4 := by rw [← hst4]; exact (New.refl _).add ht3
  have hc4 := hN34 _ _ hc3
  have hN4 := hN3.trans hN34
  have hm4 := hm30.new hN34
  refine (manEncode_spec (.ty 1) hm4 hf).mono ?_
  rintro e st5 hR5
  obtain ⟨hk5, v5, rfl, hV5⟩ := hR5.flat
  have hc5 := hk5 _ _ hc4
  have hd5 := hk5 _ _ hd4
  have hN5 := hN4.trans hk5
  simp [go_sem, hc5]
  refine (encode21_spec (g := .ty 1) (by simp) (h0.new hN5) hnice hf).mono ?_
  rintro e st6 hR6
  obtain ⟨hk6, v6, rfl, hV6⟩ := hR6.flat
  have hc6 := hk6 _ _ hc5
  have hd6 := hk6 _ _ hd5
  have hN6 := hN5.trans hk6
  have hV56 := hV5.new hk6
  have hmx := (hm4.new hk5).new hk6
  have hmm := h0.new hN6
  generalize (if manM m = true then frameM (bodyM m) else []) = B at *
  generalize (if manM m = true then (0 : Int) else 5) = k at *
  obtain ⟨b5, c5, rfl⟩ := hV5.slice
  obtain ⟨b6, c6, rfl⟩ := hV6.slice
  simp [go_sem]
  refine drawF (List.range 26) (fun i => match i with
    | 0 | 18 => .agg #[Val.i m.seq, Val.i m.log, Val.i m.next, Val.i m.now, .slice bb' m.blocks.length bc', .slice tb' m.tombs.length tc']
    | 2 | 19 => .agg #[Val.i m.seq, Val.i m.log, Val.i m.next, Val.i m.now, .slice bb m.blocks.length bc, .slice tb m.tombs.length tc]
    | 1 | 3 => .bool (manM m)
    | 6 => .slice b5 B.length c5
    | 8 => .slice b6 B.length c6
    | 7 | 9 => .string ⟨B.toArray⟩
    | 13 | 14 => Val.i k
    | _ => .bool true) (fun st' => Keep Free st6 st') (by kernel_rfl) (by kernel_rfl) (by kernel_rfl) (by kernel_rfl) (by kernel_rfl) (by kernel_rfl) (by kernel_rfl) .rfl' ?_
  have hr : List.range 26 = [0, 1, 2, 3, 4, 5, 6, 7, 8, 9, 10, 11, 12, 13, 14, 15, 16, 17, 18, 19, 20, 21, 22, 23, 24, 25] := by decide
  rw [hr]
  have fr0 : Free (.ty 0) := Free.ty
  simp [knownF, wantedE, go_sem]
  have hXC := fun (sta : Heap) (hk : Keep Free st6 sta) => hk.get hd6 fr0
  have hMC := fun (sta : Heap) (hk : Keep Free st6 sta) => hk.get hc6 fr0
  refine ⟨?_, ?_, ?_, ?_, ?_, ?_, ?_, ?_, ?_, ?_⟩
  · intro sta hk
    simp [hXC sta hk, cellsOf, go_sem]
    exact hk
  · intro sta hk
    refine (manCheck_spec (hmx.free hk)).mono ?_
    rintro e st7 ⟨rfl, hk7⟩
    exact ⟨rfl, hk.trans (hk7.to _)⟩
  · intro sta hk
    simp [hMC sta hk, cellsOf, go_sem]
    exact hk
  · intro sta hk
    refine (refMan_spec hnice (hmm.free hk)).mono ?_
    rintro e st7 ⟨rfl, hk7⟩
    exact ⟨rfl, hk.trans (hk7.to _)⟩
  · intro sta hk
    rw [textOf_reg (hV56.keep hk Free.ty)]
    exact ⟨rfl, hk⟩
  · intro sta hk
    rw [textOf_reg (hV6.keep hk Free.ty)]
    exact ⟨rfl, hk⟩
  · intro sta hk
    simp [hXC sta hk, cellsOf, go_sem]
    exact hk
  · intro sta hk
    simp [hMC sta hk, cellsOf, go_sem]
    exact hk
  · intro sta hk
    refine (manSame_spec hnice (by omega) (by omega) (hmx.free hk) (hmm.free hk)).mono ?_
    rintro e st7 ⟨r, rfl, hr, hk7⟩
    rw [hr rfl]
    exact ⟨rfl, hk.trans (hk7.to _)⟩
  · intro sta hk
    refine awake21_spec.mono ?_
    rintro e st7 ⟨rfl, hk7⟩
    exact ⟨rfl, hk.trans hk7⟩
end
end Go.Proofs.Ytmgbknkjgfdllaa
