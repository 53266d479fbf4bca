/- A remainder from 0 on; bytes in new memory. -/
import Derived.Test.YtgppogppdmbgmaaGreatCTab
import Derived.Test.YtgppogppdmbgmaaGreatC10
import Derived.Test.YtgppogppdmbgmaaGreatC41
import Derived.Test.YtgppogppdmbgmaaGreatC39
import Derived.Test.YtgppogppdmbgmaaGreatC40
set_option linter.unusedVariables false
set_option linter.unusedSimpArgs false
set_option maxRecDepth 100000
set_option maxHeartbeats 1000000
namespace Go.Proofs.YtgppogppdmbgmaaGreat
open Go.RowKit (Below)
section
variable {W0 : World} {st : Heap}
theorem Place_spec {n k : Int} (hk : 0 < k) (hk2 : k < 2 ^ 40) : ICalls Tryz.prog W0 28 #[Val.i n, Val.i k] st fun e st' => (∃ m : Nat, (m : Int) < k ∧ e = .returned (Val.i m)) ∧ st' = st := by
  refine enter (args := [_, _]) Tryz.func28 rfl ?_
  have hk0 : ¬ k = 0 := by omega
  have h1 := Int.tmod_lt_of_pos n hk
  have h2 : -k < n.tmod k := by
    have := Int.lt_tmod_of_pos n hk
    omega
  have hw1 : IntKind.i64.wrap (n.tmod k) = n.tmod k := wrap_id (by omega) (by omega)
  by_cases hneg : n.tmod k < 0
  · have hw2 : IntKind.i64.wrap (n.tmod k + k) = n.tmod k + k := wrap_id (by omega) (by omega)
    simp [Tryz.f28, go_sem, hk0, hneg, hw1, hw2]
    refine ⟨(n.tmod k + k).toNat, by omega, by omega⟩
  · simp [Tryz.f28, go_sem, hk0, hneg, hw1]
    refine ⟨(n.tmod k).toNat, by omega, by omega⟩
theorem Bytes_spec {v : Value} {bs : Bs} {g : Tg} (h : Reg st g 1 v (bytesV bs) bs.length) (hl : bs.length < 2 ^ 40) : ICalls Tryz.prog W0 41 #[v] st fun e st' => ∃ b c, e = .returned (.slice b bs.length c) ∧ Vec st' (.ty 0) 1 (.slice b bs.length c) (bytesV bs) bs.length ∧ Keep (fun _ => True) st st' := by
  refine enter (args := [_]) Tryz.func41 rfl ?_
  simp [Tryz.f41, go_sem]
  refine AppI_fresh (.ty 0) si82 h.src (by omega) ?_
  intro b c st1 hv he
  simp [go_sem]
  exact ⟨b, c, ⟨rfl, rfl⟩, hv, he⟩
end
end Go.Proofs.YtgppogppdmbgmaaGreat
set_option linter.unusedVariables false
set_option linter.unusedSimpArgs false
set_option maxRecDepth 100000
set_option maxHeartbeats 8000000
namespace Go.Proofs.YtgppogppdmbgmaaGreat
open Go.RowKit (Below)
theorem frame_len {m : ManD} (hm : manM m = true) (hf : ManFits m) : 0 < (frameM (bodyM m)).length ∧ (frameM (bodyM m)).length ≤ 600000 := by
  have hbl := bodyM_len hm hf
  have h2 := vputM_len (bodyM m).length (by omega)
  unfold frameM le4
  simp only [List.length_append, List.length_cons, List.length_nil]
  omega
theorem frame_eq {x y : Bs} (hx : x.length < 2 ^ 60) (hy : y.length < 2 ^ 60) (h : frameM x <+: frameM y) : frameM x = frameM y := by
  have hpx : Pre (frameM x) (frameM y) 0 := h
  have hpy : Pre (frameM y) (frameM y) 0 := List.prefix_refl _
  have hlx : (frameM x).length = (vputM x.length).length + 4 + x.length := by unfold frameM le4; simp only [List.length_append, List.length_cons, List.length_nil]; omega
  have hly : (frameM y).length = (vputM y.length).length + 4 + y.length := by unfold frameM le4; simp only [List.length_append, List.length_cons, List.length_nil]; omega
  unfold frameM at hpx
  have h1 := vget_put (a := 0) (by omega) (hpx.split).1
  conv at hpy => arg 1; unfold frameM
  have h2 := vget_put (a := 0) (by omega) (hpy.split).1
  have e1 : vputM x.length ++ (le4 (crcM x) ++ x) = frameM x := rfl
  have h12 := h1.symm.trans h2
  injection h12 with h12
  injection h12 with h12 _
  exact h.eq_of_length (by rw [hlx, hly, h12])
theorem decode_some {b : Bs} {m : ManD} (h : decodeM b = some m) : manM m = true ∧ ManFits m ∧ frameM (bodyM m) = b := by
  unfold decodeM at h
  split at h
  · cases h
  split at h
  · obtain ⟨m', h1, h2⟩ := Option.bind_eq_some_iff.1 h
    split at h2
    · injection h2 with h2
      subst h2
      exact ⟨‹_ ∧ _›.1, readMan_fits h1, ‹_ ∧ _›.2⟩
    · cases h2
  · cases h
theorem decode_cut {m : ManD} {p : Nat} (hm : manM m = true) (hf : ManFits m) (hp : p < (frameM (bodyM m)).length) : decodeM ((frameM (bodyM m)).take p) = none := by
  cases hd : decodeM ((frameM (bodyM m)).take p) with
  | none => rfl
  | some m' =>
    obtain ⟨h1, h2, h3⟩ := decode_some hd
    have l1 := (bodyM_len hm hf).2
    have l2 := (bodyM_len h1 h2).2
    have h4 := frame_eq (by omega) (by omega) (show frameM (bodyM m') <+: frameM (bodyM m) by rw [h3]; exact List.take_prefix _ _)
    have h5 := congrArg List.length (h3.symm.trans h4)
    rw [List.length_take] at h5
    omega
theorem decode_more {m : ManD} {x : UInt8} (hm : manM m = true) (hf : ManFits m) : decodeM (frameM (bodyM m) ++ [x]) = none := by
  cases hd : decodeM (frameM (bodyM m) ++ [x]) with
  | none => rfl
  | some m' =>
    obtain ⟨h1, h2, h3⟩ := decode_some hd
    have l1 := (bodyM_len hm hf).2
    have l2 := (bodyM_len h1 h2).2
    have h4 := frame_eq (by omega) (by omega) (show frameM (bodyM m) <+: frameM (bodyM m') by rw [h3]; exact List.prefix_append _ _)
    have h5 := congrArg List.length (h4.trans h3)
    rw [List.length_append] at h5
    simp at h5
section
variable {W0 : World} {st : Heap}
theorem Bytes_new {v : Value} {bs : Bs} {g0 : Tg} (g : Tg) (h : Reg st g0 1 v (bytesV bs) bs.length) (hl : bs.length < 2 ^ 40) : ICalls Tryz.prog W0 41 #[v] st fun e st' => ∃ b c, e = .returned (.slice b bs.length c) ∧ Vec st' g 1 (.slice b bs.length c) (bytesV bs) bs.length ∧ Fresh st (.slice b bs.length c) ∧ New st st' := by
  refine enter (args := [_]) Tryz.func41 rfl ?_
  simp [Tryz.f41, go_sem]
  refine AppI_newg g si82 h.src (by omega) ?_
  intro b c st1 hv hf he
  simp [go_sem]
  exact ⟨b, c, ⟨rfl, rfl⟩, hv, hf, he⟩
end
end Go.Proofs.YtgppogppdmbgmaaGreat
set_option linter.unusedVariables false
set_option linter.unusedSimpArgs false
set_option maxRecDepth 100000
set_option maxHeartbeats 2000000
namespace Go.Proofs.YtgppogppdmbgmaaGreat
open Go.RowKit (Below)
theorem frOut (f : Nat) : ∀ g, Free g → Out f g := fun g hg x r => hg f x r
theorem load_of {L : VFS} {i : Nat} {F : VFile} {m : ManD} (h1 : aget L.now manN = some i) (h2 : L.files[i]? = some F) (h3 : F.now = frameM (bodyM m)) (hm : manM m = true) (hf : ManFits m) : loadM L = .ok m := by
  unfold loadM
  simp [h1, h2, h3, decode_put hm hf]
section
variable {W0 : World} {st : Heap}
theorem Ints_new {v : Value} {zs : List Int} {g0 : Tg} (g : Tg) (h : Reg st g0 1 v (zs.map Val.i) zs.length) (hl : zs.length * 8 ≤ 140737488355328) : ICalls Tryz.prog W0 60 #[v] st fun e st' => ∃ b c, e = .returned (.slice b zs.length c) ∧ Vec st' g 1 (.slice b zs.length c) (zs.map Val.i) zs.length ∧ New st st' := by
  refine enter (args := [_]) Tryz.func60 rfl ?_
  simp [Tryz.f60, go_sem]
  refine AppI_newg g si70 h.src (by omega) ?_
  intro b c st1 hv hf he
  simp [go_sem]
  exact ⟨b, c, ⟨rfl, rfl⟩, hv, he⟩
theorem manOnce_walk {cs ds : List Value} {a b : ManD} {after ops : Int} {picks : List Int} {pv : Value} (ha : ManAt st cs a) (hfa : ManFits a) (hb : ManAt st ds b) (hfb : ManFits b) (hp : Reg st (.ty 0) 1 pv (picks.map Val.i) picks.length) (hpb : ∀ x ∈ picks, -2 ^ 63 ≤ x ∧ x < 2 ^ 63) (hpl : picks.length * 8 ≤ 140737488355328) :
    ICalls Tryz.prog W0 12 #[.agg cs.toArray, .agg ds.toArray, Val.i after, Val.i ops, pv] st fun e st' => e = .returned (.bool true) := by
  have ha0 := ha
  have hb0 := hb
  obtain ⟨abv, atv, abs, ats, rfl, hab, habs, hat, hats⟩ := ha
  obtain ⟨abb, abc, rfl⟩ := hab.slice
  obtain ⟨atb, atc, rfl⟩ := hat.slice
  obtain ⟨bbv, btv, bbs, bts, rfl, hbb, hbbs, hbt, hbts⟩ := hb
  obtain ⟨bbb, bbc, rfl⟩ := hbb.slice
  obtain ⟨btb, btc, rfl⟩ := hbt.slice
  obtain ⟨pb, pc, rfl⟩ := hp.slice
  have awk : ∀ {st : Heap}, ICalls Tryz.prog W0 39 #[] st fun e st' => e = .returned (.bool true) := awake21_spec.mono fun e st' h => h.1
  refine enter (args := [_, _, _, _, _]) Tryz.func12 rfl ?_
  simp [Tryz.f12, go_sem]
  unfold NewP
  intro t5 ht5
  refine ⟨.ty 0, ?_⟩
  simp [go_sem]
  have hx1 := upd_same st t5 (.cells true [Val.i a.seq, Val.i a.log, Val.i a.next, Val.i a.now, .slice abb a.blocks.length abc, .slice atb a.tombs.length atc] 6 (.ty 0))
  have hN1 := (New.refl st).add (b := t5) (o := .cells true [Val.i a.seq, Val.i a.log, Val.i a.next, Val.i a.now, .slice abb a.blocks.length abc, .slice atb a.tombs.length atc] 6 (.ty 0)) ht5
  generalize upd st t5 (.cells true [Val.i a.seq, Val.i a.log, Val.i a.next, Val.i a.now, .slice abb a.blocks.length abc, .slice atb a.tombs.length atc] 6 (.ty 0)) = st1 at *
  intro t6 ht6
  refine ⟨.ty 0, ?_⟩
  simp [go_sem]
  have hy2 := upd_same st1 t6 (.cells true [Val.i b.seq, Val.i b.log, Val.i b.next, Val.i b.now, .slice bbb b.blocks.length bbc, .slice btb b.tombs.length btc] 6 (.ty 0))
  have hN2 := (New.refl st1).add (b := t6) (o := .cells true [Val.i b.seq, Val.i b.log, Val.i b.next, Val.i b.now, .slice bbb b.blocks.length bbc, .slice btb b.tombs.length btc] 6 (.ty 0)) ht6
  have hx2 := hN2 _ _ hx1
  generalize upd st1 t6 (.cells true [Val.i b.seq, Val.i b.log, Val.i b.next, Val.i b.now, .slice bbb b.blocks.length bbc, .slice btb b.tombs.length btc] 6 (.ty 0)) = st2 at *
  have N2 := hN1.trans hN2
  have fx : Free (.ty 0) := Free.ty
  simp [go_sem, hx2]
  refine (small_spec (ha0.new N2)).mono ?_
  rintro e st3 ⟨r1, rfl, hr1, hk3⟩
  have hx3 := hk3 _ _ hx2
  have hy3 := hk3 _ _ hy2
  have N3 := N2.trans hk3
  cases r1 with
  | false =>
    simp [go_sem]
    refine awk.mono ?_
    rintro e st' rfl
    simp [go_sem]
  | true =>
  obtain ⟨al2, al1, anice⟩ := hr1 rfl
  simp [go_sem, hx3, hy3]
  refine (small_spec (hb0.new N3)).mono ?_
  rintro e st4 ⟨r2, rfl, hr2, hk4⟩
  have hx4 := hk4 _ _ hx3
  have hy4 := hk4 _ _ hy3
  have N4 := N3.trans hk4
  cases r2 with
  | false =>
    simp [go_sem]
    refine awk.mono ?_
    rintro e st' rfl
    simp [go_sem]
  | true =>
  obtain ⟨bl2, bl1, bnice⟩ := hr2 rfl
  simp [go_sem, hx4, hy4]
  refine (refMan_spec anice (ha0.new N4)).mono ?_
  rintro e st5 ⟨rfl, hk5⟩
  have hx5 := hk5 _ _ hx4
  have hy5 := hk5 _ _ hy4
  have N5 := N4.trans hk5
  cases hma : manM a with
  | false =>
    simp [go_sem]
    refine awk.mono ?_
    rintro e st' rfl
    simp [go_sem]
  | true =>
  simp [go_sem, hx5, hy5]
  refine (refMan_spec bnice (hb0.new N5)).mono ?_
  rintro e st6 ⟨rfl, hk6⟩
  have hx6 := hk6 _ _ hx5
  have hy6 := hk6 _ _ hy5
  have N6 := N5.trans hk6
  cases hmb : manM b with
  | false =>
    simp [go_sem]
    refine awk.mono ?_
    rintro e st' rfl
    simp [go_sem]
  | true =>
  simp [go_sem]
  refine New_spec.mono ?_
  rintro e st7 ⟨f, rfl, hfn, hF7, hk7⟩
  have hx7 := hk7.get hx6 trivial
  have hy7 := hk7.get hy6 trivial
  have K7 : Keep Free st st7 := (N6.to _).trans (hk7.imp fun _ _ => trivial)
  simp [go_sem, hx7]
  have haA7 : ManAt st7 _ a := ManAt.free K7 ha0
  refine (man_copy anice (by omega) (by omega) haA7).mono ?_
  rintro e st8 ⟨cs8, rfl, hm8, hk8⟩
  have hx8 := hk8 _ _ hx7
  have hy8 := hk8 _ _ hy7
  have K8 := K7.trans (hk8.to _)
  have hF8 := hF7.keep (hk8.to fun _ => True) (by simp)
  have hla := frame_len hma hfa
  have hlb := frame_len hmb hfb
  obtain ⟨hpok, hpgo⟩ := pub_new (b := frameM (bodyM a)) (by omega)
  simp [go_sem]
  refine (publish_spec hF8 hm8 hfa (fun _ => hpok)).mono ?_
  rintro e st9 ⟨hR9, hk9⟩
  rw [if_pos hma, hpgo] at hR9
  obtain ⟨rfl, hF9⟩ := hR9
  have k9 := hk9.imp (frOut f)
  have hx9 := k9.get hx8 fx
  have hy9 := k9.get hy8 fx
  have K9 := K8.trans k9
  simp [go_sem, hx9, hy9]
  refine (Place_spec (n := after) (k := 7) (by omega) (by omega)).mono ?_
  rintro e st9' ⟨⟨j, hj, rfl⟩, rfl⟩
  simp [go_sem]
  have harm : (pubEnd (frameM (bodyM a))).arm 0 j = (0, q0 (frameM (bodyM a)) (armC 5 j)) := by
    unfold VFS.arm
    rw [if_neg (by omega)]
    rfl
  refine (Arm_spec (kind := 0) (after := j) hF9).mono ?_
  rintro e st10 ⟨rfl, hF10, hk10⟩
  rw [harm] at hF10 ⊢
  have k10 := hk10.imp (frOut f)
  have hx10 := k10.get hx9 fx
  have hy10 := k10.get hy9 fx
  have K10 := K9.trans k10
  simp [go_sem, hx10, hy10]
  have hbA10 : ManAt st10 _ b := ManAt.free K10 hb0
  refine (man_copy bnice (by omega) (by omega) hbA10).mono ?_
  rintro e st11 ⟨cs11, rfl, hm11, hk11⟩
  have hx11 := hk11 _ _ hx10
  have hy11 := hk11 _ _ hy10
  have K11 := K10.trans (hk11.to _)
  have hF11 := hF10.keep (hk11.to fun _ => True) (by simp)
  obtain ⟨hpok2, hst⟩ := armed_pub (a := frameM (bodyM a)) (b := frameM (bodyM b)) (n := 5) (j := j) (by omega) (by omega) (by omega) (by omega)
  simp [go_sem]
  refine (publish_spec hF11 hm11 hfb (fun _ => hpok2)).mono ?_
  rintro e st12 ⟨hR12, hk12⟩
  rw [if_pos hmb] at hR12
  obtain ⟨rfl, hF12⟩ := hR12
  generalize (pubGo (frameM (bodyM b)) [0, 1, 2, 3, 4] 0 (q0 (frameM (bodyM a)) (armC 5 j))) = PG at *
  obtain ⟨err, S12⟩ := PG
  simp only at hst hF12 ⊢
  have k12 := hk12.imp (frOut f)
  have hx12 := k12.get hx11 fx
  have hy12 := k12.get hy11 fx
  have K12 := K11.trans k12
  simp [go_sem]
  refine (Ints_new (.ty 1) (hp.keep K12 fx) hpl).mono ?_
  rintro e st13 ⟨b13, c13, rfl, hV13, hk13⟩
  have hx13 := hk13 _ _ hx12
  have hy13 := hk13 _ _ hy12
  have K13 := K12.trans (hk13.to _)
  have hF13 := hF12.keep (hk13.to fun _ => True) (by simp)
  obtain ⟨d, sd, L, hC, hLs, i, F, hg1, hg2, hg3⟩ := crash_stand hst (by omega) (by omega) ops picks
  simp [go_sem]
  refine (CrashN_spec (ops := ops) (picks := picks) (gp := .ty 1) hF13 hC.small hC.names hC.born hC.crash hC.few hC.perm hC.order hC.left hC.room hV13.reg (by intro g x r; simp) hpb).mono ?_
  rintro e st14 ⟨f2, rfl, hne, hF14, hL14, hk14⟩
  have k14 : Keep Free st13 st14 := hk14.imp fun g hg => ⟨frOut f g hg, frOut f2 g hg⟩
  have hx14 := k14.get hx13 fx
  have hy14 := k14.get hy13 fx
  have K14 := K13.trans k14
  simp [go_sem]
  refine (load_spec hL14 hLs).mono ?_
  rintro e st15 ⟨hk15, hR15⟩
  have k15 : Keep Free st14 st15 := hk15.imp fun _ _ => trivial
  have hx15 := k15.get hx14 fx
  have hy15 := k15.get hy14 fx
  have K15 := K14.trans k15
  obtain ⟨m, hload, hmn, hm1, hm2, hmE, hmab⟩ : ∃ m, loadM L = .ok m ∧ (∀ t ∈ m.tombs, NiceM 12 t.m) ∧ m.blocks.length < 2 ^ 60 ∧ m.tombs.length < 2 ^ 60 ∧ (err = 0 → m = b) ∧ (m = a ∨ m = b) := by
    rcases hg3 with ⟨he, h⟩ | h
    · exact ⟨a, load_of hg1 hg2 h hma hfa, anice, by omega, by omega, fun h => absurd h he, .inl rfl⟩
    · exact ⟨b, load_of hg1 hg2 h hmb hfb, bnice, by omega, by omega, fun _ => rfl, .inr rfl⟩
  rw [hload] at hR15
  obtain ⟨cs15, rfl, hm15⟩ := hR15
  have hm15' := hm15
  obtain ⟨mbv, mtv, mbs, mts, rfl, hmb', hmbs, hmt, hmts⟩ := hm15
  obtain ⟨mbb, mbc, rfl⟩ := hmb'.slice
  obtain ⟨mtb, mtc, rfl⟩ := hmt.slice
  simp [go_sem]
  unfold NewP
  intro t13 ht13
  refine ⟨.ty 0, ?_⟩
  simp [go_sem]
  have hz16 := upd_same st15 t13 (.cells true [Val.i m.seq, Val.i m.log, Val.i m.next, Val.i m.now, .slice mbb m.blocks.length mbc, .slice mtb m.tombs.length mtc] 6 (.ty 0))
  have hN16 := (New.refl st15).add (b := t13) (o := .cells true [Val.i m.seq, Val.i m.log, Val.i m.next, Val.i m.now, .slice mbb m.blocks.length mbc, .slice mtb m.tombs.length mtc] 6 (.ty 0)) ht13
  have hx16 := hN16 _ _ hx15
  have hy16 := hN16 _ _ hy15
  have hm16 := hm15'.new hN16
  have K16 := K15.trans (hN16.to _)
  generalize upd st15 t13 (.cells true [Val.i m.seq, Val.i m.log, Val.i m.next, Val.i m.now, .slice mbb m.blocks.length mbc, .slice mtb m.tombs.length mtc] 6 (.ty 0)) = st16 at *
  have haA16 : ManAt st16 _ a := ManAt.free K16 ha0
  have hbA16 : ManAt st16 _ b := ManAt.free K16 hb0
  by_cases herr : err = 0
  · have q := eq_true herr
    have hmeq := hmE herr
    simp [go_sem, q, hz16, hy16]
    refine (manSame_spec hmn hm1 hm2 hm16 hbA16).mono ?_
    rintro e st17 ⟨r, rfl, hr, hk17⟩
    rw [hr hmeq]
    simp [go_sem]
    refine awk.mono ?_
    rintro e st' rfl
    simp [go_sem]
  · have q := eq_false herr
    simp [go_sem, q, hz16, hx16]
    refine (manSame_spec hmn hm1 hm2 hm16 haA16).mono ?_
    rintro e st17 ⟨r, rfl, hr, hk17⟩
    have hz17 := hk17 _ _ hz16
    have hy17 := hk17 _ _ hy16
    cases r with
    | true =>
      simp [go_sem]
      refine awk.mono ?_
      rintro e st' rfl
      simp [go_sem]
    | false =>
      have hmb2 : m = b := by
        rcases hmab with h | h
        · have := hr h
          cases this
        · exact h
      simp [go_sem, hz17, hy17]
      refine (manSame_spec hmn hm1 hm2 (hm16.new hk17) (hbA16.new hk17)).mono ?_
      rintro e st18 ⟨r, rfl, hr, hk18⟩
      rw [hr hmb2]
      simp [go_sem]
      refine awk.mono ?_
      rintro e st' rfl
      simp [go_sem]
end
end Go.Proofs.YtgppogppdmbgmaaGreat
