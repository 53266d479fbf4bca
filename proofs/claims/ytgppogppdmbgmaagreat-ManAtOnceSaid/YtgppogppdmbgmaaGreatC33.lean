/- The document's bytes of tombs, of a manifest; its frame: the walks. -/
import Derived.Test.YtgppogppdmbgmaaGreatC31
import Derived.Test.YtgppogppdmbgmaaGreatC32
set_option linter.unusedVariables false
set_option linter.unusedSimpArgs false
set_option maxRecDepth 100000
set_option maxHeartbeats 8000000
namespace Go.Proofs.YtgppogppdmbgmaaGreat
open Go.RowKit (Below)
section
variable {W0 : World} {st : Heap}
/-- The same; and rows that are not the bytes' are as they were. -/
theorem appC {P : Program} {t e : Nat} {z : List Value} {K : Value → Heap → Prop} {st0 st : Heap} {g g' : Tg} {v w : Value} {B D : Bs} (hi : slInfo P t = some (e, 1, 1, z)) (hv : Vec st g 1 v (bytesV B) B.length) (hf : Fresh st0 v) (hN : New st0 st) (hw : Reg st g' 1 w (bytesV D) D.length) (hl : (B ++ D).length < 2 ^ 46)
    (hk : ∀ v' st', Vec st' g 1 v' (bytesV (B ++ D)) (B ++ D).length → Fresh st0 v' → New st0 st' → (∀ k o, st k = some o → o.tag ≠ some g → st' k = some o) → K v' st') : AppI (some (e, 1, 1, z)) P t v w K st := by
  rw [List.length_append] at hl
  refine AppI_new (st0 := st0) hi hv hf hN hw.src (bytesV_one _) (by omega) ?_
  intro base cap st3 hV3 hF3 hN3 hE3
  refine hk _ _ ?_ hF3 hN3 hE3.keep
  rw [List.length_append]
  simpa [bytesV] using hV3
theorem of03_spec {bv : Value} {b : Bs} {g0 : Tg} (h : Reg st g0 1 bv (bytesV b) b.length) (hl : b.length < 2 ^ 60) :
    ICalls Tryz.prog W0 224 #[bv] st fun e st' => e = .returned (.int .u32 (crcM b)) ∧ st' = st := by
  refine enter (args := [_]) Tryz.func224 rfl ?_
  simp [Tryz.f224, go_sem]
  refine (more03_spec h hl).mono ?_
  rintro e st2 ⟨rfl, rfl⟩
  simp [go_sem]
theorem put05_spec {yv : Value} {body : Bs} {g1 : Tg} (g : Tg) (hy : Reg st g1 1 yv (bytesV body) body.length) (hly : body.length < 2 ^ 40) :
    ICalls Tryz.prog W0 180 #[yv] st (MatPutR st g (frameM body)) := by
  obtain ⟨ybase, ycap, rfl⟩ := hy.slice
  refine enter (args := [_]) Tryz.func180 rfl ?_
  have hw : IntKind.u64.wrap (body.length : Int) = body.length := wraps_u64 _ (by omega) (by omega)
  have hc := crcM_lt body
  simp [Tryz.f180, go_sem]
  refine (of03_spec hy (by omega)).mono ?_
  rintro e st1 ⟨rfl, rfl⟩
  generalize hcc : crcM body = c at *
  simp [go_sem, hw]
  refine (put04_spec g (show body.length < 2 ^ 64 by omega)).mono ?_
  rintro e st2 ⟨v, rfl, hv, hf, hk2⟩
  have hpl := vputM_len body.length (by omega)
  have w0 : IntKind.u8.wrap (c : Int) = ((UInt8.ofNat (c % 256)).toNat : Int) := by rw [ofNat_u8 _ (by omega), IntKind.wrap_u8]; omega
  have f1 : IntKind.u8.wrap ((c : Int).fdiv 256) = ((UInt8.ofNat (c / 256 % 256)).toNat : Int) := by rw [ofNat_u8 _ (by omega), IntKind.wrap_u8, Int.fdiv_eq_ediv_of_nonneg _ (by omega)]; omega
  have f2 : IntKind.u8.wrap ((c : Int).fdiv 65536) = ((UInt8.ofNat (c / 65536 % 256)).toNat : Int) := by rw [ofNat_u8 _ (by omega), IntKind.wrap_u8, Int.fdiv_eq_ediv_of_nonneg _ (by omega)]; omega
  have f3 : IntKind.u8.wrap ((c : Int).fdiv 16777216) = ((UInt8.ofNat (c / 16777216 % 256)).toNat : Int) := by rw [ofNat_u8 _ (by omega), IntKind.wrap_u8, Int.fdiv_eq_ediv_of_nonneg _ (by omega)]; omega
  generalize hB0 : UInt8.ofNat (c % 256) = B0 at *
  generalize hB1 : UInt8.ofNat (c / 256 % 256) = B1 at *
  generalize hB2 : UInt8.ofNat (c / 65536 % 256) = B2 at *
  generalize hB3 : UInt8.ofNat (c / 16777216 % 256) = B3 at *
  have hle : le4 c = [B0, B1, B2, B3] := by unfold le4; rw [hB0, hB1, hB2, hB3]
  simp [go_sem, w0, f1, f2, f3]
  unfold NewS
  intro b3 hb3
  refine ⟨.ty 0, ?_⟩
  simp [go_sem]
  have k3 : New st2 (upd st2 b3 (.cells true [.int .u8 B0.toNat, .int .u8 B1.toNat, .int .u8 B2.toNat, .int .u8 B3.toNat] 4 (.ty 0))) := (New.refl _).add hb3
  refine AppI_new (m := 4) (ys := bytesV (le4 c)) si82 (hv.new' k3) hf (hk2.trans k3) ?_ (bytesV_one _) (by omega) ?_
  · rw [hle]; simp [srcCells, lkN_mk, upd_same, cellsOf, bytesV]
  intro nb nc st4 hv4 hf4 hk4 _
  simp [go_sem]
  refine AppI_new (m := body.length) (ys := bytesV body) si82 hv4 hf4 hk4 (hy.new hk4).src (bytesV_one _) (by omega) ?_
  intro nb2 nc2 st5 hv5 hf5 hk5 _
  simp [go_sem]
  refine ⟨_, rfl, ?_, hf5, hk5⟩
  have : frameM body = vputM body.length ++ (le4 c ++ body) := by unfold frameM; rw [hcc]
  rw [this]
  have hl4 : (le4 c).length = 4 := by rw [hle]; rfl
  have e1 : (vputM body.length ++ (le4 c ++ body)).length = (vputM body.length).length + 4 + body.length := by simp [hl4]; omega
  have e2 : bytesV (vputM body.length ++ (le4 c ++ body)) = bytesV (vputM body.length) ++ bytesV (le4 c) ++ bytesV body := by simp [bytesV_append]
  rw [e1, e2]
  exact hv5
theorem put19_spec {tv : Value} {ts : List Value} {tombs : List TombD} {g : Tg} (ht : RegF st 8 tv ts tombs.length) (hts : TombsAt st ts tombs) (hok : ∀ t ∈ tombs, tombOK t) (hlt : tombs.length ≤ 64) :
    ICalls Tryz.prog W0 227 #[tv] st (MatPutR st g (tombsB tombs)) := by
  obtain ⟨tb, tc, rfl⟩ := ht.slice
  refine enter (args := [_]) Tryz.func227 rfl ?_
  have hwl : IntKind.u64.wrap (tombs.length : Int) = (tombs.length : Int) := wraps_u64 _ (by omega) (by omega)
  simp [Tryz.f227, go_sem, hwl]
  refine (put04_spec g (show tombs.length < 2 ^ 64 by omega)).mono ?_
  rintro e st1 ⟨v1, rfl, hV1, hF1, hk1⟩
  simp [go_sem]
  have hfl : (tombs.flatMap tombB).length ≤ 5406 * tombs.length := flat_len fun t h => tombB_len (hok t h)
  have hvl := vputM_len tombs.length (by omega)
  refine ⟨fun E st' => New st st' ∧ E 0 = .slice tb tombs.length tc ∧ ∃ i : Nat, E 4 = Val.i i ∧ i ≤ tombs.length ∧ Vec st' g 1 (E 3) (bytesV (vputM tombs.length ++ (tombs.take i).flatMap tombB)) (vputM tombs.length ++ (tombs.take i).flatMap tombB).length ∧ Fresh st (E 3),
    fun E _ => match E 4 with | .int _ i => tombs.length - i.toNat | _ => 0, ⟨st1, .rfl' _, hk1, by simp [go_sem], 0, by simp [go_sem], by omega, by simpa [go_sem] using hV1, by simpa [go_sem] using hF1⟩, ?_⟩
  rintro E st2 ⟨hk2, e0, i, e4, hi, hV, hF⟩
  by_cases hlt' : i < tombs.length
  · have hltI : ((i : Int) < tombs.length) = True := eq_true (by omega)
    have hwi : IntKind.i64.wrap ((i : Int) + 1) = ((i + 1 : Nat) : Int) := by rw [wrap_id (by omega) (by omega)]; omega
    obtain ⟨mb, off, cap, rw_, zs, mm, g', hv, hs0, hget⟩ := rows_get ht (by omega)
    have hs := hk2 _ _ hs0
    injection hv with v1 v2 v3
    subst v1; subst v3
    obtain ⟨hlen, hcell, hc⟩ := hget i hlt'
    have hx : tombs[i]? = some tombs[i] := List.getElem?_eq_getElem hlt'
    have htk : tombs.take (i + 1) = tombs.take i ++ [tombs[i]] := by rw [List.take_add_one, hx]; rfl
    have hti := hts i _ hx
    rw [← hcell] at hti
    have hoki := hok _ (List.getElem_mem hlt')
    generalize tombs[i] = x at *
    obtain ⟨B, hB⟩ : ∃ B, vputM tombs.length ++ (tombs.take i).flatMap tombB = B := ⟨_, rfl⟩
    have hBl : B.length < 2 ^ 38 + 1000000 := by
      have : ((tombs.take i).flatMap tombB).length ≤ 5406 * (tombs.take i).length := flat_len fun t h => tombB_len (hok t (List.mem_of_mem_take h))
      have h2 : (tombs.take i).length ≤ 64 := by rw [List.length_take]; omega
      rw [← hB, List.length_append]
      omega
    rw [hB] at hV
    obtain ⟨ms, hms, hcs⟩ := hti
    have hms0 := hms
    have hxl := tombB_len hoki
    have i1 := intB_len (v := x.seq) (by have := hoki.1; omega) (by have := hoki.1; omega)
    have i2 := intB_len (v := x.fro) (by have := hoki.2.1; unfold alignedM at this; omega) (by have := hoki.2.1; unfold alignedM at this; omega)
    have i3 := intB_len (v := x.to) (by have := hoki.2.1; unfold alignedM at this; omega) (by have := hoki.2.1; unfold alignedM at this; omega)
    obtain ⟨sq, mat, fro, to⟩ := x
    obtain ⟨⟨k1, k2⟩, k3, k4⟩ := hoki
    unfold alignedM at k3
    simp only at k1 k2 k3 k4 i1 i2 i3
    have k5 := putM_len k4
    have hsm := (holdsM_small mat 1 64 4096 (by omega) k4).1
    have hed := holdsM_edge mat 1 64 4096 k4
    have hex : ∃ op name value vb vl vc kb kl kc, ms = [Val.i op, .string name, .string value, .slice vb vl vc, .slice kb kl kc] := by
      obtain ⟨op, name, value, vals, kids⟩ := mat
      unfold MatAt at hms
      obtain ⟨vv, kv, ks, rfl, hv', hk', hkids⟩ := hms
      obtain ⟨vb', vc', rfl⟩ := hv'.slice
      obtain ⟨kb', kc', rfl⟩ := hk'.slice
      exact ⟨_, _, _, _, _, _, _, _, _, rfl⟩
    obtain ⟨op, name, value, vb', vl', vc', kb', kl', kc', rfl⟩ := hex
    simp only [List.cons_append, List.nil_append] at hcs
    rw [← hcell, hcs] at hc
    have hc0 := hc 0 (by omega)
    have hc6 := hc 6 (by omega)
    have hc7 := hc 7 (by omega)
    simp at hc0 hc6 hc7
    have hm5 : (zs.drop (off + i * 8 + 1)).take 5 = [Val.i op, .string name, .string value, .slice vb' vl' vc', .slice kb' kl' kc'] := by
      have := congrArg (fun l => (l.drop 1).take 5) hcs
      simpa [List.drop_take, List.drop_drop, List.take_take] using this
    simp [go_sem, e0, e4, hltI, hlt', hs, hlen, hc0]
    have hBt : B ++ tombB ⟨sq, mat, fro, to⟩ = B ++ intB sq ++ intB fro ++ intB to ++ putM mat := by simp [tombB]
    have hBtl : (B ++ intB sq ++ intB fro ++ intB to ++ putM mat).length < 2 ^ 40 := by rw [← hBt, List.length_append]; omega
    have hB3 : (B ++ intB sq ++ intB fro ++ intB to).length < 2 ^ 40 := by rw [List.length_append] at hBtl; omega
    have hB2 : (B ++ intB sq ++ intB fro).length < 2 ^ 40 := by rw [List.length_append] at hB3; omega
    have hB1 : (B ++ intB sq).length < 2 ^ 40 := by rw [List.length_append] at hB2; omega
    refine (int04_spec g (by omega) (by omega)).mono ?_
    rintro e st3 ⟨w3, rfl, hw3, -, hk3⟩
    simp [go_sem]
    refine appB (st0 := st) si82 (hV.new' hk3) hF (hk2.trans hk3) hw3.reg (by omega) ?_
    intro v4 st4 hV4 hF4 hk4
    have hs := hk4 _ _ hs0
    simp [go_sem, e0, e4, hlt', hs, hlen, hc6]
    refine (int04_spec g (by omega) (by omega)).mono ?_
    rintro e st5 ⟨w5, rfl, hw5, -, hk5⟩
    simp [go_sem]
    refine appB (st0 := st) si82 (hV4.new' hk5) hF4 (hk4.trans hk5) hw5.reg (by omega) ?_
    intro v6 st6 hV6 hF6 hk6
    have hs := hk6 _ _ hs0
    simp [go_sem, e0, e4, hlt', hs, hlen, hc7]
    refine (int04_spec g (by omega) (by omega)).mono ?_
    rintro e st7 ⟨w7, rfl, hw7, -, hk7⟩
    simp [go_sem]
    refine appB (st0 := st) si82 (hV6.new' hk7) hF6 (hk6.trans hk7) hw7.reg (by omega) ?_
    intro v8 st8 hV8 hF8 hk8
    have hs := hk8 _ _ hs0
    have hl6 : off + i * 8 + 1 + 5 ≤ zs.length := by omega
    simp [go_sem, e0, e4, hlt', hs, hlen, hm5, hl6]
    refine (ref12Put_spec mat g hsm hed (hms0.new hk8) (by omega)).mono ?_
    rintro e st9 ⟨w9, rfl, hw9, -, hk9⟩
    simp [go_sem]
    refine appB (st0 := st) si82 (hV8.new' hk9) hF8 (hk8.trans hk9) hw9.reg (by omega) ?_
    intro v10 st10 hV10 hF10 hk10
    simp [go_sem, e0, e4, hwi]
    have heq : B ++ intB sq ++ intB fro ++ intB to ++ putM mat = vputM tombs.length ++ (tombs.take (i + 1)).flatMap tombB := by rw [← hBt, htk, ← hB]; simp
    rw [heq] at hV10
    refine ⟨_, .rfl' _, ⟨hk10, i + 1, by omega, by omega, ?_, hF10⟩, by omega⟩
    simpa using hV10
  · have hlt2 : ((i : Int) < tombs.length) = False := eq_false (by omega)
    have : i = tombs.length := by omega
    subst this
    simp [go_sem, e0, e4, hlt2]
    rw [List.take_length] at hV
    exact ⟨_, rfl, hV, hF, hk2⟩
theorem body21_spec {cs : List Value} {m : ManD} {g : Tg} (hg : g ≠ .ty 0) (h : ManAt st cs m) (hm : manM m = true) (hf : ManFits m) : ICalls Tryz.prog W0 181 #[.agg cs.toArray] st (MatPutR st g (bodyM m)) := by
  obtain ⟨bv, tv, bs, ts, rfl, hb, hbs, ht, hts⟩ := h
  obtain ⟨bb, bc, rfl⟩ := hb.slice
  obtain ⟨tb, tc, rfl⟩ := ht.slice
  obtain ⟨⟨h1, h2, h3, h4, h5, h6, h7, h8⟩, hmb, hmt⟩ := manM_parts hm
  obtain ⟨hbl1, hbl2⟩ := bodyM_len hm hf
  unfold nameOKM at h3 h4
  have a1 := intB_len (v := m.seq) (by omega) (by omega)
  have a2 := intB_len (v := m.log) (by omega) (by omega)
  have a3 := intB_len (v := m.next) (by omega) (by omega)
  have a4 := intB_len (v := m.now) (by omega) (by omega)
  have a5 := vputM_len m.blocks.length (by omega)
  refine enter (args := [_]) Tryz.func181 rfl ?_
  refine IW_cut (fun E' st' => ∃ tm, New st st' ∧ E' 1 = ptr tm ∧ st' tm = some (.cells true [Val.i m.seq, Val.i m.log, Val.i m.next, Val.i m.now, .slice bb m.blocks.length bc, .slice tb m.tombs.length tc] 6 (.ty 0))) ?_ ?_
  · simp [go_sem]
    unfold NewP
    intro tm htm
    refine ⟨.ty 0, ?_⟩
    simp [go_sem]
    exact (New.refl _).add htm
  rintro E1 st1 ⟨tm, hk1, e1, htm⟩
  obtain ⟨MC, hMC⟩ : ∃ o, o = HObj.cells true [Val.i m.seq, Val.i m.log, Val.i m.next, Val.i m.now, .slice bb m.blocks.length bc, .slice tb m.tombs.length tc] 6 (.ty 0) := ⟨_, rfl⟩
  have hB4l : (intB m.seq ++ intB m.log ++ intB m.next ++ intB m.now ++ vputM m.blocks.length).length ≤ 50 := by simp only [List.length_append]; omega
  obtain ⟨B5, hB5⟩ : ∃ B, intB m.seq ++ intB m.log ++ intB m.next ++ intB m.now ++ vputM m.blocks.length = B := ⟨_, rfl⟩
  have hwl : IntKind.u64.wrap (m.blocks.length : Int) = (m.blocks.length : Int) := wraps_u64 _ (by omega) (by omega)
  simp [go_sem, e1, htm]
  refine (int04_spec g (by omega) (by omega)).mono ?_
  rintro e st2 ⟨v2, rfl, hV2, hF2, hk2⟩
  simp [go_sem, e1, hk2 _ _ htm]
  refine (int04_spec g (by omega) (by omega)).mono ?_
  rintro e st3 ⟨w3, rfl, hw3, -, hk3⟩
  simp [go_sem]
  refine appB (st0 := st1) si82 (hV2.new' hk3) hF2 (hk2.trans hk3) hw3.reg (by simp only [List.length_append] at hB4l ⊢; omega) ?_
  intro v4 st4 hV4 hF4 hk4
  simp [go_sem, e1, hk4 _ _ htm]
  refine (int04_spec g (by omega) (by omega)).mono ?_
  rintro e st5 ⟨w5, rfl, hw5, -, hk5⟩
  simp [go_sem]
  refine appB (st0 := st1) si82 (hV4.new' hk5) hF4 (hk4.trans hk5) hw5.reg (by simp only [List.length_append] at hB4l ⊢; omega) ?_
  intro v6 st6 hV6 hF6 hk6
  simp [go_sem, e1, hk6 _ _ htm]
  refine (int04_spec g (by omega) (by omega)).mono ?_
  rintro e st7 ⟨w7, rfl, hw7, -, hk7⟩
  simp [go_sem]
  refine appB (st0 := st1) si82 (hV6.new' hk7) hF6 (hk6.trans hk7) hw7.reg (by simp only [List.length_append] at hB4l ⊢; omega) ?_
  intro v8 st8 hV8 hF8 hk8
  simp [go_sem, e1, hk8 _ _ htm, hwl]
  refine (put04_spec g (show m.blocks.length < 2 ^ 64 by omega)).mono ?_
  rintro e st9 ⟨w9, rfl, hw9, -, hk9⟩
  simp [go_sem]
  refine appB (st0 := st1) si82 (hV8.new' hk9) hF8 (hk8.trans hk9) hw9.reg (by simp only [List.length_append] at hB4l ⊢; omega) ?_
  intro v10 st10 hV10 hF10 hk10
  rw [hB5] at hV10
  rw [hB5] at hB4l
  simp [go_sem, e1]
  refine ⟨fun E st' => New st1 st' ∧ E 1 = ptr tm ∧ ∃ i : Nat, E 4 = Val.i i ∧ i ≤ m.blocks.length ∧ Vec st' g 1 (E 3) (bytesV (B5 ++ (m.blocks.take i).flatMap metaB)) (B5 ++ (m.blocks.take i).flatMap metaB).length ∧ Fresh st1 (E 3),
    fun E _ => match E 4 with | .int _ i => m.blocks.length - i.toNat | _ => 0, ⟨st10, .rfl' _, hk10, by simp [go_sem, e1], 0, by simp [go_sem], by omega, by simpa [go_sem] using hV10, by simpa [go_sem] using hF10⟩, ?_⟩
  clear e1 hV2 hF2 hV4 hF4 hV6 hF6 hV8 hF8 hV10 hF10 hw3 hw5 hw7 hw9
  rintro E st6 ⟨hk6, e1, i, e4, hi, hV, hF⟩
  have htm6 := hk6 _ _ htm
  by_cases hlt : i < m.blocks.length
  · have hlt' : ((i : Int) < m.blocks.length) = True := eq_true (by omega)
    have hwi : IntKind.i64.wrap ((i : Int) + 1) = ((i + 1 : Nat) : Int) := by rw [wrap_id (by omega) (by omega)]; omega
    obtain ⟨mb, off, cap, rw_, zs, mm, g', hv, hs, hget⟩ := rows_get (hb.new (hk1.trans hk6)) (by omega)
    injection hv with v1 v2 v3
    subst v1; subst v3
    obtain ⟨hlen, hcell, hc⟩ := hget i hlt
    have hx : m.blocks[i]? = some m.blocks[i] := List.getElem?_eq_getElem hlt
    have htk : m.blocks.take (i + 1) = m.blocks.take i ++ [m.blocks[i]] := by rw [List.take_add_one, hx]; rfl
    rw [hbs i _ hx] at hcell
    have hox := hmb _ (List.getElem_mem hlt)
    have hfx := hf _ (List.getElem_mem hlt)
    generalize m.blocks[i] = x at *
    unfold MetaD.cells at hcell
    obtain ⟨B, hB⟩ : ∃ B, B5 ++ (m.blocks.take i).flatMap metaB = B := ⟨_, rfl⟩
    have hBl : B.length ≤ 64000 := by
      have : ((m.blocks.take i).flatMap metaB).length ≤ 70 * (m.blocks.take i).length := flat_len fun y hy => metaB_len (hmb y (List.mem_of_mem_take hy)) (hf y (List.mem_of_mem_take hy))
      have h2 : (m.blocks.take i).length ≤ 900 := by rw [List.length_take]; omega
      rw [← hB, List.length_append]
      omega
    rw [hB] at hV
    have hxi : ∀ y ∈ x.ints, -2 ^ 63 ≤ y ∧ y < 2 ^ 63 := by
      unfold metaOK nameOKM at hox
      intro y hy
      simp [MetaD.ints] at hy
      omega
    have hxl := metaB_len hox hfx
    simp [go_sem, e1, e4, htm6, hlt', hlt, hs, hlen, hcell]
    unfold NewP
    intro tx htx
    refine ⟨.ty 0, ?_⟩
    simp [go_sem, e1, e4]
    unfold NewS
    intro nb hnb
    refine ⟨.ty 0, ?_⟩
    simp [go_sem, e1, e4]
    have HN : New st6 (upd (upd st6 tx (.cells true [Val.i x.id, Val.i x.level, Val.i x.day, Val.i x.lo, Val.i x.hi, Val.i x.done, Val.i x.rows] 7 (.ty 0))) nb (.cells true [Val.i x.id, Val.i x.level, Val.i x.day, Val.i x.lo, Val.i x.hi, Val.i x.done, Val.i x.rows] 7 (.ty 0))) := ((New.refl _).add htx).add hnb
    have hnb7 := upd_same (upd st6 tx (.cells true [Val.i x.id, Val.i x.level, Val.i x.day, Val.i x.lo, Val.i x.hi, Val.i x.done, Val.i x.rows] 7 (.ty 0))) nb (.cells true [Val.i x.id, Val.i x.level, Val.i x.day, Val.i x.lo, Val.i x.hi, Val.i x.done, Val.i x.rows] 7 (.ty 0))
    have hints : [Val.i x.id, Val.i x.level, Val.i x.day, Val.i x.lo, Val.i x.hi, Val.i x.done, Val.i x.rows] = x.ints.map Val.i := rfl
    have hil : x.ints.length = 7 := rfl
    have hmB : metaB x = x.ints.flatMap intB := rfl
    refine ⟨fun E' st' => New st1 st' ∧ E' 1 = ptr tm ∧ E' 4 = Val.i i ∧ E' 6 = .slice (some ⟨nb, 0, none⟩) 7 7 ∧ st' nb = some (.cells true [Val.i x.id, Val.i x.level, Val.i x.day, Val.i x.lo, Val.i x.hi, Val.i x.done, Val.i x.rows] 7 (.ty 0)) ∧ ∃ j : Nat, E' 7 = Val.i j ∧ j ≤ 7 ∧ Vec st' g 1 (E' 3) (bytesV (B ++ (x.ints.take j).flatMap intB)) (B ++ (x.ints.take j).flatMap intB).length ∧ Fresh st1 (E' 3),
      fun E' _ => match E' 7 with | .int _ j => 7 - j.toNat | _ => 0, ⟨_, .rfl' _, hk6.trans HN, by simp [go_sem, e1], by simp [go_sem, e4], by simp [go_sem], hnb7, 0, by simp [go_sem], by omega, by simpa [go_sem] using hV.new' HN, by simpa [go_sem] using hF⟩, ?_⟩
    clear hnb7 HN e1 e4 hV hF hs htm6 hk6
    rw [hints]
    rintro E' st7 ⟨hk7, e1, e4, e6, hnb7, j, e7, hj, hV, hF⟩
    by_cases hj7 : j < 7
    · have hj7' : ((j : Int) < 7) = True := eq_true (by omega)
      have hwj : IntKind.i64.wrap ((j : Int) + 1) = ((j + 1 : Nat) : Int) := by rw [wrap_id (by omega) (by omega)]; omega
      have hxj : x.ints[j]? = some x.ints[j] := List.getElem?_eq_getElem (by omega)
      have htj : x.ints.take (j + 1) = x.ints.take j ++ [x.ints[j]] := by rw [List.take_add_one, hxj]; rfl
      have hcj : (x.ints.map Val.i)[j]? = some (Val.i x.ints[j]) := by simp [hxj]
      have hbj := hxi _ (List.getElem_mem (show j < x.ints.length by omega))
      have hlj : (B ++ (x.ints.take j).flatMap intB ++ intB x.ints[j]).length < 2 ^ 46 := by
        have h1 : metaB x = (x.ints.take j).flatMap intB ++ (x.ints.drop j).flatMap intB := by rw [hmB, ← List.flatMap_append, List.take_append_drop]
        have h2 := congrArg List.length h1
        have h3 := intB_len hbj.1 hbj.2
        simp only [List.length_append] at h2 ⊢
        omega
      generalize x.ints[j] = y at *
      generalize x.ints.map Val.i = L at *
      simp [go_sem, e1, e4, e6, e7, hj7', hj7, hnb7, hcj]
      refine (int04_spec g hbj.1 hbj.2).mono ?_
      rintro e st8 ⟨w8, rfl, hw8, -, hk8⟩
      simp [go_sem]
      refine appC (st0 := st1) si82 (hV.new' hk8) hF (hk7.trans hk8) hw8.reg hlj ?_
      intro v9 st9 hV9 hF9 hk9 hK9
      have hnb9 := hK9 _ _ (hk8 _ _ hnb7) (by simp only [HObj.tag]; intro h; injection h with h; exact hg h.symm)
      simp [go_sem, e1, e4, e6, e7, hwj]
      have heq : B ++ (x.ints.take j).flatMap intB ++ intB y = B ++ (x.ints.take (j + 1)).flatMap intB := by rw [htj]; simp
      rw [heq] at hV9
      refine ⟨_, .rfl' _, ⟨hk9, hnb9, j + 1, by omega, by omega, by simpa using hV9, hF9⟩, by omega⟩
    · have hj7' : ((j : Int) < 7) = False := eq_false (by omega)
      have : j = 7 := by omega
      subst this
      simp [go_sem, e1, e4, e6, e7, hwi]
      have heq : B ++ (x.ints.take 7).flatMap intB = B5 ++ (m.blocks.take (i + 1)).flatMap metaB := by
        rw [htk, ← hB]; simp [metaB, MetaD.ints]
      rw [heq] at hV
      refine ⟨_, .rfl' _, ⟨hk7, i + 1, by omega, by omega, by simpa using hV, hF⟩, by omega⟩
  · have hlt' : ((i : Int) < m.blocks.length) = False := eq_false (by omega)
    have : i = m.blocks.length := by omega
    subst this
    rw [List.take_length] at hV
    have hV6 := hV
    have hF6 := hF
    obtain ⟨B6, hB6⟩ : ∃ B, B5 ++ m.blocks.flatMap metaB = B := ⟨_, rfl⟩
    rw [hB6] at hV6
    have hbody : B6 ++ tombsB m.tombs = bodyM m := by rw [← hB6, ← hB5]; rfl
    simp [go_sem, e1, e4, htm6]
    refine (put19_spec (g := g) (ht.new (hk1.trans hk6)) (fun i x hx => (hts i x hx).mono (fun _ _ _ _ h => h.new (hk1.trans hk6))) hmt h8).mono ?_
    rintro e st7 ⟨w7, rfl, hw7, -, hk7⟩
    simp [go_sem]
    refine appB (st0 := st1) si82 (hV6.new' hk7) hF6 (hk6.trans hk7) hw7.reg (by rw [hbody]; omega) ?_
    intro v8 st8 hV8 hF8 hk8
    rw [hbody] at hV8
    simp [go_sem]
    exact ⟨_, rfl, hV8, hF8.old hk1, hk1.trans hk8⟩
theorem encode21_spec {cs : List Value} {m : ManD} {g : Tg} (hg : g ≠ .ty 0) (h : ManAt st cs m) (hN : ∀ t ∈ m.tombs, NiceM 12 t.m) (hf : ManFits m) : ICalls Tryz.prog W0 115 #[.agg cs.toArray] st (EncR st g m) := by
  have h0 := h
  obtain ⟨bv, tv, bs, ts, rfl, hb, hbs, ht, hts⟩ := h
  obtain ⟨bb, bc, rfl⟩ := hb.slice
  obtain ⟨tb, tc, rfl⟩ := ht.slice
  refine enter (args := [_]) Tryz.func115 rfl ?_
  simp [Tryz.f115, go_sem]
  unfold NewP
  intro tm htm
  refine ⟨.ty 0, ?_⟩
  simp [go_sem]
  have hN1 := (New.refl st).add (b := tm) (o := .cells true [Val.i m.seq, Val.i m.log, Val.i m.next, Val.i m.now, .slice bb m.blocks.length bc, .slice tb m.tombs.length tc] 6 (.ty 0)) htm
  have htm1 := upd_same st tm (.cells true [Val.i m.seq, Val.i m.log, Val.i m.next, Val.i m.now, .slice bb m.blocks.length bc, .slice tb m.tombs.length tc] 6 (.ty 0))
  refine (refMan_spec hN (h0.new hN1)).mono ?_
  rintro e st2 ⟨rfl, hk2⟩
  cases hm : manM m with
  | false =>
    simp [go_sem, EncR, hm]
    exact hN1.trans hk2
  | true =>
    have htm2 := hk2 _ _ htm1
    simp [go_sem, htm2]
    refine (body21_spec hg (h0.new (hN1.trans hk2)) hm hf).mono ?_
    rintro e st3 ⟨v3, rfl, hV3, -, hk3⟩
    simp [go_sem]
    have hbl := bodyM_len hm hf
    refine (put05_spec g hV3.reg (by omega)).mono ?_
    rintro e st4 ⟨v4, rfl, hV4, hF4, hk4⟩
    simp [go_sem, EncR, hm]
    have hk := (hN1.trans hk2).trans hk3
    exact ⟨hk.trans hk4, hV4, hF4.old hk⟩
end
end Go.Proofs.YtgppogppdmbgmaaGreat
set_option linter.unusedVariables false
set_option linter.unusedSimpArgs false
set_option maxRecDepth 100000
set_option maxHeartbeats 8000000
namespace Go.Proofs.YtgppogppdmbgmaaGreat
open Go.RowKit (Below)
def SameR (P : Prop) (st : Heap) (e : Ending) (st' : Heap) : Prop := ∃ r, e = .returned (.bool r) ∧ (P → r = true) ∧ New st st'
section
variable {W0 : World} {st : Heap}
theorem SameR.no {P : Prop} {st st' : Heap} (h : ¬ P) (hN : New st st') : SameR P st (.returned (.bool false)) st' := ⟨false, rfl, fun hp => absurd hp h, hN⟩
theorem mat_cells {cs : List Value} {m : Mat} (h : MatAt st cs m) : ∃ op name value vb vl vc kb kl kc, cs = [Val.i op, .string name, .string value, .slice vb vl vc, .slice kb kl kc] := by
  obtain ⟨op, name, value, vals, kids⟩ := m
  unfold MatAt at h
  obtain ⟨vv, kv, ks, rfl, hv', hk', hkids⟩ := h
  obtain ⟨vb', vc', rfl⟩ := hv'.slice
  obtain ⟨kb', kc', rfl⟩ := hk'.slice
  exact ⟨_, _, _, _, _, _, _, _, _, rfl⟩
theorem matSame_spec (d : Nat) : ∀ {a b : Mat} {st : Heap} {cs ds : List Value}, NiceM d a → MatAt st cs a → MatAt st ds b →
    ICalls Tryz.prog W0 127 #[.agg cs.toArray, .agg ds.toArray] st (SameR (a = b) st) := by
  induction d with
  | zero => intro a b st cs ds hn; unfold NiceM at hn; exact hn.elim
  | succ d ih =>
  intro a b st cs ds hn ha hb
  match a, b with
  | .mk op name value vals kids, .mk op' name' value' vals' kids' =>
  have ha0 := ha
  have hb0 := hb
  unfold MatAt at ha hb
  obtain ⟨vv, kv, ks, rfl, hv, hk, hkids⟩ := ha
  obtain ⟨vb, vc, rfl⟩ := hv.slice
  obtain ⟨kb, kc, rfl⟩ := hk.slice
  obtain ⟨vv', kv', ks', rfl, hv', hk', hkids'⟩ := hb
  obtain ⟨vb', vc', rfl⟩ := hv'.slice
  obtain ⟨kb', kc', rfl⟩ := hk'.slice
  unfold NiceM at hn
  obtain ⟨n1, n2, n3, n4, n5, n6⟩ := hn
  generalize hPe : (Mat.mk op name value vals kids = Mat.mk op' name' value' vals' kids') = PP
  have hPP : PP → op = op' ∧ name = name' ∧ value = value' ∧ vals = vals' ∧ kids = kids' := by rw [← hPe]; intro h; injection h with h1 h2 h3 h4 h5; exact ⟨h1, h2, h3, h4, h5⟩
  refine enter (args := [_, _]) Tryz.func127 rfl ?_
  refine IW_cut (fun E' st' => ∃ ta tb, New st st' ∧ E' 2 = ptr ta ∧ E' 3 = ptr tb ∧ st' ta = some (.cells true [Val.i op, .string name, .string value, .slice vb vals.length vc, .slice kb kids.length kc] 5 (.ty 0)) ∧ st' tb = some (.cells true [Val.i op', .string name', .string value', .slice vb' vals'.length vc', .slice kb' kids'.length kc'] 5 (.ty 0))) ?_ ?_
  · simp [go_sem]
    unfold NewP
    intro ta hta
    refine ⟨.ty 0, ?_⟩
    simp [go_sem]
    unfold NewP
    intro tb htb
    refine ⟨.ty 0, ?_⟩
    have hne : ta ≠ tb := by
      rintro rfl
      rw [upd_same] at htb
      cases htb
    simp [go_sem, hne]
    exact ((New.refl _).add hta).add htb
  rintro E1 st1 ⟨ta, tb, hk1, e2, e3, hta, htb⟩
  by_cases q1 : op = op'
  rotate_left
  · have q1' := eq_false q1
    simp [go_sem, e2, e3, hta, htb, q1']
    exact .no (fun h => q1 (hPP h).1) hk1
  by_cases q2 : name = name'
  rotate_left
  · have q2' := eq_false q2
    simp [go_sem, e2, e3, hta, htb, q1, q2']
    exact .no (fun h => q2 (hPP h).2.1) hk1
  by_cases q3 : value = value'
  rotate_left
  · have q3' := eq_false q3
    simp [go_sem, e2, e3, hta, htb, q1, q2, q3']
    exact .no (fun h => q3 (hPP h).2.2.1) hk1
  by_cases q4 : vals.length = vals'.length
  rotate_left
  · have q4' : ((vals.length : Int) = vals'.length) = False := eq_false (by omega)
    simp [go_sem, e2, e3, hta, htb, q1, q2, q3, q4, q4']
    exact .no (fun h => q4 (by rw [(hPP h).2.2.2.1])) hk1
  by_cases q5 : kids.length = kids'.length
  rotate_left
  · have q5' : ((kids.length : Int) = kids'.length) = False := eq_false (by omega)
    simp [go_sem, e2, e3, hta, htb, q1, q2, q3, q4, q5, q5']
    exact .no (fun h => q5 (by rw [(hPP h).2.2.2.2])) hk1
  have q4' : ((vals.length : Int) = vals'.length) = True := eq_true (by omega)
  have q5' : ((kids.length : Int) = kids'.length) = True := eq_true (by omega)
  refine IW_cut' (fun E' st' => st' = st1 ∧ E' 2 = ptr ta ∧ E' 3 = ptr tb) ?_ ?_
  · simp [go_sem, e2, e3, hta, htb, q1, q2, q3, q4', q5']
  clear e2 e3
  rintro E2 st2 ⟨rfl, e2, e3⟩
  simp [go_sem]
  refine ⟨fun E st' => New st2 st' ∧ E 2 = ptr ta ∧ E 3 = ptr tb ∧ ∃ i : Nat, E 5 = Val.i i ∧ i ≤ vals.length, fun E _ => match E 5 with | .int _ i => vals.length - i.toNat | _ => 0, ⟨st2, .rfl' _, New.refl _, by simp [go_sem, e2], by simp [go_sem, e3], 0, by simp [go_sem], by omega⟩, ?_⟩
  clear e2 e3
  rintro E st3 ⟨hk3, e2, e3, i, e5, hi⟩
  have hta3 := hk3 _ _ hta
  have htb3 := hk3 _ _ htb
  have hN3 := hk1.trans hk3
  by_cases hlt : i < vals.length
  · have hlt' : ((i : Int) < vals.length) = True := eq_true (by omega)
    have hwi : IntKind.i64.wrap ((i : Int) + 1) = ((i + 1 : Nat) : Int) := by rw [wrap_id (by omega) (by omega)]; omega
    obtain ⟨blk, off, rfl, hg⟩ := src_get (hv.new hN3).src (by omega)
    obtain ⟨blk', off', rfl, hg'⟩ := src_get (hv'.new hN3).src (by omega)
    have hgi := hg i (by omega)
    have hgi' := hg' i (by omega)
    have hvi : vals[i]? = some vals[i] := List.getElem?_eq_getElem hlt
    have hvi' : vals'[i]? = some vals'[i] := List.getElem?_eq_getElem (by omega)
    have hgv : (vals.map Value.string)[i]? = some (.string vals[i]) := by simp [hvi]
    have hgv' : (vals'.map Value.string)[i]? = some (.string vals'[i]) := by simp [hvi']
    rw [hgv] at hgi
    rw [hgv'] at hgi'
    have hlt2 : i < vals'.length := by omega
    have hlt2' : ((i : Int) < vals'.length) = True := eq_true (by omega)
    obtain ⟨s, hs⟩ : ∃ s, vals[i] = s := ⟨_, rfl⟩
    obtain ⟨s', hs'⟩ : ∃ s, vals'[i] = s := ⟨_, rfl⟩
    rw [hs] at hgi hvi
    rw [hs'] at hgi' hvi'
    simp [go_sem, e2, e3, e5, hta3, htb3, hlt, hlt']
    refine draw [0, 2, 5, 7, 1, 3, 4, 6, 8, 9, 10] (by kernel_rfl) ?_
    by_cases hq : s = s'
    · have hq' := eq_true hq
      simp [go_sem, e2, e3, e5, hta3, htb3, hlt, hlt', hgi, hgi', hlt2, hlt2', hq', hwi]
      exact ⟨_, .rfl' _, ⟨hk3, i + 1, by omega, by omega⟩, by omega⟩
    · have hq' := eq_false hq
      simp [go_sem, e2, e3, e5, hta3, htb3, hlt, hlt', hgi, hgi', hlt2, hlt2', hq']
      refine .no (fun h => hq ?_) hN3
      have := (hPP h).2.2.2.1
      rw [this, hvi'] at hvi
      injection hvi with hvi
      exact hvi.symm
  · have hlt' : ((i : Int) < vals.length) = False := eq_false (by omega)
    simp [go_sem, e2, e3, e5, hta3, htb3, hlt, hlt']
    refine ⟨fun E st' => New st2 st' ∧ E 2 = ptr ta ∧ E 3 = ptr tb ∧ ∃ i : Nat, E 6 = Val.i i ∧ i ≤ kids.length, fun E _ => match E 6 with | .int _ i => kids.length - i.toNat | _ => 0, ⟨st3, .rfl' _, hk3, by simp [go_sem, e2], by simp [go_sem, e3], 0, by simp [go_sem], by omega⟩, ?_⟩
    clear e2 e3 e5 hta3 htb3 hN3 hk3 hlt hlt' hi
    rintro E st5 ⟨hk5, e2, e3, j, e6, hj⟩
    have hta5 := hk5 _ _ hta
    have htb5 := hk5 _ _ htb
    have hN5 := hk1.trans hk5
    by_cases hlt : j < kids.length
    · have hlt' : ((j : Int) < kids.length) = True := eq_true (by omega)
      have hlt2 : j < kids'.length := by omega
      have hlt2' : ((j : Int) < kids'.length) = True := eq_true (by omega)
      have hwj : IntKind.i64.wrap ((j : Int) + 1) = ((j + 1 : Nat) : Int) := by rw [wrap_id (by omega) (by omega)]; omega
      have hkj : kids[j]? = some kids[j] := List.getElem?_eq_getElem hlt
      have hkj' : kids'[j]? = some kids'[j] := List.getElem?_eq_getElem hlt2
      have hnj := n6 _ (List.getElem_mem hlt)
      obtain ⟨blk, off, rw1, ys, z, g5, op1, name1, value1, vb1, vl1, vc1, kb1, kl1, kc1, rfl, hs5, hlen5, hcell, hmi⟩ := kid_get (hk.new hN5) (KidsAt.new hN5 hkids) rfl hkj
      obtain ⟨blk', off', rw1', ys', z', g5', op1', name1', value1', vb1', vl1', vc1', kb1', kl1', kc1', rfl, hs5', hlen5', hcell', hmi'⟩ := kid_get (hk'.new hN5) (KidsAt.new hN5 hkids') rfl hkj'
      simp [go_sem, e2, e3, e6, hta5, htb5, hlt, hlt']
      refine draw [0, 2, 5, 7, 1, 3, 4, 6, 8, 9, 10, 11] (by kernel_rfl) ?_
      simp [go_sem, e2, e3, e6, hta5, htb5, hlt, hlt', hlt2, hlt2', hs5, hlen5, hcell, hs5', hlen5', hcell']
      refine (ih hnj hmi hmi').mono ?_
      rintro e st6 ⟨r, rfl, hr, hk6⟩
      cases r with
      | true =>
        simp [go_sem, e2, e3, e6, hwj]
        exact ⟨_, .rfl' _, ⟨hk5.trans hk6, j + 1, by omega, by omega⟩, by omega⟩
      | false =>
        simp [go_sem, e2, e3, e6, hwj]
        refine .no (fun h => ?_) (hN5.trans hk6)
        have h5 := (hPP h).2.2.2.2
        have : kids[j] = kids'[j] := by subst h5; rfl
        have := hr this
        cases this
    · have hlt' : ((j : Int) < kids.length) = False := eq_false (by omega)
      simp [go_sem, e2, e3, e6, hta5, htb5, hlt, hlt']
      exact ⟨true, rfl, fun _ => rfl, hN5⟩
theorem neq_meta {x x' : MetaD} {c : Bool} (hc : c = true ↔ x ≠ x') : binV Tryz.prog .neq 187 (.agg #[Val.i x.id, Val.i x.level, Val.i x.day, Val.i x.lo, Val.i x.hi, Val.i x.done, Val.i x.rows]) (.agg #[Val.i x'.id, Val.i x'.level, Val.i x'.day, Val.i x'.lo, Val.i x'.hi, Val.i x'.done, Val.i x'.rows]) = some (.bool c) := by
  have hs : Tryz.prog.stoodInHeld 187 = false := by kernel_rfl
  have hg : Tryz.prog.eqGuardType Tryz.prog.depth 187 = false := by kernel_rfl
  unfold binV eqBin aggEqB
  simp only [Tryz.underlying187, hs, hg]
  simp [fieldsEq, Tryz.underlying3]
  obtain ⟨a1, a2, a3, a4, a5, a6, a7⟩ := x
  obtain ⟨b1, b2, b3, b4, b5, b6, b7⟩ := x'
  simp only [ne_eq, MetaD.mk.injEq] at hc ⊢
  by_cases h1 : a1 = b1 <;> by_cases h2 : a2 = b2 <;> by_cases h3 : a3 = b3 <;> by_cases h4 : a4 = b4 <;> by_cases h5 : a5 = b5 <;> by_cases h6 : a6 = b6 <;> by_cases h7 : a7 = b7 <;> simp [h1, h2, h3, h4, h5, h6, h7] at hc ⊢ <;> first | exact hc | simp [hc]
theorem manSame_spec {a b : ManD} {st : Heap} {cs ds : List Value} (hn : ∀ t ∈ a.tombs, NiceM 12 t.m) (hl1 : a.blocks.length < 2 ^ 60) (hl2 : a.tombs.length < 2 ^ 60) (ha : ManAt st cs a) (hb : ManAt st ds b) :
    ICalls Tryz.prog W0 56 #[.agg cs.toArray, .agg ds.toArray] st (SameR (a = b) st) := by
  obtain ⟨bv, tv, bs, ts, rfl, hbl, hbs, ht, hts⟩ := ha
  obtain ⟨bb, bc, rfl⟩ := hbl.slice
  obtain ⟨tb, tc, rfl⟩ := ht.slice
  obtain ⟨bv', tv', bs', ts', rfl, hbl', hbs', ht', hts'⟩ := hb
  obtain ⟨bb', bc', rfl⟩ := hbl'.slice
  obtain ⟨tb', tc', rfl⟩ := ht'.slice
  obtain ⟨seq, log, next, now, blocks, tombs⟩ := a
  obtain ⟨seq', log', next', now', blocks', tombs'⟩ := b
  simp only at *
  generalize hPe : (ManD.mk seq log next now blocks tombs = ManD.mk seq' log' next' now' blocks' tombs') = PP
  have hPP : PP → seq = seq' ∧ log = log' ∧ next = next' ∧ now = now' ∧ blocks = blocks' ∧ tombs = tombs' := by rw [← hPe]; intro h; injection h with h1 h2 h3 h4 h5 h6; exact ⟨h1, h2, h3, h4, h5, h6⟩
  refine enter (args := [_, _]) Tryz.func56 rfl ?_
  refine IW_cut (fun E' st' => ∃ ta tz, New st st' ∧ E' 2 = ptr ta ∧ E' 3 = ptr tz ∧ st' ta = some (.cells true [Val.i seq, Val.i log, Val.i next, Val.i now, .slice bb blocks.length bc, .slice tb tombs.length tc] 6 (.ty 0)) ∧ st' tz = some (.cells true [Val.i seq', Val.i log', Val.i next', Val.i now', .slice bb' blocks'.length bc', .slice tb' tombs'.length tc'] 6 (.ty 0))) ?_ ?_
  · simp [go_sem]
    unfold NewP
    intro ta hta
    refine ⟨.ty 0, ?_⟩
    simp [go_sem]
    unfold NewP
    intro tz htz
    refine ⟨.ty 0, ?_⟩
    have hne : ta ≠ tz := by
      rintro rfl
      rw [upd_same] at htz
      cases htz
    simp [go_sem, hne]
    exact ((New.refl _).add hta).add htz
  rintro E1 st1 ⟨ta, tz, hk1, e2, e3, hta, htz⟩
  by_cases q1 : seq = seq'
  rotate_left
  · have q1' := eq_false q1
    simp [go_sem, e2, e3, hta, htz, q1']
    exact .no (fun h => q1 (hPP h).1) hk1
  by_cases q2 : log = log'
  rotate_left
  · have q2' := eq_false q2
    simp [go_sem, e2, e3, hta, htz, q1, q2']
    exact .no (fun h => q2 (hPP h).2.1) hk1
  by_cases q3 : next = next'
  rotate_left
  · have q3' := eq_false q3
    simp [go_sem, e2, e3, hta, htz, q1, q2, q3']
    exact .no (fun h => q3 (hPP h).2.2.1) hk1
  by_cases q6 : now = now'
  rotate_left
  · have q6' := eq_false q6
    simp [go_sem, e2, e3, hta, htz, q1, q2, q3, q6']
    exact .no (fun h => q6 (hPP h).2.2.2.1) hk1
  by_cases q4 : blocks.length = blocks'.length
  rotate_left
  · have q4' : ((blocks.length : Int) = blocks'.length) = False := eq_false (by omega)
    simp [go_sem, e2, e3, hta, htz, q1, q2, q3, q6, q4, q4']
    exact .no (fun h => q4 (by rw [(hPP h).2.2.2.2.1])) hk1
  by_cases q5 : tombs.length = tombs'.length
  rotate_left
  · have q5' : ((tombs.length : Int) = tombs'.length) = False := eq_false (by omega)
    simp [go_sem, e2, e3, hta, htz, q1, q2, q3, q6, q4, q5, q5']
    exact .no (fun h => q5 (by rw [(hPP h).2.2.2.2.2])) hk1
  have q4' : ((blocks.length : Int) = blocks'.length) = True := eq_true (by omega)
  have q5' : ((tombs.length : Int) = tombs'.length) = True := eq_true (by omega)
  refine IW_cut' (fun E' st' => st' = st1 ∧ E' 2 = ptr ta ∧ E' 3 = ptr tz) ?_ ?_
  · simp [go_sem, e2, e3, hta, htz, q1, q2, q3, q6, q4', q5']
  clear e2 e3
  rintro E2 st2 ⟨rfl, e2, e3⟩
  simp [go_sem]
  refine ⟨fun E st' => New st2 st' ∧ E 2 = ptr ta ∧ E 3 = ptr tz ∧ ∃ i : Nat, E 5 = Val.i i ∧ i ≤ blocks.length, fun E _ => match E 5 with | .int _ i => blocks.length - i.toNat | _ => 0, ⟨st2, .rfl' _, New.refl _, by simp [go_sem, e2], by simp [go_sem, e3], 0, by simp [go_sem], by omega⟩, ?_⟩
  clear e2 e3
  rintro E st3 ⟨hk3, e2, e3, i, e5, hi⟩
  have hta3 := hk3 _ _ hta
  have htz3 := hk3 _ _ htz
  have hN3 := hk1.trans hk3
  by_cases hlt : i < blocks.length
  · have hlt' : ((i : Int) < blocks.length) = True := eq_true (by omega)
    have hwi : IntKind.i64.wrap ((i : Int) + 1) = ((i + 1 : Nat) : Int) := by rw [wrap_id (by omega) (by omega)]; omega
    have hlt2 : i < blocks'.length := by omega
    have hlt2' : ((i : Int) < blocks'.length) = True := eq_true (by omega)
    obtain ⟨mb, off, cap, rw_, zs, mm, g', hv, hs, hget⟩ := rows_get (hbl.new hN3) (by omega)
    injection hv with v1 v2 v3
    subst v1; subst v3
    obtain ⟨hlen, hcell, hc⟩ := hget i hlt
    obtain ⟨mb', off', cap', rw_', zs', mm', g'', hv', hs', hget'⟩ := rows_get (hbl'.new hN3) (by omega)
    injection hv' with v1 v2 v3
    subst v1; subst v3
    obtain ⟨hlen', hcell', hc'⟩ := hget' i hlt2
    have hx : blocks[i]? = some blocks[i] := List.getElem?_eq_getElem hlt
    have hx' : blocks'[i]? = some blocks'[i] := List.getElem?_eq_getElem hlt2
    rw [hbs i _ hx] at hcell
    rw [hbs' i _ hx'] at hcell'
    generalize blocks[i] = x at *
    generalize blocks'[i] = x' at *
    unfold MetaD.cells at hcell hcell'
    simp [go_sem, e2, e3, e5, hta3, htz3, hlt, hlt']
    refine draw [0, 2, 5, 7, 1, 3, 4, 6, 8, 9, 10] (by kernel_rfl) ?_
    simp [go_sem, e2, e3, e5, hta3, htz3, hlt, hlt', hlt2, hlt2', hs, hlen, hcell, hs', hlen', hcell']
    by_cases hq : x = x'
    · have hq' := eq_true hq
      rw [neq_meta (c := false) (by simp [hq])]
      simp [go_sem, e2, e3, e5, hq', hwi]
      exact ⟨_, .rfl' _, ⟨hk3, i + 1, by omega, by omega⟩, by omega⟩
    · have hq' := eq_false hq
      rw [neq_meta (c := true) (by simp [hq])]
      simp [go_sem, e2, e3, e5, hq', hwi]
      refine .no (fun h => hq ?_) hN3
      have := (hPP h).2.2.2.2.1
      rw [this, hx'] at hx
      injection hx with hx
      exact hx.symm
  · have hlt' : ((i : Int) < blocks.length) = False := eq_false (by omega)
    simp [go_sem, e2, e3, e5, hta3, htz3, hlt, hlt']
    refine ⟨fun E st' => New st2 st' ∧ E 2 = ptr ta ∧ E 3 = ptr tz ∧ ∃ i : Nat, E 6 = Val.i i ∧ i ≤ tombs.length, fun E _ => match E 6 with | .int _ i => tombs.length - i.toNat | _ => 0, ⟨st3, .rfl' _, hk3, by simp [go_sem, e2], by simp [go_sem, e3], 0, by simp [go_sem], by omega⟩, ?_⟩
    clear e2 e3 e5 hta3 htz3 hN3 hk3 hlt hlt' hi
    rintro E st5 ⟨hk5, e2, e3, j, e6, hj⟩
    have hta5 := hk5 _ _ hta
    have htz5 := hk5 _ _ htz
    have hN5 := hk1.trans hk5
    by_cases hlt : j < tombs.length
    · have hlt' : ((j : Int) < tombs.length) = True := eq_true (by omega)
      have hlt2 : j < tombs'.length := by omega
      have hlt2' : ((j : Int) < tombs'.length) = True := eq_true (by omega)
      have hwj : IntKind.i64.wrap ((j : Int) + 1) = ((j + 1 : Nat) : Int) := by rw [wrap_id (by omega) (by omega)]; omega
      obtain ⟨mb, off, cap, rw_, zs, mm, g', hv, hs, hget⟩ := rows_get (ht.new hN5) (by omega)
      injection hv with v1 v2 v3
      subst v1; subst v3
      obtain ⟨hlen, hcell, hc⟩ := hget j hlt
      obtain ⟨mb', off', cap', rw_', zs', mm', g'', hv', hs', hget'⟩ := rows_get (ht'.new hN5) (by omega)
      injection hv' with v1 v2 v3
      subst v1; subst v3
      obtain ⟨hlen', hcell', hc'⟩ := hget' j hlt2
      have hx : tombs[j]? = some tombs[j] := List.getElem?_eq_getElem hlt
      have hx' : tombs'[j]? = some tombs'[j] := List.getElem?_eq_getElem hlt2
      have hnj := hn _ (List.getElem_mem hlt)
      obtain ⟨ms, hms, hcs⟩ := hts j _ hx
      obtain ⟨ms', hms', hcs'⟩ := hts' j _ hx'
      rw [hcs] at hcell
      rw [hcs'] at hcell'
      generalize tombs[j] = x at *
      generalize tombs'[j] = x' at *
      obtain ⟨op, name, value, vb, vl, vc, kb, kl, kc, rfl⟩ := mat_cells hms
      obtain ⟨op', name', value', vb', vl', vc', kb', kl', kc', rfl⟩ := mat_cells hms'
      simp only [List.cons_append, List.nil_append] at hcell hcell'
      simp [go_sem, e2, e3, e6, hta5, htz5, hlt, hlt', hs, hlen, hcell]
      unfold NewP
      intro tx htx
      refine ⟨.ty 0, ?_⟩
      have HN := (New.refl st5).add (b := tx) (o := .cells true [Val.i x.seq, Val.i op, .string name, .string value, .slice vb vl vc, .slice kb kl kc, Val.i x.fro, Val.i x.to] 8 (.ty 0)) htx
      have htx6 := upd_same st5 tx (.cells true [Val.i x.seq, Val.i op, .string name, .string value, .slice vb vl vc, .slice kb kl kc, Val.i x.fro, Val.i x.to] 8 (.ty 0))
      have htz6 := HN _ _ htz5
      have hta6 := HN _ _ hta5
      have hs6' := HN _ _ hs'
      simp [go_sem, e2, e3, e6]
      generalize upd st5 tx (.cells true [Val.i x.seq, Val.i op, .string name, .string value, .slice vb vl vc, .slice kb kl kc, Val.i x.fro, Val.i x.to] 8 (.ty 0)) = st6 at *
      simp [go_sem, e2, e3, e6, htz6, hta6, htx6, hlt2, hlt2', hs6', hlen', hcell']
      unfold NewP
      intro ty hty
      refine ⟨.ty 0, ?_⟩
      have HN7 := (New.refl st6).add (b := ty) (o := .cells true [Val.i x'.seq, Val.i op', .string name', .string value', .slice vb' vl' vc', .slice kb' kl' kc', Val.i x'.fro, Val.i x'.to] 8 (.ty 0)) hty
      have hty7 := upd_same st6 ty (.cells true [Val.i x'.seq, Val.i op', .string name', .string value', .slice vb' vl' vc', .slice kb' kl' kc', Val.i x'.fro, Val.i x'.to] 8 (.ty 0))
      have htx7 := HN7 _ _ htx6
      have hk7 := hk5.trans (HN.trans HN7)
      have hN7 := hN5.trans (HN.trans HN7)
      simp [go_sem, e2, e3, e6]
      generalize upd st6 ty (.cells true [Val.i x'.seq, Val.i op', .string name', .string value', .slice vb' vl' vc', .slice kb' kl' kc', Val.i x'.fro, Val.i x'.to] 8 (.ty 0)) = st7 at *
      have hno : x ≠ x' → ¬ PP := by
        intro hne hp
        have := (hPP hp).2.2.2.2.2
        rw [this, hx'] at hx
        injection hx with hx
        exact hne hx.symm
      by_cases c1 : x.seq = x'.seq
      rotate_left
      · have c1' := eq_false c1
        simp [go_sem, e2, e3, e6, htx7, hty7, c1']
        exact .no (hno (by rintro rfl; exact c1 rfl)) hN7
      by_cases c2 : x.fro = x'.fro
      rotate_left
      · have c2' := eq_false c2
        simp [go_sem, e2, e3, e6, htx7, hty7, c1, c2']
        exact .no (hno (by rintro rfl; exact c2 rfl)) hN7
      by_cases c3 : x.to = x'.to
      rotate_left
      · have c3' := eq_false c3
        simp [go_sem, e2, e3, e6, htx7, hty7, c1, c2, c3']
        exact .no (hno (by rintro rfl; exact c3 rfl)) hN7
      simp [go_sem, e2, e3, e6, htx7, hty7, c1, c2, c3]
      refine (matSame_spec 12 hnj (hms.new hN7) (hms'.new hN7)).mono ?_
      rintro e st8 ⟨r, rfl, hr, hk8⟩
      cases r with
      | true =>
        simp [go_sem, e2, e3, e6, hwj]
        exact ⟨_, .rfl' _, ⟨hk7.trans hk8, j + 1, by omega, by omega⟩, by omega⟩
      | false =>
        simp [go_sem, e2, e3, e6, hwj]
        refine .no (hno ?_) (hN7.trans hk8)
        rintro rfl
        have := hr rfl
        cases this
    · have hlt' : ((j : Int) < tombs.length) = False := eq_false (by omega)
      simp [go_sem, e2, e3, e6, hta5, htz5, hlt, hlt']
      exact ⟨true, rfl, fun _ => rfl, hN5⟩
end
end Go.Proofs.YtgppogppdmbgmaaGreat
