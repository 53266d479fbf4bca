/- Manifests read: the body, the frame; the walks. -/
import Derived.Test.YtgppogppdmbgmaaGreatC34
set_option linter.unusedVariables false
set_option linter.unusedSimpArgs false
set_option maxRecDepth 100000
set_option maxHeartbeats 8000000
namespace Go.Proofs.YtgppogppdmbgmaaGreat
open Go.RowKit (Below)
def metaL (l : List Int) : MetaD := ⟨l.getD 0 0, l.getD 1 0, l.getD 2 0, l.getD 3 0, l.getD 4 0, l.getD 5 0, l.getD 6 0⟩
def metasM1 (b : Bs) : Nat → Int → Option (List MetaD × Int)
  | 0, a => some ([], a)
  | k + 1, a => (intsM b 7 a).bind fun p => (metasM1 b k p.2).map fun r => (metaL p.1 :: r.1, r.2)
def readManM (b : Bs) : Option ManD := (intsM b 4 0).bind fun p => (vgetM b p.2).bind fun c => if 900 < c.1 then none else (metasM1 b c.1 c.2).bind fun bl => (tombsGetM b bl.2).bind fun t =>
  if t.2 = b.length then some ⟨p.1.getD 0 0, p.1.getD 1 0, p.1.getD 2 0, p.1.getD 3 0, bl.1, t.1⟩ else none
theorem Reg.row {st : Heap} {b n : Nat} {rw_ : Bool} {xs : List Value} {g : Tg} (h : st b = some (.cells rw_ xs n g)) (hl : xs.length ≤ n) : Reg st g 1 (.slice (some ⟨b, 0, none⟩) xs.length xs.length) xs xs.length :=
  ⟨by simp, _, _, rfl, Nat.le_refl _, .inr ⟨b, 0, rw_, xs, n, rfl, h, by simp, by simp⟩⟩
theorem MetasAt.append {ys cs : List Value} {l : List MetaD} {x : MetaD} (hl : ys.length = l.length * 7) (h : MetasAt ys l) (hc : cs = x.cells) : MetasAt (ys ++ cs) (l ++ [x]) := by
  intro i y hi
  by_cases hlt : i < l.length
  · rw [List.getElem?_append_left hlt] at hi
    have := h i y hi
    rwa [List.drop_append_of_le_length (by omega), List.take_append_of_le_length (by rw [List.length_drop]; omega)]
  · rw [List.getElem?_append_right (by omega)] at hi
    have h0 : i - l.length = 0 := by
      rcases Nat.eq_zero_or_pos (i - l.length) with h | h
      · exact h
      · rw [List.getElem?_eq_none (by simp; omega)] at hi; cases hi
    rw [h0] at hi
    injection hi with hi
    subst hi
    have hi' : i = l.length := by omega
    subst hi'
    rw [← hl, List.drop_left, hc, List.take_of_length_le (by simp [MetaD.cells])]
def ReadManR (st : Heap) (R : Option ManD) (e : Ending) (st' : Heap) : Prop := New st st' ∧ match R with
  | some m => ∃ bv tv bs ts, e = .returned (.tuple #[.agg #[Val.i m.seq, Val.i m.log, Val.i m.next, Val.i m.now, bv, tv], .bool true]) ∧ Vec st' (.ty 1) 7 bv bs m.blocks.length ∧ Fresh st bv ∧ MetasAt bs m.blocks ∧ RegF st' 8 tv ts m.tombs.length ∧ TombsAt st' ts m.tombs
  | none => ∃ x0 x1 x2 x3 x4 x5, e = .returned (.tuple #[.agg #[x0, x1, x2, x3, x4, x5], .bool false]) ∧ x0.oneCell' = true ∧ x1.oneCell' = true ∧ x2.oneCell' = true ∧ x3.oneCell' = true ∧ x4.oneCell' = true ∧ x5.oneCell' = true
section
variable {W0 : World} {st : Heap}
theorem readMan_spec {bv : Value} {b : Bs} {g0 : Tg} (hb : Reg st g0 1 bv (bytesV b) b.length) (hl : b.length < 2 ^ 60) (hg : Free g0) :
    ICalls Tryz.prog W0 189 #[bv] st (ReadManR st (readManM b)) := by
  obtain ⟨bb, bc, rfl⟩ := hb.slice
  generalize hRES : readManM b = RES
  unfold readManM at hRES
  refine enter (args := [_]) Tryz.func189 rfl ?_
  simp [Tryz.f189, go_sem]
  unfold NewP
  intro to hto
  refine ⟨.own to 0 88, ?_⟩
  simp [go_sem]
  unfold NewP
  intro tm htm
  refine ⟨.own tm 0 89, ?_⟩
  have hne : to ≠ tm := by
    rintro rfl
    rw [upd_same] at htm
    cases htm
  have hne' := Ne.symm hne
  simp [go_sem, hne, hne']
  unfold NewS
  intro nb hnb
  refine ⟨.ty 0, ?_⟩
  simp [go_sem]
  have htmn : st tm = none := ((New.refl _).add hto).none htm
  generalize hst2 : upd (upd st to _) tm _ = st2 at hnb ⊢
  have hN2 : New st st2 := by rw [← hst2]; exact ((New.refl _).add hto).add htm
  have hto2 : st2 to = some (.cells true [Val.i 0, Val.i 0, Val.i 0, Val.i 0, .slice none 0 0, .slice none 0 0] 6 (.own to 0 88)) := by rw [← hst2, upd_ne _ _ hne, upd_same]
  have htm2 : st2 tm = some (.cells true [Val.i 0, Val.i 0, Val.i 0, Val.i 0, .slice none 0 0, .slice none 0 0] 6 (.own tm 0 89)) := by rw [← hst2, upd_same]
  have hrow := Reg.row (upd_same st2 nb (.cells true [.pointer (some ⟨tm, 0, none⟩), .pointer (some ⟨tm, 1, none⟩), .pointer (some ⟨tm, 2, none⟩), .pointer (some ⟨tm, 3, none⟩)] 4 (.ty 0))) (by simp)
  generalize hst3 : upd st2 nb _ = st3 at hrow ⊢
  have hN23 : New st2 st3 := by rw [← hst3]; exact (New.refl _).add hnb
  have hN3 := hN2.trans hN23
  have hto3 := hN23 _ _ hto2
  have htm3 := hN23 _ _ htm2
  refine (ints_spec (k := 4) (tm := tm) (gl := .ty 0) (hb.new hN3) hl (by simpa [List.range_succ] using hrow) (by omega) htm3 (by simp) (by omega) (hg _ _ _) (by simp)).mono ?_
  rintro e st4 ⟨hk4, hR⟩
  have hto4 := hk4 _ _ hne hto3
  have hN4 : New st st4 := fun k o ho => hk4 k o (ne_of_new ho htmn) (hN3 k o ho)
  clear hrow hst3 hst2
  cases hi4 : intsM b 4 0 with
  | none =>
    rw [hi4] at hR hRES
    simp at hRES
    subst hRES
    obtain ⟨rfl, xs', hxl, hxc, htm4⟩ := hR
    have hall : ∀ y ∈ xs', y.oneCell' = true := by
      intro y hy
      rcases hxc y hy with h | h
      · simp at h
        rcases h with rfl | rfl <;> rfl
      · exact h
    clear hxc
    match xs', hxl with
    | [x0, x1, x2, x3, x4, x5], _ =>
    simp only [List.mem_cons, List.not_mem_nil, or_false, forall_eq_or_imp, forall_eq] at hall
    obtain ⟨c0, c1, c2, c3, c4, c5⟩ := hall
    have cc := And.intro c0 (And.intro c1 (And.intro c2 (And.intro c3 (And.intro c4 c5))))
    unfold Value.oneCell' at c0 c1 c2 c3 c4 c5
    simp [go_sem, htm4, hto4, hne, hne', c0, c1, c2, c3, c4, c5]
    refine RetI_cell_tmp ?_
    simp [go_sem]
    exact ⟨hN4.put hto, x0, x1, x2, x3, x4, x5, rfl, cc⟩
  | some p =>
  obtain ⟨vs, a4⟩ := p
  have hvl := intsM_length hi4
  rw [hi4] at hR hRES
  obtain ⟨v0, v1, v2, v3, rfl⟩ : ∃ v0 v1 v2 v3, vs = [v0, v1, v2, v3] := by
    match vs, hvl with
    | [x, y, z, w], _ => exact ⟨x, y, z, w, rfl⟩
  obtain ⟨rfl, htm4⟩ := hR
  simp only [List.map_cons, List.map_nil, List.cons_append, List.nil_append, List.drop_succ_cons, List.drop_zero] at htm4
  simp only [Option.bind_some] at hRES
  simp [go_sem]
  refine (vGet_spec (hb.new hN4) hl).mono ?_
  rintro e st5 ⟨rfl, rfl⟩
  have fail : ∀ {lv tv : Value} {st' : Heap}, New st st' → st' tm = some (.cells true [Val.i v0, Val.i v1, Val.i v2, Val.i v3, lv, tv] 6 (.own tm 0 89)) → st' to = some (.cells true [Val.i 0, Val.i 0, Val.i 0, Val.i 0, .slice none 0 0, .slice none 0 0] 6 (.own to 0 88)) → lv.oneCell' = true → tv.oneCell' = true →
      ReadManR st none (.returned (.tuple #[.agg #[Val.i v0, Val.i v1, Val.i v2, Val.i v3, lv, tv], .bool false])) (upd st' to (.cells true [Val.i v0, Val.i v1, Val.i v2, Val.i v3, lv, tv] 6 (.own to 0 88))) :=
    fun h1 _ _ h2 h3 => ⟨h1.put hto, _, _, _, _, _, _, rfl, rfl, rfl, rfl, rfl, h2, h3⟩
  cases hv : vgetM b a4 with
  | none =>
    rw [hv] at hRES
    simp at hRES
    subst hRES
    simp [go_sem, vgetV, htm4, hto4, hne, hne']
    refine RetI_cell_tmp ?_
    simp [go_sem]
    exact fail hN4 htm4 hto4 rfl rfl
  | some p =>
  obtain ⟨n, a5⟩ := p
  rw [hv] at hRES
  simp only [Option.bind_some] at hRES
  by_cases hn : 900 < n
  · have hn' : ((900 : Int) < n) = True := eq_true (by omega)
    rw [if_pos hn] at hRES
    subst hRES
    simp [go_sem, vgetV, hn', htm4, hto4, hne, hne']
    refine RetI_cell_tmp ?_
    simp [go_sem]
    exact fail hN4 htm4 hto4 rfl rfl
  have hn' : ((900 : Int) < n) = False := eq_false (by omega)
  rw [if_neg hn] at hRES
  obtain ⟨K, hK⟩ : ∃ K : List MetaD × Int → Option ManD, K = fun bl => (tombsGetM b bl.2).bind fun t => if t.2 = b.length then some ⟨[v0, v1, v2, v3].getD 0 0, [v0, v1, v2, v3].getD 1 0, [v0, v1, v2, v3].getD 2 0, [v0, v1, v2, v3].getD 3 0, bl.1, t.1⟩ else none := ⟨_, rfl⟩
  have hRES' : (metasM1 b n a5).bind K = RES := by rw [hK]; exact hRES
  simp [go_sem, vgetV, hn']
  refine ⟨fun E st' => New st st' ∧ E 0 = .slice bb b.length bc ∧ E 2 = ptr to ∧ E 4 = ptr tm ∧ E 37 = Val.u n ∧ st' to = some (.cells true [Val.i 0, Val.i 0, Val.i 0, Val.i 0, .slice none 0 0, .slice none 0 0] 6 (.own to 0 88)) ∧ ∃ (i : Nat) (l : List MetaD) (lv : Value) (bs : List Value) (a : Int), E 38 = Val.u i ∧ i ≤ n ∧ l.length = i ∧ E 5 = Val.i a ∧ st' tm = some (.cells true [Val.i v0, Val.i v1, Val.i v2, Val.i v3, lv, .slice none 0 0] 6 (.own tm 0 89)) ∧ Vec st' (.ty 1) 7 lv bs i ∧ Fresh st lv ∧ MetasAt bs l ∧ ((metasM1 b (n - i) a).map (fun r => (l ++ r.1, r.2))).bind K = RES,
    fun E _ => match E 38 with | .int _ i => n - i.toNat | _ => 0, ⟨st5, .rfl' _, hN4, by simp [go_sem], by simp [go_sem], by simp [go_sem], by simp [go_sem], hto4, 0, [], .slice none 0 0, [], a5, by simp [go_sem], by omega, rfl, by simp [go_sem], htm4, Vec.nil, Fresh.none, by intro i x hi; simp at hi, by rw [← hRES']; cases h : metasM1 b n a5 <;> simp [h]⟩, ?_⟩
  clear hto4 htm4 hto3 htm3 hto2 htm2
  rintro E st6 ⟨hk6, e0, e2, e4, e37, hto6, i, l, lv, bs, a, e38, hi, hll, e5, htm6, hV, hF, hM, hrec⟩
  by_cases hlt : i < n
  rotate_left
  · have hlt' : ((i : Int) < n) = False := eq_false (by omega)
    have : i = n := by omega
    subst this
    simp [metasM1] at hrec
    simp [go_sem, e0, e2, e4, e5, e37, e38, hlt']
    obtain ⟨lb, lc, rfl⟩ := hV.reg.slice
    refine (tombGet_spec (hb.new hk6) hl hg).mono ?_
    rintro e st7 ⟨hk7, hR⟩
    have htm7 := hk7 _ _ htm6
    have hto7 := hk7 _ _ hto6
    have hN7 := hk6.trans hk7
    have hV7 := hV.new' hk7
    subst hK
    simp only at hrec
    cases htg : tombsGetM b a with
    | none =>
      rw [htg] at hR hrec
      simp at hrec
      subst hrec
      simp only at hR
      subst hR
      simp [go_sem, e0, e2, e4, htm7, hto7, hne, hne']
      refine RetI_cell_tmp ?_
      simp [go_sem, e2]
      exact fail (lv := .slice lb i lc) (tv := .slice none 0 0) (hN7.put htmn (o := .cells true [Val.i v0, Val.i v1, Val.i v2, Val.i v3, .slice lb i lc, .slice none 0 0] 6 (.own tm 0 89))) (upd_same _ _ _) (by rw [upd_ne _ _ hne]; exact hto7) rfl rfl
    | some p =>
      obtain ⟨ltm, a8⟩ := p
      rw [htg] at hR hrec
      simp only [Option.bind_some] at hrec
      obtain ⟨tv, ts, rfl, htr, hts⟩ := hR
      obtain ⟨tb, tc, rfl⟩ := htr.slice
      by_cases hend : a8 = b.length
      · have hend' := eq_true hend
        rw [if_pos hend] at hrec
        subst hrec
        simp [go_sem, e0, e2, e4, htm7, hto7, hne, hne', hend']
        refine RetI_cell_tmp ?_
        simp [go_sem, e2]
        have hB := But1.put (o := .cells true [Val.i v0, Val.i v1, Val.i v2, Val.i v3, .slice lb i lc, .slice tb ltm.length tc] 6 (.own tm 0 89)) (But1.refl tm st7)
        have hto8 := hB _ _ hne hto7
        have hB2 := But1.put (o := .cells true [Val.i v0, Val.i v1, Val.i v2, Val.i v3, .slice lb i lc, .slice tb ltm.length tc] 6 (.own to 0 88)) (But1.refl to (upd st7 tm (.cells true [Val.i v0, Val.i v1, Val.i v2, Val.i v3, .slice lb i lc, .slice tb ltm.length tc] 6 (.own tm 0 89))))
        refine ⟨(hN7.put htmn).put hto, .slice lb i lc, .slice tb ltm.length tc, bs, ts, rfl, ?_, hF, hM, (htr.but hB htm7).but hB2 hto8, fun j y hj => (hts j y hj).mono fun _ _ _ _ hx => (hx.but hB htm7).but hB2 hto8⟩
        rw [hll]
        exact (hV7.but hB htm7).but hB2 hto8
      · have hend' := eq_false hend
        rw [if_neg hend] at hrec
        subst hrec
        simp [go_sem, e0, e2, e4, htm7, hto7, hne, hne', hend']
        refine RetI_cell_tmp ?_
        simp [go_sem, e2]
        exact fail (lv := .slice lb i lc) (tv := .slice tb ltm.length tc) (hN7.put htmn (o := .cells true [Val.i v0, Val.i v1, Val.i v2, Val.i v3, .slice lb i lc, .slice tb ltm.length tc] 6 (.own tm 0 89))) (upd_same _ _ _) (by rw [upd_ne _ _ hne]; exact hto7) rfl rfl
  have hlt' : ((i : Int) < n) = True := eq_true (by omega)
  have hwi : IntKind.u64.wrap ((i : Int) + 1) = ((i + 1 : Nat) : Int) := by rw [wraps_u64 _ (by omega) (by omega)]; omega
  obtain ⟨q, hq⟩ : ∃ q, n - i = q + 1 := ⟨n - i - 1, by omega⟩
  rw [hq] at hrec
  unfold metasM1 at hrec
  simp [go_sem, e0, e2, e4, e5, e37, e38, hlt, hlt']
  unfold NewP
  intro t8 ht8
  refine ⟨.own t8 0 90, ?_⟩
  simp [go_sem, e0, e2, e4, e5, e37, e38]
  unfold NewS
  intro nb2 hnb2
  refine ⟨.ty 0, ?_⟩
  simp [go_sem]
  have htm_n8 : tm ≠ t8 := ne_of_new htm6 ht8
  have hto_n8 : to ≠ t8 := ne_of_new hto6 ht8
  generalize hst7 : upd st6 t8 _ = st7 at hnb2 ⊢
  have hN67 : New st6 st7 := by rw [← hst7]; exact (New.refl _).add ht8
  have ht87 : st7 t8 = some (.cells true [Val.i 0, Val.i 0, Val.i 0, Val.i 0, Val.i 0, Val.i 0, Val.i 0] 7 (.own t8 0 90)) := by rw [← hst7, upd_same]
  have hrow := Reg.row (upd_same st7 nb2 (.cells true [.pointer (some ⟨t8, 0, none⟩), .pointer (some ⟨t8, 1, none⟩), .pointer (some ⟨t8, 2, none⟩), .pointer (some ⟨t8, 3, none⟩), .pointer (some ⟨t8, 4, none⟩), .pointer (some ⟨t8, 5, none⟩), .pointer (some ⟨t8, 6, none⟩)] 7 (.ty 0))) (by simp)
  generalize hst8 : upd st7 nb2 _ = st8 at hrow ⊢
  have hN78 : New st7 st8 := by rw [← hst8]; exact (New.refl _).add hnb2
  have hN68 := hN67.trans hN78
  have ht88 := hN78 _ _ ht87
  have hN8 := hk6.trans hN68
  refine (ints_spec (k := 7) (tm := t8) (gl := .ty 0) (hb.new hN8) hl (by simpa [List.range_succ] using hrow) (by omega) ht88 (by simp) (by omega) (hg _ _ _) (by simp)).mono ?_
  rintro e st9 ⟨hk9, hR⟩
  have htm9 := hk9 _ _ htm_n8 (hN68 _ _ htm6)
  have hto9 := hk9 _ _ hto_n8 (hN68 _ _ hto6)
  have ht8n : st t8 = none := hk6.none ht8
  have hN69 : New st6 st9 := fun k o ho => hk9 k o (ne_of_new ho ht8) (hN68 k o ho)
  have hN9 := hk6.trans hN69
  obtain ⟨lb, lc, rfl⟩ := hV.reg.slice
  cases hi7 : intsM b 7 a with
  | none =>
    rw [hi7] at hR hrec
    simp at hrec
    subst hrec
    obtain ⟨rfl, xs', hxl, hxc, ht89⟩ := hR
    simp [go_sem, e0, e2, e4, htm9, hto9, hne, hne']
    refine RetI_cell_tmp ?_
    simp [go_sem, e2]
    exact fail hN9 htm9 hto9 rfl rfl
  | some p =>
    obtain ⟨vs, a10⟩ := p
    have hvl := intsM_length hi7
    rw [hi7] at hR hrec
    obtain ⟨rfl, ht89⟩ := hR
    obtain ⟨x0, x1, x2, x3, x4, x5, x6, rfl⟩ : ∃ x0 x1 x2 x3 x4 x5 x6, vs = [x0, x1, x2, x3, x4, x5, x6] := by
      match vs, hvl with
      | [x0, x1, x2, x3, x4, x5, x6], _ => exact ⟨_, _, _, _, _, _, _, rfl⟩
    simp only [List.map_cons, List.map_nil, List.cons_append, List.nil_append, List.drop_succ_cons, List.drop_zero, List.drop_nil] at ht89
    simp only [Option.bind_some] at hrec
    simp [go_sem, e0, e2, e4, e37, e38, htm9, ht89]
    unfold NewS
    intro nb3 hnb3
    refine ⟨.own nb3 0 91, ?_⟩
    simp [go_sem]
    have hN910 := (New.refl st9).add (b := nb3) (o := .cells true [Val.i x0, Val.i x1, Val.i x2, Val.i x3, Val.i x4, Val.i x5, Val.i x6] 7 (.own nb3 0 91)) hnb3
    refine AppI_new (st0 := st) (g := .ty 1) (m := 1) (ys := [Val.i x0, Val.i x1, Val.i x2, Val.i x3, Val.i x4, Val.i x5, Val.i x6]) si78 ((hV.new' hN69).new' hN910) hF (hN9.trans hN910) ?_ ?_ (by omega) ?_
    · simp [srcCells, lkN_mk, upd_same, cellsOf]
    · intro y hy
      simp at hy
      rcases hy with rfl | rfl | rfl | rfl | rfl | rfl | rfl <;> rfl
    intro base cap st11 hV11 hF11 hN11 hE11
    have htm11 := hE11.keep _ _ (hN910 _ _ htm9) (by simp [HObj.tag])
    have hto11 := hE11.keep _ _ (hN910 _ _ hto9) (by simp [HObj.tag])
    simp [go_sem, e0, e2, e4, e37, e38, htm11, hwi]
    have hB := But1.put (o := .cells true [Val.i v0, Val.i v1, Val.i v2, Val.i v3, .slice base (i + 1) cap, .slice none 0 0] 6 (.own tm 0 89)) (But1.refl tm st11)
    refine ⟨_, .rfl' _, ⟨hN11.put htmn, by rw [upd_ne _ _ hne]; exact hto11, i + 1, by omega, by omega, l ++ [metaL [x0, x1, x2, x3, x4, x5, x6]], by simp [hll], _, upd_same _ _ _, _, hV11.but hB htm11, hF11, MetasAt.append (by rw [hV.1]; omega) hM rfl, ?_⟩, by omega⟩
    rw [← hrec, show n - (i + 1) = q by omega]
    cases hh : metasM1 b q a10 <;> simp [hh]
end
end Go.Proofs.YtgppogppdmbgmaaGreat
set_option linter.unusedVariables false
set_option linter.unusedSimpArgs false
set_option maxRecDepth 100000
set_option maxHeartbeats 8000000
namespace Go.Proofs.YtgppogppdmbgmaaGreat
open Go.RowKit (Below)
def decodeM (b : Bs) : Option ManD :=
  match frameGetM b 0 with
  | .error _ => none
  | .ok (body, end_) => if end_ = b.length then (readManM body).bind fun m => if manM m = true ∧ frameM (bodyM m) = b then some m else none else none
theorem intsM_bound {b : Bs} : ∀ {k : Nat} {a : Int} {l : List Int} {a' : Int}, intsM b k a = some (l, a') → ∀ v ∈ l, -2 ^ 63 ≤ v ∧ v < 2 ^ 63
  | 0, a, l, a', h => by unfold intsM at h; injection h with h; injection h with h1 h2; subst h1; simp
  | k + 1, a, l, a', h => by
    unfold intsM at h
    obtain ⟨p, hp, h⟩ := Option.bind_eq_some_iff.1 h
    obtain ⟨q, hq, h⟩ := Option.map_eq_some_iff.1 h
    injection h with h1 h2
    subst h1
    have ih := intsM_bound (l := q.1) (a' := q.2) hq
    unfold vgetIntM at hp
    obtain ⟨r, hr, rfl⟩ := Option.map_eq_some_iff.1 hp
    have hb : r.1 < 2 ^ 64 := by
      unfold vgetM at hr
      split at hr
      · cases hr
      · exact (vgetL_bound (by omega) (by simp) hr).1
    intro v hv
    rcases List.mem_cons.1 hv with rfl | hv
    · simp only
      unfold unzz
      split <;> omega
    · exact ih v hv
theorem metasM1_fits {b : Bs} : ∀ {k : Nat} {a : Int} {l : List MetaD} {a' : Int}, metasM1 b k a = some (l, a') → ∀ x ∈ l, x.rows < 2 ^ 63
  | 0, a, l, a', h => by unfold metasM1 at h; injection h with h; injection h with h1 h2; subst h1; simp
  | k + 1, a, l, a', h => by
    unfold metasM1 at h
    obtain ⟨p, hp, h⟩ := Option.bind_eq_some_iff.1 h
    obtain ⟨q, hq, h⟩ := Option.map_eq_some_iff.1 h
    injection h with h1 h2
    subst h1
    have ih := metasM1_fits (l := q.1) (a' := q.2) hq
    have hl := intsM_length (l := p.1) (a' := p.2) hp
    have hb := intsM_bound (l := p.1) (a' := p.2) hp
    intro x hx
    rcases List.mem_cons.1 hx with rfl | hx
    · have : p.1[6]? = some p.1[6] := List.getElem?_eq_getElem (by omega)
      simp only [metaL, List.getD_eq_getElem?_getD, this, Option.getD_some]
      exact (hb _ (List.getElem_mem _)).2
    · exact ih x hx
theorem readMan_fits {b : Bs} {m : ManD} (h : readManM b = some m) : ManFits m := by
  unfold readManM at h
  obtain ⟨p, hp, h⟩ := Option.bind_eq_some_iff.1 h
  obtain ⟨c, hc, h⟩ := Option.bind_eq_some_iff.1 h
  split at h
  · cases h
  obtain ⟨bl, hbl, h⟩ := Option.bind_eq_some_iff.1 h
  obtain ⟨t, ht, h⟩ := Option.bind_eq_some_iff.1 h
  split at h
  · injection h with h
    subst h
    exact metasM1_fits (l := bl.1) (a' := bl.2) hbl
  · cases h
theorem frameGetM_err {b : Bs} {a k : Int} (h : frameGetM b a = .error k) : k ≠ 0 := by
  unfold frameGetM at h
  split at h
  · injection h with h; omega
  split at h
  · injection h with h; omega
  split at h
  · injection h with h; omega
  split at h
  · injection h with h; omega
  split at h
  · injection h with h; omega
  · cases h
theorem frameGetM_len {b body : Bs} {a : Int} {e : Nat} (h : frameGetM b a = .ok (body, e)) : body.length ≤ 1048576 := by
  unfold frameGetM at h
  split at h
  · cases h
  split at h
  · cases h
  split at h
  · cases h
  split at h
  · cases h
  split at h
  · cases h
  · injection h with h
    injection h with h1 h2
    subst h1
    rw [List.length_take]
    omega
section
variable {W0 : World} {st : Heap}
theorem eqBytes_spec {av bv : Value} {a b : Bs} {g1 g2 : Tg} (ha : Reg st g1 1 av (bytesV a) a.length) (hb : Reg st g2 1 bv (bytesV b) b.length) (hla : a.length < 2 ^ 60) (hlb : b.length < 2 ^ 60) :
    ICalls Tryz.prog W0 190 #[av, bv] st fun e st' => e = .returned (.bool (decide (a = b))) ∧ st' = st := by
  obtain ⟨ab, ac, rfl⟩ := ha.slice
  obtain ⟨bb, bc, rfl⟩ := hb.slice
  refine enter (args := [_, _]) Tryz.func190 rfl ?_
  by_cases hl : a.length = b.length
  rotate_left
  · have hl' : ((a.length : Int) = b.length) = False := eq_false (by omega)
    have hne : a ≠ b := by rintro rfl; exact hl rfl
    simp [Tryz.f190, go_sem, hl', hl, hne]
  have hl' : ((a.length : Int) = b.length) = True := eq_true (by omega)
  simp [Tryz.f190, go_sem, hl', hl]
  refine ⟨fun E st' => st' = st ∧ E 0 = .slice ab a.length ac ∧ E 1 = .slice bb b.length bc ∧ E 12 = Val.i b.length ∧ ∃ i : Nat, E 13 = Val.i i ∧ i ≤ a.length ∧ a.take i = b.take i,
    fun E _ => match E 13 with | .int _ i => a.length - i.toNat | _ => 0, ⟨st, .rfl' _, rfl, by simp [go_sem, hl], by simp [go_sem], by simp [go_sem], 0, by simp [go_sem], by omega, by simp⟩, ?_⟩
  rintro E st' ⟨rfl, e0, e1, e12, i, e13, hi, heq⟩
  by_cases hlt : i < b.length
  · have hlt' : ((i : Int) < b.length) = True := eq_true (by omega)
    have hlta : i < a.length := by omega
    have hlta' : ((i : Int) < a.length) = True := eq_true (by omega)
    have hwi : IntKind.i64.wrap ((i : Int) + 1) = ((i + 1 : Nat) : Int) := by rw [wrap_id (by omega) (by omega)]; omega
    obtain ⟨blk, off, rfl, hg⟩ := src_get ha.src (by omega)
    obtain ⟨blk', off', rfl, hg'⟩ := src_get hb.src (by omega)
    have hgi := hg i (by omega)
    have hgi' := hg' i (by omega)
    have hai : a[i]? = some a[i] := List.getElem?_eq_getElem hlta
    have hbi : b[i]? = some b[i] := List.getElem?_eq_getElem hlt
    have hva : (bytesV a)[i]? = some (.int .u8 a[i].toNat) := by simp [bytesV, hai]
    have hvb : (bytesV b)[i]? = some (.int .u8 b[i].toNat) := by simp [bytesV, hbi]
    rw [hva] at hgi
    rw [hvb] at hgi'
    have hta : a.take (i + 1) = a.take i ++ [a[i]] := by rw [List.take_add_one, hai]; rfl
    have htb : b.take (i + 1) = b.take i ++ [b[i]] := by rw [List.take_add_one, hbi]; rfl
    simp [go_sem, e0, e1, e12, e13, hlt, hlt']
    refine draw [0, 1, 2, 4, 5, 6, 3, 7, 8] (by kernel_rfl) ?_
    by_cases hx : a[i] = b[i]
    · have hx' : ((a[i].toNat : Int) = b[i].toNat) = True := eq_true (by rw [hx])
      simp [go_sem, e0, e1, e12, e13, hlt, hlt', hlta, hlta', hgi, hgi', hx', hwi]
      exact ⟨st', .rfl' _, ⟨rfl, i + 1, by omega, by omega, by rw [hta, htb, heq, hx]⟩, by omega⟩
    · have hx' : ((a[i].toNat : Int) = b[i].toNat) = False := eq_false (by intro h; exact hx (UInt8.toNat_inj.1 (by omega)))
      have hne : a ≠ b := by
        intro h
        apply hx
        subst h
        rfl
      simp [go_sem, e0, e1, e12, e13, hlt, hlt', hlta, hlta', hgi, hgi', hx', hwi, hne]
  · have hlt' : ((i : Int) < b.length) = False := eq_false (by omega)
    have : i = b.length := by omega
    subst this
    rw [List.take_length, ← hl, List.take_length] at heq
    simp [go_sem, e0, e1, e12, e13, hlt', heq]
def DecR (st : Heap) (R : Option ManD) (e : Ending) (st' : Heap) : Prop := New st st' ∧ match R with
  | some m => ∃ bv tv bs ts, e = .returned (.tuple #[.agg #[Val.i m.seq, Val.i m.log, Val.i m.next, Val.i m.now, bv, tv], Val.i 0]) ∧ Vec st' (.ty 1) 7 bv bs m.blocks.length ∧ Fresh st bv ∧ MetasAt bs m.blocks ∧ RegF st' 8 tv ts m.tombs.length ∧ TombsAt st' ts m.tombs
  | none => e = .returned (.tuple #[.agg #[Val.i 0, Val.i 0, Val.i 0, Val.i 0, .slice none 0 0, .slice none 0 0], Val.i 4])
theorem manDecode_spec {bv : Value} {b : Bs} {g0 : Tg} (hb : Reg st g0 1 bv (bytesV b) b.length) (hl : b.length < 2 ^ 40) :
    ICalls Tryz.prog W0 125 #[bv] st (DecR st (decodeM b)) := by
  obtain ⟨bb, bc, rfl⟩ := hb.slice
  generalize hRES : decodeM b = RES
  unfold decodeM at hRES
  refine enter (args := [_]) Tryz.func125 rfl ?_
  simp [Tryz.f125, go_sem]
  unfold NewP
  intro to hto
  refine ⟨.own to 0 92, ?_⟩
  simp [go_sem]
  have hto1 := upd_same st to (.cells true [Val.i 0, Val.i 0, Val.i 0, Val.i 0, .slice none 0 0, .slice none 0 0] 6 (.own to 0 92))
  generalize hst1 : upd st to _ = st1 at hto1 ⊢
  have hN1 : New st st1 := by rw [← hst1]; exact (New.refl _).add hto
  have fail : ∀ {st' : Heap}, New st st' → DecR st none (.returned (.tuple #[.agg #[Val.i 0, Val.i 0, Val.i 0, Val.i 0, .slice none 0 0, .slice none 0 0], Val.i 4])) (upd st' to (.cells true [Val.i 0, Val.i 0, Val.i 0, Val.i 0, .slice none 0 0, .slice none 0 0] 6 (.own to 0 92))) := fun h => ⟨h.put hto, rfl⟩
  refine (frameGet_spec (.ty 0) (at_ := 0) (hb.new hN1) hl).mono ?_
  rintro e st2 ⟨hk2, hR⟩
  have hto2 := hk2 _ _ hto1
  have hN2 := hN1.trans hk2
  cases hf : frameGetM b 0 with
  | error k =>
    rw [hf] at hR hRES
    simp only at hR hRES
    subst hRES
    subst hR
    have hk0 : (k = 0) = False := eq_false (frameGetM_err hf)
    simp [go_sem, hk0, hto2]
    refine RetI_cell_tmp ?_
    simp [go_sem]
    exact fail hN2
  | ok p =>
  obtain ⟨body, end_⟩ := p
  rw [hf] at hR hRES
  simp only at hR hRES
  obtain ⟨v, rfl, hV⟩ := hR
  by_cases hend : end_ = b.length
  rotate_left
  · have hend' : ((end_ : Int) = b.length) = False := eq_false (by omega)
    rw [if_neg hend] at hRES
    subst hRES
    simp [go_sem, hend', hto2]
    refine RetI_cell_tmp ?_
    simp [go_sem]
    exact fail hN2
  have hend' : ((end_ : Int) = b.length) = True := eq_true (by omega)
  rw [if_pos hend] at hRES
  have hbl := frameGetM_len hf
  obtain ⟨vb, vc, rfl⟩ := hV.reg.slice
  simp [go_sem, hend']
  refine (readMan_spec hV.reg (by omega) Free.ty).mono ?_
  rintro e st3 ⟨hk3, hR⟩
  have hto3 := hk3 _ _ hto2
  have hN3 := hN2.trans hk3
  cases hrm : readManM body with
  | none =>
    rw [hrm] at hR hRES
    simp at hRES
    subst hRES
    obtain ⟨x0, x1, x2, x3, x4, x5, rfl, c0, c1, c2, c3, c4, c5⟩ := hR
    unfold Value.oneCell' at c0 c1 c2 c3 c4 c5
    simp [go_sem]
    unfold NewP
    intro t7 ht7
    refine ⟨.ty 0, ?_⟩
    have n7 : to ≠ t7 := ne_of_new hto3 ht7
    have n7' := Ne.symm n7
    simp [go_sem, hto3, n7, n7', c0, c1, c2, c3, c4, c5]
    refine RetI_cell_tmp ?_
    simp [go_sem]
    exact fail (hN3.add ht7)
  | some m =>
  rw [hrm] at hR hRES
  simp only [Option.bind_some] at hRES
  obtain ⟨mbv, mtv, bs, ts, rfl, hmV, hmF, hmM, hmt, hmT⟩ := hR
  obtain ⟨mb, mc, rfl⟩ := hmV.reg.slice
  obtain ⟨tb, tc, rfl⟩ := hmt.slice
  simp [go_sem]
  unfold NewP
  intro t7 ht7
  refine ⟨.ty 0, ?_⟩
  have n7 : to ≠ t7 := ne_of_new hto3 ht7
  have n7' := Ne.symm n7
  simp [go_sem, n7, n7']
  have ht74 := upd_same st3 t7 (.cells true [Val.i m.seq, Val.i m.log, Val.i m.next, Val.i m.now, .slice mb m.blocks.length mc, .slice tb m.tombs.length tc] 6 (.ty 0))
  generalize hst4 : upd st3 t7 _ = st4 at ht74 ⊢
  have hN34 : New st3 st4 := by rw [← hst4]; exact (New.refl _).add ht7
  have hto4 := hN34 _ _ hto3
  have hN4 := hN3.trans hN34
  have hmA : ManAt st4 [Val.i m.seq, Val.i m.log, Val.i m.next, Val.i m.now, .slice mb m.blocks.length mc, .slice tb m.tombs.length tc] m := ⟨_, _, bs, ts, rfl, (hmV.new' hN34).reg.toF Free.ty, hmM, hmt.new hN34, fun i x hx => (hmT i x hx).mono fun _ _ _ _ h => h.new hN34⟩
  refine (manCheck_spec hmA).mono ?_
  rintro e st5 ⟨rfl, hk5⟩
  have hto5 := hk5 _ _ hto4
  have ht75 := hk5 _ _ ht74
  have hN5 := hN4.trans hk5
  cases hmm : manM m with
  | false =>
    rw [if_neg (by rw [hmm]; simp)] at hRES
    subst hRES
    simp [go_sem, hto5, n7, n7']
    refine RetI_cell_tmp ?_
    simp [go_sem]
    exact fail hN5
  | true =>
  simp [go_sem, hto5, ht75, n7, n7']
  refine (manEncode_spec (.ty 0) (hmA.new hk5) (readMan_fits hrm)).mono ?_
  rintro e st6 ⟨hk6, hR⟩
  rw [if_pos hmm] at hR
  obtain ⟨v6, rfl, hV6, hF6⟩ := hR
  have hto6 := hk6 _ _ hto5
  have ht76 := hk6 _ _ ht75
  have hN6 := hN5.trans hk6
  obtain ⟨vb6, vc6, rfl⟩ := hV6.reg.slice
  have hfl : (frameM (bodyM m)).length < 2 ^ 60 := by
    have := (bodyM_len hmm (readMan_fits hrm)).2
    have h2 := vputM_len (bodyM m).length (by omega)
    unfold frameM le4
    simp only [List.length_append, List.length_cons, List.length_nil]
    omega
  simp [go_sem]
  refine (eqBytes_spec hV6.reg (hb.new hN6) hfl (by omega)).mono ?_
  rintro e st7 ⟨rfl, rfl⟩
  by_cases heq : frameM (bodyM m) = b
  · rw [if_pos ⟨hmm, heq⟩] at hRES
    subst hRES
    have heq' := eq_true heq
    simp [go_sem, heq', hto6, ht76, n7, n7']
    refine RetI_cell_tmp ?_
    simp [go_sem]
    have hN37 : New st3 st7 := (hN34.trans hk5).trans hk6
    have hB := But1.put (o := .cells true [Val.i m.seq, Val.i m.log, Val.i m.next, Val.i m.now, .slice mb m.blocks.length mc, .slice tb m.tombs.length tc] 6 (.own to 0 92)) (But1.refl to st7)
    exact ⟨hN6.put hto, _, _, bs, ts, rfl, (hmV.new' hN37).but hB hto6, hmF.old hN2, hmM, (hmt.new hN37).but hB hto6, fun i x hx => (hmT i x hx).mono fun _ _ _ _ h => (h.new hN37).but hB hto6⟩
  · rw [if_neg (by intro h; exact heq h.2)] at hRES
    subst hRES
    have heq' := eq_false heq
    simp [go_sem, heq', hto6, ht76, n7, n7']
    refine RetI_cell_tmp ?_
    simp [go_sem]
    exact fail hN6
end
end Go.Proofs.YtgppogppdmbgmaaGreat
