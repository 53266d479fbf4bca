/- The law QueryFloats, walked. -/
import Derived.Test.YtembgehpgommgaaGreatC32
import Derived.Test.YtembgehpgommgaaGreatC33
import Derived.Test.YtembgehpgommgaaGreatC11
import Derived.Test.YtembgehpgommgaaGreatC34
set_option linter.unusedVariables false
set_option linter.unusedSimpArgs false
set_option maxRecDepth 100000
set_option maxHeartbeats 8000000
namespace Go.Proofs.YtembgehpgommgaaGreat
open Go.RowKit (Below)
/-- A row that the law writes of a float. -/
structure FRow (w : Int) (p : RowD × Nat) : Prop where
  good : GoodL p.1.labels
  at0 : 0 ≤ p.1.at_
  at1 : p.1.at_ < 4 * w
  s : p.1.s = ⟨[], [], gOf p.2⟩
  b : p.2 < 2 ^ 64
def FRows (w : Int) (Z : List (RowD × Nat)) : Prop := ∀ p ∈ Z, FRow w p
def selF (Z : List (RowD × Nat)) (frm to_ : Int) : List Nat := (Z.filter (fun p => inW frm to_ p.1)).map (·.2)
theorem winL_sel {Z : List (RowD × Nat)} {w : Int} (h : ∀ p ∈ Z, FRow w p) (frm to_ : Int) : winL (Z.map (·.1)) frm to_ = ((selF Z frm to_).map gOf).map fun g => ⟨[], [], g⟩ := by
  unfold winL selF
  rw [List.filter_map, List.map_map, List.map_map, List.map_map]
  refine List.map_congr_left fun p hp => ?_
  exact (h p (List.mem_filter.1 hp).1).s
theorem selF_lt {Z : List (RowD × Nat)} {w : Int} (h : ∀ p ∈ Z, FRow w p) {frm to_ : Int} : ∀ b ∈ selF Z frm to_, b < 2 ^ 64 := fun b hb => by
  obtain ⟨p, hp, rfl⟩ := List.mem_map.1 hb
  exact (h p (List.mem_filter.1 hp).1).b
theorem selF_len {Z : List (RowD × Nat)} {frm to_ : Int} : (selF Z frm to_).length ≤ Z.length := by
  unfold selF
  rw [List.length_map]
  exact List.length_filter_le _ _
theorem selF_take {Z : List (RowD × Nat)} {frm to_ : Int} {k : Nat} (h : k < Z.length) : selF (Z.take (k + 1)) frm to_ = selF (Z.take k) frm to_ ++ (if inW frm to_ Z[k].1 then [Z[k].2] else []) := by
  unfold selF
  rw [List.take_add_one, List.getElem?_eq_getElem h]
  simp only [Option.toList_some, List.filter_append, List.map_append]
  congr 1
  by_cases hc : inW frm to_ Z[k].1 = true <;> simp [List.filter_cons, hc]
theorem fold_count : ∀ (l : List Nat) (x : FlD), (l.foldl stepF x).n + (l.foldl stepF x).nans = x.n + x.nans + l.length
  | [], x => rfl
  | b :: l, x => by
    have := stepF_count x b
    rw [List.foldl_cons, fold_count l, List.length_cons]
    omega
theorem FRow.ok {w : Int} {p : RowD × Nat} (h : FRow w p) (hw : w ≤ 100) : RowOK p.1 := by
  have h1 := h.at0
  have h2 := h.at1
  refine ⟨?_, by omega, by have := h.good.len; omega, h.good.sizes⟩
  rw [h.s]
  exact ⟨by simp, by simp, by simp, by simp, gOf_ok h.b⟩
theorem FRow.check {w : Int} {p : RowD × Nat} (h : FRow w p) : checkS p.1.s = true := by
  rw [h.s]
  unfold checkS
  rw [gOf_check]
  rfl
theorem FRow.keep {w : Int} {p : RowD × Nat} (h : FRow w p) : keepR (fun _ => true) p.1 = true := by
  unfold keepR
  rw [h.good.ck, h.check]
  rfl
theorem keep_all {Z : List (RowD × Nat)} {w : Int} (h : ∀ p ∈ Z, FRow w p) : (Z.map (·.1)).filter (keepR fun _ => true) = Z.map (·.1) := by
  rw [List.filter_eq_self]
  intro r hr
  obtain ⟨p, hp, rfl⟩ := List.mem_map.1 hr
  exact (h p hp).keep
section
variable {W0 : World} {st : Heap}
theorem queryFloats_walk {bv av : Value} {bits : List Nat} {ats : List Int} {step : Int} (hb : RegF st 1 bv (cellsU bits) bits.length) (hbl : ∀ b ∈ bits, b < 2 ^ 64) (hbn : bits.length < 2 ^ 50) (ha : RegF st 1 av (ats.map (Value.int .i64)) ats.length) (hal : ∀ z ∈ ats, -2 ^ 63 ≤ z ∧ z < 2 ^ 63) (han : ats.length < 2 ^ 50) : ICalls Tryz.prog W0 9 #[bv, av, Val.i step] st fun e st' => e = .returned (.bool true) := by
  obtain ⟨bb, bc, rfl⟩ := hb.slice
  obtain ⟨ab, ac, rfl⟩ := ha.slice
  have awake : ∀ (sta : Heap) {K : Ending → Heap → Prop}, (∀ st', K (.returned (.bool true)) st') → ICalls Tryz.prog W0 13 #[] sta K := fun sta K hK => awake23_spec.mono fun e st' h => by rw [h.1]; exact hK st'
  refine enter (args := [_, _, _]) Tryz.func9 rfl ?_
  simp [Tryz.f9, go_sem]
  by_cases c40 : 40 < bits.length
  · have t40 : ((40 : Int) < bits.length) = True := eq_true (by omega)
    simp [go_sem, t40, c40]
    refine awake _ fun st' => ?_
    simp [go_sem]
  have t40 : ((40 : Int) < bits.length) = False := eq_false (by omega)
  simp [go_sem, t40, c40]
  refine (Place_spec (k := 100) (by omega) (by omega)).mono ?_
  rintro e st1 ⟨⟨m, hm, rfl⟩, rfl⟩
  obtain ⟨w, hw⟩ : ∃ w : Int, (m : Int) + 1 = w := ⟨_, rfl⟩
  have hw0 : 1 ≤ w := by omega
  have hw1 : w ≤ 100 := by omega
  have hww : IntKind.i64.wrap (1 + (m : Int)) = w := by rw [← hw, Int.add_comm]; exact wrap_id (by omega) (by omega)
  have hw4 : IntKind.i64.wrap (4 * w) = 4 * w := wrap_id (by omega) (by omega)
  simp [go_sem, hww]
  clear hww hw hm
  refine ⟨fun E st' => New st1 st' ∧ E 0 = .slice bb bits.length bc ∧ E 1 = .slice ab ats.length ac ∧ E 7 = Val.i w ∧ ∃ (k : Nat) (v : Value) (ys : List Value) (Z : List (RowD × Nat)), E 9 = Val.i (k : Int) ∧ k ≤ bits.length ∧ E 8 = v ∧ Vec st' (.ty 1) 8 v ys k ∧ Fresh st1 v ∧ RowsIn st' ys (Z.map (·.1)) ∧ Z.map (·.2) = bits.take k ∧ FRows w Z, fun E _ => match E 9 with | .int _ z => bits.length - z.toNat | _ => 0,
    ⟨st1, .rfl' _, New.refl _, by simp [go_sem], by simp [go_sem], by simp [go_sem], 0, .slice none 0 0, [], [], by simp [go_sem], by omega, by simp [go_sem], Vec.nil, Fresh.none, RowsIn.nil, by simp, fun p hp => by simp at hp⟩, ?_⟩
  rintro E s0 ⟨k0, e0, e1, e7, k, v, ys, Z, e9, hk, e8, hV, hF, hR, hZ, hZr⟩
  obtain ⟨wb, wc, rfl⟩ := hV.slice
  by_cases hlt : k < bits.length
  · have t1 : ((k : Int) < bits.length) = True := eq_true (by omega)
    have hwk : IntKind.i64.wrap ((k : Int) + 1) = (k : Int) + 1 := wrap_id (by omega) (by omega)
    simp [go_sem, e0, e1, e7, e8, e9, t1, hlt]
    refine Set_spec.mono ?_
    rintro e s1 ⟨lw, labs, rfl, hlV, hlF, hlG, n1⟩
    obtain ⟨lb, lc, rfl⟩ := hlV.slice
    simp [go_sem, e0, e1, e7, e8, e9]
    unfold NewP
    intro x hx
    refine ⟨.ty 1, ?_⟩
    have hxn : s0 x = none := n1.none hx
    have nx : ∀ o, New s1 (upd s1 x (.cells true o 8 (.ty 1))) := fun o => (New.refl s1).put hx
    simp [go_sem, e0, e1, e7, e8, e9]
    obtain ⟨bk, boff, rfl, hg⟩ := src_get (hb.new k0).src (by omega)
    have hg1 := hg k (by omega)
    have hv1 : (cellsU bits)[k]? = some (.int .u64 (bits[k] : Int)) := by simp [cellsU, List.getElem?_eq_getElem hlt]
    rw [hv1] at hg1
    have hbk : bits[k] < 2 ^ 64 := hbl _ (List.getElem_mem hlt)
    have htk : bits.take (k + 1) = bits.take k ++ [bits[k]] := by rw [List.take_add_one, List.getElem?_eq_getElem hlt]; rfl
    have hbx : bk ≠ x := by
      rintro rfl
      rw [hxn] at hg1
      simp [cellsOf] at hg1
    have hgs : ∀ o, (cellsOf (upd s1 x o bk))[boff + k]? = some (.int .u64 (bits[k] : Int)) := fun o => by
      rw [upd_ne _ _ hbx]
      cases hs : s0 bk with
      | none => rw [hs] at hg1; simp [cellsOf] at hg1
      | some ob => rw [n1 _ _ hs]; rw [hs] at hg1; exact hg1
    generalize hbb : bits[k] = b at *
    have hlR : ∀ o, RegF (upd s1 x o) 2 (.slice lb labs.length lc) (labV labs) labs.length := fun o => ⟨.ty 1, (by intro g x r; simp), (hlV.new' ((New.refl s1).put hx)).reg⟩
    clear hg hg1 hv1
    by_cases cat : k < ats.length
    · have tat : ((k : Int) < ats.length) = True := eq_true (by omega)
      obtain ⟨ak, aoff, rfl, hga⟩ := src_get (ha.new k0).src (by omega)
      have hga1 := hga k (by omega)
      have hva : (ats.map (Value.int .i64))[k]? = some (.int .i64 ats[k]) := by simp [List.getElem?_eq_getElem cat]
      rw [hva] at hga1
      have hax : ak ≠ x := by
        rintro rfl
        rw [hxn] at hga1
        simp [cellsOf] at hga1
      have hgas : ∀ o, (cellsOf (upd s1 x o ak))[aoff + k]? = some (.int .i64 ats[k]) := fun o => by
        rw [upd_ne _ _ hax]
        cases hs : s0 ak with
        | none => rw [hs] at hga1; simp [cellsOf] at hga1
        | some ob => rw [n1 _ _ hs]; rw [hs] at hga1; exact hga1
      clear hga hga1 hva
      generalize ats[k] = z at *
      simp [go_sem, e0, e1, e7, e8, e9, tat, cat, hgas, hw4]
      refine (Place_spec (k := 4 * w) (by omega) (by omega)).mono ?_
      rintro e s8 ⟨⟨a, ha1, rfl⟩, rfl⟩
      simp [go_sem, e0, e1, e7, e8, e9, hlt, hgs]
      refine (refKind_spec hbk).mono ?_
      rintro e s9 ⟨rfl, rfl⟩
      by_cases c4 : kindN b = 4
      · have q4 : ((kindN b : Int) = 4) = True := eq_true (by omega)
        simp [go_sem, e0, e1, e7, e8, e9, c4, q4, hgs, hlt]


        obtain ⟨s2, hs2⟩ : ∃ s2, upd s1 x (.cells true [.slice lb labs.length lc, Val.i (a : Int), .slice none 0 0, .slice none 0 0, Val.u 0, Val.u 1, Val.u 0, Val.u 0] 8 (.ty 1)) = s2 := ⟨_, rfl⟩
        rw [hs2]
        have n2 : New s0 s2 := by rw [← hs2]; exact n1.trans ((New.refl s1).put hx)
        unfold NewS
        intro nb hnb
        refine ⟨.ty 1, ?_⟩
        have n3 := (New.refl s2).add (b := nb) (o := .cells true [.slice lb labs.length lc, Val.i (a : Int), .slice none 0 0, .slice none 0 0, Val.u 0, Val.u 1, Val.u 0, Val.u 0] 8 (.ty 1)) hnb
        simp [go_sem, e0, e1, e7, e8, e9]
        have nn := n2.trans n3
        refine AppI_new (st0 := st1) (g := .ty 1) (m := 1) (ys := [.slice lb labs.length lc, Val.i (a : Int), .slice none 0 0, .slice none 0 0, Val.u 0, Val.u 1, Val.u 0, Val.u 0]) si51 (hV.new' nn) hF (k0.trans nn) (by simp [srcCells, lkN_mk, upd_same, cellsOf]) (by simp [Value.oneCell']) (by omega) ?_
        intro base cap st4 hV4 hF4 k4 hx4
        simp [go_sem, e0, e1, e7, e8, e9, hwk]
        have hlR2 : RegF s2 2 (.slice lb labs.length lc) (labV labs) labs.length := by rw [← hs2]; exact hlR _
        have hrow : RowAt s2 [.slice lb labs.length lc, Val.i (a : Int), .slice none 0 0, .slice none 0 0, Val.u 0, Val.u 1, Val.u 0, Val.u 0] ⟨labs, (a : Int), ⟨[], [], gOf b⟩⟩ := ⟨_, [_, _, _, _, _, _], rfl, hlR2, _, _, by rw [show gOf b = ⟨0, 1, 0, 0⟩ from if_pos c4]; rfl, ⟨.ty 0, by intro g x r; simp, Reg.nil⟩, ⟨.ty 0, by intro g x r; simp, Reg.nil⟩⟩
        refine ⟨st4, .rfl' _, ⟨k4, k + 1, by simp, by omega, _, hV4, hF4, Z ++ [(⟨labs, (a : Int), ⟨[], [], gOf b⟩⟩, b)], ?_, ?_, ?_⟩, by omega⟩
        · rw [List.map_append]
          exact ((hR.new nn).ext hx4).snoc ((hrow.new n3).ext hx4)
        · rw [List.map_append, hZ, htk]; rfl
        · intro p hp
          rcases List.mem_append.1 hp with hp | hp
          · exact hZr p hp
          · rw [List.mem_singleton.1 hp]
            exact ⟨hlG, by simp only; omega, by simp only; omega, rfl, hbk⟩
      · have q4 : ((kindN b : Int) = 4) = False := eq_false (by omega)
        simp [go_sem, e0, e1, e7, e8, e9, c4, q4, hgs, hlt]
        refine draw [0, 1, 2, 4, 5, 6, 3, 7, 8, 9, 10, 11] (by kernel_rfl) ?_
        simp [go_sem, e0, e1, e7, e8, e9, c4, q4, hgs, hlt]
        obtain ⟨s2, hs2⟩ : ∃ s2, upd s1 x (.cells true [.slice lb labs.length lc, Val.i (a : Int), .slice none 0 0, .slice none 0 0, Val.u 1, Val.u 0, Val.u b, Val.u b] 8 (.ty 1)) = s2 := ⟨_, rfl⟩
        rw [hs2]
        have n2 : New s0 s2 := by rw [← hs2]; exact n1.trans ((New.refl s1).put hx)
        unfold NewS
        intro nb hnb
        refine ⟨.ty 1, ?_⟩
        have n3 := (New.refl s2).add (b := nb) (o := .cells true [.slice lb labs.length lc, Val.i (a : Int), .slice none 0 0, .slice none 0 0, Val.u 1, Val.u 0, Val.u b, Val.u b] 8 (.ty 1)) hnb
        simp [go_sem, e0, e1, e7, e8, e9]
        have nn := n2.trans n3
        refine AppI_new (st0 := st1) (g := .ty 1) (m := 1) (ys := [.slice lb labs.length lc, Val.i (a : Int), .slice none 0 0, .slice none 0 0, Val.u 1, Val.u 0, Val.u b, Val.u b]) si51 (hV.new' nn) hF (k0.trans nn) (by simp [srcCells, lkN_mk, upd_same, cellsOf]) (by simp [Value.oneCell']) (by omega) ?_
        intro base cap st4 hV4 hF4 k4 hx4
        simp [go_sem, e0, e1, e7, e8, e9, hwk]
        have hlR2 : RegF s2 2 (.slice lb labs.length lc) (labV labs) labs.length := by rw [← hs2]; exact hlR _
        have hrow : RowAt s2 [.slice lb labs.length lc, Val.i (a : Int), .slice none 0 0, .slice none 0 0, Val.u 1, Val.u 0, Val.u b, Val.u b] ⟨labs, (a : Int), ⟨[], [], gOf b⟩⟩ := ⟨_, [_, _, _, _, _, _], rfl, hlR2, _, _, by rw [show gOf b = ⟨1, 0, b, b⟩ from if_neg c4]; rfl, ⟨.ty 0, by intro g x r; simp, Reg.nil⟩, ⟨.ty 0, by intro g x r; simp, Reg.nil⟩⟩
        refine ⟨st4, .rfl' _, ⟨k4, k + 1, by simp, by omega, _, hV4, hF4, Z ++ [(⟨labs, (a : Int), ⟨[], [], gOf b⟩⟩, b)], ?_, ?_, ?_⟩, by omega⟩
        · rw [List.map_append]
          exact ((hR.new nn).ext hx4).snoc ((hrow.new n3).ext hx4)
        · rw [List.map_append, hZ, htk]; rfl
        · intro p hp
          rcases List.mem_append.1 hp with hp | hp
          · exact hZr p hp
          · rw [List.mem_singleton.1 hp]
            exact ⟨hlG, by simp only; omega, by simp only; omega, rfl, hbk⟩
    · have tat : ((k : Int) < ats.length) = False := eq_false (by omega)
      simp [go_sem, e0, e1, e7, e8, e9, tat, cat, hlt, hgs]
      refine (refKind_spec hbk).mono ?_
      rintro e s9 ⟨rfl, rfl⟩
      by_cases c4 : kindN b = 4
      · have q4 : ((kindN b : Int) = 4) = True := eq_true (by omega)
        simp [go_sem, e0, e1, e7, e8, e9, c4, q4, hgs, hlt]


        obtain ⟨s2, hs2⟩ : ∃ s2, upd s1 x (.cells true [.slice lb labs.length lc, Val.i 0, .slice none 0 0, .slice none 0 0, Val.u 0, Val.u 1, Val.u 0, Val.u 0] 8 (.ty 1)) = s2 := ⟨_, rfl⟩
        rw [hs2]
        have n2 : New s0 s2 := by rw [← hs2]; exact n1.trans ((New.refl s1).put hx)
        unfold NewS
        intro nb hnb
        refine ⟨.ty 1, ?_⟩
        have n3 := (New.refl s2).add (b := nb) (o := .cells true [.slice lb labs.length lc, Val.i 0, .slice none 0 0, .slice none 0 0, Val.u 0, Val.u 1, Val.u 0, Val.u 0] 8 (.ty 1)) hnb
        simp [go_sem, e0, e1, e7, e8, e9]
        have nn := n2.trans n3
        refine AppI_new (st0 := st1) (g := .ty 1) (m := 1) (ys := [.slice lb labs.length lc, Val.i 0, .slice none 0 0, .slice none 0 0, Val.u 0, Val.u 1, Val.u 0, Val.u 0]) si51 (hV.new' nn) hF (k0.trans nn) (by simp [srcCells, lkN_mk, upd_same, cellsOf]) (by simp [Value.oneCell']) (by omega) ?_
        intro base cap st4 hV4 hF4 k4 hx4
        simp [go_sem, e0, e1, e7, e8, e9, hwk]
        have hlR2 : RegF s2 2 (.slice lb labs.length lc) (labV labs) labs.length := by rw [← hs2]; exact hlR _
        have hrow : RowAt s2 [.slice lb labs.length lc, Val.i 0, .slice none 0 0, .slice none 0 0, Val.u 0, Val.u 1, Val.u 0, Val.u 0] ⟨labs, 0, ⟨[], [], gOf b⟩⟩ := ⟨_, [_, _, _, _, _, _], rfl, hlR2, _, _, by rw [show gOf b = ⟨0, 1, 0, 0⟩ from if_pos c4]; rfl, ⟨.ty 0, by intro g x r; simp, Reg.nil⟩, ⟨.ty 0, by intro g x r; simp, Reg.nil⟩⟩
        refine ⟨st4, .rfl' _, ⟨k4, k + 1, by simp, by omega, _, hV4, hF4, Z ++ [(⟨labs, 0, ⟨[], [], gOf b⟩⟩, b)], ?_, ?_, ?_⟩, by omega⟩
        · rw [List.map_append]
          exact ((hR.new nn).ext hx4).snoc ((hrow.new n3).ext hx4)
        · rw [List.map_append, hZ, htk]; rfl
        · intro p hp
          rcases List.mem_append.1 hp with hp | hp
          · exact hZr p hp
          · rw [List.mem_singleton.1 hp]
            exact ⟨hlG, by simp only; omega, by simp only; omega, rfl, hbk⟩
      · have q4 : ((kindN b : Int) = 4) = False := eq_false (by omega)
        simp [go_sem, e0, e1, e7, e8, e9, c4, q4, hgs, hlt]
        refine draw [0, 1, 2, 4, 5, 6, 3, 7, 8, 9, 10, 11] (by kernel_rfl) ?_
        simp [go_sem, e0, e1, e7, e8, e9, c4, q4, hgs, hlt]
        obtain ⟨s2, hs2⟩ : ∃ s2, upd s1 x (.cells true [.slice lb labs.length lc, Val.i 0, .slice none 0 0, .slice none 0 0, Val.u 1, Val.u 0, Val.u b, Val.u b] 8 (.ty 1)) = s2 := ⟨_, rfl⟩
        rw [hs2]
        have n2 : New s0 s2 := by rw [← hs2]; exact n1.trans ((New.refl s1).put hx)
        unfold NewS
        intro nb hnb
        refine ⟨.ty 1, ?_⟩
        have n3 := (New.refl s2).add (b := nb) (o := .cells true [.slice lb labs.length lc, Val.i 0, .slice none 0 0, .slice none 0 0, Val.u 1, Val.u 0, Val.u b, Val.u b] 8 (.ty 1)) hnb
        simp [go_sem, e0, e1, e7, e8, e9]
        have nn := n2.trans n3
        refine AppI_new (st0 := st1) (g := .ty 1) (m := 1) (ys := [.slice lb labs.length lc, Val.i 0, .slice none 0 0, .slice none 0 0, Val.u 1, Val.u 0, Val.u b, Val.u b]) si51 (hV.new' nn) hF (k0.trans nn) (by simp [srcCells, lkN_mk, upd_same, cellsOf]) (by simp [Value.oneCell']) (by omega) ?_
        intro base cap st4 hV4 hF4 k4 hx4
        simp [go_sem, e0, e1, e7, e8, e9, hwk]
        have hlR2 : RegF s2 2 (.slice lb labs.length lc) (labV labs) labs.length := by rw [← hs2]; exact hlR _
        have hrow : RowAt s2 [.slice lb labs.length lc, Val.i 0, .slice none 0 0, .slice none 0 0, Val.u 1, Val.u 0, Val.u b, Val.u b] ⟨labs, 0, ⟨[], [], gOf b⟩⟩ := ⟨_, [_, _, _, _, _, _], rfl, hlR2, _, _, by rw [show gOf b = ⟨1, 0, b, b⟩ from if_neg c4]; rfl, ⟨.ty 0, by intro g x r; simp, Reg.nil⟩, ⟨.ty 0, by intro g x r; simp, Reg.nil⟩⟩
        refine ⟨st4, .rfl' _, ⟨k4, k + 1, by simp, by omega, _, hV4, hF4, Z ++ [(⟨labs, 0, ⟨[], [], gOf b⟩⟩, b)], ?_, ?_, ?_⟩, by omega⟩
        · rw [List.map_append]
          exact ((hR.new nn).ext hx4).snoc ((hrow.new n3).ext hx4)
        · rw [List.map_append, hZ, htk]; rfl
        · intro p hp
          rcases List.mem_append.1 hp with hp | hp
          · exact hZr p hp
          · rw [List.mem_singleton.1 hp]
            exact ⟨hlG, by simp only; omega, by simp only; omega, rfl, hbk⟩
  have : k = bits.length := by omega
  subst this
  rw [List.take_length] at hZ
  have hZl : Z.length = bits.length := by rw [← hZ, List.length_map]
  have hZm : (Z.map (·.1)).length = bits.length := by rw [List.length_map, hZl]
  have hRA : RowsAt s0 (.slice wb bits.length wc) (Z.map (·.1)) := ⟨ys, ⟨.ty 1, (by intro g x r; simp), by rw [hZm]; exact hV.reg⟩, hR⟩
  simp [go_sem, e0, e1, e7, e8, e9]
  refine ⟨fun E st' => New s0 st' ∧ E 0 = .slice bb bits.length bc ∧ E 7 = Val.i w ∧ E 8 = .slice wb bits.length wc ∧ ∃ k : Nat, E 11 = Val.i (k : Int) ∧ k ≤ 4, fun E _ => match E 11 with | .int _ z => 4 - z.toNat | _ => 0,
    ⟨s0, .rfl' _, New.refl _, by simp [go_sem, e0], by simp [go_sem, e7], by simp [go_sem, e8], 0, by simp [go_sem], by omega⟩, ?_⟩
  clear e0 e1 e7 e8 e9
  clear E
  rintro E s1 ⟨n0, e0, e7, e8, k, e11, hk4⟩
  by_cases hkt : k < 4
  rotate_left
  · have : k = 4 := by omega
    subst this
    simp [go_sem, e0, e7, e8, e11]
    refine awake _ fun st' => ?_
    simp [go_sem]
  have t4 : ((k : Int) < 4) = True := eq_true (by omega)
  have hwk : IntKind.i64.wrap ((k : Int) + 1) = (k : Int) + 1 := wrap_id (by omega) (by omega)
  obtain ⟨frm, hfrm⟩ : ∃ f : Int, (k : Int) * w = f := ⟨_, rfl⟩
  have hf0 : 0 ≤ frm := by rw [← hfrm]; exact Int.mul_nonneg (by omega) (by omega)
  have hf1 : frm ≤ 300 := by
    have : (k : Int) * w ≤ 3 * 100 := Int.mul_le_mul (by omega) hw1 (by omega) (by omega)
    omega
  have hwf : IntKind.i64.wrap frm = frm := wrap_id (by omega) (by omega)
  simp [go_sem, e0, e7, e8, e11, t4, hkt]
  refine ⟨fun E st' => st' = s1 ∧ E 0 = .slice bb bits.length bc ∧ E 7 = Val.i w ∧ E 8 = .slice wb bits.length wc ∧ E 11 = Val.i (k : Int) ∧ ∃ (i : Nat) (x : FlD), E 16 = Val.i (i : Int) ∧ i ≤ bits.length ∧ x = (selF (Z.take i) frm (frm + w)).foldl stepF fl0 ∧ E 12 = Val.i x.n ∧ E 13 = Val.u x.nans ∧ E 14 = .float .f64 x.lo ∧ E 15 = .float .f64 x.hi, fun E _ => match E 16 with | .int _ z => bits.length - z.toNat | _ => 0,
    ⟨s1, .rfl' _, rfl, by simp [go_sem, e0], by simp [go_sem, e7], by simp [go_sem, e8], by simp [go_sem, e11], 0, fl0, by simp [go_sem], by omega, by simp [selF], by simp [go_sem, fl0], by simp [go_sem, fl0], by simp [go_sem, fl0], by simp [go_sem, fl0]⟩, ?_⟩
  clear e0 e7 e8 e11
  clear E
  rintro E s2 ⟨rfl, e0, e7, e8, e11, i, x, e16, hi, hx, e12, e13, e14, e15⟩
  have hsl : ∀ j, (selF (Z.take j) frm (frm + w)).length ≤ 40 := fun j => by
    have h1 := selF_len (Z := Z.take j) (frm := frm) (to_ := frm + w)
    rw [List.length_take] at h1
    omega
  have hrel : FlRel x (((selF (Z.take i) frm (frm + w)).map gOf).foldl mergeG ⟨0, 0, 0, 0⟩) := by
    rw [hx]
    exact FlRel.fold _ FlRel.zero (selF_lt (w := w) fun p hp => hZr p (List.mem_of_mem_take hp)) (by have := hsl i; simp only [fl0]; omega)
  have hcnt : x.n + x.nans ≤ 40 := by
    rw [hx, fold_count]
    have := hsl i
    simp only [fl0]
    omega
  by_cases hlt : i < bits.length
  · have t1 : ((i : Int) < bits.length) = True := eq_true (by omega)
    have hwi : IntKind.i64.wrap ((i : Int) + 1) = (i : Int) + 1 := wrap_id (by omega) (by omega)
    have hwn : IntKind.i64.wrap ((x.n : Int) + 1) = (x.n : Int) + 1 := wrap_id (by omega) (by omega)
    have hwu : IntKind.u64.wrap ((x.nans : Int) + 1) = (x.nans : Int) + 1 := wraps_u64 _ (by omega) (by omega)
    have hiZ : i < Z.length := by omega
    obtain ⟨mb, off, cap, rw_, zs, mm, g', cs, hv', hsm, hlen, hcell, hrow⟩ := (hRA.new n0).get (i := i) (by rw [hZm]; exact hlt)
    rw [hZm] at hv'
    injection hv' with v1 v2 v3
    subst v1; subst v3
    rw [List.getElem_map] at hrow
    have htk := selF_take (frm := frm) (to_ := frm + w) hiZ
    have hbz : bits[i] = Z[i].2 := by
      have : bits[i]? = some Z[i].2 := by rw [← hZ, List.getElem?_map, List.getElem?_eq_getElem hiZ]; rfl
      rw [List.getElem?_eq_getElem hlt] at this
      exact Option.some.inj this
    have hFR := hZr _ (List.getElem_mem hiZ)
    obtain ⟨bk, boff, hbe, hg⟩ := src_get (hb.new (k0.trans n0)).src (by omega)
    subst hbe
    have hg1 := hg i (by omega)
    have hv1 : (cellsU bits)[i]? = some (.int .u64 (bits[i] : Int)) := by simp [cellsU, List.getElem?_eq_getElem hlt]
    rw [hv1, hbz] at hg1
    clear hg hv1 hbz
    generalize Z[i] = p at *
    obtain ⟨r, b⟩ := p
    simp only at hrow htk hg1
    obtain ⟨lb, lc, hb', hc, kb, kc, rfl⟩ := hrow.cells
    have hat : zs[off + i * 8 + 1]? = some (Val.i r.at_) := by
      have := congrArg (fun l : List Value => l[1]?) hcell
      simpa using this
    have ha0 : 0 ≤ r.at_ := hFR.at0
    have ha1 : r.at_ < 4 * w := hFR.at1
    have hbb : b < 2 ^ 64 := hFR.b
    have htd : (r.at_).tdiv w = r.at_ / w := Int.tdiv_eq_ediv_of_nonneg ha0
    have hdl : 0 ≤ r.at_ / w ∧ r.at_ / w < 4 := ⟨Int.ediv_nonneg ha0 (by omega), Int.ediv_lt_of_lt_mul (by omega) ha1⟩
    have hwd : IntKind.i64.wrap (r.at_ / w) = r.at_ / w := wrap_id (by omega) (by omega)
    have hwz : (w = 0) = False := eq_false (by omega)
    have hqi : inW frm (frm + w) r = decide (r.at_ / w = k) := by
      unfold inW
      rw [← hfrm]
      have h1 : (k : Int) * w ≤ r.at_ ↔ (k : Int) ≤ r.at_ / w := (Int.le_ediv_iff_mul_le (by omega)).symm
      have h2 : r.at_ < (k : Int) * w + w ↔ r.at_ / w < (k : Int) + 1 := by
        rw [show (k : Int) * w + w = ((k : Int) + 1) * w by rw [Int.add_mul, Int.one_mul]]
        exact (Int.ediv_lt_iff_lt_mul (by omega)).symm
      simp only [h1, h2]
      by_cases hq : r.at_ / w = k
      · simp [hq]; omega
      · rw [decide_eq_false hq]
        simp; omega
    simp [go_sem, e0, e7, e8, e11, e12, e13, e14, e15, e16, t1, hlt, hsm, hlen, hat, htd, hwd, hwz]
    by_cases cin : r.at_ / w = k
    rotate_left
    · rw [hqi, decide_eq_false cin] at htk
      simp only [Bool.false_eq_true, if_false, List.append_nil] at htk
      simp [go_sem, e0, e7, e8, e11, e12, e13, e14, e15, e16, cin, hwi]
      refine ⟨s2, .rfl' _, ⟨rfl, i + 1, by simp, by omega, by rw [htk, ← hx]; simp⟩, by omega⟩
    rw [hqi, decide_eq_true cin] at htk
    simp only [if_true] at htk
    have hx1 : stepF x b = (selF (Z.take (i + 1)) frm (frm + w)).foldl stepF fl0 := by
      rw [htk, List.foldl_append, ← hx]; rfl
    simp [go_sem, e0, e7, e8, e11, e12, e13, e14, e15, e16, cin, hlt, hg1, call_from]
    refine (isNaN_spec hbb).mono ?_
    rintro e s3 ⟨rfl, rfl⟩
    by_cases c4 : kindN b = 4
    · have hst : stepF x b = ⟨x.n, x.nans + 1, x.lo, x.hi⟩ := by unfold stepF; rw [if_pos c4]
      rw [hst] at hx1
      simp [go_sem, e0, e7, e8, e11, e12, e13, e14, e15, e16, c4, hwi, hwu]
      refine ⟨s3, .rfl' _, ⟨rfl, i + 1, by simp, by omega, by rw [← hx1]; simp⟩, by omega⟩
    by_cases cn : x.n = 0
    · have qn : ((x.n : Int) = 0) = True := eq_true (by omega)
      have hst : stepF x b = ⟨x.n + 1, x.nans, b, b⟩ := by unfold stepF; rw [if_neg c4, if_pos (.inl cn), if_pos (.inl cn)]
      rw [hst] at hx1
      simp [go_sem, e0, e7, e8, e11, e12, e13, e14, e15, e16, c4, qn, cn, hwi, hwn]
      refine ⟨s3, .rfl' _, ⟨rfl, i + 1, by simp, by omega, by rw [← hx1]; simp; rw [cn]; decide⟩, by omega⟩
    have qn : ((x.n : Int) = 0) = False := eq_false (by omega)
    obtain ⟨kl, _, _⟩ := hrel.lo (by omega)
    obtain ⟨kh, _, _⟩ := hrel.hi (by omega)
    have ol := order_lt hbb hrel.lob c4 kl
    have oh := order_gt hbb hrel.hib c4 kh
    by_cases cl : valN b < valN x.lo
    · have ql : (FloatKind.f64.format.order b x.lo == some .lt) = true := by rw [ol, decide_eq_true cl]
      by_cases ch : valN x.hi < valN b
      · have qh : (FloatKind.f64.format.order b x.hi == some .gt) = true := by rw [oh, decide_eq_true ch]
        have hst : stepF x b = ⟨x.n + 1, x.nans, b, b⟩ := by unfold stepF; rw [if_neg c4, if_pos (.inr cl), if_pos (.inr ch)]
        rw [hst] at hx1
        simp [go_sem, e0, e7, e8, e11, e12, e13, e14, e15, e16, c4, qn, cn, ql, qh, hwi, hwn]
        refine ⟨s3, .rfl' _, ⟨rfl, i + 1, by simp, by omega, by rw [← hx1]; simp⟩, by omega⟩
      · have qh : (FloatKind.f64.format.order b x.hi == some .gt) = false := by rw [oh, decide_eq_false ch]
        have hst : stepF x b = ⟨x.n + 1, x.nans, b, x.hi⟩ := by unfold stepF; rw [if_neg c4, if_pos (.inr cl), if_neg (by rintro (h | h) <;> contradiction)]
        rw [hst] at hx1
        simp [go_sem, e0, e7, e8, e11, e12, e13, e14, e15, e16, c4, qn, cn, ql, qh, hwi, hwn]
        refine ⟨s3, .rfl' _, ⟨rfl, i + 1, by simp, by omega, by rw [← hx1]; simp⟩, by omega⟩
    · have ql : (FloatKind.f64.format.order b x.lo == some .lt) = false := by rw [ol, decide_eq_false cl]
      by_cases ch : valN x.hi < valN b
      · have qh : (FloatKind.f64.format.order b x.hi == some .gt) = true := by rw [oh, decide_eq_true ch]
        have hst : stepF x b = ⟨x.n + 1, x.nans, x.lo, b⟩ := by unfold stepF; rw [if_neg c4, if_neg (by rintro (h | h) <;> contradiction), if_pos (.inr ch)]
        rw [hst] at hx1
        simp [go_sem, e0, e7, e8, e11, e12, e13, e14, e15, e16, c4, qn, cn, ql, qh, hwi, hwn]
        refine ⟨s3, .rfl' _, ⟨rfl, i + 1, by simp, by omega, by rw [← hx1]; simp⟩, by omega⟩
      · have qh : (FloatKind.f64.format.order b x.hi == some .gt) = false := by rw [oh, decide_eq_false ch]
        have hst : stepF x b = ⟨x.n + 1, x.nans, x.lo, x.hi⟩ := by unfold stepF; rw [if_neg c4, if_neg (by rintro (h | h) <;> contradiction), if_neg (by rintro (h | h) <;> contradiction)]
        rw [hst] at hx1
        simp [go_sem, e0, e7, e8, e11, e12, e13, e14, e15, e16, c4, qn, cn, ql, qh, hwi, hwn]
        refine ⟨s3, .rfl' _, ⟨rfl, i + 1, by simp, by omega, by rw [← hx1]; simp⟩, by omega⟩
  have : i = bits.length := by omega
  subst this
  have htZ : Z.take bits.length = Z := by rw [← hZl]; exact List.take_length
  rw [htZ] at hx hrel
  clear hsl
  simp [go_sem, e0, e7, e8, e11, e12, e13, e14, e15, e16]
  obtain ⟨gg, hgg⟩ : ∃ gg, ((selF Z frm (frm + w)).map gOf).foldl mergeG ⟨0, 0, 0, 0⟩ = gg := ⟨_, rfl⟩
  rw [hgg] at hrel
  have hsum : (sumSk (winL (Z.map (·.1)) frm (frm + w))).g = gg := by
    rw [winL_sel hZr]
    exact (foldl_addS_g _ sum0 rfl).1.trans hgg
  have hSn : ∀ f t, ((winL (Z.map (·.1)) f t).foldl addS sum0).S.length = 0 := fun f t => by
    rw [winL_sel hZr, (foldl_addS_g _ sum0 rfl).2]
    rfl
  have hoks : ∀ r ∈ Z.map (·.1), RowOK r := fun r hr => by
    obtain ⟨p, hp, rfl⟩ := List.mem_map.1 hr
    exact (hZr p hp).ok hw1
  have hcks : ∀ r ∈ Z.map (·.1), checkS r.s = true := fun r hr => by
    obtain ⟨p, hp, rfl⟩ := List.mem_map.1 hr
    exact (hZr p hp).check
  have hl30 : (Z.map (·.1)).length < 2 ^ 30 := by rw [hZm]; omega
  refine ⟨fun E st' => New s2 st' ∧ E 0 = .slice bb bits.length bc ∧ E 7 = Val.i w ∧ E 8 = .slice wb bits.length wc ∧ E 11 = Val.i (k : Int) ∧ E 12 = Val.i x.n ∧ E 13 = Val.u x.nans ∧ E 14 = .float .f64 x.lo ∧ E 15 = .float .f64 x.hi ∧ ∃ j : Nat, E 18 = Val.i (j : Int) ∧ j ≤ 3, fun E _ => match E 18 with | .int _ z => 3 - z.toNat | _ => 0,
    ⟨s2, .rfl' _, New.refl _, by simp [go_sem, e0], by simp [go_sem, e7], by simp [go_sem, e8], by simp [go_sem, e11], by simp [go_sem, e12], by simp [go_sem, e13], by simp [go_sem, e14], by simp [go_sem, e15], 0, by simp [go_sem], by omega⟩, ?_⟩
  clear e0 e7 e8 e11 e12 e13 e14 e15 e16
  clear E
  rintro E s3 ⟨n3, e0, e7, e8, e11, e12, e13, e14, e15, j, e18, hj⟩
  by_cases hjt : j < 3
  rotate_left
  · have : j = 3 := by omega
    subst this
    simp [go_sem, e0, e7, e8, e11, e12, e13, e14, e15, e18, hwk]
    exact ⟨s3, .rfl' _, ⟨n0.trans n3, k + 1, by simp, by omega⟩, by omega⟩
  have t3 : ((j : Int) < 3) = True := eq_true (by omega)
  have hwj : IntKind.i64.wrap ((j : Int) + 1) = (j : Int) + 1 := wrap_id (by omega) (by omega)
  have hw4j : IntKind.i64.wrap (4 + (j : Int)) = 4 + (j : Int) := wrap_id (by omega) (by omega)
  simp [go_sem, e0, e7, e8, e11, e12, e13, e14, e15, e18, t3, hjt, hfrm, hwf, hw4j]
  refine (Rows_copy (hRA.new (n0.trans n3)) hl30 hoks).mono ?_
  rintro e s4 ⟨w', rfl, hw', n4⟩
  obtain ⟨wb', wc', rfl⟩ := hw'.slice
  rw [List.length_map] at hw'
  simp [go_sem, e0, e7, e8, e11, e12, e13, e14, e15, e18]
  obtain ⟨q, hq⟩ : ∃ q : AskD, q = ⟨matZ, frm, w, 1, 4 + (j : Int), 0, 0⟩ := ⟨_, rfl⟩
  have hargs : Value.agg (cellsZ ++ q.tail).toArray = .agg #[Value.int .i64 0, Value.string { data := #[] }, Value.string { data := #[] }, Value.slice none 0 0, Value.slice none 0 0, Value.int .i64 frm, Value.int .i64 w, Value.int .i64 1, Value.int .i64 (4 + (j : Int)), Value.int .u64 0, Value.int .u64 0] := by rw [hq]; rfl
  have q1 : q.start = frm := by rw [hq]
  have q2 : q.step = w := by rw [hq]
  have q3 : q.n = 1 := by rw [hq]
  have q4 : q.kind = 4 + (j : Int) := by rw [hq]
  have q5 : q.a = 0 := by rw [hq]
  have q6 : q.b = 0 := by rw [hq]
  have aok : AskOK q := ⟨by omega, by omega, by omega, by omega, by omega⟩
  rw [← hargs]
  have hc5 : cellsZ.length = 5 := rfl
  have hans := answersR_spec (W0 := W0) (ms := cellsZ) (q := q) (ev := fun _ => true) hc5 hw' hl30 hoks (fun s hs lv l h1 h2 h3 => EvalZ_spec h1 h2)
  refine hans.mono ?_
  rintro e s5 ⟨qa, qr, w'', rfl, n5, hqn, ⟨ga, hqa⟩, ⟨gr, hqr⟩, hw''⟩
  rw [keep_all hZr] at hw''
  simp [go_sem, e0, e7, e8, e11, e12, e13, e14, e15, e18]
  have hN : windowsN q.start q.step q.n = 1 := by
    rw [q1, q2, q3]
    unfold windowsN
    have hdv : 1 ≤ (1099511627776 - frm) / w := (Int.le_ediv_iff_mul_le (by omega)).2 (by omega)
    rw [if_neg (by omega)]
    rfl
  refine (toldR_spec (ms := cellsZ) (q := q) hc5 aok hqa hqr hw'' hl30 hoks hcks (fun f => by rw [hSn]; exact sortU_zero) (by omega) (by rw [hN]; omega)).mono ?_
  rintro e s6 ⟨n6, v, rfl, hv, -⟩
  rw [hN] at hv
  obtain ⟨A, hA⟩ : ∃ A, ansOf q (Z.map (·.1)) w frm = A := ⟨_, rfl⟩
  have hal : ansL (ansOf q (Z.map (·.1)) q.step) q.start q.step 1 = A.cells frm := by
    rw [show (1 : Nat) = 0 + 1 from rfl, ansL_succ, q1, q2]
    simp [ansL, hA]
  have hv1 : Vec s6 (.ty 1) 4 v (A.cells frm) 1 := by
    rw [← hal]; exact hv
  clear hv hal
  obtain ⟨hvl, vb, vc, rfl, hvc, hvv⟩ := hv1
  obtain ⟨b, nn, rfl, hbv⟩ : ∃ b nn, vb = some ⟨b, 0, none⟩ ∧ s6 b = some (.cells true (A.cells frm) nn (.ty 1)) := by
    rcases hvv with ⟨b, nn, rfl, hb, -⟩ | ⟨rfl, rfl⟩
    · exact ⟨b, nn, rfl, hb⟩
    · omega
  have hAe : A.err = 0 := by
    rw [← hA]
    unfold ansOf oneM
    rw [q4, if_neg (by omega), if_neg (by omega), if_neg (by omega)]
    split
    · split <;> rfl
    · split
      · split <;> rfl
      · split <;> rfl
  unfold AnsD.cells at hbv
  rw [hAe] at hbv
  have n36 := ((n3.trans n4).trans n5).trans n6
  simp [go_sem, e0, e7, e8, e11, e12, e13, e14, e15, e18, hbv, hfrm, hwf]
  unfold NewP
  intro y hy
  refine ⟨.ty 1, ?_⟩
  have n7 : New s6 (upd s6 y (.cells true [Val.i frm, .bool A.has, Val.u A.val, Val.i 0] 4 (.ty 1))) := (New.refl s6).put hy
  have g7 := upd_same s6 y (.cells true [Val.i frm, .bool A.has, Val.u A.val, Val.i 0] 4 (.ty 1))
  simp [go_sem, e0, e7, e8, e11, e12, e13, e14, e15, e18]
  generalize upd s6 y (.cells true [Val.i frm, .bool A.has, Val.u A.val, Val.i 0] 4 (.ty 1)) = s7 at *
  have n27 := n36.trans n7
  have hA' : A = oneM (4 + (j : Int)) 0 0 (sumSk (winL (Z.map (·.1)) frm (frm + w))) := by
    rw [← hA]
    unfold ansOf
    rw [q4, q5, q6]
    rfl
  clear hA hAe hargs hq q1 q2 q3 q4 q5 q6 aok hN hbv
  unfold oneM at hA'
  rw [hsum] at hA'
  have hg0 := hrel.n
  have hgn := hrel.nans
  have wr1 : IntKind.i64.wrap 1 = 1 := by decide
  have wr2 : IntKind.i64.wrap 2 = 2 := by decide
  have wr3 : IntKind.i64.wrap 3 = 3 := by decide
  have hj3 : j = 0 ∨ j = 1 ∨ j = 2 := by omega
  clear hw4j t3
  by_cases cx : 0 < x.n
  · have tx : ((0 : Int) < x.n) = True := eq_true (by omega)
    obtain ⟨k1, k2, k3⟩ := hrel.lo cx
    obtain ⟨k4, k5, k6⟩ := hrel.hi cx
    have o1 := order_ne hrel.ok.lo hrel.lob k2 k1 k3
    have o2 := order_ne hrel.ok.hi hrel.hib k5 k4 k6
    have cg : 0 < gg.n := by omega
    rcases hj3 with rfl | rfl | rfl
    · simp [cg] at hA'
      subst hA'
      simp [go_sem, e0, e7, e8, e11, e12, e13, e14, e15, e18, g7, tx, cx, call_from, o1, wr1]
      exact ⟨s7, .rfl' _, n27, 1, by simp, by omega⟩
    · simp [cg] at hA'
      subst hA'
      simp [go_sem, e0, e7, e8, e11, e12, e13, e14, e15, e18, g7, tx, cx, call_from, o2, wr2]
      exact ⟨s7, .rfl' _, n27, 2, by simp, by omega⟩
    · simp at hA'
      subst hA'
      simp [go_sem, e0, e7, e8, e11, e12, e13, e14, e15, e18, g7, hgn, wr3]
      exact ⟨s7, .rfl' _, n27, 3, by simp, by omega⟩
  · have tx : ((0 : Int) < x.n) = False := eq_false (by omega)
    have cg : ¬ 0 < gg.n := by omega
    rcases hj3 with rfl | rfl | rfl
    · simp [cg] at hA'
      subst hA'
      simp [go_sem, e0, e7, e8, e11, e12, e13, e14, e15, e18, g7, tx, cx, call_from, wr1]
      exact ⟨s7, .rfl' _, n27, 1, by simp, by omega⟩
    · simp [cg] at hA'
      subst hA'
      simp [go_sem, e0, e7, e8, e11, e12, e13, e14, e15, e18, g7, tx, cx, call_from, wr2]
      exact ⟨s7, .rfl' _, n27, 2, by simp, by omega⟩
    · simp at hA'
      subst hA'
      simp [go_sem, e0, e7, e8, e11, e12, e13, e14, e15, e18, g7, hgn, wr3]
      exact ⟨s7, .rfl' _, n27, 3, by simp, by omega⟩
end
end Go.Proofs.YtembgehpgommgaaGreat
