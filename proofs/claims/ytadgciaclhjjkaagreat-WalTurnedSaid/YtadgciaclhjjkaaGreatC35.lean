/- A record read: wal.GetRec walked. -/
import Derived.Test.YtadgciaclhjjkaaGreatC34
import Derived.Test.YtadgciaclhjjkaaGreatC19
set_option linter.unusedVariables false
set_option linter.unusedSimpArgs false
set_option maxRecDepth 100000
set_option maxHeartbeats 2000000
namespace Go.Proofs.YtadgciaclhjjkaaGreat
open Go.RowKit (Below)
def skGetM (b : Bs) (lim : Bool) (a : Int) : Option (SkD × Int) := (histGetM b lim a).bind fun h => (riseGetM b h.2 1024).bind fun k => (gauGetM b k.2).map fun g => (⟨h.1, k.1, g.1⟩, g.2)
def rowGetM (b : Bs) (lim : Bool) (a : Int) : Option (RowD × Int) := (labGetM b a).bind fun l => (vgetIntM b l.2).bind fun t => (skGetM b lim t.2).map fun s => (⟨l.1, t.1, s.1⟩, s.2)
def delGetM (b : Bs) (a : Int) : Option ((Mat × Int × Int) × Int) := (getMatM b a).bind fun m => (vgetIntM b m.2).bind fun f => (vgetIntM b f.2).map fun t => ((m.1, f.1, t.1), (t.2 : Int))
def zeroR : RowD := ⟨[], 0, ⟨[], [], ⟨0, 0, 0, 0⟩⟩⟩
def zeroMt : Mat := .mk 0 ⟨#[]⟩ ⟨#[]⟩ [] []
def zeroT : TombD := ⟨0, zeroMt, 0, 0⟩
def recGetM (b : Bs) (lim : Bool) : Option RcD := (vgetIntM b 0).bind fun s => (vgetM b s.2).bind fun k =>
  if k.1 = 1 then (rowGetM b lim k.2).bind fun r => if r.2 = b.length then some ⟨s.1, 1, r.1, zeroT⟩ else none
  else if k.1 = 2 then (delGetM b k.2).bind fun t => if t.2 = b.length then some ⟨s.1, 2, zeroR, ⟨s.1, t.1.1, t.1.2.1, t.1.2.2⟩⟩ else none
  else none
theorem SkAt.freeK {st st' : Heap} {cs : List Value} {s : SkD} (hk : Keep Free st st') (h : SkAt st cs s) : SkAt st' cs s := by
  obtain ⟨hv, kv, e, h1, h2⟩ := h
  exact ⟨hv, kv, e, h1.free hk, h2.free hk⟩
theorem RowAt.free {st st' : Heap} {cs : List Value} {r : RowD} (hk : Keep Free st st') (h : RowAt st cs r) : RowAt st' cs r := by
  obtain ⟨lv, ss, e, h1, h2⟩ := h
  exact ⟨lv, ss, e, h1.free hk, SkAt.freeK hk h2⟩
theorem RcAt.free {st st' : Heap} {cs : List Value} {r : RcD} (hk : Keep Free st st') (h : RcAt st cs r) : RcAt st' cs r := by
  obtain ⟨rs, ts, e, h1, ms, h2, h3⟩ := h
  exact ⟨rs, ts, e, RowAt.free hk h1, ms, MatAt.free hk h2, h3⟩
theorem pfree {st : Heap} {b n x y z : Nat} {rw_ : Bool} {xs : List Value} {o : HObj} (h : st b = some (.cells rw_ xs n (.own x y z))) : Keep Free st (upd st b o) := Keep.rfl'.old h (by intro g hg; simp [HObj.tag] at hg; subst hg; exact fun h => h _ _ _ rfl)
def zeroSkC : List Value := [.slice none 0 0, .slice none 0 0, Val.u 0, Val.u 0, Val.u 0, Val.u 0]
theorem zeroMt_at (st : Heap) : MatAt st [Val.i 0, .string ⟨#[]⟩, .string ⟨#[]⟩, .slice none 0 0, .slice none 0 0] zeroMt := by
  unfold zeroMt MatAt
  exact ⟨_, _, [], rfl, RegF.nil, RegF.nil, by unfold KidsAt; trivial⟩
theorem zeroR_at (st : Heap) : RowAt st [.slice none 0 0, Val.i 0, .slice none 0 0, .slice none 0 0, Val.u 0, Val.u 0, Val.u 0, Val.u 0] zeroR := ⟨_, _, rfl, RegF.nil, _, _, rfl, RegF.nil, RegF.nil⟩
theorem MatAt.forms {st : Heap} {a0 a1 a2 a3 a4 : Value} {m : Mat} (h : MatAt st [a0, a1, a2, a3, a4] m) : ∃ op n v b l c b' l' c', a0 = Val.i op ∧ a1 = .string n ∧ a2 = .string v ∧ a3 = .slice b l c ∧ a4 = .slice b' l' c' := by
  obtain ⟨op, name, value, vals, kids⟩ := m
  unfold MatAt at h
  obtain ⟨vv, kv, ks, e, hv, hk, hkids⟩ := h
  obtain ⟨vb, vc, rfl⟩ := hv.slice
  obtain ⟨kb, kc, rfl⟩ := hk.slice
  injection e with e0 e
  injection e with e1 e
  injection e with e2 e
  injection e with e3 e
  injection e with e4 e
  exact ⟨_, _, _, _, _, _, _, _, _, e0, e1, e2, e3, e4⟩
section
variable {W0 : World} {st : Heap}
theorem pairGet_spec {bv : Value} {b : Bs} {g0 : Tg} {at_ : Int} (hb : Reg st g0 1 bv (bytesV b) b.length) (hl : b.length < 2 ^ 60) :
    ICalls Tryz.prog W0 128 #[bv, Val.i at_] st fun e st' => New st st' ∧ match skGetM b true at_ with
      | some (s, a) => ∃ hb hc kb kc, e = .returned (.tuple #[.agg #[.slice hb s.hist.length hc, .slice kb s.hashes.length kc, Val.u s.g.n, Val.u s.g.nans, Val.u s.g.lo, Val.u s.g.hi], Val.i a, .bool true]) ∧ SkAt st' [.slice hb s.hist.length hc, .slice kb s.hashes.length kc, Val.u s.g.n, Val.u s.g.nans, Val.u s.g.lo, Val.u s.g.hi] s
      | none => e = .returned (.tuple #[.agg zeroSkC.toArray, Val.i 0, .bool false]) := by
  obtain ⟨bb, bc, rfl⟩ := hb.slice
  generalize hRES : skGetM b true at_ = RES
  unfold skGetM at hRES
  refine enter (args := [_, _]) Tryz.func128 rfl ?_
  simp [Tryz.f128, go_sem]
  unfold NewP
  intro t4 ht4
  refine ⟨.own t4 0 112, ?_⟩
  have hc4 := upd_same st t4 (.cells true [.slice none 0 0, .slice none 0 0, Val.u 0, Val.u 0, Val.u 0, Val.u 0] 6 (.own t4 0 112))
  have k1 := (New.refl st).add (b := t4) (o := .cells true [.slice none 0 0, .slice none 0 0, Val.u 0, Val.u 0, Val.u 0, Val.u 0] 6 (.own t4 0 112)) ht4
  simp [go_sem]
  generalize upd st t4 (.cells true [.slice none 0 0, .slice none 0 0, Val.u 0, Val.u 0, Val.u 0, Val.u 0] 6 (.own t4 0 112)) = s1 at *
  intro t7 ht7
  refine ⟨.own t7 0 111, ?_⟩
  have hc7 := upd_same s1 t7 (.cells true [.slice none 0 0, .slice none 0 0, Val.u 0, Val.u 0, Val.u 0, Val.u 0] 6 (.own t7 0 111))
  have k2 := (New.refl s1).add (b := t7) (o := .cells true [.slice none 0 0, .slice none 0 0, Val.u 0, Val.u 0, Val.u 0, Val.u 0] 6 (.own t7 0 111)) ht7
  have n47 := ne_of_new hc4 ht7
  have n74 := Ne.symm n47
  have hc4' := k2 _ _ hc4
  have ht7s := k1.none ht7
  simp [go_sem]
  generalize upd s1 t7 (.cells true [.slice none 0 0, .slice none 0 0, Val.u 0, Val.u 0, Val.u 0, Val.u 0] 6 (.own t7 0 111)) = s2 at *
  have K2 := k1.trans k2
  clear hc4 k1 k2
  refine (histGet_spec (hb.new K2) hl).mono ?_
  rintro e s3 ⟨k3, hR⟩
  have hc4 := k3 _ _ hc4'
  have hd7 := k3 _ _ hc7
  have K3 := K2.trans k3
  cases h1 : histGetM b true at_ with
  | none =>
    rw [h1] at hR hRES
    simp at hR hRES
    subst hR
    subst hRES
    simp [go_sem, hd7, hc4, n47, n74]
    refine RetI_cell_two ?_
    simp [go_sem]
    exact ⟨(K3.put ht7s).put ht4, rfl⟩
  | some p =>
  obtain ⟨l, a1⟩ := p
  rw [h1] at hR hRES
  simp only [Option.bind_some] at hRES
  obtain ⟨v, rfl, hV3, -⟩ := hR
  obtain ⟨hbb, hcc, rfl⟩ := hV3.slice
  have hH4 := (hV3.reg.toF Free.ty).free (pfree (o := .cells true [.slice hbb l.length hcc, .slice none 0 0, Val.u 0, Val.u 0, Val.u 0, Val.u 0] 6 (.own t7 0 111)) hd7)
  have hc7' := upd_same s3 t7 (.cells true [.slice hbb l.length hcc, .slice none 0 0, Val.u 0, Val.u 0, Val.u 0, Val.u 0] 6 (.own t7 0 111))
  have hc4' : upd s3 t7 (.cells true [.slice hbb l.length hcc, .slice none 0 0, Val.u 0, Val.u 0, Val.u 0, Val.u 0] 6 (.own t7 0 111)) t4 = _ := (upd_ne _ _ n47).trans hc4
  have K4 := K3.put (o := .cells true [.slice hbb l.length hcc, .slice none 0 0, Val.u 0, Val.u 0, Val.u 0, Val.u 0] 6 (.own t7 0 111)) ht7s
  simp [go_sem, hd7]
  generalize upd s3 t7 (.cells true [.slice hbb l.length hcc, .slice none 0 0, Val.u 0, Val.u 0, Val.u 0, Val.u 0] 6 (.own t7 0 111)) = s4 at *
  clear hc4 hd7 hc7
  refine (kmvGet_spec (hb.new K4) hl).mono ?_
  rintro e s5 ⟨k5, hR⟩
  have hc4 := k5 _ _ hc4'
  have hd7 := k5 _ _ hc7'
  have K5 := K4.trans k5
  have hH5 := hH4.new k5
  cases h2 : riseGetM b a1 1024 with
  | none =>
    rw [h2] at hR hRES
    simp at hR hRES
    subst hR
    subst hRES
    simp [go_sem, hd7, hc4, n47, n74]
    refine RetI_cell_two ?_
    simp [go_sem]
    exact ⟨(K5.put ht7s).put ht4, rfl⟩
  | some p =>
  obtain ⟨ks, a2⟩ := p
  rw [h2] at hR hRES
  simp only [Option.bind_some] at hRES
  obtain ⟨v, rfl, hV5, -⟩ := hR
  obtain ⟨kbb, kcc, rfl⟩ := hV5.slice
  have hpf := pfree (o := .cells true [.slice hbb l.length hcc, .slice kbb ks.length kcc, Val.u 0, Val.u 0, Val.u 0, Val.u 0] 6 (.own t7 0 111)) hd7
  have hH6 := hH5.free hpf
  have hK6 := (hV5.reg.toF Free.ty).free hpf
  have hc7'' := upd_same s5 t7 (.cells true [.slice hbb l.length hcc, .slice kbb ks.length kcc, Val.u 0, Val.u 0, Val.u 0, Val.u 0] 6 (.own t7 0 111))
  have hc4'' : upd s5 t7 (.cells true [.slice hbb l.length hcc, .slice kbb ks.length kcc, Val.u 0, Val.u 0, Val.u 0, Val.u 0] 6 (.own t7 0 111)) t4 = _ := (upd_ne _ _ n47).trans hc4
  have K6 := K5.put (o := .cells true [.slice hbb l.length hcc, .slice kbb ks.length kcc, Val.u 0, Val.u 0, Val.u 0, Val.u 0] 6 (.own t7 0 111)) ht7s
  simp [go_sem, hd7]
  clear hpf
  generalize upd s5 t7 (.cells true [.slice hbb l.length hcc, .slice kbb ks.length kcc, Val.u 0, Val.u 0, Val.u 0, Val.u 0] 6 (.own t7 0 111)) = s6 at *
  clear hc4 hd7
  refine (gaugeGet_spec (hb.new K6) hl).mono ?_
  rintro e s7 ⟨k7, hR⟩
  have hc4 := k7 _ _ hc4''
  have hd7 := k7 _ _ hc7''
  have K7 := K6.trans k7
  cases h3 : gauGetM b a2 with
  | none =>
    rw [h3] at hR hRES
    simp at hR hRES
    subst hR
    subst hRES
    simp [go_sem, hd7, hc4, n47, n74]
    refine RetI_cell_two ?_
    simp [go_sem]
    exact ⟨(K7.put ht7s).put ht4, rfl⟩
  | some p =>
  obtain ⟨q, a3⟩ := p
  rw [h3] at hR hRES
  simp only [Option.map_some] at hRES hR
  subst hR
  subst hRES
  simp [go_sem, hd7, hc4, n47, n74]
  refine RetI_cell_two ?_
  simp [go_sem]
  have hpf1 := pfree (o := .cells true [.slice hbb l.length hcc, .slice kbb ks.length kcc, Val.u q.n, Val.u q.nans, Val.u q.lo, Val.u q.hi] 6 (.own t7 0 111)) hd7
  have hc4x : upd s7 t7 (.cells true [.slice hbb l.length hcc, .slice kbb ks.length kcc, Val.u q.n, Val.u q.nans, Val.u q.lo, Val.u q.hi] 6 (.own t7 0 111)) t4 = _ := (upd_ne _ _ n47).trans hc4
  have hpf2 := pfree (o := .cells true [.slice hbb l.length hcc, .slice kbb ks.length kcc, Val.u q.n, Val.u q.nans, Val.u q.lo, Val.u q.hi] 6 (.own t4 0 112)) hc4x
  exact ⟨(K7.put ht7s).put ht4, _, _, _, _, ⟨⟨rfl, rfl⟩, rfl, rfl⟩, _, _, rfl, ((hH6.new k7).free hpf1).free hpf2, ((hK6.new k7).free hpf1).free hpf2⟩
theorem rowGet_spec {bv : Value} {b : Bs} {g0 : Tg} {at_ : Int} (hb : Reg st g0 1 bv (bytesV b) b.length) (hl : b.length < 2 ^ 60) :
    ICalls Tryz.prog W0 61 #[bv, Val.i at_] st fun e st' => New st st' ∧ match rowGetM b true at_ with
      | some (r, a) => ∃ lb lc hb hc kb kc, e = .returned (.tuple #[.agg #[.slice lb r.labels.length lc, Val.i r.at_, .slice hb r.s.hist.length hc, .slice kb r.s.hashes.length kc, Val.u r.s.g.n, Val.u r.s.g.nans, Val.u r.s.g.lo, Val.u r.s.g.hi], Val.i a, .bool true]) ∧ RowAt st' [.slice lb r.labels.length lc, Val.i r.at_, .slice hb r.s.hist.length hc, .slice kb r.s.hashes.length kc, Val.u r.s.g.n, Val.u r.s.g.nans, Val.u r.s.g.lo, Val.u r.s.g.hi] r
      | none => ∃ lb ln lc x y, e = .returned (.tuple #[.agg #[.slice lb ln lc, Val.i x, .slice none 0 0, .slice none 0 0, Val.u 0, Val.u 0, Val.u 0, Val.u 0], Val.i y, .bool false]) := by
  obtain ⟨bb, bc, rfl⟩ := hb.slice
  generalize hRES : rowGetM b true at_ = RES
  unfold rowGetM at hRES
  refine enter (args := [_, _]) Tryz.func61 rfl ?_
  simp [Tryz.f61, go_sem]
  unfold NewP
  intro t4 ht4
  refine ⟨.own t4 0 112, ?_⟩
  have hc4 := upd_same st t4 (.cells true [.slice none 0 0, Val.i 0, .slice none 0 0, .slice none 0 0, Val.u 0, Val.u 0, Val.u 0, Val.u 0] 8 (.own t4 0 112))
  have k1 := (New.refl st).add (b := t4) (o := .cells true [.slice none 0 0, Val.i 0, .slice none 0 0, .slice none 0 0, Val.u 0, Val.u 0, Val.u 0, Val.u 0] 8 (.own t4 0 112)) ht4
  simp [go_sem]
  generalize upd st t4 (.cells true [.slice none 0 0, Val.i 0, .slice none 0 0, .slice none 0 0, Val.u 0, Val.u 0, Val.u 0, Val.u 0] 8 (.own t4 0 112)) = s1 at *
  intro t7 ht7
  refine ⟨.own t7 0 111, ?_⟩
  have hc7 := upd_same s1 t7 (.cells true [.slice none 0 0, Val.i 0, .slice none 0 0, .slice none 0 0, Val.u 0, Val.u 0, Val.u 0, Val.u 0] 8 (.own t7 0 111))
  have k2 := (New.refl s1).add (b := t7) (o := .cells true [.slice none 0 0, Val.i 0, .slice none 0 0, .slice none 0 0, Val.u 0, Val.u 0, Val.u 0, Val.u 0] 8 (.own t7 0 111)) ht7
  have n47 := ne_of_new hc4 ht7
  have n74 := Ne.symm n47
  have hc4' := k2 _ _ hc4
  have ht7s := k1.none ht7
  simp [go_sem]
  generalize upd s1 t7 (.cells true [.slice none 0 0, Val.i 0, .slice none 0 0, .slice none 0 0, Val.u 0, Val.u 0, Val.u 0, Val.u 0] 8 (.own t7 0 111)) = s2 at *
  have K2 := k1.trans k2
  clear hc4 k1 k2
  refine (labelGet_spec (hb.new K2) hl).mono ?_
  rintro e s3 ⟨k3, hR⟩
  have hc4 := k3 _ _ hc4'
  have hd7 := k3 _ _ hc7
  have K3 := K2.trans k3
  cases h1 : labGetM b at_ with
  | none =>
    rw [h1] at hR hRES
    simp at hR hRES
    subst hR
    subst hRES
    simp [go_sem, hd7, hc4, n47, n74]
    refine RetI_cell_two ?_
    simp [go_sem]
    exact (K3.put ht7s).put ht4
  | some p =>
  obtain ⟨l, a1⟩ := p
  rw [h1] at hR hRES
  simp only [Option.bind_some] at hRES
  obtain ⟨v, rfl, hV3, -⟩ := hR
  obtain ⟨lbb, lcc, rfl⟩ := hV3.slice
  have hH4 := (hV3.reg.toF Free.ty).free (pfree (o := .cells true [.slice lbb l.length lcc, Val.i 0, .slice none 0 0, .slice none 0 0, Val.u 0, Val.u 0, Val.u 0, Val.u 0] 8 (.own t7 0 111)) hd7)
  have hc7' := upd_same s3 t7 (.cells true [.slice lbb l.length lcc, Val.i 0, .slice none 0 0, .slice none 0 0, Val.u 0, Val.u 0, Val.u 0, Val.u 0] 8 (.own t7 0 111))
  have hc4' : upd s3 t7 (.cells true [.slice lbb l.length lcc, Val.i 0, .slice none 0 0, .slice none 0 0, Val.u 0, Val.u 0, Val.u 0, Val.u 0] 8 (.own t7 0 111)) t4 = _ := (upd_ne _ _ n47).trans hc4
  have K4 := K3.put (o := .cells true [.slice lbb l.length lcc, Val.i 0, .slice none 0 0, .slice none 0 0, Val.u 0, Val.u 0, Val.u 0, Val.u 0] 8 (.own t7 0 111)) ht7s
  simp [go_sem, hd7]
  generalize upd s3 t7 (.cells true [.slice lbb l.length lcc, Val.i 0, .slice none 0 0, .slice none 0 0, Val.u 0, Val.u 0, Val.u 0, Val.u 0] 8 (.own t7 0 111)) = s4 at *
  clear hc4 hd7 hc7
  refine (vGetInt_spec (hb.new K4) hl).mono ?_
  rintro e s5 ⟨rfl, rfl⟩
  cases h2 : vgetIntM b a1 with
  | none =>
    rw [h2] at hRES
    simp at hRES
    subst hRES
    simp [go_sem, vgetIntV, hc7', hc4', n47, n74]
    refine RetI_cell_two ?_
    simp [go_sem]
    exact (K4.put ht7s).put ht4
  | some p =>
  obtain ⟨z, a2⟩ := p
  rw [h2] at hRES
  simp only [Option.bind_some] at hRES
  have hH6 := hH4.free (pfree (o := .cells true [.slice lbb l.length lcc, Val.i z, .slice none 0 0, .slice none 0 0, Val.u 0, Val.u 0, Val.u 0, Val.u 0] 8 (.own t7 0 111)) hc7')
  have hc7'' := upd_same s5 t7 (.cells true [.slice lbb l.length lcc, Val.i z, .slice none 0 0, .slice none 0 0, Val.u 0, Val.u 0, Val.u 0, Val.u 0] 8 (.own t7 0 111))
  have hc4'' : upd s5 t7 (.cells true [.slice lbb l.length lcc, Val.i z, .slice none 0 0, .slice none 0 0, Val.u 0, Val.u 0, Val.u 0, Val.u 0] 8 (.own t7 0 111)) t4 = _ := (upd_ne _ _ n47).trans hc4'
  have K6 := K4.put (o := .cells true [.slice lbb l.length lcc, Val.i z, .slice none 0 0, .slice none 0 0, Val.u 0, Val.u 0, Val.u 0, Val.u 0] 8 (.own t7 0 111)) ht7s
  simp [go_sem, vgetIntV, hc7']
  generalize upd s5 t7 (.cells true [.slice lbb l.length lcc, Val.i z, .slice none 0 0, .slice none 0 0, Val.u 0, Val.u 0, Val.u 0, Val.u 0] 8 (.own t7 0 111)) = s6 at *
  refine (pairGet_spec (hb.new K6) hl).mono ?_
  rintro e s7 ⟨k7, hR⟩
  have hc4 := k7 _ _ hc4''
  have hd7 := k7 _ _ hc7''
  have K7 := K6.trans k7
  cases h3 : skGetM b true a2 with
  | none =>
    rw [h3] at hR hRES
    simp at hR hRES
    subst hR
    subst hRES
    unfold zeroSkC
    simp [go_sem, hd7, hc4, n47, n74]
    refine RetI_cell_two ?_
    simp [go_sem]
    exact (K7.put ht7s).put ht4
  | some p =>
  obtain ⟨s, a3⟩ := p
  rw [h3] at hR hRES
  simp only [Option.map_some] at hRES
  obtain ⟨hbb, hcc, kbb, kcc, rfl, hS⟩ := hR
  subst hRES
  simp [go_sem, hd7, hc4, n47, n74]
  refine RetI_cell_two ?_
  simp [go_sem]
  have hpf1 := pfree (o := .cells true [.slice lbb l.length lcc, Val.i z, .slice hbb s.hist.length hcc, .slice kbb s.hashes.length kcc, Val.u s.g.n, Val.u s.g.nans, Val.u s.g.lo, Val.u s.g.hi] 8 (.own t7 0 111)) hd7
  have hc4x : upd s7 t7 (.cells true [.slice lbb l.length lcc, Val.i z, .slice hbb s.hist.length hcc, .slice kbb s.hashes.length kcc, Val.u s.g.n, Val.u s.g.nans, Val.u s.g.lo, Val.u s.g.hi] 8 (.own t7 0 111)) t4 = _ := (upd_ne _ _ n47).trans hc4
  have hpf2 := pfree (o := .cells true [.slice lbb l.length lcc, Val.i z, .slice hbb s.hist.length hcc, .slice kbb s.hashes.length kcc, Val.u s.g.n, Val.u s.g.nans, Val.u s.g.lo, Val.u s.g.hi] 8 (.own t4 0 112)) hc4x
  exact ⟨(K7.put ht7s).put ht4, _, _, _, _, _, _, ⟨⟨rfl, rfl⟩, ⟨rfl, rfl⟩, rfl, rfl⟩, _, _, rfl, ((hH6.new k7).free hpf1).free hpf2, SkAt.freeK hpf2 (SkAt.freeK hpf1 hS)⟩
theorem walTomb_spec {bv : Value} {b : Bs} {g0 : Tg} {at_ : Int} (hb : Reg st g0 1 bv (bytesV b) b.length) (hg : Free g0) (hl : b.length < 2 ^ 60) :
    ICalls Tryz.prog W0 62 #[bv, Val.i at_] st fun e st' => New st st' ∧ match delGetM b at_ with
      | some (t, a) => ∃ a0 a1 a2 a3 a4, e = .returned (.tuple #[.agg #[Val.i 0, a0, a1, a2, a3, a4, Val.i t.2.1, Val.i t.2.2], Val.i a, .bool true]) ∧ MatAt st' [a0, a1, a2, a3, a4] t.1
      | none => ∃ op name value vb vn vc kb kn kc x y z, e = .returned (.tuple #[.agg #[Val.i 0, Val.i op, .string name, .string value, .slice vb vn vc, .slice kb kn kc, Val.i x, Val.i y], Val.i z, .bool false]) := by
  obtain ⟨bb, bc, rfl⟩ := hb.slice
  generalize hRES : delGetM b at_ = RES
  unfold delGetM at hRES
  refine enter (args := [_, _]) Tryz.func62 rfl ?_
  simp [Tryz.f62, go_sem]
  unfold NewP
  intro t4 ht4
  refine ⟨.own t4 0 112, ?_⟩
  have hc4 := upd_same st t4 (.cells true [Val.i 0, Val.i 0, .string ⟨#[]⟩, .string ⟨#[]⟩, .slice none 0 0, .slice none 0 0, Val.i 0, Val.i 0] 8 (.own t4 0 112))
  have k1 := (New.refl st).add (b := t4) (o := .cells true [Val.i 0, Val.i 0, .string ⟨#[]⟩, .string ⟨#[]⟩, .slice none 0 0, .slice none 0 0, Val.i 0, Val.i 0] 8 (.own t4 0 112)) ht4
  simp [go_sem]
  generalize upd st t4 (.cells true [Val.i 0, Val.i 0, .string ⟨#[]⟩, .string ⟨#[]⟩, .slice none 0 0, .slice none 0 0, Val.i 0, Val.i 0] 8 (.own t4 0 112)) = s1 at *
  intro t7 ht7
  refine ⟨.own t7 0 111, ?_⟩
  have hc7 := upd_same s1 t7 (.cells true [Val.i 0, Val.i 0, .string ⟨#[]⟩, .string ⟨#[]⟩, .slice none 0 0, .slice none 0 0, Val.i 0, Val.i 0] 8 (.own t7 0 111))
  have k2 := (New.refl s1).add (b := t7) (o := .cells true [Val.i 0, Val.i 0, .string ⟨#[]⟩, .string ⟨#[]⟩, .slice none 0 0, .slice none 0 0, Val.i 0, Val.i 0] 8 (.own t7 0 111)) ht7
  have n47 := ne_of_new hc4 ht7
  have n74 := Ne.symm n47
  have hc4' := k2 _ _ hc4
  have ht7s := k1.none ht7
  simp [go_sem]
  generalize upd s1 t7 (.cells true [Val.i 0, Val.i 0, .string ⟨#[]⟩, .string ⟨#[]⟩, .slice none 0 0, .slice none 0 0, Val.i 0, Val.i 0] 8 (.own t7 0 111)) = s2 at *
  have K2 := k1.trans k2
  clear hc4 k1 k2
  refine (matGet_spec hl (hb.new K2) hg).mono ?_
  rintro e s3 ⟨k3, hR⟩
  have hc4 := k3 _ _ hc4'
  have hd7 := k3 _ _ hc7
  have K3 := K2.trans k3
  cases h1 : getMatM b at_ with
  | none =>
    rw [h1] at hR hRES
    simp at hR hRES
    subst hR
    subst hRES
    unfold zeroMat
    simp [go_sem, hd7, hc4, n47, n74]
    refine RetI_cell_two ?_
    simp [go_sem]
    exact (K3.put ht7s).put ht4
  | some p =>
  obtain ⟨m, a1⟩ := p
  rw [h1] at hR hRES
  simp only [Option.bind_some] at hRES
  obtain ⟨cs, rfl, hM3⟩ := hR
  have hM30 := hM3
  obtain ⟨op, name, value, vals, kids⟩ := m
  unfold MatAt at hM3
  obtain ⟨vv, kv, ks, rfl, hv, hk, hkids⟩ := hM3
  obtain ⟨vb, vc, rfl⟩ := hv.slice
  obtain ⟨kb, kc, rfl⟩ := hk.slice
  have hM4 := MatAt.free (pfree (o := .cells true [Val.i 0, Val.i op, .string name, .string value, .slice vb vals.length vc, .slice kb kids.length kc, Val.i 0, Val.i 0] 8 (.own t7 0 111)) hd7) hM30
  have hc7' := upd_same s3 t7 (.cells true [Val.i 0, Val.i op, .string name, .string value, .slice vb vals.length vc, .slice kb kids.length kc, Val.i 0, Val.i 0] 8 (.own t7 0 111))
  have hc4' : upd s3 t7 (.cells true [Val.i 0, Val.i op, .string name, .string value, .slice vb vals.length vc, .slice kb kids.length kc, Val.i 0, Val.i 0] 8 (.own t7 0 111)) t4 = _ := (upd_ne _ _ n47).trans hc4
  have K4 := K3.put (o := .cells true [Val.i 0, Val.i op, .string name, .string value, .slice vb vals.length vc, .slice kb kids.length kc, Val.i 0, Val.i 0] 8 (.own t7 0 111)) ht7s
  simp [go_sem, hd7]
  generalize upd s3 t7 (.cells true [Val.i 0, Val.i op, .string name, .string value, .slice vb vals.length vc, .slice kb kids.length kc, Val.i 0, Val.i 0] 8 (.own t7 0 111)) = s4 at *
  clear hc4 hd7 hc7
  refine (vGetInt_spec (hb.new K4) hl).mono ?_
  rintro e s5 ⟨rfl, rfl⟩
  cases h2 : vgetIntM b a1 with
  | none =>
    rw [h2] at hRES
    simp at hRES
    subst hRES
    simp [go_sem, vgetIntV, hc7', hc4', n47, n74]
    refine RetI_cell_two ?_
    simp [go_sem]
    exact (K4.put ht7s).put ht4
  | some p =>
  obtain ⟨f, a2⟩ := p
  rw [h2] at hRES
  simp only [Option.bind_some] at hRES
  have hM6 := MatAt.free (pfree (o := .cells true [Val.i 0, Val.i op, .string name, .string value, .slice vb vals.length vc, .slice kb kids.length kc, Val.i f, Val.i 0] 8 (.own t7 0 111)) hc7') hM4
  have hc7'' := upd_same s5 t7 (.cells true [Val.i 0, Val.i op, .string name, .string value, .slice vb vals.length vc, .slice kb kids.length kc, Val.i f, Val.i 0] 8 (.own t7 0 111))
  have hc4'' : upd s5 t7 (.cells true [Val.i 0, Val.i op, .string name, .string value, .slice vb vals.length vc, .slice kb kids.length kc, Val.i f, Val.i 0] 8 (.own t7 0 111)) t4 = _ := (upd_ne _ _ n47).trans hc4'
  have K6 := K4.put (o := .cells true [Val.i 0, Val.i op, .string name, .string value, .slice vb vals.length vc, .slice kb kids.length kc, Val.i f, Val.i 0] 8 (.own t7 0 111)) ht7s
  simp [go_sem, vgetIntV, hc7']
  generalize upd s5 t7 (.cells true [Val.i 0, Val.i op, .string name, .string value, .slice vb vals.length vc, .slice kb kids.length kc, Val.i f, Val.i 0] 8 (.own t7 0 111)) = s6 at *
  refine (vGetInt_spec (hb.new K6) hl).mono ?_
  rintro e s7 ⟨rfl, rfl⟩
  cases h3 : vgetIntM b a2 with
  | none =>
    rw [h3] at hRES
    simp at hRES
    subst hRES
    simp [go_sem, vgetIntV, hc7'', hc4'', n47, n74]
    refine RetI_cell_two ?_
    simp [go_sem]
    exact (K6.put ht7s).put ht4
  | some p =>
  obtain ⟨z, a3⟩ := p
  rw [h3] at hRES
  simp only [Option.map_some] at hRES
  subst hRES
  simp [go_sem, vgetIntV, hc7'', hc4'', n47, n74]
  refine RetI_cell_two ?_
  simp [go_sem]
  have hpf1 := pfree (o := .cells true [Val.i 0, Val.i op, .string name, .string value, .slice vb vals.length vc, .slice kb kids.length kc, Val.i f, Val.i z] 8 (.own t7 0 111)) hc7''
  have hc4x : upd s7 t7 (.cells true [Val.i 0, Val.i op, .string name, .string value, .slice vb vals.length vc, .slice kb kids.length kc, Val.i f, Val.i z] 8 (.own t7 0 111)) t4 = _ := (upd_ne _ _ n47).trans hc4''
  have hpf2 := pfree (o := .cells true [Val.i 0, Val.i op, .string name, .string value, .slice vb vals.length vc, .slice kb kids.length kc, Val.i f, Val.i z] 8 (.own t4 0 112)) hc4x
  exact ⟨(K6.put ht7s).put ht4, _, _, _, _, _, ⟨rfl, rfl, rfl, rfl, rfl⟩, MatAt.free hpf2 (MatAt.free hpf1 hM6)⟩
def zeroRcC : List Value := [Val.i 0, Val.i 0, .slice none 0 0, Val.i 0, .slice none 0 0, .slice none 0 0, Val.u 0, Val.u 0, Val.u 0, Val.u 0, Val.i 0, Val.i 0, .string ⟨#[]⟩, .string ⟨#[]⟩, .slice none 0 0, .slice none 0 0, Val.i 0, Val.i 0]
theorem getRec_spec {bv : Value} {b : Bs} {g0 : Tg} (hb : Reg st g0 1 bv (bytesV b) b.length) (hg : Free g0) (hl : b.length < 2 ^ 60) :
    ICalls Tryz.prog W0 14 #[bv] st fun e st' => New st st' ∧ match recGetM b true with
      | some r => ∃ cs : List Value, e = .returned (.tuple #[.agg cs.toArray, .bool true]) ∧ RcAt st' cs r
      | none => e = .returned (.tuple #[.agg zeroRcC.toArray, .bool false]) := by
  obtain ⟨bb, bc, rfl⟩ := hb.slice
  generalize hRES : recGetM b true = RES
  unfold recGetM at hRES
  unfold zeroRcC
  refine enter (args := [_]) Tryz.func14 rfl ?_
  simp [Tryz.f14, go_sem]
  unfold NewP
  intro t2 ht2
  refine ⟨.own t2 0 112, ?_⟩
  have hc2 := upd_same st t2 (.cells true [Val.i 0, Val.i 0, .slice none 0 0, Val.i 0, .slice none 0 0, .slice none 0 0, Val.u 0, Val.u 0, Val.u 0, Val.u 0, Val.i 0, Val.i 0, .string ⟨#[]⟩, .string ⟨#[]⟩, .slice none 0 0, .slice none 0 0, Val.i 0, Val.i 0] 18 (.own t2 0 112))
  have k1 := (New.refl st).add (b := t2) (o := .cells true [Val.i 0, Val.i 0, .slice none 0 0, Val.i 0, .slice none 0 0, .slice none 0 0, Val.u 0, Val.u 0, Val.u 0, Val.u 0, Val.i 0, Val.i 0, .string ⟨#[]⟩, .string ⟨#[]⟩, .slice none 0 0, .slice none 0 0, Val.i 0, Val.i 0] 18 (.own t2 0 112)) ht2
  simp [go_sem]
  generalize upd st t2 (.cells true [Val.i 0, Val.i 0, .slice none 0 0, Val.i 0, .slice none 0 0, .slice none 0 0, Val.u 0, Val.u 0, Val.u 0, Val.u 0, Val.i 0, Val.i 0, .string ⟨#[]⟩, .string ⟨#[]⟩, .slice none 0 0, .slice none 0 0, Val.i 0, Val.i 0] 18 (.own t2 0 112)) = s1 at *
  intro t4 ht4
  refine ⟨.own t4 0 111, ?_⟩
  have hc4 := upd_same s1 t4 (.cells true [Val.i 0, Val.i 0, .slice none 0 0, Val.i 0, .slice none 0 0, .slice none 0 0, Val.u 0, Val.u 0, Val.u 0, Val.u 0, Val.i 0, Val.i 0, .string ⟨#[]⟩, .string ⟨#[]⟩, .slice none 0 0, .slice none 0 0, Val.i 0, Val.i 0] 18 (.own t4 0 111))
  have k2 := (New.refl s1).add (b := t4) (o := .cells true [Val.i 0, Val.i 0, .slice none 0 0, Val.i 0, .slice none 0 0, .slice none 0 0, Val.u 0, Val.u 0, Val.u 0, Val.u 0, Val.i 0, Val.i 0, .string ⟨#[]⟩, .string ⟨#[]⟩, .slice none 0 0, .slice none 0 0, Val.i 0, Val.i 0] 18 (.own t4 0 111)) ht4
  have n24 := ne_of_new hc2 ht4
  have n42 := Ne.symm n24
  have hc2' := k2 _ _ hc2
  have ht4s := k1.none ht4
  simp [go_sem]
  generalize upd s1 t4 (.cells true [Val.i 0, Val.i 0, .slice none 0 0, Val.i 0, .slice none 0 0, .slice none 0 0, Val.u 0, Val.u 0, Val.u 0, Val.u 0, Val.i 0, Val.i 0, .string ⟨#[]⟩, .string ⟨#[]⟩, .slice none 0 0, .slice none 0 0, Val.i 0, Val.i 0] 18 (.own t4 0 111)) = s2 at *
  have K2 := k1.trans k2
  clear hc2 k1 k2
  refine (vGetInt_spec (at_ := 0) (hb.new K2) hl).mono ?_
  rintro e s3 ⟨rfl, rfl⟩
  cases h1 : vgetIntM b 0 with
  | none =>
    rw [h1] at hRES
    simp at hRES
    subst hRES
    simp [go_sem, vgetIntV, hc4, hc2', n24, n42]
    refine RetI_cell_tmp ?_
    simp [go_sem]
    exact (K2.put ht4s).put ht2
  | some p =>
  obtain ⟨seq, a1⟩ := p
  rw [h1] at hRES
  simp only [Option.bind_some] at hRES
  have hc4a := upd_same s3 t4 (.cells true [Val.i seq, Val.i 0, .slice none 0 0, Val.i 0, .slice none 0 0, .slice none 0 0, Val.u 0, Val.u 0, Val.u 0, Val.u 0, Val.i 0, Val.i 0, .string ⟨#[]⟩, .string ⟨#[]⟩, .slice none 0 0, .slice none 0 0, Val.i 0, Val.i 0] 18 (.own t4 0 111))
  have hc2a : upd s3 t4 (.cells true [Val.i seq, Val.i 0, .slice none 0 0, Val.i 0, .slice none 0 0, .slice none 0 0, Val.u 0, Val.u 0, Val.u 0, Val.u 0, Val.i 0, Val.i 0, .string ⟨#[]⟩, .string ⟨#[]⟩, .slice none 0 0, .slice none 0 0, Val.i 0, Val.i 0] 18 (.own t4 0 111)) t2 = _ := (upd_ne _ _ n24).trans hc2'
  have K3 := K2.put (o := .cells true [Val.i seq, Val.i 0, .slice none 0 0, Val.i 0, .slice none 0 0, .slice none 0 0, Val.u 0, Val.u 0, Val.u 0, Val.u 0, Val.i 0, Val.i 0, .string ⟨#[]⟩, .string ⟨#[]⟩, .slice none 0 0, .slice none 0 0, Val.i 0, Val.i 0] 18 (.own t4 0 111)) ht4s
  simp [go_sem, vgetIntV, hc4]
  generalize upd s3 t4 (.cells true [Val.i seq, Val.i 0, .slice none 0 0, Val.i 0, .slice none 0 0, .slice none 0 0, Val.u 0, Val.u 0, Val.u 0, Val.u 0, Val.i 0, Val.i 0, .string ⟨#[]⟩, .string ⟨#[]⟩, .slice none 0 0, .slice none 0 0, Val.i 0, Val.i 0] 18 (.own t4 0 111)) = s4 at *
  clear hc4 hc2'
  refine (vGet_spec (hb.new K3) hl).mono ?_
  rintro e s5 ⟨rfl, rfl⟩
  cases h2 : vgetM b a1 with
  | none =>
    rw [h2] at hRES
    simp at hRES
    subst hRES
    simp [go_sem, vgetV, hc4a, hc2a, n24, n42]
    refine RetI_cell_tmp ?_
    simp [go_sem]
    exact K3.put ht2
  | some p =>
  obtain ⟨kind, a2⟩ := p
  rw [h2] at hRES
  simp only [Option.bind_some] at hRES
  by_cases hk1 : kind = 1
  · subst hk1
    rw [if_pos rfl] at hRES
    have hc4b := upd_same s5 t4 (.cells true [Val.i seq, Val.i 1, .slice none 0 0, Val.i 0, .slice none 0 0, .slice none 0 0, Val.u 0, Val.u 0, Val.u 0, Val.u 0, Val.i 0, Val.i 0, .string ⟨#[]⟩, .string ⟨#[]⟩, .slice none 0 0, .slice none 0 0, Val.i 0, Val.i 0] 18 (.own t4 0 111))
    have hc2b : upd s5 t4 (.cells true [Val.i seq, Val.i 1, .slice none 0 0, Val.i 0, .slice none 0 0, .slice none 0 0, Val.u 0, Val.u 0, Val.u 0, Val.u 0, Val.i 0, Val.i 0, .string ⟨#[]⟩, .string ⟨#[]⟩, .slice none 0 0, .slice none 0 0, Val.i 0, Val.i 0] 18 (.own t4 0 111)) t2 = _ := (upd_ne _ _ n24).trans hc2a
    have K4 := K3.put (o := .cells true [Val.i seq, Val.i 1, .slice none 0 0, Val.i 0, .slice none 0 0, .slice none 0 0, Val.u 0, Val.u 0, Val.u 0, Val.u 0, Val.i 0, Val.i 0, .string ⟨#[]⟩, .string ⟨#[]⟩, .slice none 0 0, .slice none 0 0, Val.i 0, Val.i 0] 18 (.own t4 0 111)) ht4s
    simp [go_sem, vgetV, hc4a]
    generalize upd s5 t4 (.cells true [Val.i seq, Val.i 1, .slice none 0 0, Val.i 0, .slice none 0 0, .slice none 0 0, Val.u 0, Val.u 0, Val.u 0, Val.u 0, Val.i 0, Val.i 0, .string ⟨#[]⟩, .string ⟨#[]⟩, .slice none 0 0, .slice none 0 0, Val.i 0, Val.i 0] 18 (.own t4 0 111)) = s6 at *
    refine (rowGet_spec (hb.new K4) hl).mono ?_
    rintro e s7 ⟨k7, hR⟩
    have hc4c := k7 _ _ hc4b
    have hc2c := k7 _ _ hc2b
    have K7 := K4.trans k7
    cases h3 : rowGetM b true a2 with
    | none =>
      rw [h3] at hR hRES
      simp at hRES
      subst hRES
      obtain ⟨lb, ln, lc, x, y, rfl⟩ := hR
      simp [go_sem, hc4c, hc2c, n24, n42]
      refine RetI_cell_tmp ?_
      simp [go_sem]
      exact (K7.put ht4s).put ht2
    | some p =>
    obtain ⟨r, a3⟩ := p
    rw [h3] at hR hRES
    simp only [Option.bind_some] at hRES
    obtain ⟨lb, lc, hb1, hc, kb, kc, rfl, hRow⟩ := hR
    by_cases hend : a3 = b.length
    · have q1 : (a3 = (b.length : Int)) = True := eq_true hend
      rw [if_pos hend] at hRES
      subst hRES
      have hpf1 := pfree (o := .cells true [Val.i seq, Val.i 1, .slice lb r.labels.length lc, Val.i r.at_, .slice hb1 r.s.hist.length hc, .slice kb r.s.hashes.length kc, Val.u r.s.g.n, Val.u r.s.g.nans, Val.u r.s.g.lo, Val.u r.s.g.hi, Val.i 0, Val.i 0, .string ⟨#[]⟩, .string ⟨#[]⟩, .slice none 0 0, .slice none 0 0, Val.i 0, Val.i 0] 18 (.own t4 0 111)) hc4c
      have hc4d := upd_same s7 t4 (.cells true [Val.i seq, Val.i 1, .slice lb r.labels.length lc, Val.i r.at_, .slice hb1 r.s.hist.length hc, .slice kb r.s.hashes.length kc, Val.u r.s.g.n, Val.u r.s.g.nans, Val.u r.s.g.lo, Val.u r.s.g.hi, Val.i 0, Val.i 0, .string ⟨#[]⟩, .string ⟨#[]⟩, .slice none 0 0, .slice none 0 0, Val.i 0, Val.i 0] 18 (.own t4 0 111))
      have hc2d : upd s7 t4 (.cells true [Val.i seq, Val.i 1, .slice lb r.labels.length lc, Val.i r.at_, .slice hb1 r.s.hist.length hc, .slice kb r.s.hashes.length kc, Val.u r.s.g.n, Val.u r.s.g.nans, Val.u r.s.g.lo, Val.u r.s.g.hi, Val.i 0, Val.i 0, .string ⟨#[]⟩, .string ⟨#[]⟩, .slice none 0 0, .slice none 0 0, Val.i 0, Val.i 0] 18 (.own t4 0 111)) t2 = _ := (upd_ne _ _ n24).trans hc2c
      have hpf2 := pfree (o := .cells true [Val.i seq, Val.i 1, .slice lb r.labels.length lc, Val.i r.at_, .slice hb1 r.s.hist.length hc, .slice kb r.s.hashes.length kc, Val.u r.s.g.n, Val.u r.s.g.nans, Val.u r.s.g.lo, Val.u r.s.g.hi, Val.i 0, Val.i 0, .string ⟨#[]⟩, .string ⟨#[]⟩, .slice none 0 0, .slice none 0 0, Val.i 0, Val.i 0] 18 (.own t2 0 112)) hc2d
      have hRow' := RowAt.free hpf2 (RowAt.free hpf1 hRow)
      simp [go_sem, hc4c, hc2c, n24, n42, q1]
      refine RetI_cell_tmp ?_
      simp [go_sem]
      exact ⟨(K7.put ht4s).put ht2, _, _, rfl, hRow', _, zeroMt_at _, rfl⟩
    · have q1 : (a3 = (b.length : Int)) = False := eq_false hend
      rw [if_neg hend] at hRES
      subst hRES
      simp [go_sem, hc4c, hc2c, n24, n42, q1]
      refine RetI_cell_tmp ?_
      simp [go_sem]
      exact (K7.put ht4s).put ht2
  have hk1' : ((kind : Int) = 1) = False := eq_false (by omega)
  rw [if_neg hk1] at hRES
  by_cases hk2 : kind = 2
  · subst hk2
    rw [if_pos rfl] at hRES
    have hc4b := upd_same s5 t4 (.cells true [Val.i seq, Val.i 2, .slice none 0 0, Val.i 0, .slice none 0 0, .slice none 0 0, Val.u 0, Val.u 0, Val.u 0, Val.u 0, Val.i 0, Val.i 0, .string ⟨#[]⟩, .string ⟨#[]⟩, .slice none 0 0, .slice none 0 0, Val.i 0, Val.i 0] 18 (.own t4 0 111))
    have hc2b : upd s5 t4 (.cells true [Val.i seq, Val.i 2, .slice none 0 0, Val.i 0, .slice none 0 0, .slice none 0 0, Val.u 0, Val.u 0, Val.u 0, Val.u 0, Val.i 0, Val.i 0, .string ⟨#[]⟩, .string ⟨#[]⟩, .slice none 0 0, .slice none 0 0, Val.i 0, Val.i 0] 18 (.own t4 0 111)) t2 = _ := (upd_ne _ _ n24).trans hc2a
    have K4 := K3.put (o := .cells true [Val.i seq, Val.i 2, .slice none 0 0, Val.i 0, .slice none 0 0, .slice none 0 0, Val.u 0, Val.u 0, Val.u 0, Val.u 0, Val.i 0, Val.i 0, .string ⟨#[]⟩, .string ⟨#[]⟩, .slice none 0 0, .slice none 0 0, Val.i 0, Val.i 0] 18 (.own t4 0 111)) ht4s
    simp [go_sem, vgetV, hc4a]
    generalize upd s5 t4 (.cells true [Val.i seq, Val.i 2, .slice none 0 0, Val.i 0, .slice none 0 0, .slice none 0 0, Val.u 0, Val.u 0, Val.u 0, Val.u 0, Val.i 0, Val.i 0, .string ⟨#[]⟩, .string ⟨#[]⟩, .slice none 0 0, .slice none 0 0, Val.i 0, Val.i 0] 18 (.own t4 0 111)) = s6 at *
    refine (walTomb_spec (hb.new K4) hg hl).mono ?_
    rintro e s7 ⟨k7, hR⟩
    have hc4c := k7 _ _ hc4b
    have hc2c := k7 _ _ hc2b
    have K7 := K4.trans k7
    cases h3 : delGetM b a2 with
    | none =>
      rw [h3] at hR hRES
      simp at hRES
      subst hRES
      obtain ⟨op, name, value, vb, vn, vc, kb, kn, kc, x, y, z, rfl⟩ := hR
      simp [go_sem, hc4c, hc2c, n24, n42]
      refine RetI_cell_tmp ?_
      simp [go_sem]
      exact (K7.put ht4s).put ht2
    | some p =>
    obtain ⟨t, a3⟩ := p
    rw [h3] at hR hRES
    simp only [Option.bind_some] at hRES
    obtain ⟨a0, a1', a2', a3', a4, rfl, hM⟩ := hR
    obtain ⟨op, nm, vl, vb, vn, vc, kb, kn, kc, rfl, rfl, rfl, rfl, rfl⟩ := hM.forms
    by_cases hend : a3 = b.length
    · have q1 : (a3 = (b.length : Int)) = True := eq_true hend
      rw [if_pos hend] at hRES
      subst hRES
      have hpf1 := pfree (o := .cells true [Val.i seq, Val.i 2, .slice none 0 0, Val.i 0, .slice none 0 0, .slice none 0 0, Val.u 0, Val.u 0, Val.u 0, Val.u 0, Val.i seq, Val.i op, .string nm, .string vl, .slice vb vn vc, .slice kb kn kc, Val.i t.2.1, Val.i t.2.2] 18 (.own t4 0 111)) hc4c
      have hc2d : upd s7 t4 (.cells true [Val.i seq, Val.i 2, .slice none 0 0, Val.i 0, .slice none 0 0, .slice none 0 0, Val.u 0, Val.u 0, Val.u 0, Val.u 0, Val.i seq, Val.i op, .string nm, .string vl, .slice vb vn vc, .slice kb kn kc, Val.i t.2.1, Val.i t.2.2] 18 (.own t4 0 111)) t2 = _ := (upd_ne _ _ n24).trans hc2c
      have hpf2 := pfree (o := .cells true [Val.i seq, Val.i 2, .slice none 0 0, Val.i 0, .slice none 0 0, .slice none 0 0, Val.u 0, Val.u 0, Val.u 0, Val.u 0, Val.i seq, Val.i op, .string nm, .string vl, .slice vb vn vc, .slice kb kn kc, Val.i t.2.1, Val.i t.2.2] 18 (.own t2 0 112)) hc2d
      have hM' := MatAt.free hpf2 (MatAt.free hpf1 hM)
      simp [go_sem, hc4c, hc2c, n24, n42, q1]
      refine RetI_cell_tmp ?_
      simp [go_sem]
      exact ⟨(K7.put ht4s).put ht2, _, _, rfl, zeroR_at _, _, hM', rfl⟩
    · have q1 : (a3 = (b.length : Int)) = False := eq_false hend
      rw [if_neg hend] at hRES
      subst hRES
      simp [go_sem, hc4c, hc2c, n24, n42, q1]
      refine RetI_cell_tmp ?_
      simp [go_sem]
      exact (K7.put ht4s).put ht2
  have hk2' : ((kind : Int) = 2) = False := eq_false (by omega)
  rw [if_neg hk2] at hRES
  subst hRES
  simp [go_sem, vgetV, hc4a, hc2a, hk1, hk2, hk1', hk2', n24, n42]
  refine RetI_cell_tmp ?_
  simp [go_sem]
  exact K3.put ht2
end
end Go.Proofs.YtadgciaclhjjkaaGreat
set_option linter.unusedVariables false
set_option linter.unusedSimpArgs false
set_option maxRecDepth 100000
set_option maxHeartbeats 1000000
namespace Go.Proofs.YtadgciaclhjjkaaGreat
def plainR (r : RcD) : RcD := if r.kind = 1 then ⟨r.seq, 1, r.row, zeroT⟩ else ⟨r.seq, 2, zeroR, ⟨r.seq, r.tomb.m, r.tomb.fro, r.tomb.to⟩⟩
theorem sk_put {b : Bs} {lim : Bool} {s : SkD} {a : Nat} (ok : SkOK s) (hc : checkS s = true) (hp : Pre (skB s) b a) (ha : a ≤ b.length) : skGetM b lim (a : Int) = some (s, ((a + (skB s).length : Nat) : Int)) := by
  unfold checkS at hc
  simp only [Bool.and_eq_true] at hc
  obtain ⟨ch, ck, cg⟩ := hc
  unfold checkK at ck
  simp only [Bool.and_eq_true, decide_eq_true_eq] at ck
  unfold skB at hp ⊢
  obtain ⟨p1, p2⟩ := hp.split
  obtain ⟨p2, p3⟩ := p2.split
  have l1 := p1.len ha
  have l2 := p2.len l1
  unfold skGetM
  rw [histGet_put ch ok.hist p1 ha]
  simp only [Option.bind_some]
  rw [riseGet_put ok.hashes ck.2 ck.1 (by omega) p2 l1]
  simp only [Option.bind_some]
  rw [gauGet_put ok.g cg p3 l2]
  simp only [Option.map_some, List.length_append]
  refine congrArg some (Prod.ext rfl ?_)
  simp only
  omega
theorem row_put {b : Bs} {lim : Bool} {r : RowD} {a : Nat} (ok : RowOK r) (hl : checkL r.labels = true) (hc : checkS r.s = true) (hp : Pre (rowB r) b a) (ha : a ≤ b.length) : rowGetM b lim (a : Int) = some (r, ((a + (rowB r).length : Nat) : Int)) := by
  unfold rowB at hp ⊢
  obtain ⟨p1, p2⟩ := hp.split
  obtain ⟨p2, p3⟩ := p2.split
  have l1 := p1.len ha
  have l2 := p2.len l1
  unfold rowGetM
  rw [labGet_put hl p1 ha]
  simp only [Option.bind_some]
  rw [vgetInt_put ok.at_.1 ok.at_.2 p2]
  simp only [Option.bind_some]
  rw [sk_put ok.s hc p3 l2]
  simp only [Option.map_some, List.length_append]
  refine congrArg some (Prod.ext rfl ?_)
  simp only
  omega
theorem del_put {b : Bs} {t : TombD} {a : Nat} (f : I64 t.fro) (g : I64 t.to) (hc : checkM t.m = true) (hp : Pre (delB t) b a) (ha : a ≤ b.length) : delGetM b (a : Int) = some ((t.m, t.fro, t.to), ((a + (delB t).length : Nat) : Int)) := by
  unfold delB at hp ⊢
  obtain ⟨p1, p2⟩ := hp.split
  obtain ⟨p2, p3⟩ := p2.split
  have l1 := p1.len ha
  unfold delGetM
  rw [getMat_put hc p1 ha]
  simp only [Option.bind_some]
  rw [vgetInt_put f.1 f.2 p2]
  simp only [Option.bind_some]
  rw [vgetInt_put g.1 g.2 p3]
  simp only [Option.map_some, List.length_append]
  refine congrArg some (Prod.ext rfl ?_)
  simp only
  omega
theorem rc_kind {r : RcD} (h : rcM r = true) : r.kind = 1 ∨ r.kind = 2 := by
  unfold rcM at h
  by_cases k1 : r.kind = 1
  · exact .inl k1
  · rw [if_neg k1] at h
    by_cases k2 : r.kind = 2
    · exact .inr k2
    · rw [if_neg k2] at h; cases h
theorem rec_put {r : RcD} {lim : Bool} (hf : RcFits r) (hm : rcM r = true) : recGetM (recB r) lim = some (plainR r) := by
  have hk := rc_kind hm
  have hp0 : Pre (recB r) (recB r) 0 := List.prefix_refl _
  obtain ⟨b, hb⟩ : ∃ b, recB r = b := ⟨_, rfl⟩
  rw [hb]
  have hlen : (recB r).length = b.length := by rw [hb]
  rw [show Pre (recB r) (recB r) 0 = Pre (recB r) b 0 by rw [hb]] at hp0
  unfold recB at hp0 hlen
  obtain ⟨p1, p2⟩ := hp0.split
  obtain ⟨p2, p3⟩ := p2.split
  have l1 := p1.len (Nat.zero_le _)
  have l2 := p2.len l1
  have hkn : r.kind.toNat < 2 ^ 64 := by omega
  unfold recGetM
  have e0 : ((0 : Nat) : Int) = 0 := rfl
  have h1 := vgetInt_put hf.seq.1 hf.seq.2 p1
  rw [e0] at h1
  rw [h1]
  simp only [Option.bind_some]
  rw [vget_put hkn p2]
  simp only [Option.bind_some]
  simp only [List.length_append] at hlen
  unfold rcM at hm
  unfold plainR
  rcases hk with hk | hk
  · rw [if_pos hk] at hm p3 hlen ⊢
    simp only [Bool.and_eq_true] at hm
    rw [if_pos (by omega), row_put hf.row hm.1 hm.2 p3 l2]
    simp only [Option.bind_some]
    rw [if_pos (by omega)]
  · have hk1 : ¬ r.kind = 1 := by omega
    rw [if_neg hk1, if_pos hk] at hm
    rw [if_neg hk1] at p3 hlen ⊢
    rw [if_neg (by omega), if_pos (by omega), del_put hf.fro hf.to hm p3 l2]
    simp only [Option.bind_some]
    rw [if_pos (by omega)]
end Go.Proofs.YtadgciaclhjjkaaGreat
