/- Manifests: whether they may be, by the program and by the document. -/
import Derived.Test.YtahgfnbkkfpcnaaGreatC17
import Derived.Test.YtahgfnbkkfpcnaaGreatC09
set_option linter.unusedVariables false
set_option linter.unusedSimpArgs false
set_option maxRecDepth 100000
set_option maxHeartbeats 8000000
namespace Go.Proofs.YtahgfnbkkfpcnaaGreat
open Go.RowKit (Below)
theorem z1d {st : Heap} {size len : Nat} {v : Value} {ys : List Value} (h : RegF st size v ys len) (hl : 0 < len) : ∃ mb off cap rw zs m g, v = .slice (some ⟨mb, off, none⟩) len cap ∧ st mb = some (.cells rw zs m g) ∧
  ∀ j, j < len → off + j * size + size ≤ zs.length ∧ (zs.drop (off + j * size)).take size = (ys.drop (j * size)).take size ∧ ∀ c, c < size → zs[off + j * size + c]? = ((ys.drop (j * size)).take size)[c]? := by
 obtain ⟨g, hg, hlen, base, cap, rfl, hc, hreg⟩ := h
 rcases hreg with h0 | ⟨mb, off, rw_, zs, m, rfl, hs, hp, ho⟩
 ·omega
 refine ⟨mb, off, cap, rw_, zs, m, g, rfl, hs, fun j hj => ?_⟩
 obtain ⟨t, ht⟩ := hp
 have hl2 : ys.length + t.length = zs.length - off := by
  have := congrArg List.length ht
  rw [List.length_append, List.length_drop] at this
  exact this
 have hm : j * size + size ≤ len * size := by rw [← Nat.succ_mul]; exact Nat.mul_le_mul_right _ hj
 have a1 : j * size ≤ ys.length := by omega
 have a2 : size ≤ (ys.drop (j * size)).length := by rw [List.length_drop]; omega
 have hcell : (zs.drop (off + j * size)).take size = (ys.drop (j * size)).take size := by
  rw [← List.drop_drop, ← ht, List.drop_append_of_le_length a1, List.take_append_of_le_length a2]
 refine ⟨by omega, hcell, fun c hc => ?_⟩
 rw [← hcell, List.getElem?_take, if_pos hc, List.getElem?_drop]
structure ManD where
 seq : Int
 log : Int
 next : Int
 now : Int
 blocks : List MetaD
 tombs : List TombD
def z2n (ys : List Value) (xs : List MetaD) : Prop := ∀ i x, xs[i]? = some x → (ys.drop (i * 7)).take 7 = x.cells
def z13 (st : Heap) (ys : List Value) (xs : List TombD) : Prop := ∀ i x, xs[i]? = some x → z2i st ((ys.drop (i * 8)).take 8) x
def ManAt (st : Heap) (cs : List Value) (m : ManD) : Prop := ∃ bv tv bs ts, cs = [Val.i m.seq, Val.i m.log, Val.i m.next, Val.i m.now, bv, tv] ∧ RegF st 7 bv bs m.blocks.length ∧ z2n bs m.blocks ∧ RegF st 8 tv ts m.tombs.length ∧ z13 st ts m.tombs
theorem z2i.mono {st st' : Heap} (hR : ∀ size v xs len, RegF st size v xs len → RegF st' size v xs len) {cs : List Value} {t : TombD} (h : z2i st cs t) : z2i st' cs t := by
 obtain ⟨ms, h1, h2⟩ := h
 exact ⟨ms, MatAt.mono hR _ _ h1, h2⟩
theorem ManAt.mono {st st' : Heap} (hR : ∀ size v xs len, RegF st size v xs len → RegF st' size v xs len) {cs : List Value} {m : ManD} (h : ManAt st cs m) : ManAt st' cs m := by
 obtain ⟨bv, tv, bs, ts, h1, h2, h3, h4, h5⟩ := h
 exact ⟨bv, tv, bs, ts, h1, hR _ _ _ _ h2, h3, hR _ _ _ _ h4, fun i x hx => (h5 i x hx).mono hR⟩
theorem ManAt.new {st st' : Heap} (hk : New st st') {cs : List Value} {m : ManD} (h : ManAt st cs m) : ManAt st' cs m := h.mono (fun _ _ _ _ h => h.new hk)
def z0s (l : List Int) (i : Nat) : Option Int := if i = 0 then none else l[i - 1]?
def z1t (p : Option Int) (x : Int) : Bool := match p with | none => true | some q => decide (q < x)
def z33 (next seq : Int) : Option Int → List MetaD → Bool
 | _, [] => true
 | p, x :: r => decide (z0b x) && decide (x.id < next) && decide (x.done ≤ seq) && z1t p x.id && z33 next seq (some x.id) r
def z1l (seq : Int) : Option Int → List TombD → Bool
 | _, [] => true
 | p, x :: r => decide (z1g x) && decide (x.seq ≤ seq) && z1t p x.seq && z1l seq (some x.seq) r
def z1f (m : ManD) : Prop := 0 ≤ m.seq ∧ m.seq ≤ 1099511627776 ∧ z0m m.log ∧ z0m m.next ∧ 0 ≤ m.now ∧ m.now < 1099511627776 ∧ m.blocks.length ≤ 900 ∧ m.tombs.length ≤ 64
instance (m : ManD) : Decidable (z1f m) := by unfold z1f; infer_instance
def manM (m : ManD) : Bool := decide (z1f m) && z33 m.next m.seq none m.blocks && z1l m.seq none m.tombs
section
variable {W0 : World} {st : Heap}
theorem z92 {cs : List Value} {m : ManD} (h : ManAt st cs m) : z00 Tryz.prog W0 99 #[.agg cs.toArray] st fun e st' => e = .returned (.bool (manM m)) ∧ New st st' := by
 obtain ⟨bv, tv, bs, ts, rfl, hb, hbs, ht, hts⟩ := h
 obtain ⟨bb, bc, rfl⟩ := hb.slice
 obtain ⟨tb, tc, rfl⟩ := ht.slice
 refine enter (args := [_]) Tryz.func99 rfl ?_
 generalize hRES : manM m = RES
 unfold manM at hRES
 refine IW_cut (fun E' st' => ∃ tm, New st st' ∧ E' 1 = ptr tm ∧ st' tm = some (.cells true [Val.i m.seq, Val.i m.log, Val.i m.next, Val.i m.now, .slice bb m.blocks.length bc, .slice tb m.tombs.length tc] 6 (.ty 0))) ?_ ?_
 ·simp [go_sem]
  unfold NewP
  intro tm htm
  refine ⟨.ty 0, ?_⟩
  simp [go_sem]
  exact (New.refl _).add htm
 rintro E1 st1 ⟨tm, hk1, e1, htm⟩
 have hno : ¬ z1f m → RES = false := fun h => by rw [← hRES, decide_eq_false h]; simp
 refine z1a (fun E' st' => z1f m ∧ New st st' ∧ E' 1 = ptr tm ∧ st' tm = some (.cells true [Val.i m.seq, Val.i m.log, Val.i m.next, Val.i m.now, .slice bb m.blocks.length bc, .slice tb m.tombs.length tc] 6 (.ty 0))) ?_ ?_
 ·by_cases c0 : m.seq < 0
  ·have q_c0 := eq_true c0
   have := hno (fun h => by unfold z1f at h; omega)
   subst this
   simp [go_sem, e1, htm, q_c0]
   exact hk1
  have q_c0 := eq_false c0
  by_cases c1 : 1099511627776 < m.seq
  ·have q_c1 := eq_true c1
   have := hno (fun h => by unfold z1f at h; omega)
   subst this
   simp [go_sem, e1, htm, q_c0, q_c1]
   exact hk1
  have q_c1 := eq_false c1
  simp [go_sem, e1, htm, q_c0, q_c1]
  refine zit.mono ?_
  rintro e stn0 ⟨⟨r0, rfl, ha0, hb0⟩, hkx0⟩
  have htm := hkx0 _ _ htm
  have hkn0 := hk1.trans hkx0
  by_cases n0 : z0m m.log
  rotate_left
  ·have := hb0 n0
   subst this
   have := hno (fun h => n0 h.2.2.1)
   subst this
   simp [go_sem, e1, htm]
   exact hkn0
  have q_n0 := eq_false (ha0 n0)
  simp [go_sem, e1, htm, q_n0]
  refine za0.mono ?_
  rintro e stn1 ⟨⟨r1, rfl, ha1, hb1⟩, hkx1⟩
  have htm := hkx1 _ _ htm
  have hkn1 := hkn0.trans hkx1
  by_cases n1 : z0m m.next
  rotate_left
  ·have := hb1 n1
   subst this
   have := hno (fun h => n1 h.2.2.2.1)
   subst this
   simp [go_sem, e1, htm]
   exact hkn1
  have q_n1 := eq_false (ha1 n1)
  by_cases d0 : m.now < 0
  ·have q_d0 : (m.now < 0) = True := eq_true (by omega)
   have := hno (fun h => by unfold z1f at h; omega)
   subst this
   simp [go_sem, e1, htm, q_n1, q_d0]
   exact hkn1
  have q_d0 : (m.now < 0) = False := eq_false (by omega)
  by_cases d1 : 1099511627776 ≤ m.now
  ·have q_d1 : (1099511627776 ≤ m.now) = True := eq_true (by omega)
   have := hno (fun h => by unfold z1f at h; omega)
   subst this
   simp [go_sem, e1, htm, q_n1, q_d0, q_d1]
   exact hkn1
  have q_d1 : (1099511627776 ≤ m.now) = False := eq_false (by omega)
  by_cases d2 : 900 < m.blocks.length
  ·have q_d2 : ((900 : Int) < m.blocks.length) = True := eq_true (by omega)
   have := hno (fun h => by unfold z1f at h; omega)
   subst this
   simp [go_sem, e1, htm, q_n1, q_d0, q_d1, q_d2]
   exact hkn1
  have q_d2 : ((900 : Int) < m.blocks.length) = False := eq_false (by omega)
  by_cases d3 : 64 < m.tombs.length
  ·have q_d3 : ((64 : Int) < m.tombs.length) = True := eq_true (by omega)
   have := hno (fun h => by unfold z1f at h; omega)
   subst this
   simp [go_sem, e1, htm, q_n1, q_d0, q_d1, q_d2, q_d3]
   exact hkn1
  have q_d3 : ((64 : Int) < m.tombs.length) = False := eq_false (by omega)
  simp [go_sem, e1, htm, q_n1, q_d0, q_d1, q_d2, q_d3]
  exact ⟨⟨by omega, by omega, n0, n1, by omega, by omega, by omega, by omega⟩, hkn1⟩
 clear htm hk1 e1
 rintro E2 st2 ⟨hhead, hk2, e1, htm⟩
 rw [decide_eq_true hhead] at hRES
 simp only [Bool.true_and] at hRES
 clear hno
 obtain ⟨hh1, hh2, hh3, hh4, hh5, hh6, hh7, hh8⟩ := hhead
 refine z1a (fun E' st' => z1l m.seq none m.tombs = RES ∧ New st st' ∧ E' 1 = ptr tm ∧ st' tm = some (.cells true [Val.i m.seq, Val.i m.log, Val.i m.next, Val.i m.now, .slice bb m.blocks.length bc, .slice tb m.tombs.length tc] 6 (.ty 0))) ?_ ?_
 ·simp [go_sem, e1, htm]
  refine ⟨fun E st' => New st st' ∧ E 1 = ptr tm ∧ E 50 = .slice bb m.blocks.length bc ∧ E 51 = Val.i m.blocks.length ∧ st' tm = some (.cells true [Val.i m.seq, Val.i m.log, Val.i m.next, Val.i m.now, .slice bb m.blocks.length bc, .slice tb m.tombs.length tc] 6 (.ty 0)) ∧ ∃ i : Nat, E 52 = Val.i i ∧ i ≤ m.blocks.length ∧ (z33 m.next m.seq (z0s (m.blocks.map (·.id)) i) (m.blocks.drop i) && z1l m.seq none m.tombs) = RES,
   fun E _ => match E 52 with | .int _ i => m.blocks.length - i.toNat | _ => 0, ⟨st2, .rfl' _, hk2, by simp [go_sem, e1], by simp [go_sem], by simp [go_sem], htm, 0, by simp [go_sem], by omega, by simpa [z0s] using hRES⟩, ?_⟩
  clear hk2 htm e1 hRES
  rintro E st5 ⟨hk5, e1, e50, e51, htm, i, ei, hi, hrec⟩
  by_cases hlt : i < m.blocks.length
  ·have hlt' : ((i : Int) < m.blocks.length) = True := eq_true (by omega)
   have hwi := wrS i (by omega)
   obtain ⟨mb, off, cap, rw_, zs, mm, g, hv, hs, hget⟩ := z1d (hb.new hk5) (by omega)
   injection hv with v1 v2 v3
   subst v1; subst v3
   obtain ⟨hlen, hcell, hc⟩ := hget i hlt
   have hx : m.blocks[i]? = some m.blocks[i] := List.getElem?_eq_getElem hlt
   have hd : m.blocks.drop i = m.blocks[i] :: m.blocks.drop (i + 1) := List.drop_eq_getElem_cons hlt
   have hprev : z0s (m.blocks.map (·.id)) (i + 1) = some m.blocks[i].id := by simp [z0s, hx]
   rw [hd] at hrec
   rw [hbs i _ hx] at hcell
   unfold z33 at hrec
   have hprev0 : i ≠ 0 → ∃ q, z0s (m.blocks.map (·.id)) i = some q ∧ zs[off + (i - 1) * 7]? = some (Val.i q) := by
    intro h0
    have h1 : i - 1 < m.blocks.length := by omega
    obtain ⟨-, -, hc1⟩ := hget (i - 1) h1
    have hx1 : m.blocks[i - 1]? = some m.blocks[i - 1] := List.getElem?_eq_getElem h1
    refine ⟨m.blocks[i - 1].id, by simp [z0s, h0, hx1], ?_⟩
    have := hc1 0 (by omega)
    rw [hbs _ _ hx1] at this
    simpa [MetaD.cells] using this
   generalize m.blocks[i] = x at *
   unfold MetaD.cells at hcell
   simp [go_sem, e1, e50, e51, ei, htm, hlt', hlt, hs, hlen, hcell]
   unfold NewP
   intro tx htx
   refine ⟨.ty 0, ?_⟩
   have htn : tm ≠ tx := ne_of_new htm htx
   have hmn : mb ≠ tx := ne_of_new hs htx
   simp [go_sem, e1, e50, e51, ei, htm, hlt', hlt, hs, hlen, hcell, htn, hmn]
   have HN9 : New st5 (upd st5 tx (.cells true [Val.i x.id, Val.i x.level, Val.i x.day, Val.i x.lo, Val.i x.hi, Val.i x.done, Val.i x.rows] 7 (.ty 0))) := (New.refl _).add htx
   refine draw [0, 1, 2, 3, 4, 6, 5, 7, 8, 9, 10, 11, 13, 12, 14, 15, 16, 17, 18, 19, 20, 21, 23, 25, 26, 22, 24, 27, 28, 29, 30, 31, 32] (by kernel_rfl) ?_
   simp [go_sem, e1, e50, e51, ei]
   refine zen.mono ?_
   rintro e st6 ⟨rfl, hk6⟩
   have htx6 := hk6 _ _ (upd_same st5 tx _)
   have htm6 := hk6 _ _ (HN9 _ _ htm)
   have hs6 := hk6 _ _ (HN9 _ _ hs)
   have hk7 := hk5.trans (HN9.trans hk6)
   clear hk6 HN9 htm hs
   by_cases c0 : z0b x
   rotate_left
   ·have q0 := eq_false c0
    have : RES = false := by rw [← hrec]; simp [c0]
    subst this
    simp [go_sem, e1, e50, e51, ei, htx6, htm6, hs6, hlt', hlt, q0]
    exact hk7
   have q0 := eq_true c0
   by_cases c1 : m.next ≤ x.id
   ·have q_c1 := eq_true c1
    have g_c1 : ¬ x.id < m.next := by omega
    have : RES = false := by rw [← hrec]; simp [g_c1]
    subst this
    simp [go_sem, e1, e50, e51, ei, htx6, htm6, hs6, hlt', hlt, q0, q_c1]
    exact hk7
   have q_c1 := eq_false c1
   have g_c1 : x.id < m.next := by omega
   by_cases c2 : m.seq < x.done
   ·have q_c2 := eq_true c2
    have g_c2 : ¬ x.done ≤ m.seq := by omega
    have : RES = false := by rw [← hrec]; simp [g_c2]
    subst this
    simp [go_sem, e1, e50, e51, ei, htx6, htm6, hs6, hlt', hlt, q0, q_c1, q_c2]
    exact hk7
   have q_c2 := eq_false c2
   have g_c2 : x.done ≤ m.seq := by omega
   by_cases h0 : i = 0
   ·have qi : ((0 : Int) < i) = False := eq_false (by omega)
    have qi2 : (0 < i) = False := eq_false (by omega)
    have hp0 : z0s (m.blocks.map (·.id)) i = none := by rw [h0]; rfl
    rw [hp0] at hrec
    simp [go_sem, e1, e50, e51, ei, htx6, htm6, hs6, hlt', hlt, q0, q_c1, q_c2, qi, qi2, hwi]
    exact ⟨_, .rfl' _, ⟨hk7, htm6, i + 1, by omega, by omega, by rw [hprev]; simpa [z1t, c0, g_c1, g_c2] using hrec⟩, by omega⟩
   ·have qi : ((0 : Int) < i) = True := eq_true (by omega)
    have qi2 : (0 < i) = True := eq_true (by omega)
    have hwm : IntKind.i64.wrap ((i : Int) - 1) = ((i - 1 : Nat) : Int) := by rw [z03 (by omega) (by omega)]; omega
    obtain ⟨q, hq, hzq⟩ := hprev0 h0
    rw [hq] at hrec
    have hlm : i - 1 < m.blocks.length := by omega
    by_cases c9 : x.id ≤ q
    ·have q9 := eq_true c9
     have g9 : ¬ q < x.id := by omega
     have : RES = false := by rw [← hrec]; simp [z1t, g9]
     subst this
     simp [go_sem, e1, e50, e51, ei, htx6, htm6, hs6, hlt', hlt, q0, q_c1, q_c2, qi, qi2, hwm, hlm, hzq, q9]
     exact hk7
    ·have q9 := eq_false c9
     have g9 : q < x.id := by omega
     simp [go_sem, e1, e50, e51, ei, htx6, htm6, hs6, hlt', hlt, q0, q_c1, q_c2, qi, qi2, hwm, hlm, hzq, q9, hwi]
     exact ⟨_, .rfl' _, ⟨hk7, htm6, i + 1, by omega, by omega, by rw [hprev]; simpa [z1t, g9, c0, g_c1, g_c2] using hrec⟩, by omega⟩
  ·have hlt' : ((i : Int) < m.blocks.length) = False := eq_false (by omega)
   have : i = m.blocks.length := by omega
   subst this
   rw [List.drop_length] at hrec
   unfold z33 at hrec
   simp only [Bool.true_and] at hrec
   simp [go_sem, e1, e50, e51, ei, htm]
   exact ⟨hrec, hk5⟩
 clear htm hk2 e1 hRES
 rintro E3 st3 ⟨hRES, hk3, e1, htm⟩
 simp [go_sem, e1, htm]
 refine ⟨fun E st' => New st st' ∧ E 1 = ptr tm ∧ E 92 = .slice tb m.tombs.length tc ∧ E 93 = Val.i m.tombs.length ∧ st' tm = some (.cells true [Val.i m.seq, Val.i m.log, Val.i m.next, Val.i m.now, .slice bb m.blocks.length bc, .slice tb m.tombs.length tc] 6 (.ty 0)) ∧ ∃ i : Nat, E 94 = Val.i i ∧ i ≤ m.tombs.length ∧ z1l m.seq (z0s (m.tombs.map (·.seq)) i) (m.tombs.drop i) = RES,
  fun E _ => match E 94 with | .int _ i => m.tombs.length - i.toNat | _ => 0, ⟨st3, .rfl' _, hk3, by simp [go_sem, e1], by simp [go_sem], by simp [go_sem], htm, 0, by simp [go_sem], by omega, by simpa [z0s] using hRES⟩, ?_⟩
 clear hk3 htm e1 hRES
 rintro E st5 ⟨hk5, e1, e50, e51, htm, i, ei, hi, hrec⟩
 by_cases hlt : i < m.tombs.length
 ·have hlt' : ((i : Int) < m.tombs.length) = True := eq_true (by omega)
  have hwi := wrS i (by omega)
  obtain ⟨mb, off, cap, rw_, zs, mm, g, hv, hs, hget⟩ := z1d (ht.new hk5) (by omega)
  injection hv with v1 v2 v3
  subst v1; subst v3
  obtain ⟨hlen, hcell, hc⟩ := hget i hlt
  have hx : m.tombs[i]? = some m.tombs[i] := List.getElem?_eq_getElem hlt
  have hd : m.tombs.drop i = m.tombs[i] :: m.tombs.drop (i + 1) := List.drop_eq_getElem_cons hlt
  have hprev : z0s (m.tombs.map (·.seq)) (i + 1) = some m.tombs[i].seq := by simp [z0s, hx]
  rw [hd] at hrec
  have hti := (hts i _ hx).mono (fun _ _ _ _ h => h.new hk5)
  rw [← hcell] at hti
  unfold z1l at hrec
  have hprev0 : i ≠ 0 → ∃ q, z0s (m.tombs.map (·.seq)) i = some q ∧ zs[off + (i - 1) * 8]? = some (Val.i q) := by
   intro h0
   have h1 : i - 1 < m.tombs.length := by omega
   obtain ⟨-, -, hc1⟩ := hget (i - 1) h1
   have hx1 : m.tombs[i - 1]? = some m.tombs[i - 1] := List.getElem?_eq_getElem h1
   refine ⟨m.tombs[i - 1].seq, by simp [z0s, h0, hx1], ?_⟩
   have := hc1 0 (by omega)
   obtain ⟨ms, -, hcs⟩ := hts _ _ hx1
   rw [hcs] at this
   simpa using this
  generalize m.tombs[i] = x at *
  obtain ⟨ms, hms, hcs⟩ := hti
  have hms0 := hms
  obtain ⟨sq, mat, fro, to⟩ := x
  obtain ⟨op, name, value, vals, kids⟩ := mat
  unfold MatAt at hms
  obtain ⟨vv, kv, ks, rfl, hv', hk', hkids⟩ := hms
  obtain ⟨vb', vc', rfl⟩ := hv'.slice
  obtain ⟨kb', kc', rfl⟩ := hk'.slice
  simp only [List.cons_append, List.nil_append] at hcs
  simp [go_sem, e1, e50, e51, ei, htm, hlt', hlt, hs, hlen, hcs]
  unfold NewP
  intro tx htx
  refine ⟨.ty 0, ?_⟩
  have htn : tm ≠ tx := ne_of_new htm htx
  have hmn : mb ≠ tx := ne_of_new hs htx
  simp [go_sem, e1, e50, e51, ei, htm, hlt', hlt, hs, hlen, hcs, htn, hmn]
  have HN9 : New st5 (upd st5 tx (.cells true [Val.i sq, Val.i op, .string name, .string value, .slice vb' vals.length vc', .slice kb' kids.length kc', Val.i fro, Val.i to] 8 (.ty 0))) := (New.refl _).add htx
  refine draw [0, 1, 2, 3, 4, 6, 5, 7, 8, 9, 10, 11, 12, 13, 14, 16, 18, 19, 15, 17, 20, 21, 22, 23, 24, 25] (by kernel_rfl) ?_
  simp [go_sem, e1, e50, e51, ei]
  refine (zd8 ⟨_, hms0.new HN9, rfl⟩).mono ?_
  rintro e st6 ⟨rfl, hk6⟩
  have htx6 := hk6 _ _ (upd_same st5 tx _)
  have htm6 := hk6 _ _ (HN9 _ _ htm)
  have hs6 := hk6 _ _ (HN9 _ _ hs)
  have hk7 := hk5.trans (HN9.trans hk6)
  clear hk6 HN9 htm hs
  by_cases c0 : z1g (TombD.mk sq (.mk op name value vals kids) fro to)
  rotate_left
  ·have q0 := eq_false c0
   have : RES = false := by rw [← hrec]; simp [c0]
   subst this
   simp [go_sem, e1, e50, e51, ei, htx6, htm6, hs6, hlt', hlt, q0]
   exact hk7
  have q0 := eq_true c0
  by_cases c1 : m.seq < sq
  ·have q_c1 := eq_true c1
   have g_c1 : ¬ sq ≤ m.seq := by omega
   have : RES = false := by rw [← hrec]; simp [g_c1]
   subst this
   simp [go_sem, e1, e50, e51, ei, htx6, htm6, hs6, hlt', hlt, q0, q_c1]
   exact hk7
  have q_c1 := eq_false c1
  have g_c1 : sq ≤ m.seq := by omega
  by_cases h0 : i = 0
  ·have qi : ((0 : Int) < i) = False := eq_false (by omega)
   have qi2 : (0 < i) = False := eq_false (by omega)
   have hp0 : z0s (m.tombs.map (·.seq)) i = none := by rw [h0]; rfl
   rw [hp0] at hrec
   simp [go_sem, e1, e50, e51, ei, htx6, htm6, hs6, hlt', hlt, q0, q_c1, qi, qi2, hwi]
   exact ⟨_, .rfl' _, ⟨hk7, htm6, i + 1, by omega, by omega, by rw [hprev]; simpa [z1t, c0, g_c1] using hrec⟩, by omega⟩
  ·have qi : ((0 : Int) < i) = True := eq_true (by omega)
   have qi2 : (0 < i) = True := eq_true (by omega)
   have hwm : IntKind.i64.wrap ((i : Int) - 1) = ((i - 1 : Nat) : Int) := by rw [z03 (by omega) (by omega)]; omega
   obtain ⟨q, hq, hzq⟩ := hprev0 h0
   rw [hq] at hrec
   have hlm : i - 1 < m.tombs.length := by omega
   by_cases c9 : sq ≤ q
   ·have q9 := eq_true c9
    have g9 : ¬ q < sq := by omega
    have : RES = false := by rw [← hrec]; simp [z1t, g9]
    subst this
    simp [go_sem, e1, e50, e51, ei, htx6, htm6, hs6, hlt', hlt, q0, q_c1, qi, qi2, hwm, hlm, hzq, q9]
    exact hk7
   ·have q9 := eq_false c9
    have g9 : q < sq := by omega
    simp [go_sem, e1, e50, e51, ei, htx6, htm6, hs6, hlt', hlt, q0, q_c1, qi, qi2, hwm, hlm, hzq, q9, hwi]
    exact ⟨_, .rfl' _, ⟨hk7, htm6, i + 1, by omega, by omega, by rw [hprev]; simpa [z1t, g9, c0, g_c1] using hrec⟩, by omega⟩
 ·have hlt' : ((i : Int) < m.tombs.length) = False := eq_false (by omega)
  have : i = m.tombs.length := by omega
  subst this
  rw [List.drop_length] at hrec
  unfold z1l at hrec
  subst hrec
  simp [go_sem, e1, e50, e51, ei, htm]
  exact hk5
end
open Go.ChangeShapes Go.WideShapes Go.ChangeAt Go.RowKit
def MetaW (_ : Heap) (cs : List Value) (x : MetaD) : Prop := cs = x.cells ∧ ∀ z ∈ x.ints, -2 ^ 63 ≤ z ∧ z < 2 ^ 63
theorem zj0 (fuel : Nat) : Opens 196 7 MetaW fuel := fun H enc W cs x hx hr => by
 obtain ⟨hl, n, rfl, hf⟩ := z76 Tryz.underlying196 hx hr
 have hl7 : cs.length = 7 := hl.trans (by kernel_rfl)
 refine ⟨hl7, ?_⟩
 obtain ⟨y0, h0, r0⟩ := hf 0 _ rfl
 obtain ⟨y1, h1, r1⟩ := hf 1 _ rfl
 obtain ⟨y2, h2, r2⟩ := hf 2 _ rfl
 obtain ⟨y3, h3, r3⟩ := hf 3 _ rfl
 obtain ⟨y4, h4, r4⟩ := hf 4 _ rfl
 obtain ⟨y5, h5, r5⟩ := hf 5 _ rfl
 obtain ⟨y6, h6, r6⟩ := hf 6 _ rfl
 obtain ⟨_, a0, k0, w0⟩ := z1v Tryz.underlying3 n H enc W _ _ h0 r0
 obtain ⟨_, a1, k1, w1⟩ := z1v Tryz.underlying3 n H enc W _ _ h1 r1
 obtain ⟨_, a2, k2, w2⟩ := z1v Tryz.underlying3 n H enc W _ _ h2 r2
 obtain ⟨_, a3, k3, w3⟩ := z1v Tryz.underlying3 n H enc W _ _ h3 r3
 obtain ⟨_, a4, k4, w4⟩ := z1v Tryz.underlying3 n H enc W _ _ h4 r4
 obtain ⟨_, a5, k5, w5⟩ := z1v Tryz.underlying3 n H enc W _ _ h5 r5
 obtain ⟨_, a6, k6, w6⟩ := z1v Tryz.underlying3 n H enc W _ _ h6 r6
 have c0 := z19 k0
 have c1 := z19 k1
 have c2 := z19 k2
 have c3 := z19 k3
 have c4 := z19 k4
 have c5 := z19 k5
 have c6 := z19 k6
 refine ⟨⟨a0, a1, a2, a3, a4, a5, a6⟩, ?_, ?_⟩
 ·match cs, hl7 with
  | [x0, x1, x2, x3, x4, x5, x6], _ => simp at c0 c1 c2 c3 c4 c5 c6; subst c0; subst c1; subst c2; subst c3; subst c4; subst c5; subst c6; rfl
 ·have b0 := bounds_i64 w0
  have b1 := bounds_i64 w1
  have b2 := bounds_i64 w2
  have b3 := bounds_i64 w3
  have b4 := bounds_i64 w4
  have b5 := bounds_i64 w5
  have b6 := bounds_i64 w6
  intro z hz
  simp [MetaD.ints] at hz
  omega
theorem opens_tomb (fuel : Nat) : Opens 37 8 (fun st cs t => z2i st cs t) fuel := fun H enc W cs x hx hr => by
 obtain ⟨hl, n, rfl, hf⟩ := z76 Tryz.underlying37 hx hr
 have hl8 : cs.length = 8 := hl.trans (by kernel_rfl)
 refine ⟨hl8, ?_⟩
 obtain ⟨y0, h0, r0⟩ := hf 0 _ rfl
 obtain ⟨y1, h1, r1⟩ := hf 1 _ rfl
 obtain ⟨y2, h2, r2⟩ := hf 2 _ rfl
 obtain ⟨y3, h3, r3⟩ := hf 3 _ rfl
 obtain ⟨_, seq, k0, _⟩ := z1v Tryz.underlying3 n H enc W _ _ h0 r0
 obtain ⟨_, m, k1⟩ := zhx n H enc W _ _ h1 r1
 obtain ⟨_, fro, k2, _⟩ := z1v Tryz.underlying3 n H enc W _ _ h2 r2
 obtain ⟨_, to, k3, _⟩ := z1v Tryz.underlying3 n H enc W _ _ h3 r3
 have c0 := z19 k0
 have c2 := z19 k2
 have c3 := z19 k3
 refine ⟨⟨seq, m, fro, to⟩, _, k1, ?_⟩
 match cs, hl8 with
 | [x0, x1, x2, x3, x4, x5, x6, x7], _ => simp at c0 c2 c3; subst c0; subst c2; subst c3; rfl
def ManW' (st : Heap) (cs : List Value) (m : ManD) : Prop := ManAt st cs m ∧ (∀ x ∈ m.blocks, ∀ z ∈ x.ints, -2 ^ 63 ≤ z ∧ z < 2 ^ 63)
theorem zhf (fuel : Nat) : Opens 77 6 ManW' fuel := fun H enc W cs x hx hr => by
 obtain ⟨hl, n, rfl, hf⟩ := z76 Tryz.underlying77 hx hr
 have hl6 : cs.length = 6 := hl.trans (by kernel_rfl)
 refine ⟨hl6, ?_⟩
 obtain ⟨y0, h0, r0⟩ := hf 0 _ rfl
 obtain ⟨y1, h1, r1⟩ := hf 1 _ rfl
 obtain ⟨y2, h2, r2⟩ := hf 2 _ rfl
 obtain ⟨y3, h3, r3⟩ := hf 3 _ rfl
 obtain ⟨y4, h4, r4⟩ := hf 4 _ rfl
 obtain ⟨y5, h5, r5⟩ := hf 5 _ rfl
 obtain ⟨_, seq, k0, _⟩ := z1v Tryz.underlying3 n H enc W _ _ h0 r0
 obtain ⟨_, log, k1, _⟩ := z1v Tryz.underlying3 n H enc W _ _ h1 r1
 obtain ⟨_, next, k2, _⟩ := z1v Tryz.underlying3 n H enc W _ _ h2 r2
 obtain ⟨_, now, k3, _⟩ := z1v Tryz.underlying3 n H enc W _ _ h3 r3
 obtain ⟨_, blocks, bb, bc, bs, k4, breg, _, bel⟩ := z78 (n := 7) (bytes := 56) Tryz.underlying74 (by kernel_rfl) (by omega) (by kernel_rfl) (fun f _ => zj0 f) H enc W _ _ h4 r4
 obtain ⟨_, tombs, tb, tc, ts, k5, treg, _, tel⟩ := z78 (n := 8) (bytes := 112) Tryz.underlying75 (by kernel_rfl) (by omega) (by kernel_rfl) (fun f _ => opens_tomb f) H enc W _ _ h5 r5
 have c0 := z19 k0
 have c1 := z19 k1
 have c2 := z19 k2
 have c3 := z19 k3
 have c4 := z19 k4
 have c5 := z19 k5
 refine ⟨⟨seq, log, next, now, blocks, tombs⟩, ⟨_, _, bs, ts, ?_, ⟨_, by intro g x r; simp, breg⟩, fun i x hi => (bel i x hi).1, ⟨_, by intro g x r; simp, treg⟩, fun i x hi => tel i x hi⟩, fun x hx => ?_⟩
 ·match cs, hl6 with
  | [x0, x1, x2, x3, x4, x5], _ => simp at c0 c1 c2 c3 c4 c5; subst c0; subst c1; subst c2; subst c3; subst c4; subst c5; rfl
 ·obtain ⟨i, hi⟩ := List.mem_iff_getElem?.1 hx
  exact (bel i x hi).2
theorem fits_of {m : ManD} (h : ∀ x ∈ m.blocks, ∀ z ∈ x.ints, -2 ^ 63 ≤ z ∧ z < 2 ^ 63) : ∀ x ∈ m.blocks, x.rows < 2 ^ 63 := fun x hx => (h x hx x.rows (by simp [MetaD.ints])).2
end Go.Proofs.YtahgfnbkkfpcnaaGreat
