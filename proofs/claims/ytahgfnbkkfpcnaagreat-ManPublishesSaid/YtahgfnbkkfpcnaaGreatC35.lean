/- What the document says of names, of blocks, of tombs. -/
import Derived.Test.YtahgfnbkkfpcnaaGreatC18
import Derived.Test.YtahgfnbkkfpcnaaGreatC34
set_option linter.unusedVariables false
set_option linter.unusedSimpArgs false
set_option maxRecDepth 100000
set_option maxHeartbeats 8000000
namespace Go.Proofs.YtahgfnbkkfpcnaaGreat
open Go.RowKit (Below)
section
variable {W0 : World} {st : Heap}
theorem z8j {s : ByteArray} {n : Int} (hs : s.size < 100) : z00 Tryz.prog W0 25 #[.string s, Val.i n] st fun e st' => (∃ r : ByteArray, e = .returned (.string r) ∧ (z0m n → r ≠ ⟨#[]⟩) ∧ (¬ z0m n → r = ⟨#[]⟩)) ∧ New st st' := by
 refine enter (args := [_, _]) Tryz.func25 rfl ?_
 by_cases h1 : n < 0
 ·have q1 := eq_true h1
  simp [Tryz.f25, go_sem, q1, z0m]
  first | exact New.refl _ | exact ⟨by omega, New.refl _⟩
 have q1 := eq_false h1
 by_cases h2 : 99999999 < n
 ·have q2 := eq_true h2
  simp [Tryz.f25, go_sem, q1, q2, z0m]
  first | exact New.refl _ | exact ⟨by omega, New.refl _⟩
 have q2 := eq_false h2
 have hok : z0m n := ⟨by omega, by omega⟩
 simp [Tryz.f25, go_sem, q1, q2, hok]
 refine ⟨fun E st' => st' = st ∧ E 0 = .string s ∧ ∃ (i : Nat) (k : Int) (t : ByteArray), E 6 = Val.i i ∧ i ≤ 8 ∧ E 1 = Val.i k ∧ 0 ≤ k ∧ k ≤ 99999999 ∧ E 5 = .string t ∧ t.size = i,
  fun E _ => match E 6 with | .int _ i => 8 - i.toNat | _ => 0, ⟨st, .rfl' _, rfl, by simp [go_sem], 0, n, ⟨#[]⟩, by simp [go_sem], by omega, by simp [go_sem], by omega, by omega, by simp [go_sem], rfl⟩, ?_⟩
 rintro E st' ⟨rfl, e0, i, k, t, e6, hi, e1, hk0, hk1, e5, ht⟩
 by_cases hlt : i < 8
 ·have hlt' : ((i : Int) < 8) = True := eq_true (by omega)
  have hwi := wrS i (by omega)
  have hm : Int.tmod k 10 = k % 10 := Int.tmod_eq_emod_of_nonneg hk0
  have hq : Int.tdiv k 10 = k / 10 := Int.tdiv_eq_ediv_of_nonneg hk0
  obtain ⟨d, hd, hd10⟩ : ∃ d : Nat, k % 10 = (d : Int) ∧ d < 10 := ⟨(k % 10).toNat, by omega, by omega⟩
  obtain ⟨u, hu⟩ : ∃ u, d + 1 = u := ⟨_, rfl⟩
  have hw1 : IntKind.i64.wrap ((d : Int) + 1) = (u : Int) := by rw [z03 (by omega) (by omega)]; omega
  rw [hd] at hm
  have hw2 : IntKind.i64.wrap (k / 10) = k / 10 := z03 (by omega) (by omega)
  have hle : u ≤ 10 := by omega
  have hdu : d ≤ u := by omega
  have h10 : (⟨#[48, 49, 50, 51, 52, 53, 54, 55, 56, 57]⟩ : ByteArray).size = 10 := rfl
  have hex : ((⟨#[48, 49, 50, 51, 52, 53, 54, 55, 56, 57]⟩ : ByteArray).extract d u).size = 1 := by
   rw [ByteArray.size_extract, h10]; omega
  generalize hS : (⟨#[48, 49, 50, 51, 52, 53, 54, 55, 56, 57]⟩ : ByteArray) = S at h10 hex
  simp [go_sem, e0, e1, e5, e6, hlt', hlt, hm, hq, hw1, hw2, hwi, hd10]
  have hsl : min u S.size - d + t.size ≤ 9223372036854775807 := by omega
  refine ⟨by omega, hdu, ?_⟩
  rw [if_pos hsl]
  simp [go_sem, e0, e1, e5, e6, hq, hw2, hwi]
  exact ⟨_, .rfl' _, ⟨rfl, i + 1, by omega, by omega, by omega, by omega, by omega⟩, by omega⟩
 ·have hlt' : ((i : Int) < 8) = False := eq_false (by omega)
  have : i = 8 := by omega
  subst this
  have hsl : (s.size + t.size ≤ 9223372036854775807) = True := eq_true (by omega)
  simp [go_sem, e0, e1, e5, e6, hsl]
  refine ⟨?_, New.refl _⟩
  intro h
  have hsz : (s ++ t).size = s.size + t.size := by simp
  rw [h] at hsz
  have : (⟨#[]⟩ : ByteArray).size = 0 := rfl
  omega
theorem zht {x : MetaD} : z00 Tryz.prog W0 229 #[.agg #[Val.i x.id, Val.i x.level, Val.i x.day, Val.i x.lo, Val.i x.hi, Val.i x.done, Val.i x.rows]] st fun e st' => e = .returned (.bool (decide (z0b x))) ∧ New st st' := by
 refine enter (args := [_]) Tryz.func229 rfl ?_
 refine IW_cut (fun E' st' => ∃ ta, New st st' ∧ E' 1 = ptr ta ∧ st' ta = some (.cells true [Val.i x.id, Val.i x.level, Val.i x.day, Val.i x.lo, Val.i x.hi, Val.i x.done, Val.i x.rows] 7 (.ty 0))) ?_ ?_
 ·simp [go_sem]
  unfold NewP
  intro tb htb
  refine ⟨.ty 0, ?_⟩
  simp [go_sem]
  exact (New.refl _).add htb
 rintro E1 st1 ⟨ta, hk1, e1, hta⟩
 simp [go_sem, e1, hta]
 refine (z8j (by decide)).mono ?_
 rintro e st2 ⟨⟨r, rfl, hr1, hr2⟩, hk2⟩
 have hta := hk2 _ _ hta
 have hk3 := hk1.trans hk2
 by_cases hn : z0m x.id
 rotate_left
 ·have := hr2 hn
  subst this
  have hno : ¬ z0b x := fun h => hn h.1
  simp [go_sem, e1, hta, hno]
  exact hk3
 have q_n := eq_false (hr1 hn)
 by_cases c0 : 0 ≤ x.level
 rotate_left
 ·have q_c0 := eq_false c0
  have hno : ¬ z0b x := fun h => by unfold z0b at h; omega
  simp [go_sem, e1, hta, hno, q_n, q_c0]
  exact hk3
 have q_c0 := eq_true c0
 by_cases c01 : x.level ≤ 3
 rotate_left
 ·have q_c01 := eq_false c01
  have hno : ¬ z0b x := fun h => by unfold z0b at h; omega
  simp [go_sem, e1, hta, hno, q_n, q_c0, q_c01]
  exact hk3
 have q_c01 := eq_true c01
 by_cases c1 : 0 ≤ x.day
 rotate_left
 ·have q_c1 := eq_false c1
  have hno : ¬ z0b x := fun h => by unfold z0b at h; omega
  simp [go_sem, e1, hta, hno, q_n, q_c0, q_c01, q_c1]
  exact hk3
 have q_c1 := eq_true c1
 by_cases c2 : x.day ≤ 127258290
 rotate_left
 ·have q_c2 := eq_false c2
  have hno : ¬ z0b x := fun h => by unfold z0b at h; omega
  simp [go_sem, e1, hta, hno, q_n, q_c0, q_c01, q_c1, q_c2]
  exact hk3
 have q_c2 := eq_true c2
 by_cases c3 : 1 ≤ x.lo
 rotate_left
 ·have q_c3 := eq_false c3
  have hno : ¬ z0b x := fun h => by unfold z0b at h; omega
  simp [go_sem, e1, hta, hno, q_n, q_c0, q_c01, q_c1, q_c2, q_c3]
  exact hk3
 have q_c3 := eq_true c3
 by_cases c4 : x.lo ≤ x.hi
 rotate_left
 ·have q_c4 := eq_false c4
  have hno : ¬ z0b x := fun h => by unfold z0b at h; omega
  simp [go_sem, e1, hta, hno, q_n, q_c0, q_c01, q_c1, q_c2, q_c3, q_c4]
  exact hk3
 have q_c4 := eq_true c4
 by_cases c5 : x.hi ≤ x.done
 rotate_left
 ·have q_c5 := eq_false c5
  have hno : ¬ z0b x := fun h => by unfold z0b at h; omega
  simp [go_sem, e1, hta, hno, q_n, q_c0, q_c01, q_c1, q_c2, q_c3, q_c4, q_c5]
  exact hk3
 have q_c5 := eq_true c5
 by_cases c6 : x.done ≤ 1099511627776
 rotate_left
 ·have q_c6 := eq_false c6
  have hno : ¬ z0b x := fun h => by unfold z0b at h; omega
  simp [go_sem, e1, hta, hno, q_n, q_c0, q_c01, q_c1, q_c2, q_c3, q_c4, q_c5, q_c6]
  exact hk3
 have q_c6 := eq_true c6
 by_cases c7 : 1 ≤ x.rows
 rotate_left
 ·have q_c7 := eq_false c7
  have hno : ¬ z0b x := fun h => by unfold z0b at h; omega
  simp [go_sem, e1, hta, hno, q_n, q_c0, q_c01, q_c1, q_c2, q_c3, q_c4, q_c5, q_c6, q_c7]
  exact hk3
 have q_c7 := eq_true c7
 have hyes : z0b x := ⟨by assumption, by omega, by omega, by omega, by omega, by omega, by omega, by omega, by omega⟩
 simp [go_sem, e1, hta, hyes, q_n, q_c0, q_c01, q_c1, q_c2, q_c3, q_c4, q_c5, q_c6, q_c7]
 exact hk3
theorem za6 {a : Int} : z00 Tryz.prog W0 270 #[Val.i a] st fun e st' => e = .returned (.bool (decide (0 ≤ a ∧ a ≤ 1099511634240 ∧ a % 8640 = 0))) ∧ st' = st := by
 refine enter (args := [_]) Tryz.func270 rfl ?_
 by_cases c0 : 0 ≤ a
 rotate_left
 ·have q0 := eq_false c0
  simp [Tryz.f270, go_sem, q0]
 have q0 := eq_true c0
 have m1 : Int.tmod a 8640 = a % 8640 := Int.tmod_eq_emod_of_nonneg c0
 by_cases c1 : a ≤ 1099511634240
 rotate_left
 ·have q1 := eq_false c1
  simp [Tryz.f270, go_sem, q0, q1]
 have q1 := eq_true c1
 by_cases c2 : a % 8640 = 0
 ·have q2 := eq_true c2
  simp [Tryz.f270, go_sem, q0, q1, m1, q2]
 ·have q2 := eq_false c2
  simp [Tryz.f270, go_sem, q0, q1, m1, q2]
theorem zcf {t : TombD} {cs : List Value} (hN : NiceM 12 t.m) (h : z2i st cs t) : z00 Tryz.prog W0 230 #[.agg cs.toArray] st fun e st' => e = .returned (.bool (decide (z1g t))) ∧ New st st' := by
 obtain ⟨ms, hm, rfl⟩ := h
 obtain ⟨seq, m, fro, to⟩ := t
 match m with
 | .mk op name value vals kids =>
 have hm0 := hm
 unfold MatAt at hm
 obtain ⟨vv, kv, ks, rfl, hv, hk', hkids⟩ := hm
 obtain ⟨vb, vc, rfl⟩ := hv.slice
 obtain ⟨kb, kc, rfl⟩ := hk'.slice
 refine enter (args := [_]) Tryz.func230 rfl ?_
 refine IW_cut (fun E' st' => ∃ ta, New st st' ∧ E' 1 = ptr ta ∧ st' ta = some (.cells true [Val.i seq, Val.i op, .string name, .string value, .slice vb vals.length vc, .slice kb kids.length kc, Val.i fro, Val.i to] 8 (.ty 0))) ?_ ?_
 ·simp [go_sem]
  unfold NewP
  intro tb htb
  refine ⟨.ty 0, ?_⟩
  simp [go_sem]
  exact (New.refl _).add htb
 rintro E1 st1 ⟨ta, hk1, e1, hta⟩
 generalize hT : (TombD.mk seq (.mk op name value vals kids) fro to) = T
 have hno : ∀ {P : Prop}, (z1g T → P) → ¬ P → decide (z1g T) = false := fun h1 h2 => decide_eq_false fun h => h2 (h1 h)
 by_cases c0 : 1 ≤ seq
 rotate_left
 ·have q0 := eq_false c0
  have hd := hno (P := 1 ≤ seq) (by rw [← hT]; exact fun h => h.1.1) c0
  rw [hd]
  simp [go_sem, e1, hta, q0]
  exact hk1
 have q0 := eq_true c0
 by_cases c1 : seq ≤ 1099511627776
 rotate_left
 ·have q1 := eq_false c1
  have hd := hno (P := seq ≤ 1099511627776) (by rw [← hT]; exact fun h => h.1.2) c1
  rw [hd]
  simp [go_sem, e1, hta, q0, q1]
  exact hk1
 have q1 := eq_true c1
 simp [go_sem, e1, hta, q0, q1]
 refine (zbq hN (Nat.le_refl 12) (hm0.new hk1)).mono ?_
 rintro e st2 ⟨rfl, hk2⟩
 have hta := hk2 _ _ hta
 have hk2 := hk1.trans hk2
 cases hc : z1n (.mk op name value vals kids) with
 | false =>
  have hd := hno (P := z1n (.mk op name value vals kids) = true) (by rw [← hT]; exact fun h => h.2.2) (by rw [hc]; simp)
  simp only [hd]
  simp [go_sem, e1, hta]
  first | exact hk2 | exact ⟨by simpa using hd, hk2⟩
 | true =>
 by_cases c2 : fro < to
 rotate_left
 ·have q2 := eq_false c2
  have hd := hno (P := fro < to) (by rw [← hT]; exact fun h => h.2.1.2.1) c2
  simp only [hd]
  simp [go_sem, e1, hta, q2]
  first | exact hk2 | exact ⟨by simpa using hd, hk2⟩
 have q2 := eq_true c2
 simp [go_sem, e1, hta, q2]
 refine za6.mono ?_
 rintro e st3 ⟨rfl, rfl⟩
 by_cases c3 : 0 ≤ fro ∧ fro ≤ 1099511634240 ∧ fro % 8640 = 0
 rotate_left
 ·have q3 := eq_false c3
  have hd := hno (P := 0 ≤ fro ∧ fro ≤ 1099511634240 ∧ fro % 8640 = 0) (by rw [← hT]; intro h; obtain ⟨_, ⟨g1, g2, g3, g4, g5⟩, _⟩ := h; simp only at g1 g2 g3 g4 g5; exact ⟨g1, by omega, g4⟩) c3
  simp only [hd]
  simp [go_sem, e1, hta, decide_eq_false c3]
  first | exact hk2 | exact ⟨by simpa using hd, hk2⟩
 simp [go_sem, e1, hta, decide_eq_true c3]
 refine za6.mono ?_
 rintro e st4 ⟨rfl, rfl⟩
 by_cases c4 : 0 ≤ to ∧ to ≤ 1099511634240 ∧ to % 8640 = 0
 rotate_left
 ·have hd := hno (P := 0 ≤ to ∧ to ≤ 1099511634240 ∧ to % 8640 = 0) (by rw [← hT]; intro h; obtain ⟨_, ⟨g1, g2, g3, g4, g5⟩, _⟩ := h; simp only at g1 g2 g3 g4 g5; exact ⟨by omega, g3, g5⟩) c4
  simp only [hd]
  simp [go_sem, e1, hta, decide_eq_false c4]
  first | exact hk2 | exact ⟨by simpa using hd, hk2⟩
 have hy : decide (z1g T) = true := decide_eq_true (by rw [← hT]; exact ⟨⟨c0, c1⟩, ⟨c3.1, c2, c4.2.1, c3.2.2, c4.2.2⟩, hc⟩)
 simp only [hy]
 simp [go_sem, e1, hta, decide_eq_true c4]
 first | exact hk2 | exact ⟨by simpa using hy, hk2⟩
end
section
variable {W0 : World} {st : Heap}
theorem zbm {cs : List Value} {m : ManD} (hN : ∀ t ∈ m.tombs, NiceM 12 t.m) (h : ManAt st cs m) : z00 Tryz.prog W0 182 #[.agg cs.toArray] st fun e st' => e = .returned (.bool (manM m)) ∧ New st st' := by
 obtain ⟨bv, tv, bs, ts, rfl, hb, hbs, ht, hts⟩ := h
 obtain ⟨bb, bc, rfl⟩ := hb.slice
 obtain ⟨tb, tc, rfl⟩ := ht.slice
 refine enter (args := [_]) Tryz.func182 rfl ?_
 generalize hRES : manM m = RES
 unfold manM at hRES
 refine IW_cut (fun E' st' => ∃ tm, New st st' ∧ E' 1 = ptr tm ∧ st' tm = some (.cells true [Val.i m.seq, Val.i m.log, Val.i m.next, Val.i m.now, .slice bb m.blocks.length bc, .slice tb m.tombs.length tc] 6 (.ty 0))) ?_ ?_
 ·simp [go_sem]
  unfold NewP
  intro tm htm
  refine ⟨.ty 0, ?_⟩
  simp [go_sem]
  exact (New.refl _).add htm
 rintro E1 st1 ⟨tm, hk1, e1, htm⟩
 have hno : ¬ z1f m → RES = false := fun h => by rw [← hRES, decide_eq_false h]; simp
 refine z1a (fun E' st' => z1f m ∧ New st st' ∧ E' 1 = ptr tm ∧ st' tm = some (.cells true [Val.i m.seq, Val.i m.log, Val.i m.next, Val.i m.now, .slice bb m.blocks.length bc, .slice tb m.tombs.length tc] 6 (.ty 0))) ?_ ?_
 ·by_cases c0 : m.seq < 0
  ·have q_c0 := eq_true c0
   have := hno (fun h => by unfold z1f at h; omega)
   subst this
   simp [go_sem, e1, htm, q_c0]
   exact hk1
  have q_c0 := eq_false c0
  by_cases c1 : 1099511627776 < m.seq
  ·have q_c1 := eq_true c1
   have := hno (fun h => by unfold z1f at h; omega)
   subst this
   simp [go_sem, e1, htm, q_c0, q_c1]
   exact hk1
  have q_c1 := eq_false c1
  simp [go_sem, e1, htm, q_c0, q_c1]
  refine (z8j (by decide)).mono ?_
  rintro e stn0 ⟨⟨r0, rfl, ha0, hb0⟩, hkx0⟩
  have htm := hkx0 _ _ htm
  have hkn0 := hk1.trans hkx0
  by_cases n0 : z0m m.log
  rotate_left
  ·have := hb0 n0
   subst this
   have := hno (fun h => n0 h.2.2.1)
   subst this
   simp [go_sem, e1, htm]
   exact hkn0
  have q_n0 := eq_false (ha0 n0)
  simp [go_sem, e1, htm, q_n0]
  refine (z8j (by decide)).mono ?_
  rintro e stn1 ⟨⟨r1, rfl, ha1, hb1⟩, hkx1⟩
  have htm := hkx1 _ _ htm
  have hkn1 := hkn0.trans hkx1
  by_cases n1 : z0m m.next
  rotate_left
  ·have := hb1 n1
   subst this
   have := hno (fun h => n1 h.2.2.2.1)
   subst this
   simp [go_sem, e1, htm]
   exact hkn1
  have q_n1 := eq_false (ha1 n1)
  by_cases d0 : m.now < 0
  ·have q_d0 : (m.now < 0) = True := eq_true (by omega)
   have := hno (fun h => by unfold z1f at h; omega)
   subst this
   simp [go_sem, e1, htm, q_n1, q_d0]
   exact hkn1
  have q_d0 : (m.now < 0) = False := eq_false (by omega)
  by_cases d1 : 1099511627776 ≤ m.now
  ·have q_d1 : (1099511627776 ≤ m.now) = True := eq_true (by omega)
   have := hno (fun h => by unfold z1f at h; omega)
   subst this
   simp [go_sem, e1, htm, q_n1, q_d0, q_d1]
   exact hkn1
  have q_d1 : (1099511627776 ≤ m.now) = False := eq_false (by omega)
  by_cases d2 : 900 < m.blocks.length
  ·have q_d2 : ((900 : Int) < m.blocks.length) = True := eq_true (by omega)
   have := hno (fun h => by unfold z1f at h; omega)
   subst this
   simp [go_sem, e1, htm, q_n1, q_d0, q_d1, q_d2]
   exact hkn1
  have q_d2 : ((900 : Int) < m.blocks.length) = False := eq_false (by omega)
  by_cases d3 : 64 < m.tombs.length
  ·have q_d3 : ((64 : Int) < m.tombs.length) = True := eq_true (by omega)
   have := hno (fun h => by unfold z1f at h; omega)
   subst this
   simp [go_sem, e1, htm, q_n1, q_d0, q_d1, q_d2, q_d3]
   exact hkn1
  have q_d3 : ((64 : Int) < m.tombs.length) = False := eq_false (by omega)
  simp [go_sem, e1, htm, q_n1, q_d0, q_d1, q_d2, q_d3]
  exact ⟨⟨by omega, by omega, n0, n1, by omega, by omega, by omega, by omega⟩, hkn1⟩
 clear htm hk1 e1
 rintro E2 st2 ⟨hhead, hk2, e1, htm⟩
 rw [decide_eq_true hhead] at hRES
 simp only [Bool.true_and] at hRES
 clear hno
 obtain ⟨hh1, hh2, hh3, hh4, hh5, hh6, hh7, hh8⟩ := hhead
 refine z1a (fun E' st' => z1l m.seq none m.tombs = RES ∧ New st st' ∧ E' 1 = ptr tm ∧ st' tm = some (.cells true [Val.i m.seq, Val.i m.log, Val.i m.next, Val.i m.now, .slice bb m.blocks.length bc, .slice tb m.tombs.length tc] 6 (.ty 0))) ?_ ?_
 ·simp [go_sem, e1, htm]
  refine ⟨fun E st' => New st st' ∧ E 1 = ptr tm ∧ st' tm = some (.cells true [Val.i m.seq, Val.i m.log, Val.i m.next, Val.i m.now, .slice bb m.blocks.length bc, .slice tb m.tombs.length tc] 6 (.ty 0)) ∧ ∃ i : Nat, E 3 = Val.i i ∧ i ≤ m.blocks.length ∧ (z33 m.next m.seq (z0s (m.blocks.map (·.id)) i) (m.blocks.drop i) && z1l m.seq none m.tombs) = RES,
   fun E _ => match E 3 with | .int _ i => m.blocks.length - i.toNat | _ => 0, ⟨st2, .rfl' _, hk2, by simp [go_sem, e1], htm, 0, by simp [go_sem], by omega, by simpa [z0s] using hRES⟩, ?_⟩
  clear hk2 htm e1 hRES
  rintro E st5 ⟨hk5, e1, htm, i, ei, hi, hrec⟩
  by_cases hlt : i < m.blocks.length
  ·have hlt' : ((i : Int) < m.blocks.length) = True := eq_true (by omega)
   have hwi := wrS i (by omega)
   obtain ⟨mb, off, cap, rw_, zs, mm, g, hv, hs, hget⟩ := z1d (hb.new hk5) (by omega)
   injection hv with v1 v2 v3
   subst v1; subst v3
   obtain ⟨hlen, hcell, hc⟩ := hget i hlt
   have hx : m.blocks[i]? = some m.blocks[i] := List.getElem?_eq_getElem hlt
   have hd : m.blocks.drop i = m.blocks[i] :: m.blocks.drop (i + 1) := List.drop_eq_getElem_cons hlt
   have hprev : z0s (m.blocks.map (·.id)) (i + 1) = some m.blocks[i].id := by simp [z0s, hx]
   rw [hd] at hrec
   rw [hbs i _ hx] at hcell
   unfold z33 at hrec
   have hprev0 : i ≠ 0 → ∃ q, z0s (m.blocks.map (·.id)) i = some q ∧ zs[off + (i - 1) * 7]? = some (Val.i q) := by
    intro h0
    have h1 : i - 1 < m.blocks.length := by omega
    obtain ⟨-, -, hc1⟩ := hget (i - 1) h1
    have hx1 : m.blocks[i - 1]? = some m.blocks[i - 1] := List.getElem?_eq_getElem h1
    refine ⟨m.blocks[i - 1].id, by simp [z0s, h0, hx1], ?_⟩
    have := hc1 0 (by omega)
    rw [hbs _ _ hx1] at this
    simpa [MetaD.cells] using this
   generalize m.blocks[i] = x at *
   unfold MetaD.cells at hcell
   simp [go_sem, e1, ei, htm, hlt', hlt, hs, hlen, hcell]
   unfold NewP
   intro tx htx
   refine ⟨.ty 0, ?_⟩
   have htn : tm ≠ tx := ne_of_new htm htx
   have hmn : mb ≠ tx := ne_of_new hs htx
   simp [go_sem, e1, ei, htm, hlt', hlt, hs, hlen, hcell, htn, hmn]
   have HN9 : New st5 (upd st5 tx (.cells true [Val.i x.id, Val.i x.level, Val.i x.day, Val.i x.lo, Val.i x.hi, Val.i x.done, Val.i x.rows] 7 (.ty 0))) := (New.refl _).add htx
   refine draw [0, 1, 2, 3, 4, 6, 5, 7, 8, 9, 10, 11, 13, 12, 14, 15, 16, 17, 18, 19, 20, 21, 23, 25, 26, 22, 24, 27, 28, 29, 30, 31, 32] (by kernel_rfl) ?_
   simp [go_sem, e1, ei]
   refine zht.mono ?_
   rintro e st6 ⟨rfl, hk6⟩
   have htx6 := hk6 _ _ (upd_same st5 tx _)
   have htm6 := hk6 _ _ (HN9 _ _ htm)
   have hs6 := hk6 _ _ (HN9 _ _ hs)
   have hk7 := hk5.trans (HN9.trans hk6)
   clear hk6 HN9 htm hs
   by_cases c0 : z0b x
   rotate_left
   ·have q0 := eq_false c0
    have : RES = false := by rw [← hrec]; simp [c0]
    subst this
    simp [go_sem, e1, ei, htx6, htm6, hs6, hlt', hlt, q0]
    exact hk7
   have q0 := eq_true c0
   by_cases c1 : m.next ≤ x.id
   ·have q_c1 := eq_true c1
    have g_c1 : ¬ x.id < m.next := by omega
    have : RES = false := by rw [← hrec]; simp [g_c1]
    subst this
    simp [go_sem, e1, ei, htx6, htm6, hs6, hlt', hlt, q0, q_c1]
    exact hk7
   have q_c1 := eq_false c1
   have g_c1 : x.id < m.next := by omega
   by_cases c2 : m.seq < x.done
   ·have q_c2 := eq_true c2
    have g_c2 : ¬ x.done ≤ m.seq := by omega
    have : RES = false := by rw [← hrec]; simp [g_c2]
    subst this
    simp [go_sem, e1, ei, htx6, htm6, hs6, hlt', hlt, q0, q_c1, q_c2]
    exact hk7
   have q_c2 := eq_false c2
   have g_c2 : x.done ≤ m.seq := by omega
   by_cases h0 : i = 0
   ·have qi : ((0 : Int) < i) = False := eq_false (by omega)
    have qi2 : (0 < i) = False := eq_false (by omega)
    have hp0 : z0s (m.blocks.map (·.id)) i = none := by rw [h0]; rfl
    rw [hp0] at hrec
    simp [go_sem, e1, ei, htx6, htm6, hs6, hlt', hlt, q0, q_c1, q_c2, qi, qi2, hwi]
    exact ⟨_, .rfl' _, ⟨hk7, htm6, i + 1, by omega, by omega, by rw [hprev]; simpa [z1t, c0, g_c1, g_c2] using hrec⟩, by omega⟩
   ·have qi : ((0 : Int) < i) = True := eq_true (by omega)
    have qi2 : (0 < i) = True := eq_true (by omega)
    have hwm : IntKind.i64.wrap ((i : Int) - 1) = ((i - 1 : Nat) : Int) := by rw [z03 (by omega) (by omega)]; omega
    obtain ⟨q, hq, hzq⟩ := hprev0 h0
    rw [hq] at hrec
    have hlm : i - 1 < m.blocks.length := by omega
    by_cases c9 : x.id ≤ q
    ·have q9 := eq_true c9
     have g9 : ¬ q < x.id := by omega
     have : RES = false := by rw [← hrec]; simp [z1t, g9]
     subst this
     simp [go_sem, e1, ei, htx6, htm6, hs6, hlt', hlt, q0, q_c1, q_c2, qi, qi2, hwm, hlm, hzq, q9]
     exact hk7
    ·have q9 := eq_false c9
     have g9 : q < x.id := by omega
     simp [go_sem, e1, ei, htx6, htm6, hs6, hlt', hlt, q0, q_c1, q_c2, qi, qi2, hwm, hlm, hzq, q9, hwi]
     exact ⟨_, .rfl' _, ⟨hk7, htm6, i + 1, by omega, by omega, by rw [hprev]; simpa [z1t, g9, c0, g_c1, g_c2] using hrec⟩, by omega⟩
  ·have hlt' : ((i : Int) < m.blocks.length) = False := eq_false (by omega)
   have : i = m.blocks.length := by omega
   subst this
   rw [List.drop_length] at hrec
   unfold z33 at hrec
   simp only [Bool.true_and] at hrec
   simp [go_sem, e1, ei, htm]
   exact ⟨hrec, hk5⟩
 clear htm hk2 e1 hRES
 rintro E3 st3 ⟨hRES, hk3, e1, htm⟩
 simp [go_sem, e1, htm]
 refine ⟨fun E st' => New st st' ∧ E 1 = ptr tm ∧ st' tm = some (.cells true [Val.i m.seq, Val.i m.log, Val.i m.next, Val.i m.now, .slice bb m.blocks.length bc, .slice tb m.tombs.length tc] 6 (.ty 0)) ∧ ∃ i : Nat, E 5 = Val.i i ∧ i ≤ m.tombs.length ∧ z1l m.seq (z0s (m.tombs.map (·.seq)) i) (m.tombs.drop i) = RES,
  fun E _ => match E 5 with | .int _ i => m.tombs.length - i.toNat | _ => 0, ⟨st3, .rfl' _, hk3, by simp [go_sem, e1], htm, 0, by simp [go_sem], by omega, by simpa [z0s] using hRES⟩, ?_⟩
 clear hk3 htm e1 hRES
 rintro E st5 ⟨hk5, e1, htm, i, ei, hi, hrec⟩
 by_cases hlt : i < m.tombs.length
 ·have hlt' : ((i : Int) < m.tombs.length) = True := eq_true (by omega)
  have hwi := wrS i (by omega)
  obtain ⟨mb, off, cap, rw_, zs, mm, g, hv, hs, hget⟩ := z1d (ht.new hk5) (by omega)
  injection hv with v1 v2 v3
  subst v1; subst v3
  obtain ⟨hlen, hcell, hc⟩ := hget i hlt
  have hx : m.tombs[i]? = some m.tombs[i] := List.getElem?_eq_getElem hlt
  have hd : m.tombs.drop i = m.tombs[i] :: m.tombs.drop (i + 1) := List.drop_eq_getElem_cons hlt
  have hprev : z0s (m.tombs.map (·.seq)) (i + 1) = some m.tombs[i].seq := by simp [z0s, hx]
  rw [hd] at hrec
  have hti := (hts i _ hx).mono (fun _ _ _ _ h => h.new hk5)
  rw [← hcell] at hti
  unfold z1l at hrec
  have hprev0 : i ≠ 0 → ∃ q, z0s (m.tombs.map (·.seq)) i = some q ∧ zs[off + (i - 1) * 8]? = some (Val.i q) := by
   intro h0
   have h1 : i - 1 < m.tombs.length := by omega
   obtain ⟨-, -, hc1⟩ := hget (i - 1) h1
   have hx1 : m.tombs[i - 1]? = some m.tombs[i - 1] := List.getElem?_eq_getElem h1
   refine ⟨m.tombs[i - 1].seq, by simp [z0s, h0, hx1], ?_⟩
   have := hc1 0 (by omega)
   obtain ⟨ms, -, hcs⟩ := hts _ _ hx1
   rw [hcs] at this
   simpa using this
  have hNi : NiceM 12 m.tombs[i].m := hN _ (List.getElem_mem hlt)
  generalize m.tombs[i] = x at *
  obtain ⟨ms, hms, hcs⟩ := hti
  have hms0 := hms
  obtain ⟨sq, mat, fro, to⟩ := x
  obtain ⟨op, name, value, vals, kids⟩ := mat
  unfold MatAt at hms
  obtain ⟨vv, kv, ks, rfl, hv', hk', hkids⟩ := hms
  obtain ⟨vb', vc', rfl⟩ := hv'.slice
  obtain ⟨kb', kc', rfl⟩ := hk'.slice
  simp only [List.cons_append, List.nil_append] at hcs
  simp [go_sem, e1, ei, htm, hlt', hlt, hs, hlen, hcs]
  unfold NewP
  intro tx htx
  refine ⟨.ty 0, ?_⟩
  have htn : tm ≠ tx := ne_of_new htm htx
  have hmn : mb ≠ tx := ne_of_new hs htx
  simp [go_sem, e1, ei, htm, hlt', hlt, hs, hlen, hcs, htn, hmn]
  have HN9 : New st5 (upd st5 tx (.cells true [Val.i sq, Val.i op, .string name, .string value, .slice vb' vals.length vc', .slice kb' kids.length kc', Val.i fro, Val.i to] 8 (.ty 0))) := (New.refl _).add htx
  refine draw [0, 1, 2, 3, 4, 6, 5, 7, 8, 9, 10, 11, 12, 13, 14, 16, 18, 19, 15, 17, 20, 21, 22, 23, 24, 25] (by kernel_rfl) ?_
  simp [go_sem, e1, ei]
  refine (zcf hNi ⟨_, hms0.new HN9, rfl⟩).mono ?_
  rintro e st6 ⟨rfl, hk6⟩
  have htx6 := hk6 _ _ (upd_same st5 tx _)
  have htm6 := hk6 _ _ (HN9 _ _ htm)
  have hs6 := hk6 _ _ (HN9 _ _ hs)
  have hk7 := hk5.trans (HN9.trans hk6)
  clear hk6 HN9 htm hs
  by_cases c0 : z1g (TombD.mk sq (.mk op name value vals kids) fro to)
  rotate_left
  ·have q0 := eq_false c0
   have : RES = false := by rw [← hrec]; simp [c0]
   subst this
   simp [go_sem, e1, ei, htx6, htm6, hs6, hlt', hlt, q0]
   exact hk7
  have q0 := eq_true c0
  by_cases c1 : m.seq < sq
  ·have q_c1 := eq_true c1
   have g_c1 : ¬ sq ≤ m.seq := by omega
   have : RES = false := by rw [← hrec]; simp [g_c1]
   subst this
   simp [go_sem, e1, ei, htx6, htm6, hs6, hlt', hlt, q0, q_c1]
   exact hk7
  have q_c1 := eq_false c1
  have g_c1 : sq ≤ m.seq := by omega
  by_cases h0 : i = 0
  ·have qi : ((0 : Int) < i) = False := eq_false (by omega)
   have qi2 : (0 < i) = False := eq_false (by omega)
   have hp0 : z0s (m.tombs.map (·.seq)) i = none := by rw [h0]; rfl
   rw [hp0] at hrec
   simp [go_sem, e1, ei, htx6, htm6, hs6, hlt', hlt, q0, q_c1, qi, qi2, hwi]
   exact ⟨_, .rfl' _, ⟨hk7, htm6, i + 1, by omega, by omega, by rw [hprev]; simpa [z1t, c0, g_c1] using hrec⟩, by omega⟩
  ·have qi : ((0 : Int) < i) = True := eq_true (by omega)
   have qi2 : (0 < i) = True := eq_true (by omega)
   have hwm : IntKind.i64.wrap ((i : Int) - 1) = ((i - 1 : Nat) : Int) := by rw [z03 (by omega) (by omega)]; omega
   obtain ⟨q, hq, hzq⟩ := hprev0 h0
   rw [hq] at hrec
   have hlm : i - 1 < m.tombs.length := by omega
   by_cases c9 : sq ≤ q
   ·have q9 := eq_true c9
    have g9 : ¬ q < sq := by omega
    have : RES = false := by rw [← hrec]; simp [z1t, g9]
    subst this
    simp [go_sem, e1, ei, htx6, htm6, hs6, hlt', hlt, q0, q_c1, qi, qi2, hwm, hlm, hzq, q9]
    exact hk7
   ·have q9 := eq_false c9
    have g9 : q < sq := by omega
    simp [go_sem, e1, ei, htx6, htm6, hs6, hlt', hlt, q0, q_c1, qi, qi2, hwm, hlm, hzq, q9, hwi]
    exact ⟨_, .rfl' _, ⟨hk7, htm6, i + 1, by omega, by omega, by rw [hprev]; simpa [z1t, g9, c0, g_c1] using hrec⟩, by omega⟩
 ·have hlt' : ((i : Int) < m.tombs.length) = False := eq_false (by omega)
  have : i = m.tombs.length := by omega
  subst this
  rw [List.drop_length] at hrec
  unfold z1l at hrec
  subst hrec
  simp [go_sem, e1, ei, htm]
  exact hk5
end
section
variable {W0 : World} {st : Heap}
theorem appC {P : Program} {t e : Nat} {z : List Value} {K : Value → Heap → Prop} {st0 st : Heap} {g g' : Tg} {v w : Value} {B D : Bs} (hi : z0g P t = some (e, 1, 1, z)) (hv : Vec st g 1 v (bytesV B) B.length) (hf : Fresh st0 v) (hN : New st0 st) (hw : Reg st g' 1 w (bytesV D) D.length) (hl : (B ++ D).length < 2 ^ 46)
  (hk : ∀ v' st', Vec st' g 1 v' (bytesV (B ++ D)) (B ++ D).length → Fresh st0 v' → New st0 st' → (∀ k o, st k = some o → o.tag ≠ some g → st' k = some o) → K v' st') : AppI (some (e, 1, 1, z)) P t v w K st := by
 rw [List.length_append] at hl
 refine AppI_new (st0 := st0) hi hv hf hN hw.src (z20 _) (by omega) ?_
 intro base cap st3 hV3 hF3 hN3 hE3
 refine hk _ _ ?_ hF3 hN3 hE3.keep
 rw [List.length_append]
 simpa [bytesV] using hV3
theorem of03_spec {bv : Value} {b : Bs} {g0 : Tg} (h : Reg st g0 1 bv (bytesV b) b.length) (hl : b.length < 2 ^ 60) :
  z00 Tryz.prog W0 91 #[bv] st fun e st' => e = .returned (.int .u32 (crcM b)) ∧ st' = st := by
 refine enter (args := [_]) Tryz.func91 rfl ?_
 simp [Tryz.f91, go_sem]
 refine (zig h hl).mono ?_
 rintro e st2 ⟨rfl, rfl⟩
 simp [go_sem]
theorem zg1 {yv : Value} {body : Bs} {g1 : Tg} (g : Tg) (hy : Reg st g1 1 yv (bytesV body) body.length) (hly : body.length < 2 ^ 40) :
  z00 Tryz.prog W0 28 #[yv] st (z36 st g (z0d body)) := by
 obtain ⟨ybase, ycap, rfl⟩ := hy.slice
 refine enter (args := [_]) Tryz.func28 rfl ?_
 have hw : IntKind.u64.wrap (body.length : Int) = body.length := z0c _ (by omega) (by omega)
 have hc := z6r body
 simp [Tryz.f28, go_sem]
 refine (of03_spec hy (by omega)).mono ?_
 rintro e st1 ⟨rfl, rfl⟩
 generalize hcc : crcM body = c at *
 simp [go_sem, hw]
 refine (z3a g (show body.length < 2 ^ 64 by omega)).mono ?_
 rintro e st2 ⟨v, rfl, hv, hf, hk2⟩
 have hpl := z14 body.length (by omega)
 have w0 : IntKind.u8.wrap (c : Int) = ((UInt8.ofNat (c % 256)).toNat : Int) := by rw [z24 _ (by omega), IntKind.wrap_u8]; omega
 have f1 : IntKind.u8.wrap ((c : Int).fdiv 256) = ((UInt8.ofNat (c / 256 % 256)).toNat : Int) := by rw [z24 _ (by omega), IntKind.wrap_u8, Int.fdiv_eq_ediv_of_nonneg _ (by omega)]; omega
 have f2 : IntKind.u8.wrap ((c : Int).fdiv 65536) = ((UInt8.ofNat (c / 65536 % 256)).toNat : Int) := by rw [z24 _ (by omega), IntKind.wrap_u8, Int.fdiv_eq_ediv_of_nonneg _ (by omega)]; omega
 have f3 : IntKind.u8.wrap ((c : Int).fdiv 16777216) = ((UInt8.ofNat (c / 16777216 % 256)).toNat : Int) := by rw [z24 _ (by omega), IntKind.wrap_u8, Int.fdiv_eq_ediv_of_nonneg _ (by omega)]; omega
 generalize hB0 : UInt8.ofNat (c % 256) = B0 at *
 generalize hB1 : UInt8.ofNat (c / 256 % 256) = B1 at *
 generalize hB2 : UInt8.ofNat (c / 65536 % 256) = B2 at *
 generalize hB3 : UInt8.ofNat (c / 16777216 % 256) = B3 at *
 have hle : le4 c = [B0, B1, B2, B3] := by unfold le4; rw [hB0, hB1, hB2, hB3]
 simp [go_sem, w0, f1, f2, f3]
 unfold NewS
 intro b3 hb3
 refine ⟨.ty 0, ?_⟩
 simp [go_sem]
 have k3 : New st2 (upd st2 b3 (.cells true [.int .u8 B0.toNat, .int .u8 B1.toNat, .int .u8 B2.toNat, .int .u8 B3.toNat] 4 (.ty 0))) := (New.refl _).add hb3
 refine AppI_new (m := 4) (ys := bytesV (le4 c)) si40 (hv.new' k3) hf (hk2.trans k3) ?_ (z20 _) (by omega) ?_
 ·rw [hle]; simp [z06, z0i, upd_same, cellsOf, bytesV]
 intro nb nc st4 hv4 hf4 hk4 _
 simp [go_sem]
 refine AppI_new (m := body.length) (ys := bytesV body) si40 hv4 hf4 hk4 (hy.new hk4).src (z20 _) (by omega) ?_
 intro nb2 nc2 st5 hv5 hf5 hk5 _
 simp [go_sem]
 refine ⟨_, rfl, ?_, hf5, hk5⟩
 have : z0d body = vputM body.length ++ (le4 c ++ body) := by unfold z0d; rw [hcc]
 rw [this]
 have hl4 : (le4 c).length = 4 := by rw [hle]; rfl
 have e1 : (vputM body.length ++ (le4 c ++ body)).length = (vputM body.length).length + 4 + body.length := by simp [hl4]; omega
 have e2 : bytesV (vputM body.length ++ (le4 c ++ body)) = bytesV (vputM body.length) ++ bytesV (le4 c) ++ bytesV body := by simp [z52]
 rw [e1, e2]
 exact hv5
theorem zf5 {tv : Value} {ts : List Value} {tombs : List TombD} {g : Tg} (ht : RegF st 8 tv ts tombs.length) (hts : z13 st ts tombs) (hok : ∀ t ∈ tombs, z1g t) (hlt : tombs.length ≤ 64) :
  z00 Tryz.prog W0 231 #[tv] st (z36 st g (z3d tombs)) := by
 obtain ⟨tb, tc, rfl⟩ := ht.slice
 refine enter (args := [_]) Tryz.func231 rfl ?_
 have hwl : IntKind.u64.wrap (tombs.length : Int) = (tombs.length : Int) := z0c _ (by omega) (by omega)
 simp [Tryz.f231, go_sem, hwl]
 refine (z3a g (show tombs.length < 2 ^ 64 by omega)).mono ?_
 rintro e st1 ⟨v1, rfl, hV1, hF1, hk1⟩
 simp [go_sem]
 have hfl : (tombs.flatMap tombB).length ≤ 5406 * tombs.length := z3i fun t h => z4g (hok t h)
 have hvl := z14 tombs.length (by omega)
 refine ⟨fun E st' => New st st' ∧ E 0 = .slice tb tombs.length tc ∧ ∃ i : Nat, E 4 = Val.i i ∧ i ≤ tombs.length ∧ Vec st' g 1 (E 3) (bytesV (vputM tombs.length ++ (tombs.take i).flatMap tombB)) (vputM tombs.length ++ (tombs.take i).flatMap tombB).length ∧ Fresh st (E 3),
  fun E _ => match E 4 with | .int _ i => tombs.length - i.toNat | _ => 0, ⟨st1, .rfl' _, hk1, by simp [go_sem], 0, by simp [go_sem], by omega, by simpa [go_sem] using hV1, by simpa [go_sem] using hF1⟩, ?_⟩
 rintro E st2 ⟨hk2, e0, i, e4, hi, hV, hF⟩
 by_cases hlt' : i < tombs.length
 ·have hltI : ((i : Int) < tombs.length) = True := eq_true (by omega)
  have hwi := wrS i (by omega)
  obtain ⟨mb, off, cap, rw_, zs, mm, g', hv, hs0, hget⟩ := z1d ht (by omega)
  have hs := hk2 _ _ hs0
  injection hv with v1 v2 v3
  subst v1; subst v3
  obtain ⟨hlen, hcell, hc⟩ := hget i hlt'
  have hx : tombs[i]? = some tombs[i] := List.getElem?_eq_getElem hlt'
  have htk : tombs.take (i + 1) = tombs.take i ++ [tombs[i]] := by rw [List.take_add_one, hx]; rfl
  have hti := hts i _ hx
  rw [← hcell] at hti
  have hoki := hok _ (List.getElem_mem hlt')
  generalize tombs[i] = x at *
  obtain ⟨B, hB⟩ : ∃ B, vputM tombs.length ++ (tombs.take i).flatMap tombB = B := ⟨_, rfl⟩
  have hBl : B.length < 2 ^ 38 + 1000000 := by
   have : ((tombs.take i).flatMap tombB).length ≤ 5406 * (tombs.take i).length := z3i fun t h => z4g (hok t (List.mem_of_mem_take h))
   have h2 : (tombs.take i).length ≤ 64 := by rw [List.length_take]; omega
   rw [← hB, List.length_append]
   omega
  rw [hB] at hV
  obtain ⟨ms, hms, hcs⟩ := hti
  have hms0 := hms
  have hxl := z4g hoki
  have i1 := z0q (v := x.seq) (by have := hoki.1; omega) (by have := hoki.1; omega)
  have i2 := z0q (v := x.fro) (by have := hoki.2.1; unfold z0r at this; omega) (by have := hoki.2.1; unfold z0r at this; omega)
  have i3 := z0q (v := x.to) (by have := hoki.2.1; unfold z0r at this; omega) (by have := hoki.2.1; unfold z0r at this; omega)
  obtain ⟨sq, mat, fro, to⟩ := x
  obtain ⟨⟨k1, k2⟩, k3, k4⟩ := hoki
  unfold z0r at k3
  simp only at k1 k2 k3 k4 i1 i2 i3
  have k5 := zd2 k4
  have hsm := (z63 mat 1 64 4096 (by omega) k4).1
  have hed := holdsM_edge mat 1 64 4096 k4
  have hex : ∃ op name value vb vl vc kb kl kc, ms = [Val.i op, .string name, .string value, .slice vb vl vc, .slice kb kl kc] := by
   obtain ⟨op, name, value, vals, kids⟩ := mat
   unfold MatAt at hms
   obtain ⟨vv, kv, ks, rfl, hv', hk', hkids⟩ := hms
   obtain ⟨vb', vc', rfl⟩ := hv'.slice
   obtain ⟨kb', kc', rfl⟩ := hk'.slice
   exact ⟨_, _, _, _, _, _, _, _, _, rfl⟩
  obtain ⟨op, name, value, vb', vl', vc', kb', kl', kc', rfl⟩ := hex
  simp only [List.cons_append, List.nil_append] at hcs
  rw [← hcell, hcs] at hc
  have hc0 := hc 0 (by omega)
  have hc6 := hc 6 (by omega)
  have hc7 := hc 7 (by omega)
  simp at hc0 hc6 hc7
  have hm5 : (zs.drop (off + i * 8 + 1)).take 5 = [Val.i op, .string name, .string value, .slice vb' vl' vc', .slice kb' kl' kc'] := by
   have := congrArg (fun l => (l.drop 1).take 5) hcs
   simpa [List.drop_take, List.drop_drop, List.take_take] using this
  simp [go_sem, e0, e4, hltI, hlt', hs, hlen, hc0]
  have hBt : B ++ tombB ⟨sq, mat, fro, to⟩ = B ++ intB sq ++ intB fro ++ intB to ++ putM mat := by simp [tombB]
  have hBtl : (B ++ intB sq ++ intB fro ++ intB to ++ putM mat).length < 2 ^ 40 := by rw [← hBt, List.length_append]; omega
  have hB3 : (B ++ intB sq ++ intB fro ++ intB to).length < 2 ^ 40 := by rw [List.length_append] at hBtl; omega
  have hB2 : (B ++ intB sq ++ intB fro).length < 2 ^ 40 := by rw [List.length_append] at hB3; omega
  have hB1 : (B ++ intB sq).length < 2 ^ 40 := by rw [List.length_append] at hB2; omega
  refine (z40 g (by omega) (by omega)).mono ?_
  rintro e st3 ⟨w3, rfl, hw3, -, hk3⟩
  simp [go_sem]
  refine appB (st0 := st) si40 (hV.new' hk3) hF (hk2.trans hk3) hw3.reg (by omega) ?_
  intro v4 st4 hV4 hF4 hk4
  have hs := hk4 _ _ hs0
  simp [go_sem, e0, e4, hlt', hs, hlen, hc6]
  refine (z40 g (by omega) (by omega)).mono ?_
  rintro e st5 ⟨w5, rfl, hw5, -, hk5⟩
  simp [go_sem]
  refine appB (st0 := st) si40 (hV4.new' hk5) hF4 (hk4.trans hk5) hw5.reg (by omega) ?_
  intro v6 st6 hV6 hF6 hk6
  have hs := hk6 _ _ hs0
  simp [go_sem, e0, e4, hlt', hs, hlen, hc7]
  refine (z40 g (by omega) (by omega)).mono ?_
  rintro e st7 ⟨w7, rfl, hw7, -, hk7⟩
  simp [go_sem]
  refine appB (st0 := st) si40 (hV6.new' hk7) hF6 (hk6.trans hk7) hw7.reg (by omega) ?_
  intro v8 st8 hV8 hF8 hk8
  have hs := hk8 _ _ hs0
  have hl6 : off + i * 8 + 1 + 5 ≤ zs.length := by omega
  simp [go_sem, e0, e4, hlt', hs, hlen, hm5, hl6]
  refine (z8i mat g hsm hed (hms0.new hk8) (by omega)).mono ?_
  rintro e st9 ⟨w9, rfl, hw9, -, hk9⟩
  simp [go_sem]
  refine appB (st0 := st) si40 (hV8.new' hk9) hF8 (hk8.trans hk9) hw9.reg (by omega) ?_
  intro v10 st10 hV10 hF10 hk10
  simp [go_sem, e0, e4, hwi]
  have heq : B ++ intB sq ++ intB fro ++ intB to ++ putM mat = vputM tombs.length ++ (tombs.take (i + 1)).flatMap tombB := by rw [← hBt, htk, ← hB]; simp
  rw [heq] at hV10
  refine ⟨_, .rfl' _, ⟨hk10, i + 1, by omega, by omega, ?_, hF10⟩, by omega⟩
  simpa using hV10
 ·have hlt2 : ((i : Int) < tombs.length) = False := eq_false (by omega)
  have : i = tombs.length := by omega
  subst this
  simp [go_sem, e0, e4, hlt2]
  rw [List.take_length] at hV
  exact ⟨_, rfl, hV, hF, hk2⟩
theorem zja {cs : List Value} {m : ManD} {g : Tg} (hg : g ≠ .ty 0) (h : ManAt st cs m) (hm : manM m = true) (hf : z2j m) : z00 Tryz.prog W0 183 #[.agg cs.toArray] st (z36 st g (bodyM m)) := by
 obtain ⟨bv, tv, bs, ts, rfl, hb, hbs, ht, hts⟩ := h
 obtain ⟨bb, bc, rfl⟩ := hb.slice
 obtain ⟨tb, tc, rfl⟩ := ht.slice
 obtain ⟨⟨h1, h2, h3, h4, h5, h6, h7, h8⟩, hmb, hmt⟩ := manM_parts hm
 obtain ⟨hbl1, hbl2⟩ := z3e hm hf
 unfold z0m at h3 h4
 have a1 := z0q (v := m.seq) (by omega) (by omega)
 have a2 := z0q (v := m.log) (by omega) (by omega)
 have a3 := z0q (v := m.next) (by omega) (by omega)
 have a4 := z0q (v := m.now) (by omega) (by omega)
 have a5 := z14 m.blocks.length (by omega)
 refine enter (args := [_]) Tryz.func183 rfl ?_
 refine IW_cut (fun E' st' => ∃ tm, New st st' ∧ E' 1 = ptr tm ∧ st' tm = some (.cells true [Val.i m.seq, Val.i m.log, Val.i m.next, Val.i m.now, .slice bb m.blocks.length bc, .slice tb m.tombs.length tc] 6 (.ty 0))) ?_ ?_
 ·simp [go_sem]
  unfold NewP
  intro tm htm
  refine ⟨.ty 0, ?_⟩
  simp [go_sem]
  exact (New.refl _).add htm
 rintro E1 st1 ⟨tm, hk1, e1, htm⟩
 obtain ⟨MC, hMC⟩ : ∃ o, o = HObj.cells true [Val.i m.seq, Val.i m.log, Val.i m.next, Val.i m.now, .slice bb m.blocks.length bc, .slice tb m.tombs.length tc] 6 (.ty 0) := ⟨_, rfl⟩
 have hB4l : (intB m.seq ++ intB m.log ++ intB m.next ++ intB m.now ++ vputM m.blocks.length).length ≤ 50 := by simp only [List.length_append]; omega
 obtain ⟨B5, hB5⟩ : ∃ B, intB m.seq ++ intB m.log ++ intB m.next ++ intB m.now ++ vputM m.blocks.length = B := ⟨_, rfl⟩
 have hwl : IntKind.u64.wrap (m.blocks.length : Int) = (m.blocks.length : Int) := z0c _ (by omega) (by omega)
 simp [go_sem, e1, htm]
 refine (z40 g (by omega) (by omega)).mono ?_
 rintro e st2 ⟨v2, rfl, hV2, hF2, hk2⟩
 simp [go_sem, e1, hk2 _ _ htm]
 refine (z40 g (by omega) (by omega)).mono ?_
 rintro e st3 ⟨w3, rfl, hw3, -, hk3⟩
 simp [go_sem]
 refine appB (st0 := st1) si40 (hV2.new' hk3) hF2 (hk2.trans hk3) hw3.reg (by simp only [List.length_append] at hB4l ⊢; omega) ?_
 intro v4 st4 hV4 hF4 hk4
 simp [go_sem, e1, hk4 _ _ htm]
 refine (z40 g (by omega) (by omega)).mono ?_
 rintro e st5 ⟨w5, rfl, hw5, -, hk5⟩
 simp [go_sem]
 refine appB (st0 := st1) si40 (hV4.new' hk5) hF4 (hk4.trans hk5) hw5.reg (by simp only [List.length_append] at hB4l ⊢; omega) ?_
 intro v6 st6 hV6 hF6 hk6
 simp [go_sem, e1, hk6 _ _ htm]
 refine (z40 g (by omega) (by omega)).mono ?_
 rintro e st7 ⟨w7, rfl, hw7, -, hk7⟩
 simp [go_sem]
 refine appB (st0 := st1) si40 (hV6.new' hk7) hF6 (hk6.trans hk7) hw7.reg (by simp only [List.length_append] at hB4l ⊢; omega) ?_
 intro v8 st8 hV8 hF8 hk8
 simp [go_sem, e1, hk8 _ _ htm, hwl]
 refine (z3a g (show m.blocks.length < 2 ^ 64 by omega)).mono ?_
 rintro e st9 ⟨w9, rfl, hw9, -, hk9⟩
 simp [go_sem]
 refine appB (st0 := st1) si40 (hV8.new' hk9) hF8 (hk8.trans hk9) hw9.reg (by simp only [List.length_append] at hB4l ⊢; omega) ?_
 intro v10 st10 hV10 hF10 hk10
 rw [hB5] at hV10
 rw [hB5] at hB4l
 simp [go_sem, e1]
 refine ⟨fun E st' => New st1 st' ∧ E 1 = ptr tm ∧ ∃ i : Nat, E 4 = Val.i i ∧ i ≤ m.blocks.length ∧ Vec st' g 1 (E 3) (bytesV (B5 ++ (m.blocks.take i).flatMap metaB)) (B5 ++ (m.blocks.take i).flatMap metaB).length ∧ Fresh st1 (E 3),
  fun E _ => match E 4 with | .int _ i => m.blocks.length - i.toNat | _ => 0, ⟨st10, .rfl' _, hk10, by simp [go_sem, e1], 0, by simp [go_sem], by omega, by simpa [go_sem] using hV10, by simpa [go_sem] using hF10⟩, ?_⟩
 clear e1 hV2 hF2 hV4 hF4 hV6 hF6 hV8 hF8 hV10 hF10 hw3 hw5 hw7 hw9
 rintro E st6 ⟨hk6, e1, i, e4, hi, hV, hF⟩
 have htm6 := hk6 _ _ htm
 by_cases hlt : i < m.blocks.length
 ·have hlt' : ((i : Int) < m.blocks.length) = True := eq_true (by omega)
  have hwi := wrS i (by omega)
  obtain ⟨mb, off, cap, rw_, zs, mm, g', hv, hs, hget⟩ := z1d (hb.new (hk1.trans hk6)) (by omega)
  injection hv with v1 v2 v3
  subst v1; subst v3
  obtain ⟨hlen, hcell, hc⟩ := hget i hlt
  have hx : m.blocks[i]? = some m.blocks[i] := List.getElem?_eq_getElem hlt
  have htk : m.blocks.take (i + 1) = m.blocks.take i ++ [m.blocks[i]] := by rw [List.take_add_one, hx]; rfl
  rw [hbs i _ hx] at hcell
  have hox := hmb _ (List.getElem_mem hlt)
  have hfx := hf _ (List.getElem_mem hlt)
  generalize m.blocks[i] = x at *
  unfold MetaD.cells at hcell
  obtain ⟨B, hB⟩ : ∃ B, B5 ++ (m.blocks.take i).flatMap metaB = B := ⟨_, rfl⟩
  have hBl : B.length ≤ 64000 := by
   have : ((m.blocks.take i).flatMap metaB).length ≤ 70 * (m.blocks.take i).length := z3i fun y hy => z6u (hmb y (List.mem_of_mem_take hy)) (hf y (List.mem_of_mem_take hy))
   have h2 : (m.blocks.take i).length ≤ 900 := by rw [List.length_take]; omega
   rw [← hB, List.length_append]
   omega
  rw [hB] at hV
  have hxi : ∀ y ∈ x.ints, -2 ^ 63 ≤ y ∧ y < 2 ^ 63 := by
   unfold z0b z0m at hox
   intro y hy
   simp [MetaD.ints] at hy
   omega
  have hxl := z6u hox hfx
  simp [go_sem, e1, e4, htm6, hlt', hlt, hs, hlen, hcell]
  unfold NewP
  intro tx htx
  refine ⟨.ty 0, ?_⟩
  simp [go_sem, e1, e4]
  unfold NewS
  intro nb hnb
  refine ⟨.ty 0, ?_⟩
  simp [go_sem, e1, e4]
  have HN : New st6 (upd (upd st6 tx (.cells true [Val.i x.id, Val.i x.level, Val.i x.day, Val.i x.lo, Val.i x.hi, Val.i x.done, Val.i x.rows] 7 (.ty 0))) nb (.cells true [Val.i x.id, Val.i x.level, Val.i x.day, Val.i x.lo, Val.i x.hi, Val.i x.done, Val.i x.rows] 7 (.ty 0))) := ((New.refl _).add htx).add hnb
  have hnb7 := upd_same (upd st6 tx (.cells true [Val.i x.id, Val.i x.level, Val.i x.day, Val.i x.lo, Val.i x.hi, Val.i x.done, Val.i x.rows] 7 (.ty 0))) nb (.cells true [Val.i x.id, Val.i x.level, Val.i x.day, Val.i x.lo, Val.i x.hi, Val.i x.done, Val.i x.rows] 7 (.ty 0))
  have hints : [Val.i x.id, Val.i x.level, Val.i x.day, Val.i x.lo, Val.i x.hi, Val.i x.done, Val.i x.rows] = x.ints.map Val.i := rfl
  have hil : x.ints.length = 7 := rfl
  have hmB : metaB x = x.ints.flatMap intB := rfl
  refine ⟨fun E' st' => New st1 st' ∧ E' 1 = ptr tm ∧ E' 4 = Val.i i ∧ E' 6 = .slice (some ⟨nb, 0, none⟩) 7 7 ∧ st' nb = some (.cells true [Val.i x.id, Val.i x.level, Val.i x.day, Val.i x.lo, Val.i x.hi, Val.i x.done, Val.i x.rows] 7 (.ty 0)) ∧ ∃ j : Nat, E' 7 = Val.i j ∧ j ≤ 7 ∧ Vec st' g 1 (E' 3) (bytesV (B ++ (x.ints.take j).flatMap intB)) (B ++ (x.ints.take j).flatMap intB).length ∧ Fresh st1 (E' 3),
   fun E' _ => match E' 7 with | .int _ j => 7 - j.toNat | _ => 0, ⟨_, .rfl' _, hk6.trans HN, by simp [go_sem, e1], by simp [go_sem, e4], by simp [go_sem], hnb7, 0, by simp [go_sem], by omega, by simpa [go_sem] using hV.new' HN, by simpa [go_sem] using hF⟩, ?_⟩
  clear hnb7 HN e1 e4 hV hF hs htm6 hk6
  rw [hints]
  rintro E' st7 ⟨hk7, e1, e4, e6, hnb7, j, e7, hj, hV, hF⟩
  by_cases hj7 : j < 7
  ·have hj7' : ((j : Int) < 7) = True := eq_true (by omega)
   have hwj := wrS j (by omega)
   have hxj : x.ints[j]? = some x.ints[j] := List.getElem?_eq_getElem (by omega)
   have htj : x.ints.take (j + 1) = x.ints.take j ++ [x.ints[j]] := by rw [List.take_add_one, hxj]; rfl
   have hcj : (x.ints.map Val.i)[j]? = some (Val.i x.ints[j]) := by simp [hxj]
   have hbj := hxi _ (List.getElem_mem (show j < x.ints.length by omega))
   have hlj : (B ++ (x.ints.take j).flatMap intB ++ intB x.ints[j]).length < 2 ^ 46 := by
    have h1 : metaB x = (x.ints.take j).flatMap intB ++ (x.ints.drop j).flatMap intB := by rw [hmB, ← List.flatMap_append, List.take_append_drop]
    have h2 := congrArg List.length h1
    have h3 := z0q hbj.1 hbj.2
    simp only [List.length_append] at h2 ⊢
    omega
   generalize x.ints[j] = y at *
   generalize x.ints.map Val.i = L at *
   simp [go_sem, e1, e4, e6, e7, hj7', hj7, hnb7, hcj]
   refine (z40 g hbj.1 hbj.2).mono ?_
   rintro e st8 ⟨w8, rfl, hw8, -, hk8⟩
   simp [go_sem]
   refine appC (st0 := st1) si40 (hV.new' hk8) hF (hk7.trans hk8) hw8.reg hlj ?_
   intro v9 st9 hV9 hF9 hk9 hK9
   have hnb9 := hK9 _ _ (hk8 _ _ hnb7) (by simp only [HObj.tag]; intro h; injection h with h; exact hg h.symm)
   simp [go_sem, e1, e4, e6, e7, hwj]
   have heq : B ++ (x.ints.take j).flatMap intB ++ intB y = B ++ (x.ints.take (j + 1)).flatMap intB := by rw [htj]; simp
   rw [heq] at hV9
   refine ⟨_, .rfl' _, ⟨hk9, hnb9, j + 1, by omega, by omega, by simpa using hV9, hF9⟩, by omega⟩
  ·have hj7' : ((j : Int) < 7) = False := eq_false (by omega)
   have : j = 7 := by omega
   subst this
   simp [go_sem, e1, e4, e6, e7, hwi]
   have heq : B ++ (x.ints.take 7).flatMap intB = B5 ++ (m.blocks.take (i + 1)).flatMap metaB := by
    rw [htk, ← hB]; simp [metaB, MetaD.ints]
   rw [heq] at hV
   refine ⟨_, .rfl' _, ⟨hk7, i + 1, by omega, by omega, by simpa using hV, hF⟩, by omega⟩
 ·have hlt' : ((i : Int) < m.blocks.length) = False := eq_false (by omega)
  have : i = m.blocks.length := by omega
  subst this
  rw [List.take_length] at hV
  have hV6 := hV
  have hF6 := hF
  obtain ⟨B6, hB6⟩ : ∃ B, B5 ++ m.blocks.flatMap metaB = B := ⟨_, rfl⟩
  rw [hB6] at hV6
  have hbody : B6 ++ z3d m.tombs = bodyM m := by rw [← hB6, ← hB5]; rfl
  simp [go_sem, e1, e4, htm6]
  refine (zf5 (g := g) (ht.new (hk1.trans hk6)) (fun i x hx => (hts i x hx).mono (fun _ _ _ _ h => h.new (hk1.trans hk6))) hmt h8).mono ?_
  rintro e st7 ⟨w7, rfl, hw7, -, hk7⟩
  simp [go_sem]
  refine appB (st0 := st1) si40 (hV6.new' hk7) hF6 (hk6.trans hk7) hw7.reg (by rw [hbody]; omega) ?_
  intro v8 st8 hV8 hF8 hk8
  rw [hbody] at hV8
  simp [go_sem]
  exact ⟨_, rfl, hV8, hF8.old hk1, hk1.trans hk8⟩
theorem zid {cs : List Value} {m : ManD} {g : Tg} (hg : g ≠ .ty 0) (h : ManAt st cs m) (hN : ∀ t ∈ m.tombs, NiceM 12 t.m) (hf : z2j m) : z00 Tryz.prog W0 113 #[.agg cs.toArray] st (EncR st g m) := by
 have h0 := h
 obtain ⟨bv, tv, bs, ts, rfl, hb, hbs, ht, hts⟩ := h
 obtain ⟨bb, bc, rfl⟩ := hb.slice
 obtain ⟨tb, tc, rfl⟩ := ht.slice
 refine enter (args := [_]) Tryz.func113 rfl ?_
 simp [Tryz.f113, go_sem]
 unfold NewP
 intro tm htm
 refine ⟨.ty 0, ?_⟩
 simp [go_sem]
 have hN1 := (New.refl st).add (b := tm) (o := .cells true [Val.i m.seq, Val.i m.log, Val.i m.next, Val.i m.now, .slice bb m.blocks.length bc, .slice tb m.tombs.length tc] 6 (.ty 0)) htm
 have htm1 := upd_same st tm (.cells true [Val.i m.seq, Val.i m.log, Val.i m.next, Val.i m.now, .slice bb m.blocks.length bc, .slice tb m.tombs.length tc] 6 (.ty 0))
 refine (zbm hN (h0.new hN1)).mono ?_
 rintro e st2 ⟨rfl, hk2⟩
 cases hm : manM m with
 | false =>
  simp [go_sem, EncR, hm]
  exact hN1.trans hk2
 | true =>
  have htm2 := hk2 _ _ htm1
  simp [go_sem, htm2]
  refine (zja hg (h0.new (hN1.trans hk2)) hm hf).mono ?_
  rintro e st3 ⟨v3, rfl, hV3, -, hk3⟩
  simp [go_sem]
  have hbl := z3e hm hf
  refine (zg1 g hV3.reg (by omega)).mono ?_
  rintro e st4 ⟨v4, rfl, hV4, hF4, hk4⟩
  simp [go_sem, EncR, hm]
  have hk := (hN1.trans hk2).trans hk3
  exact ⟨hk.trans hk4, hV4, hF4.old hk⟩
end
end Go.Proofs.YtahgfnbkkfpcnaaGreat
