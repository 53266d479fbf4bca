/- What the document says of names, of blocks, of tombs. -/
import Derived.Test.YtgppogppdmbgmaaGreatC20
import Derived.Test.YtgppogppdmbgmaaGreatC27
set_option linter.unusedVariables false
set_option linter.unusedSimpArgs false
set_option maxRecDepth 100000
set_option maxHeartbeats 8000000
namespace Go.Proofs.YtgppogppdmbgmaaGreat
open Go.RowKit (Below)
section
variable {W0 : World} {st : Heap}
theorem numbered_spec {s : ByteArray} {n : Int} (hs : s.size < 100) : ICalls Tryz.prog W0 128 #[.string s, Val.i n] st fun e st' => (∃ r : ByteArray, e = .returned (.string r) ∧ (nameOKM n → r ≠ ⟨#[]⟩) ∧ (¬ nameOKM n → r = ⟨#[]⟩)) ∧ New st st' := by
  refine enter (args := [_, _]) Tryz.func128 rfl ?_
  by_cases h1 : n < 0
  · have q1 := eq_true h1
    simp [Tryz.f128, go_sem, q1, nameOKM]
    first | exact New.refl _ | exact ⟨by omega, New.refl _⟩
  have q1 := eq_false h1
  by_cases h2 : 99999999 < n
  · have q2 := eq_true h2
    simp [Tryz.f128, go_sem, q1, q2, nameOKM]
    first | exact New.refl _ | exact ⟨by omega, New.refl _⟩
  have q2 := eq_false h2
  have hok : nameOKM n := ⟨by omega, by omega⟩
  simp [Tryz.f128, go_sem, q1, q2, hok]
  refine ⟨fun E st' => st' = st ∧ E 0 = .string s ∧ ∃ (i : Nat) (k : Int) (t : ByteArray), E 6 = Val.i i ∧ i ≤ 8 ∧ E 1 = Val.i k ∧ 0 ≤ k ∧ k ≤ 99999999 ∧ E 5 = .string t ∧ t.size = i,
    fun E _ => match E 6 with | .int _ i => 8 - i.toNat | _ => 0, ⟨st, .rfl' _, rfl, by simp [go_sem], 0, n, ⟨#[]⟩, by simp [go_sem], by omega, by simp [go_sem], by omega, by omega, by simp [go_sem], rfl⟩, ?_⟩
  rintro E st' ⟨rfl, e0, i, k, t, e6, hi, e1, hk0, hk1, e5, ht⟩
  by_cases hlt : i < 8
  · have hlt' : ((i : Int) < 8) = True := eq_true (by omega)
    have hwi : IntKind.i64.wrap ((i : Int) + 1) = ((i + 1 : Nat) : Int) := by rw [wrap_id (by omega) (by omega)]; omega
    have hm : Int.tmod k 10 = k % 10 := Int.tmod_eq_emod_of_nonneg hk0
    have hq : Int.tdiv k 10 = k / 10 := Int.tdiv_eq_ediv_of_nonneg hk0
    obtain ⟨d, hd, hd10⟩ : ∃ d : Nat, k % 10 = (d : Int) ∧ d < 10 := ⟨(k % 10).toNat, by omega, by omega⟩
    obtain ⟨u, hu⟩ : ∃ u, d + 1 = u := ⟨_, rfl⟩
    have hw1 : IntKind.i64.wrap ((d : Int) + 1) = (u : Int) := by rw [wrap_id (by omega) (by omega)]; omega
    rw [hd] at hm
    have hw2 : IntKind.i64.wrap (k / 10) = k / 10 := wrap_id (by omega) (by omega)
    have hle : u ≤ 10 := by omega
    have hdu : d ≤ u := by omega
    have h10 : (⟨#[48, 49, 50, 51, 52, 53, 54, 55, 56, 57]⟩ : ByteArray).size = 10 := rfl
    have hex : ((⟨#[48, 49, 50, 51, 52, 53, 54, 55, 56, 57]⟩ : ByteArray).extract d u).size = 1 := by
      rw [ByteArray.size_extract, h10]; omega
    generalize hS : (⟨#[48, 49, 50, 51, 52, 53, 54, 55, 56, 57]⟩ : ByteArray) = S at h10 hex
    simp [go_sem, e0, e1, e5, e6, hlt', hlt, hm, hq, hw1, hw2, hwi, hd10]
    have hsl : min u S.size - d + t.size ≤ 9223372036854775807 := by omega
    refine ⟨by omega, hdu, ?_⟩
    rw [if_pos hsl]
    simp [go_sem, e0, e1, e5, e6, hq, hw2, hwi]
    exact ⟨_, .rfl' _, ⟨rfl, i + 1, by omega, by omega, by omega, by omega, by omega⟩, by omega⟩
  · have hlt' : ((i : Int) < 8) = False := eq_false (by omega)
    have : i = 8 := by omega
    subst this
    have hsl : (s.size + t.size ≤ 9223372036854775807) = True := eq_true (by omega)
    simp [go_sem, e0, e1, e5, e6, hsl]
    refine ⟨?_, New.refl _⟩
    intro h
    have hsz : (s ++ t).size = s.size + t.size := by simp
    rw [h] at hsz
    have : (⟨#[]⟩ : ByteArray).size = 0 := rfl
    omega
theorem metaRef_spec {x : MetaD} : ICalls Tryz.prog W0 129 #[.agg #[Val.i x.id, Val.i x.level, Val.i x.day, Val.i x.lo, Val.i x.hi, Val.i x.done, Val.i x.rows]] st fun e st' => e = .returned (.bool (decide (metaOK x))) ∧ New st st' := by
  refine enter (args := [_]) Tryz.func129 rfl ?_
  refine IW_cut (fun E' st' => ∃ ta, New st st' ∧ E' 1 = ptr ta ∧ st' ta = some (.cells true [Val.i x.id, Val.i x.level, Val.i x.day, Val.i x.lo, Val.i x.hi, Val.i x.done, Val.i x.rows] 7 (.ty 0))) ?_ ?_
  · simp [go_sem]
    unfold NewP
    intro tb htb
    refine ⟨.ty 0, ?_⟩
    simp [go_sem]
    exact (New.refl _).add htb
  rintro E1 st1 ⟨ta, hk1, e1, hta⟩
  simp [go_sem, e1, hta]
  refine (numbered_spec (by decide)).mono ?_
  rintro e st2 ⟨⟨r, rfl, hr1, hr2⟩, hk2⟩
  have hta := hk2 _ _ hta
  have hk3 := hk1.trans hk2
  by_cases hn : nameOKM x.id
  rotate_left
  · have := hr2 hn
    subst this
    have hno : ¬ metaOK x := fun h => hn h.1
    simp [go_sem, e1, hta, hno]
    exact hk3
  have q_n := eq_false (hr1 hn)
  by_cases c0 : 0 ≤ x.level
  rotate_left
  · have q_c0 := eq_false c0
    have hno : ¬ metaOK x := fun h => by unfold metaOK at h; omega
    simp [go_sem, e1, hta, hno, q_n, q_c0]
    exact hk3
  have q_c0 := eq_true c0
  by_cases c01 : x.level ≤ 3
  rotate_left
  · have q_c01 := eq_false c01
    have hno : ¬ metaOK x := fun h => by unfold metaOK at h; omega
    simp [go_sem, e1, hta, hno, q_n, q_c0, q_c01]
    exact hk3
  have q_c01 := eq_true c01
  by_cases c1 : 0 ≤ x.day
  rotate_left
  · have q_c1 := eq_false c1
    have hno : ¬ metaOK x := fun h => by unfold metaOK at h; omega
    simp [go_sem, e1, hta, hno, q_n, q_c0, q_c01, q_c1]
    exact hk3
  have q_c1 := eq_true c1
  by_cases c2 : x.day ≤ 127258290
  rotate_left
  · have q_c2 := eq_false c2
    have hno : ¬ metaOK x := fun h => by unfold metaOK at h; omega
    simp [go_sem, e1, hta, hno, q_n, q_c0, q_c01, q_c1, q_c2]
    exact hk3
  have q_c2 := eq_true c2
  by_cases c3 : 1 ≤ x.lo
  rotate_left
  · have q_c3 := eq_false c3
    have hno : ¬ metaOK x := fun h => by unfold metaOK at h; omega
    simp [go_sem, e1, hta, hno, q_n, q_c0, q_c01, q_c1, q_c2, q_c3]
    exact hk3
  have q_c3 := eq_true c3
  by_cases c4 : x.lo ≤ x.hi
  rotate_left
  · have q_c4 := eq_false c4
    have hno : ¬ metaOK x := fun h => by unfold metaOK at h; omega
    simp [go_sem, e1, hta, hno, q_n, q_c0, q_c01, q_c1, q_c2, q_c3, q_c4]
    exact hk3
  have q_c4 := eq_true c4
  by_cases c5 : x.hi ≤ x.done
  rotate_left
  · have q_c5 := eq_false c5
    have hno : ¬ metaOK x := fun h => by unfold metaOK at h; omega
    simp [go_sem, e1, hta, hno, q_n, q_c0, q_c01, q_c1, q_c2, q_c3, q_c4, q_c5]
    exact hk3
  have q_c5 := eq_true c5
  by_cases c6 : x.done ≤ 1099511627776
  rotate_left
  · have q_c6 := eq_false c6
    have hno : ¬ metaOK x := fun h => by unfold metaOK at h; omega
    simp [go_sem, e1, hta, hno, q_n, q_c0, q_c01, q_c1, q_c2, q_c3, q_c4, q_c5, q_c6]
    exact hk3
  have q_c6 := eq_true c6
  by_cases c7 : 1 ≤ x.rows
  rotate_left
  · have q_c7 := eq_false c7
    have hno : ¬ metaOK x := fun h => by unfold metaOK at h; omega
    simp [go_sem, e1, hta, hno, q_n, q_c0, q_c01, q_c1, q_c2, q_c3, q_c4, q_c5, q_c6, q_c7]
    exact hk3
  have q_c7 := eq_true c7
  have hyes : metaOK x := ⟨by assumption, by omega, by omega, by omega, by omega, by omega, by omega, by omega, by omega⟩
  simp [go_sem, e1, hta, hyes, q_n, q_c0, q_c01, q_c1, q_c2, q_c3, q_c4, q_c5, q_c6, q_c7]
  exact hk3
theorem refAligned_spec {a : Int} : ICalls Tryz.prog W0 195 #[Val.i a] st fun e st' => e = .returned (.bool (decide (0 ≤ a ∧ a ≤ 1099511634240 ∧ a % 8640 = 0))) ∧ st' = st := by
  refine enter (args := [_]) Tryz.func195 rfl ?_
  by_cases c0 : 0 ≤ a
  rotate_left
  · have q0 := eq_false c0
    simp [Tryz.f195, go_sem, q0]
  have q0 := eq_true c0
  have m1 : Int.tmod a 8640 = a % 8640 := Int.tmod_eq_emod_of_nonneg c0
  by_cases c1 : a ≤ 1099511634240
  rotate_left
  · have q1 := eq_false c1
    simp [Tryz.f195, go_sem, q0, q1]
  have q1 := eq_true c1
  by_cases c2 : a % 8640 = 0
  · have q2 := eq_true c2
    simp [Tryz.f195, go_sem, q0, q1, m1, q2]
  · have q2 := eq_false c2
    simp [Tryz.f195, go_sem, q0, q1, m1, q2]
theorem refTomb_spec {t : TombD} {cs : List Value} (hN : NiceM 12 t.m) (h : TombAt st cs t) : ICalls Tryz.prog W0 130 #[.agg cs.toArray] st fun e st' => e = .returned (.bool (decide (tombOK t))) ∧ New st st' := by
  obtain ⟨ms, hm, rfl⟩ := h
  obtain ⟨seq, m, fro, to⟩ := t
  match m with
  | .mk op name value vals kids =>
  have hm0 := hm
  unfold MatAt at hm
  obtain ⟨vv, kv, ks, rfl, hv, hk', hkids⟩ := hm
  obtain ⟨vb, vc, rfl⟩ := hv.slice
  obtain ⟨kb, kc, rfl⟩ := hk'.slice
  refine enter (args := [_]) Tryz.func130 rfl ?_
  refine IW_cut (fun E' st' => ∃ ta, New st st' ∧ E' 1 = ptr ta ∧ st' ta = some (.cells true [Val.i seq, Val.i op, .string name, .string value, .slice vb vals.length vc, .slice kb kids.length kc, Val.i fro, Val.i to] 8 (.ty 0))) ?_ ?_
  · simp [go_sem]
    unfold NewP
    intro tb htb
    refine ⟨.ty 0, ?_⟩
    simp [go_sem]
    exact (New.refl _).add htb
  rintro E1 st1 ⟨ta, hk1, e1, hta⟩
  generalize hT : (TombD.mk seq (.mk op name value vals kids) fro to) = T
  have hno : ∀ {P : Prop}, (tombOK T → P) → ¬ P → decide (tombOK T) = false := fun h1 h2 => decide_eq_false fun h => h2 (h1 h)
  by_cases c0 : 1 ≤ seq
  rotate_left
  · have q0 := eq_false c0
    have hd := hno (P := 1 ≤ seq) (by rw [← hT]; exact fun h => h.1.1) c0
    rw [hd]
    simp [go_sem, e1, hta, q0]
    exact hk1
  have q0 := eq_true c0
  by_cases c1 : seq ≤ 1099511627776
  rotate_left
  · have q1 := eq_false c1
    have hd := hno (P := seq ≤ 1099511627776) (by rw [← hT]; exact fun h => h.1.2) c1
    rw [hd]
    simp [go_sem, e1, hta, q0, q1]
    exact hk1
  have q1 := eq_true c1
  simp [go_sem, e1, hta, q0, q1]
  refine (refCheck_spec hN (Nat.le_refl 12) (hm0.new hk1)).mono ?_
  rintro e st2 ⟨rfl, hk2⟩
  have hta := hk2 _ _ hta
  have hk2 := hk1.trans hk2
  cases hc : checkM (.mk op name value vals kids) with
  | false =>
    have hd := hno (P := checkM (.mk op name value vals kids) = true) (by rw [← hT]; exact fun h => h.2.2) (by rw [hc]; simp)
    simp only [hd]
    simp [go_sem, e1, hta]
    first | exact hk2 | exact ⟨by simpa using hd, hk2⟩
  | true =>
  by_cases c2 : fro < to
  rotate_left
  · have q2 := eq_false c2
    have hd := hno (P := fro < to) (by rw [← hT]; exact fun h => h.2.1.2.1) c2
    simp only [hd]
    simp [go_sem, e1, hta, q2]
    first | exact hk2 | exact ⟨by simpa using hd, hk2⟩
  have q2 := eq_true c2
  simp [go_sem, e1, hta, q2]
  refine refAligned_spec.mono ?_
  rintro e st3 ⟨rfl, rfl⟩
  by_cases c3 : 0 ≤ fro ∧ fro ≤ 1099511634240 ∧ fro % 8640 = 0
  rotate_left
  · have q3 := eq_false c3
    have hd := hno (P := 0 ≤ fro ∧ fro ≤ 1099511634240 ∧ fro % 8640 = 0) (by rw [← hT]; intro h; obtain ⟨_, ⟨g1, g2, g3, g4, g5⟩, _⟩ := h; simp only at g1 g2 g3 g4 g5; exact ⟨g1, by omega, g4⟩) c3
    simp only [hd]
    simp [go_sem, e1, hta, decide_eq_false c3]
    first | exact hk2 | exact ⟨by simpa using hd, hk2⟩
  simp [go_sem, e1, hta, decide_eq_true c3]
  refine refAligned_spec.mono ?_
  rintro e st4 ⟨rfl, rfl⟩
  by_cases c4 : 0 ≤ to ∧ to ≤ 1099511634240 ∧ to % 8640 = 0
  rotate_left
  · have hd := hno (P := 0 ≤ to ∧ to ≤ 1099511634240 ∧ to % 8640 = 0) (by rw [← hT]; intro h; obtain ⟨_, ⟨g1, g2, g3, g4, g5⟩, _⟩ := h; simp only at g1 g2 g3 g4 g5; exact ⟨by omega, g3, g5⟩) c4
    simp only [hd]
    simp [go_sem, e1, hta, decide_eq_false c4]
    first | exact hk2 | exact ⟨by simpa using hd, hk2⟩
  have hy : decide (tombOK T) = true := decide_eq_true (by rw [← hT]; exact ⟨⟨c0, c1⟩, ⟨c3.1, c2, c4.2.1, c3.2.2, c4.2.2⟩, hc⟩)
  simp only [hy]
  simp [go_sem, e1, hta, decide_eq_true c4]
  first | exact hk2 | exact ⟨by simpa using hy, hk2⟩
end
end Go.Proofs.YtgppogppdmbgmaaGreat
set_option linter.unusedVariables false
set_option linter.unusedSimpArgs false
set_option maxRecDepth 100000
set_option maxHeartbeats 8000000
namespace Go.Proofs.YtgppogppdmbgmaaGreat
open Go.RowKit (Below)
section
variable {W0 : World} {st : Heap}
theorem refMan_spec {cs : List Value} {m : ManD} (hN : ∀ t ∈ m.tombs, NiceM 12 t.m) (h : ManAt st cs m) : ICalls Tryz.prog W0 57 #[.agg cs.toArray] st fun e st' => e = .returned (.bool (manM m)) ∧ New st st' := by
  obtain ⟨bv, tv, bs, ts, rfl, hb, hbs, ht, hts⟩ := h
  obtain ⟨bb, bc, rfl⟩ := hb.slice
  obtain ⟨tb, tc, rfl⟩ := ht.slice
  refine enter (args := [_]) Tryz.func57 rfl ?_
  generalize hRES : manM m = RES
  unfold manM at hRES
  refine IW_cut (fun E' st' => ∃ tm, New st st' ∧ E' 1 = ptr tm ∧ st' tm = some (.cells true [Val.i m.seq, Val.i m.log, Val.i m.next, Val.i m.now, .slice bb m.blocks.length bc, .slice tb m.tombs.length tc] 6 (.ty 0))) ?_ ?_
  · simp [go_sem]
    unfold NewP
    intro tm htm
    refine ⟨.ty 0, ?_⟩
    simp [go_sem]
    exact (New.refl _).add htm
  rintro E1 st1 ⟨tm, hk1, e1, htm⟩
  have hno : ¬ headOK m → RES = false := fun h => by rw [← hRES, decide_eq_false h]; simp
  refine IW_cut' (fun E' st' => headOK m ∧ New st st' ∧ E' 1 = ptr tm ∧ st' tm = some (.cells true [Val.i m.seq, Val.i m.log, Val.i m.next, Val.i m.now, .slice bb m.blocks.length bc, .slice tb m.tombs.length tc] 6 (.ty 0))) ?_ ?_
  · by_cases c0 : m.seq < 0
    · have q_c0 := eq_true c0
      have := hno (fun h => by unfold headOK at h; omega)
      subst this
      simp [go_sem, e1, htm, q_c0]
      exact hk1
    have q_c0 := eq_false c0
    by_cases c1 : 1099511627776 < m.seq
    · have q_c1 := eq_true c1
      have := hno (fun h => by unfold headOK at h; omega)
      subst this
      simp [go_sem, e1, htm, q_c0, q_c1]
      exact hk1
    have q_c1 := eq_false c1
    simp [go_sem, e1, htm, q_c0, q_c1]
    refine (numbered_spec (by decide)).mono ?_
    rintro e stn0 ⟨⟨r0, rfl, ha0, hb0⟩, hkx0⟩
    have htm := hkx0 _ _ htm
    have hkn0 := hk1.trans hkx0
    by_cases n0 : nameOKM m.log
    rotate_left
    · have := hb0 n0
      subst this
      have := hno (fun h => n0 h.2.2.1)
      subst this
      simp [go_sem, e1, htm]
      exact hkn0
    have q_n0 := eq_false (ha0 n0)
    simp [go_sem, e1, htm, q_n0]
    refine (numbered_spec (by decide)).mono ?_
    rintro e stn1 ⟨⟨r1, rfl, ha1, hb1⟩, hkx1⟩
    have htm := hkx1 _ _ htm
    have hkn1 := hkn0.trans hkx1
    by_cases n1 : nameOKM m.next
    rotate_left
    · have := hb1 n1
      subst this
      have := hno (fun h => n1 h.2.2.2.1)
      subst this
      simp [go_sem, e1, htm]
      exact hkn1
    have q_n1 := eq_false (ha1 n1)
    by_cases d0 : m.now < 0
    · have q_d0 : (m.now < 0) = True := eq_true (by omega)
      have := hno (fun h => by unfold headOK at h; omega)
      subst this
      simp [go_sem, e1, htm, q_n1, q_d0]
      exact hkn1
    have q_d0 : (m.now < 0) = False := eq_false (by omega)
    by_cases d1 : 1099511627776 ≤ m.now
    · have q_d1 : (1099511627776 ≤ m.now) = True := eq_true (by omega)
      have := hno (fun h => by unfold headOK at h; omega)
      subst this
      simp [go_sem, e1, htm, q_n1, q_d0, q_d1]
      exact hkn1
    have q_d1 : (1099511627776 ≤ m.now) = False := eq_false (by omega)
    by_cases d2 : 900 < m.blocks.length
    · have q_d2 : ((900 : Int) < m.blocks.length) = True := eq_true (by omega)
      have := hno (fun h => by unfold headOK at h; omega)
      subst this
      simp [go_sem, e1, htm, q_n1, q_d0, q_d1, q_d2]
      exact hkn1
    have q_d2 : ((900 : Int) < m.blocks.length) = False := eq_false (by omega)
    by_cases d3 : 64 < m.tombs.length
    · have q_d3 : ((64 : Int) < m.tombs.length) = True := eq_true (by omega)
      have := hno (fun h => by unfold headOK at h; omega)
      subst this
      simp [go_sem, e1, htm, q_n1, q_d0, q_d1, q_d2, q_d3]
      exact hkn1
    have q_d3 : ((64 : Int) < m.tombs.length) = False := eq_false (by omega)
    simp [go_sem, e1, htm, q_n1, q_d0, q_d1, q_d2, q_d3]
    exact ⟨⟨by omega, by omega, n0, n1, by omega, by omega, by omega, by omega⟩, hkn1⟩
  clear htm hk1 e1
  rintro E2 st2 ⟨hhead, hk2, e1, htm⟩
  rw [decide_eq_true hhead] at hRES
  simp only [Bool.true_and] at hRES
  clear hno
  obtain ⟨hh1, hh2, hh3, hh4, hh5, hh6, hh7, hh8⟩ := hhead
  refine IW_cut' (fun E' st' => tombsM m.seq none m.tombs = RES ∧ New st st' ∧ E' 1 = ptr tm ∧ st' tm = some (.cells true [Val.i m.seq, Val.i m.log, Val.i m.next, Val.i m.now, .slice bb m.blocks.length bc, .slice tb m.tombs.length tc] 6 (.ty 0))) ?_ ?_
  · simp [go_sem, e1, htm]
    refine ⟨fun E st' => New st st' ∧ E 1 = ptr tm ∧ st' tm = some (.cells true [Val.i m.seq, Val.i m.log, Val.i m.next, Val.i m.now, .slice bb m.blocks.length bc, .slice tb m.tombs.length tc] 6 (.ty 0)) ∧ ∃ i : Nat, E 3 = Val.i i ∧ i ≤ m.blocks.length ∧ (blocksM m.next m.seq (prevOf (m.blocks.map (·.id)) i) (m.blocks.drop i) && tombsM m.seq none m.tombs) = RES,
      fun E _ => match E 3 with | .int _ i => m.blocks.length - i.toNat | _ => 0, ⟨st2, .rfl' _, hk2, by simp [go_sem, e1], htm, 0, by simp [go_sem], by omega, by simpa [prevOf] using hRES⟩, ?_⟩
    clear hk2 htm e1 hRES
    rintro E st5 ⟨hk5, e1, htm, i, ei, hi, hrec⟩
    by_cases hlt : i < m.blocks.length
    · have hlt' : ((i : Int) < m.blocks.length) = True := eq_true (by omega)
      have hwi : IntKind.i64.wrap ((i : Int) + 1) = ((i + 1 : Nat) : Int) := by rw [wrap_id (by omega) (by omega)]; omega
      obtain ⟨mb, off, cap, rw_, zs, mm, g, hv, hs, hget⟩ := rows_get (hb.new hk5) (by omega)
      injection hv with v1 v2 v3
      subst v1; subst v3
      obtain ⟨hlen, hcell, hc⟩ := hget i hlt
      have hx : m.blocks[i]? = some m.blocks[i] := List.getElem?_eq_getElem hlt
      have hd : m.blocks.drop i = m.blocks[i] :: m.blocks.drop (i + 1) := List.drop_eq_getElem_cons hlt
      have hprev : prevOf (m.blocks.map (·.id)) (i + 1) = some m.blocks[i].id := by simp [prevOf, hx]
      rw [hd] at hrec
      rw [hbs i _ hx] at hcell
      unfold blocksM at hrec
      have hprev0 : i ≠ 0 → ∃ q, prevOf (m.blocks.map (·.id)) i = some q ∧ zs[off + (i - 1) * 7]? = some (Val.i q) := by
        intro h0
        have h1 : i - 1 < m.blocks.length := by omega
        obtain ⟨-, -, hc1⟩ := hget (i - 1) h1
        have hx1 : m.blocks[i - 1]? = some m.blocks[i - 1] := List.getElem?_eq_getElem h1
        refine ⟨m.blocks[i - 1].id, by simp [prevOf, h0, hx1], ?_⟩
        have := hc1 0 (by omega)
        rw [hbs _ _ hx1] at this
        simpa [MetaD.cells] using this
      generalize m.blocks[i] = x at *
      unfold MetaD.cells at hcell
      simp [go_sem, e1, ei, htm, hlt', hlt, hs, hlen, hcell]
      unfold NewP
      intro tx htx
      refine ⟨.ty 0, ?_⟩
      have htn : tm ≠ tx := ne_of_new htm htx
      have hmn : mb ≠ tx := ne_of_new hs htx
      simp [go_sem, e1, ei, htm, hlt', hlt, hs, hlen, hcell, htn, hmn]
      have HN9 : New st5 (upd st5 tx (.cells true [Val.i x.id, Val.i x.level, Val.i x.day, Val.i x.lo, Val.i x.hi, Val.i x.done, Val.i x.rows] 7 (.ty 0))) := (New.refl _).add htx
      refine draw [0, 1, 2, 3, 4, 6, 5, 7, 8, 9, 10, 11, 13, 12, 14, 15, 16, 17, 18, 19, 20, 21, 23, 25, 26, 22, 24, 27, 28, 29, 30, 31, 32] (by kernel_rfl) ?_
      simp [go_sem, e1, ei]
      refine metaRef_spec.mono ?_
      rintro e st6 ⟨rfl, hk6⟩
      have htx6 := hk6 _ _ (upd_same st5 tx _)
      have htm6 := hk6 _ _ (HN9 _ _ htm)
      have hs6 := hk6 _ _ (HN9 _ _ hs)
      have hk7 := hk5.trans (HN9.trans hk6)
      clear hk6 HN9 htm hs
      by_cases c0 : metaOK x
      rotate_left
      · have q0 := eq_false c0
        have : RES = false := by rw [← hrec]; simp [c0]
        subst this
        simp [go_sem, e1, ei, htx6, htm6, hs6, hlt', hlt, q0]
        exact hk7
      have q0 := eq_true c0
      by_cases c1 : m.next ≤ x.id
      · have q_c1 := eq_true c1
        have g_c1 : ¬ x.id < m.next := by omega
        have : RES = false := by rw [← hrec]; simp [g_c1]
        subst this
        simp [go_sem, e1, ei, htx6, htm6, hs6, hlt', hlt, q0, q_c1]
        exact hk7
      have q_c1 := eq_false c1
      have g_c1 : x.id < m.next := by omega
      by_cases c2 : m.seq < x.done
      · have q_c2 := eq_true c2
        have g_c2 : ¬ x.done ≤ m.seq := by omega
        have : RES = false := by rw [← hrec]; simp [g_c2]
        subst this
        simp [go_sem, e1, ei, htx6, htm6, hs6, hlt', hlt, q0, q_c1, q_c2]
        exact hk7
      have q_c2 := eq_false c2
      have g_c2 : x.done ≤ m.seq := by omega
      by_cases h0 : i = 0
      · have qi : ((0 : Int) < i) = False := eq_false (by omega)
        have qi2 : (0 < i) = False := eq_false (by omega)
        have hp0 : prevOf (m.blocks.map (·.id)) i = none := by rw [h0]; rfl
        rw [hp0] at hrec
        simp [go_sem, e1, ei, htx6, htm6, hs6, hlt', hlt, q0, q_c1, q_c2, qi, qi2, hwi]
        exact ⟨_, .rfl' _, ⟨hk7, htm6, i + 1, by omega, by omega, by rw [hprev]; simpa [aboveM, c0, g_c1, g_c2] using hrec⟩, by omega⟩
      · have qi : ((0 : Int) < i) = True := eq_true (by omega)
        have qi2 : (0 < i) = True := eq_true (by omega)
        have hwm : IntKind.i64.wrap ((i : Int) - 1) = ((i - 1 : Nat) : Int) := by rw [wrap_id (by omega) (by omega)]; omega
        obtain ⟨q, hq, hzq⟩ := hprev0 h0
        rw [hq] at hrec
        have hlm : i - 1 < m.blocks.length := by omega
        by_cases c9 : x.id ≤ q
        · have q9 := eq_true c9
          have g9 : ¬ q < x.id := by omega
          have : RES = false := by rw [← hrec]; simp [aboveM, g9]
          subst this
          simp [go_sem, e1, ei, htx6, htm6, hs6, hlt', hlt, q0, q_c1, q_c2, qi, qi2, hwm, hlm, hzq, q9]
          exact hk7
        · have q9 := eq_false c9
          have g9 : q < x.id := by omega
          simp [go_sem, e1, ei, htx6, htm6, hs6, hlt', hlt, q0, q_c1, q_c2, qi, qi2, hwm, hlm, hzq, q9, hwi]
          exact ⟨_, .rfl' _, ⟨hk7, htm6, i + 1, by omega, by omega, by rw [hprev]; simpa [aboveM, g9, c0, g_c1, g_c2] using hrec⟩, by omega⟩
    · have hlt' : ((i : Int) < m.blocks.length) = False := eq_false (by omega)
      have : i = m.blocks.length := by omega
      subst this
      rw [List.drop_length] at hrec
      unfold blocksM at hrec
      simp only [Bool.true_and] at hrec
      simp [go_sem, e1, ei, htm]
      exact ⟨hrec, hk5⟩
  clear htm hk2 e1 hRES
  rintro E3 st3 ⟨hRES, hk3, e1, htm⟩
  simp [go_sem, e1, htm]
  refine ⟨fun E st' => New st st' ∧ E 1 = ptr tm ∧ st' tm = some (.cells true [Val.i m.seq, Val.i m.log, Val.i m.next, Val.i m.now, .slice bb m.blocks.length bc, .slice tb m.tombs.length tc] 6 (.ty 0)) ∧ ∃ i : Nat, E 5 = Val.i i ∧ i ≤ m.tombs.length ∧ tombsM m.seq (prevOf (m.tombs.map (·.seq)) i) (m.tombs.drop i) = RES,
    fun E _ => match E 5 with | .int _ i => m.tombs.length - i.toNat | _ => 0, ⟨st3, .rfl' _, hk3, by simp [go_sem, e1], htm, 0, by simp [go_sem], by omega, by simpa [prevOf] using hRES⟩, ?_⟩
  clear hk3 htm e1 hRES
  rintro E st5 ⟨hk5, e1, htm, i, ei, hi, hrec⟩
  by_cases hlt : i < m.tombs.length
  · have hlt' : ((i : Int) < m.tombs.length) = True := eq_true (by omega)
    have hwi : IntKind.i64.wrap ((i : Int) + 1) = ((i + 1 : Nat) : Int) := by rw [wrap_id (by omega) (by omega)]; omega
    obtain ⟨mb, off, cap, rw_, zs, mm, g, hv, hs, hget⟩ := rows_get (ht.new hk5) (by omega)
    injection hv with v1 v2 v3
    subst v1; subst v3
    obtain ⟨hlen, hcell, hc⟩ := hget i hlt
    have hx : m.tombs[i]? = some m.tombs[i] := List.getElem?_eq_getElem hlt
    have hd : m.tombs.drop i = m.tombs[i] :: m.tombs.drop (i + 1) := List.drop_eq_getElem_cons hlt
    have hprev : prevOf (m.tombs.map (·.seq)) (i + 1) = some m.tombs[i].seq := by simp [prevOf, hx]
    rw [hd] at hrec
    have hti := (hts i _ hx).mono (fun _ _ _ _ h => h.new hk5)
    rw [← hcell] at hti
    unfold tombsM at hrec
    have hprev0 : i ≠ 0 → ∃ q, prevOf (m.tombs.map (·.seq)) i = some q ∧ zs[off + (i - 1) * 8]? = some (Val.i q) := by
      intro h0
      have h1 : i - 1 < m.tombs.length := by omega
      obtain ⟨-, -, hc1⟩ := hget (i - 1) h1
      have hx1 : m.tombs[i - 1]? = some m.tombs[i - 1] := List.getElem?_eq_getElem h1
      refine ⟨m.tombs[i - 1].seq, by simp [prevOf, h0, hx1], ?_⟩
      have := hc1 0 (by omega)
      obtain ⟨ms, -, hcs⟩ := hts _ _ hx1
      rw [hcs] at this
      simpa using this
    have hNi : NiceM 12 m.tombs[i].m := hN _ (List.getElem_mem hlt)
    generalize m.tombs[i] = x at *
    obtain ⟨ms, hms, hcs⟩ := hti
    have hms0 := hms
    obtain ⟨sq, mat, fro, to⟩ := x
    obtain ⟨op, name, value, vals, kids⟩ := mat
    unfold MatAt at hms
    obtain ⟨vv, kv, ks, rfl, hv', hk', hkids⟩ := hms
    obtain ⟨vb', vc', rfl⟩ := hv'.slice
    obtain ⟨kb', kc', rfl⟩ := hk'.slice
    simp only [List.cons_append, List.nil_append] at hcs
    simp [go_sem, e1, ei, htm, hlt', hlt, hs, hlen, hcs]
    unfold NewP
    intro tx htx
    refine ⟨.ty 0, ?_⟩
    have htn : tm ≠ tx := ne_of_new htm htx
    have hmn : mb ≠ tx := ne_of_new hs htx
    simp [go_sem, e1, ei, htm, hlt', hlt, hs, hlen, hcs, htn, hmn]
    have HN9 : New st5 (upd st5 tx (.cells true [Val.i sq, Val.i op, .string name, .string value, .slice vb' vals.length vc', .slice kb' kids.length kc', Val.i fro, Val.i to] 8 (.ty 0))) := (New.refl _).add htx
    refine draw [0, 1, 2, 3, 4, 6, 5, 7, 8, 9, 10, 11, 12, 13, 14, 16, 18, 19, 15, 17, 20, 21, 22, 23, 24, 25] (by kernel_rfl) ?_
    simp [go_sem, e1, ei]
    refine (refTomb_spec hNi ⟨_, hms0.new HN9, rfl⟩).mono ?_
    rintro e st6 ⟨rfl, hk6⟩
    have htx6 := hk6 _ _ (upd_same st5 tx _)
    have htm6 := hk6 _ _ (HN9 _ _ htm)
    have hs6 := hk6 _ _ (HN9 _ _ hs)
    have hk7 := hk5.trans (HN9.trans hk6)
    clear hk6 HN9 htm hs
    by_cases c0 : tombOK (TombD.mk sq (.mk op name value vals kids) fro to)
    rotate_left
    · have q0 := eq_false c0
      have : RES = false := by rw [← hrec]; simp [c0]
      subst this
      simp [go_sem, e1, ei, htx6, htm6, hs6, hlt', hlt, q0]
      exact hk7
    have q0 := eq_true c0
    by_cases c1 : m.seq < sq
    · have q_c1 := eq_true c1
      have g_c1 : ¬ sq ≤ m.seq := by omega
      have : RES = false := by rw [← hrec]; simp [g_c1]
      subst this
      simp [go_sem, e1, ei, htx6, htm6, hs6, hlt', hlt, q0, q_c1]
      exact hk7
    have q_c1 := eq_false c1
    have g_c1 : sq ≤ m.seq := by omega
    by_cases h0 : i = 0
    · have qi : ((0 : Int) < i) = False := eq_false (by omega)
      have qi2 : (0 < i) = False := eq_false (by omega)
      have hp0 : prevOf (m.tombs.map (·.seq)) i = none := by rw [h0]; rfl
      rw [hp0] at hrec
      simp [go_sem, e1, ei, htx6, htm6, hs6, hlt', hlt, q0, q_c1, qi, qi2, hwi]
      exact ⟨_, .rfl' _, ⟨hk7, htm6, i + 1, by omega, by omega, by rw [hprev]; simpa [aboveM, c0, g_c1] using hrec⟩, by omega⟩
    · have qi : ((0 : Int) < i) = True := eq_true (by omega)
      have qi2 : (0 < i) = True := eq_true (by omega)
      have hwm : IntKind.i64.wrap ((i : Int) - 1) = ((i - 1 : Nat) : Int) := by rw [wrap_id (by omega) (by omega)]; omega
      obtain ⟨q, hq, hzq⟩ := hprev0 h0
      rw [hq] at hrec
      have hlm : i - 1 < m.tombs.length := by omega
      by_cases c9 : sq ≤ q
      · have q9 := eq_true c9
        have g9 : ¬ q < sq := by omega
        have : RES = false := by rw [← hrec]; simp [aboveM, g9]
        subst this
        simp [go_sem, e1, ei, htx6, htm6, hs6, hlt', hlt, q0, q_c1, qi, qi2, hwm, hlm, hzq, q9]
        exact hk7
      · have q9 := eq_false c9
        have g9 : q < sq := by omega
        simp [go_sem, e1, ei, htx6, htm6, hs6, hlt', hlt, q0, q_c1, qi, qi2, hwm, hlm, hzq, q9, hwi]
        exact ⟨_, .rfl' _, ⟨hk7, htm6, i + 1, by omega, by omega, by rw [hprev]; simpa [aboveM, g9, c0, g_c1] using hrec⟩, by omega⟩
  · have hlt' : ((i : Int) < m.tombs.length) = False := eq_false (by omega)
    have : i = m.tombs.length := by omega
    subst this
    rw [List.drop_length] at hrec
    unfold tombsM at hrec
    subst hrec
    simp [go_sem, e1, ei, htm]
    exact hk5
end
end Go.Proofs.YtgppogppdmbgmaaGreat
set_option linter.unusedVariables false
set_option linter.unusedSimpArgs false
set_option maxRecDepth 100000
set_option maxHeartbeats 8000000
namespace Go.Proofs.YtgppogppdmbgmaaGreat
open Go.RowKit (Below)
section
variable {W0 : World} {st : Heap}
end
end Go.Proofs.YtgppogppdmbgmaaGreat
