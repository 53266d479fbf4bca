/- A remainder from 0 on; bytes in new memory. -/
import Derived.Test.YtflbapmjdfnhhaaGreatCTab
import Derived.Test.YtflbapmjdfnhhaaGreatC09
import Derived.Test.YtflbapmjdfnhhaaGreatC39
import Derived.Test.YtflbapmjdfnhhaaGreatC40
import Derived.Test.YtflbapmjdfnhhaaGreatC26
set_option linter.unusedVariables false
set_option linter.unusedSimpArgs false
set_option maxRecDepth 100000
set_option maxHeartbeats 1000000
namespace Go.Proofs.YtflbapmjdfnhhaaGreat
open Go.RowKit (Below)
section
variable {W0 : World} {st : Heap}
end
end Go.Proofs.YtflbapmjdfnhhaaGreat
set_option linter.unusedVariables false
set_option linter.unusedSimpArgs false
set_option maxRecDepth 100000
set_option maxHeartbeats 1000000
namespace Go.Proofs.YtflbapmjdfnhhaaGreat
open Go.RowKit (Below)
structure GoodL (l : List Lab) : Prop where
  ck : checkL l = true
  len : l.length ≤ 8
  sizes : ∀ x ∈ l, x.1.size < 2 ^ 60 ∧ x.2.size < 2 ^ 60
section
variable {W0 : World} {st : Heap}
end
end Go.Proofs.YtflbapmjdfnhhaaGreat
set_option linter.unusedVariables false
set_option linter.unusedSimpArgs false
set_option maxRecDepth 100000
set_option maxHeartbeats 1000000
namespace Go.Proofs.YtflbapmjdfnhhaaGreat
open Go.RowKit (Below)
theorem five {cs : List Value} (h : cs.length = 5) : ∃ a0 a1 a2 a3 a4, cs = [a0, a1, a2, a3, a4] := by
  match cs, h with
  | [a0, a1, a2, a3, a4], _ => exact ⟨a0, a1, a2, a3, a4, rfl⟩
section
variable {W0 : World} {st : Heap}
theorem answers_x {a0 a1 a2 a3 a4 : Value} {start step n kind a b : Int} {m : Mat} {v : Value} {l : List RowD} {d : Nat} (hm : MatAt st [a0, a1, a2, a3, a4] m) (hn : NiceM d m) (hc : checkM m = true) (hv : RowsAt st v l) (hl : l.length < 2 ^ 30) (hok : ∀ r ∈ l, RowOK r) :
    ICalls Tryz.prog W0 12 #[.agg #[a0, a1, a2, a3, a4, Val.i start, Val.i step, Val.i n, Val.i kind, Val.u a, Val.u b], v] st fun e st' => ∃ fv, e = .returned fv ∧ AnsFn st' fv [a0, a1, a2, a3, a4] ⟨m, start, step, n, kind, a, b⟩ (l.filter (keepR (evalM m))) ∧ New st st' :=
  answers_made (q := ⟨m, start, step, n, kind, a, b⟩) (ms := [a0, a1, a2, a3, a4]) hm hn hc hv hl hok
theorem MatAt.cells {st : Heap} {cs : List Value} {m : Mat} (h : MatAt st cs m) : ∃ (mo : Int) (mn mv : ByteArray) (vb : Option Addr) (vn vc : Nat) (kb : Option Addr) (kn kc : Nat), cs = [Val.i mo, .string mn, .string mv, .slice vb vn vc, .slice kb kn kc] := by
  obtain ⟨op, name, value, vals, kids⟩ := m
  unfold MatAt at h
  obtain ⟨vv, kv, ks, rfl, h1, h2, _⟩ := h
  obtain ⟨vb, vc, rfl⟩ := h1.slice
  obtain ⟨kb, kc, rfl⟩ := h2.slice
  exact ⟨_, _, _, _, _, _, _, _, _, rfl⟩
theorem ask_x {a0 a1 a2 a3 a4 : Value} {start step n kind a b : Int} {m : Mat} (hN : NiceM 12 m) (hm : MatAt st [a0, a1, a2, a3, a4] m) :
    ICalls Tryz.prog W0 13 #[.agg #[a0, a1, a2, a3, a4, Val.i start, Val.i step, Val.i n, Val.i kind, Val.u a, Val.u b]] st fun e st' => ∃ (mo : Int) (mn mv : ByteArray) (vb : Option Addr) (vn vc : Nat) (kb : Option Addr) (kn kc : Nat), e = .returned (.agg #[Val.i mo, .string mn, .string mv, .slice vb vn vc, .slice kb kn kc, Val.i start, Val.i step, Val.i n, Val.i kind, Val.u a, Val.u b]) ∧ MatAt st' [Val.i mo, .string mn, .string mv, .slice vb vn vc, .slice kb kn kc] m ∧ New st st' := by
  refine (ask_copy (W0 := W0) (st := st) (cs := [a0, a1, a2, a3, a4]) (start := start) (step := step) (n := n) (kind := kind) (a := a) (b := b) hN hm).mono ?_
  rintro e st' ⟨cs', rfl, h1, h2⟩
  obtain ⟨mo, mn, mv, vb, vn, vc, kb, kn, kc, rfl⟩ := h1.cells
  exact ⟨mo, mn, mv, vb, vn, vc, kb, kn, kc, rfl, h1, h2⟩
end
/-! ### Windows side by side -/
theorem totL_cons (s : SkD) (l : List SkD) : totL (s :: l) = totS s + totL l := by simp [totL]
theorem winL_cons (r : RowD) (L : List RowD) (a b : Int) : totL (winL (r :: L) a b) = (if inW a b r = true then totS r.s else 0) + totL (winL L a b) := by
  unfold winL
  rw [List.filter_cons]
  split
  · rw [List.map_cons, totL_cons]
  · simp
theorem winL_split {a b c : Int} (h1 : a ≤ b) (h2 : b ≤ c) : ∀ L : List RowD, totL (winL L a b) + totL (winL L b c) = totL (winL L a c)
  | [] => by simp [winL, totL]
  | r :: L => by
    have ih := winL_split h1 h2 L
    rw [winL_cons, winL_cons, winL_cons]
    have : (if inW a b r = true then totS r.s else 0) + (if inW b c r = true then totS r.s else 0) = (if inW a c r = true then totS r.s else 0) := by
      unfold inW
      simp only [Bool.and_eq_true, decide_eq_true_eq]
      by_cases x1 : a ≤ r.at_ <;> by_cases x2 : r.at_ < b <;> by_cases x3 : r.at_ < c <;> simp only [x1, x2, x3, and_true, and_false, true_and, false_and, if_true, if_false] <;> (try rw [if_neg (by omega)]) <;> (try rw [if_pos (by omega)]) <;> (try omega)
    omega
theorem winL_empty (L : List RowD) (a : Int) : totL (winL L a a) = 0 := by
  have := winL_split (Int.le_refl a) (Int.le_refl a) L
  omega
end Go.Proofs.YtflbapmjdfnhhaaGreat
set_option linter.unusedVariables false
set_option linter.unusedSimpArgs false
set_option maxRecDepth 100000
set_option maxHeartbeats 4000000
namespace Go.Proofs.YtflbapmjdfnhhaaGreat
open Go.RowKit (Below)
section
variable {W0 : World} {st : Heap}
theorem querySums_walk {ks : List Value} {q : AskD} {rv : Value} {rows : List RowD} (hq : AskW st ks q) (hrows : RowsAt st rv rows) (hlen : rows.length < 2 ^ 50) (hok : ∀ r ∈ rows, RowOK r) :
    ICalls Tryz.prog W0 5 #[.agg ks.toArray, rv] st fun e st' => e = .returned (.bool true) := by
  obtain ⟨⟨ms, hm, rfl⟩, aok⟩ := hq
  obtain ⟨rb, rc, rfl⟩ := hrows.slice
  have awake : ∀ (sta : Heap) {K : Ending → Heap → Prop}, (∀ st', K (.returned (.bool true)) st') → ICalls Tryz.prog W0 10 #[] sta K := fun sta K hK => awake23_spec.mono fun e st' h => by rw [h.1]; exact hK st'
  obtain ⟨a0, a1, a2, a3, a4, rfl⟩ := five hm.length
  refine enter (args := [_, _]) Tryz.func5 rfl ?_
  refine IW_assoc ?_
  refine IW_cut' (fun E' st' => ∃ tb : Nat, (NiceM 12 q.m ∧ checkM q.m = true ∧ rows.length ≤ 30 ∧ 0 ≤ q.start ∧ q.start ≤ 1073741824 ∧ 1 ≤ q.step ∧ q.step ≤ 1048576 ∧ 1 ≤ q.n) ∧ New st st' ∧ E' 1 = .slice rb rows.length rc ∧ E' 2 = ptr tb ∧ st tb = none ∧ st' tb = some (.cells true [a0, a1, a2, a3, a4, Val.i q.start, Val.i q.step, Val.i q.n, Val.i q.kind, Val.u q.a, Val.u q.b] 11 (.ty 1))) ?_ ?_
  · simp [go_sem, AskD.tail]
    unfold NewP
    intro tb htb
    refine ⟨.ty 1, ?_⟩
    have k1 := (New.refl st).add (b := tb) (o := .cells true [a0, a1, a2, a3, a4, Val.i q.start, Val.i q.step, Val.i q.n, Val.i q.kind, Val.u q.a, Val.u q.b] 11 (.ty 1)) htb
    have g1 := upd_same st tb (.cells true [a0, a1, a2, a3, a4, Val.i q.start, Val.i q.step, Val.i q.n, Val.i q.kind, Val.u q.a, Val.u q.b] 11 (.ty 1))
    try simp [go_sem]
    generalize upd st tb (.cells true [a0, a1, a2, a3, a4, Val.i q.start, Val.i q.step, Val.i q.n, Val.i q.kind, Val.u q.a, Val.u q.b] 11 (.ty 1)) = st1 at *
    refine ICalls.mono (by simpa using Tiny_spec (W0 := W0) (hm.new k1)) ?_
    rintro e st2 ⟨rfl, k2⟩
    have g2 := k2 _ _ g1
    cases htn : (tinyM q.m 0 0).1 with
    | false =>
      simp [go_sem]
      refine awake _ fun st' => ?_
      simp [go_sem]
    | true =>
    have hN : NiceM 12 q.m := ((tinyM_spec q.m 0 0).2 htn).2
    simp [go_sem, g2]
    refine ICalls.mono (by simpa using refCheck_spec (W0 := W0) hN (by omega) (hm.new (k1.trans k2))) ?_
    rintro e st3 ⟨rfl, k3⟩
    have g3 := k3 _ _ g2
    cases hcm : checkM q.m with
    | false =>
      simp [go_sem]
      refine awake _ fun st' => ?_
      simp [go_sem]
    | true =>
    have kk := (k1.trans k2).trans k3
    have bad : ∀ (P : Prop), P → P := fun _ h => h
    by_cases c1 : 30 < rows.length
    · have t1 : ((30 : Int) < rows.length) = True := eq_true (by omega)
      simp [go_sem, g3, t1, c1]
      refine awake _ fun st' => ?_
      simp [go_sem]
    have t1 : ((30 : Int) < rows.length) = False := eq_false (by omega)
    by_cases c2 : q.start < 0
    · simp [go_sem, g3, t1, c1, c2]
      refine awake _ fun st' => ?_
      simp [go_sem]
    by_cases c3 : 1073741824 < q.start
    · simp [go_sem, g3, t1, c1, c2, c3]
      refine awake _ fun st' => ?_
      simp [go_sem]
    by_cases c4 : q.step < 1
    · simp [go_sem, g3, t1, c1, c2, c3, c4]
      refine awake _ fun st' => ?_
      simp [go_sem]
    by_cases c5 : 1048576 < q.step
    · simp [go_sem, g3, t1, c1, c2, c3, c4, c5]
      refine awake _ fun st' => ?_
      simp [go_sem]
    by_cases c6 : q.n < 1
    · simp [go_sem, g3, t1, c1, c2, c3, c4, c5, c6]
      refine awake _ fun st' => ?_
      simp [go_sem]
    simp [go_sem, g3, t1, c1, c2, c3, c4, c5, c6]
    exact ⟨⟨hN, by omega, by omega, by omega, by omega, by omega, by omega⟩, kk, htb⟩
  rintro E st1 ⟨tb, ⟨hN, hcm, hl30, s0, s1, p0, p1, n0⟩, hk1, e1, e2, htb, g2⟩
  obtain ⟨n, hn⟩ : ∃ n : Nat, min q.n 12 = (n : Int) := Int.eq_ofNat_of_zero_le (by omega)
  have hn' : (if 12 < q.n then (12 : Int) else q.n) = (n : Int) := by rw [← hn]; split <;> omega
  have hn1 : 1 ≤ n := by omega
  have hn2 : n ≤ 12 := by omega
  have hmul : 0 ≤ q.step * (n : Int) ∧ q.step * (n : Int) ≤ 1048576 * 12 := ⟨Int.mul_nonneg (by omega) (by omega), Int.mul_le_mul p1 (by omega) (by omega) (by omega)⟩
  have hmul1 : 1 ≤ q.step * (n : Int) := by
    have : q.step * 1 ≤ q.step * (n : Int) := Int.mul_le_mul_of_nonneg_left (by omega) (by omega)
    omega
  have hwm : IntKind.i64.wrap (q.step * (n : Int)) = q.step * (n : Int) := wrap_id (by omega) (by omega)
  obtain ⟨w, hw⟩ : ∃ w : Int, q.step * (n : Int) = w := ⟨_, rfl⟩
  rw [hw] at hwm hmul hmul1
  obtain ⟨L, hL⟩ : ∃ L, rows.filter (keepR (evalM q.m)) = L := ⟨_, rfl⟩
  have hLl : L.length ≤ 30 := by
    have := List.length_filter_le (keepR (evalM q.m)) rows
    rw [hL] at this
    omega
  have hLok : ∀ r ∈ L, RowOK r := fun r hr => by rw [← hL] at hr; exact hok r (List.mem_filter.1 hr).1
  have hck : ∀ r ∈ L, checkS r.s = true := by rw [← hL]; exact keepR_check
  obtain ⟨q1, hq1⟩ : ∃ q1 : AskD, q1 = ⟨q.m, q.start, q.step, n, 1, q.a, q.b⟩ := ⟨_, rfl⟩
  obtain ⟨q2, hq2⟩ : ∃ q2 : AskD, q2 = ⟨q.m, q.start, w, 1, 1, q.a, q.b⟩ := ⟨_, rfl⟩
  have aok1 : AskOK q1 := by
    rw [hq1]
    exact ⟨aok.start, aok.step, ⟨by dsimp only; omega, by dsimp only; omega⟩, aok.a, aok.b⟩
  have aok2 : AskOK q2 := by
    rw [hq2]
    exact ⟨aok.start, ⟨by dsimp only; omega, by dsimp only; omega⟩, ⟨by dsimp only; omega, by dsimp only; omega⟩, aok.a, aok.b⟩
  have hw1 : windowsN q1.start q1.step q1.n = n := by
    rw [hq1]
    unfold windowsN
    dsimp only
    have hdv : 12 ≤ (1099511627776 - q.start) / q.step := (Int.le_ediv_iff_mul_le (by omega)).2 (by omega)
    rw [if_neg (by omega)]
    omega
  have hw2 : windowsN q2.start q2.step q2.n = 1 := by
    rw [hq2]
    unfold windowsN
    dsimp only
    have hdv : 1 ≤ (1099511627776 - q.start) / w := (Int.le_ediv_iff_mul_le (by omega)).2 (by omega)
    rw [if_neg (by omega)]
    rfl
  -- the answers by windows
  iterate 2 refine IW_assoc ?_
  refine IW_cut (fun E' st' => New st st' ∧ E' 1 = .slice rb rows.length rc ∧ E' 2 = ptr tb ∧ st' tb = some (.cells true [a0, a1, a2, a3, a4, Val.i q.start, Val.i q.step, Val.i (n : Int), Val.i 1, Val.u q.a, Val.u q.b] 11 (.ty 1)) ∧ ToldAt st' (E' 5) (ansOf q1 L q1.step) q1.start q1.step n) ?_ ?_
  · simp [go_sem, e1, e2, g2, hn']
    obtain ⟨s2, hs2⟩ : ∃ s2, upd st1 tb (.cells true [a0, a1, a2, a3, a4, Val.i q.start, Val.i q.step, Val.i (n : Int), Val.i 1, Val.u q.a, Val.u q.b] 11 (.ty 1)) = s2 := ⟨_, rfl⟩
    have hk2 : New st s2 := by rw [← hs2]; exact hk1.put htb
    have g3 : s2 tb = some (.cells true [a0, a1, a2, a3, a4, Val.i q.start, Val.i q.step, Val.i (n : Int), Val.i 1, Val.u q.a, Val.u q.b] 11 (.ty 1)) := by rw [← hs2]; exact upd_same _ _ _
    rw [hs2]
    refine (ask_x hN (hm.new hk2)).mono ?_
    rintro e s3 ⟨mo, mn, mv, mb1, mn1, mc1, kb1, kn1, kc1, rfl, hm3, k3⟩
    simp [go_sem, e1, e2]
    refine (Rows_copy (hrows.new (hk2.trans k3)) (by omega) hok).mono ?_
    rintro e s4 ⟨w4, rfl, hw4, k4⟩
    simp [go_sem, e1, e2]
    refine (answers_x (hm3.new k4) hN hcm hw4 (by omega) hok).mono ?_
    rintro e s5 ⟨fv, rfl, hf5, k5⟩
    rw [hL, ← hq1] at hf5
    simp [go_sem, e1, e2]
    refine (told_made (most := 100) hf5 rfl aok1 (by omega) hLok hck (by omega) (by rw [hw1]; omega)).mono ?_
    rintro e s6 ⟨v6, rfl, hv6, k6⟩
    rw [hw1] at hv6
    have hmin : min n (Int.toNat 100) = n := by omega
    rw [hmin] at hv6
    have kk := ((k3.trans k4).trans k5).trans k6
    simp [go_sem, e1, e2]
    exact ⟨hk2.trans kk, kk _ _ g3, hv6⟩
  clear e1 e2 g2 hk1
  rintro E st2 ⟨hk1, e1, e2, g2, h5⟩
  -- the question of the whole
  iterate 2 refine IW_assoc ?_
  refine IW_cut (fun E' st' => ∃ (tc : Nat) (mo : Int) (mn mv : ByteArray) (mb1 : Option Addr) (mn1 mc1 : Nat) (kb1 : Option Addr) (kn1 kc1 : Nat), New st st' ∧ E' 1 = .slice rb rows.length rc ∧ E' 2 = ptr tb ∧ st' tb = some (.cells true [a0, a1, a2, a3, a4, Val.i q.start, Val.i q.step, Val.i (n : Int), Val.i 1, Val.u q.a, Val.u q.b] 11 (.ty 1)) ∧ ToldAt st' (E' 5) (ansOf q1 L q1.step) q1.start q1.step n ∧ E' 6 = ptr tc ∧ st' tc = some (.cells true [Val.i mo, .string mn, .string mv, .slice mb1 mn1 mc1, .slice kb1 kn1 kc1, Val.i q.start, Val.i w, Val.i 1, Val.i 1, Val.u q.a, Val.u q.b] 11 (.ty 1)) ∧ MatAt st' [Val.i mo, .string mn, .string mv, .slice mb1 mn1 mc1, .slice kb1 kn1 kc1] q.m) ?_ ?_
  · obtain ⟨v5, h5'⟩ : ∃ v, E 5 = v := ⟨_, rfl⟩
    rw [h5'] at h5
    simp [go_sem, e1, e2, g2, h5']
    refine (ask_x hN (hm.new hk1)).mono ?_
    rintro e s3 ⟨mo, mn, mv, mb1, mn1, mc1, kb1, kn1, kc1, rfl, hm3, k3⟩
    have g3 := k3 _ _ g2
    simp [go_sem, e1, e2, h5']
    unfold NewP
    intro tc htc
    refine ⟨.ty 1, ?_⟩
    have hne : tb ≠ tc := ne_of_new g3 htc
    have hne' := Ne.symm hne
    have k4 := (New.refl s3).put (o := .cells true [Val.i mo, .string mn, .string mv, .slice mb1 mn1 mc1, .slice kb1 kn1 kc1, Val.i q.start, Val.i w, Val.i 1, Val.i 1, Val.u q.a, Val.u q.b] 11 (.ty 1)) htc
    have g4 := k4 _ _ g3
    simp [go_sem, e1, e2, h5', hne, hne', g3, hwm, hw]
    exact ⟨(hk1.trans k3).trans k4, h5.new (k3.trans k4), mo, mn, mv, mb1, mn1, mc1, kb1, kn1, kc1, ⟨rfl, rfl, rfl, ⟨rfl, rfl, rfl⟩, rfl, rfl, rfl⟩, hm3.new k4⟩
  clear e1 e2 g2 hk1 h5
  rintro E st3 ⟨tc, mo, mn, mv, mb1, mn1, mc1, kb1, kn1, kc1, hk1, e1, e2, g2, h5, e6, g6, hm6⟩
  obtain ⟨ka, hka⟩ : ∃ ka, [Val.i mo, .string mn, .string mv, .slice mb1 mn1 mc1, .slice kb1 kn1 kc1, Val.i q.start, Val.i w, Val.i 1, Val.i 1, Val.u q.a, Val.u q.b] = ka := ⟨_, rfl⟩
  have hkl : ka.length = 11 := by rw [← hka]; rfl
  have htka : ka.take 11 = ka := List.take_of_length_le (by omega)
  rw [hka] at g6
  refine IW_cut (fun E' st' => New st3 st' ∧ E' 2 = ptr tb ∧ E' 5 = E 5 ∧ ToldAt st' (E' 7) (ansOf q2 L q2.step) q2.start q2.step 1) ?_ ?_
  · simp [go_sem]
    refine drawV [0, 1, 2, 3, 4, 5] (fun i v st' => match i with
      | 0 => v = .agg ka.toArray
      | 1 => v = .slice rb rows.length rc
      | 2 => RowsAt st' v rows
      | 3 => AnsFn st' v [Val.i mo, .string mn, .string mv, .slice mb1 mn1 mc1, .slice kb1 kn1 kc1] q2 L
      | 4 | 5 => ToldAt st' v (ansOf q2 L q2.step) q2.start q2.step 1
      | _ => True) (by kernel_rfl) (by kernel_rfl) ?_ ?_ ?_ ?_
    · intro i v sta stb hNw h
      match i with
      | 2 => exact h.new hNw
      | 3 => exact h.new hNw
      | 4 => exact h.new hNw
      | 5 => exact h.new hNw
      | 0 => exact h
      | 1 => exact h
      | i + 6 => exact h
    · intro i oo hi E sta hNw hd hE
      have ta := hNw _ _ g6
      have hro := hrows.new (hk1.trans hNw)
      match i with
      | 0 =>
        have x6 := hE 6 (oldB_spec (by kernel_rfl))
        injection hi with hi; subst hi
        simp [wantedE, go_sem, x6, e6, ta, hkl, htka]
        exact New.refl _
      | 1 =>
        have x1 := hE 1 (oldB_spec (by kernel_rfl))
        injection hi with hi; subst hi
        simp [wantedE, go_sem, x1, e1, ta, hkl, htka]
        exact New.refl _
      | 2 =>
        injection hi with hi; subst hi
        have d1 := hd { on := 1, ground := .data } (by simp) (by decide) _ _ rfl rfl
        simp only at d1
        simp [wantedE, go_sem, d1, ta, hkl, htka]
        refine (Rows_copy hro (by omega) hok).mono ?_
        rintro e s4 ⟨w4, rfl, hw4, n4⟩
        simp [go_sem]
        exact ⟨n4, hw4⟩
      | 3 =>
        injection hi with hi; subst hi
        have d0 := hd { on := 0, ground := .data } (by simp) (by decide) _ _ rfl rfl
        have d2 := hd { on := 2, ground := .data } (by simp) (by decide) _ _ rfl rfl
        simp only at d0 d2
        simp [wantedE, go_sem, d0, d2, ta, hkl, htka]
        rw [← hka]
        refine (answers_x (hm6.new hNw) hN hcm d2 (by omega) hok).mono ?_
        rintro e s5 ⟨w5, rfl, hw5, n5⟩
        rw [hL, ← hq2] at hw5
        simp [go_sem]
        exact ⟨n5, hw5⟩
      | 4 =>
        injection hi with hi; subst hi
        have d3 := hd { on := 3, ground := .data } (by simp) (by decide) _ _ rfl rfl
        simp only at d3
        simp [wantedE, go_sem, d3, ta, hkl, htka]
        refine (told_made (most := 100) d3 rfl aok2 (by omega) hLok hck (by omega) (by rw [hw2]; omega)).mono ?_
        rintro e s6 ⟨w6, rfl, hw6, n6⟩
        rw [hw2] at hw6
        simp [go_sem]
        exact ⟨n6, hw6⟩
      | 5 =>
        injection hi with hi; subst hi
        have d4 := hd { on := 4, ground := .data } (by simp) (by decide) _ _ rfl rfl
        simp only at d4
        simp [wantedE, go_sem, d4, ta, hkl, htka]
        exact New.refl _
      | i + 6 => simp at hi
    · intro E sta hNw hd hE
      have d5 := hd 5 _ 7 rfl rfl
      simp only at d5
      have y2 := hE 2 (noB_spec (by kernel_rfl))
      have y5 := hE 5 (noB_spec (by kernel_rfl))
      simp [y2, e2, y5]
      exact ⟨hNw, d5⟩
    · intro j oj hj
      match j with
      | 0 | 1 | 2 | 3 | 4 | 5 => simp at hj; subst hj; decide
      | j + 6 => simp at hj
  clear e1 e6 g6
  rintro E2 s ⟨hk4, e2, e5, h7⟩
  have g2 := hk4 _ _ g2
  have h5 := h5.new hk4
  rw [← e5] at h5
  clear e5
  have ans1 : ∀ f : Int, ansOf q1 L q1.step f = if 2 ^ 64 - 1 ≤ totL (winL L f (f + q1.step)) then ⟨false, 0, 11⟩ else ⟨true, totL (winL L f (f + q1.step)), 0⟩ := fun f => by
    unfold ansOf
    rw [show q1.kind = 1 by rw [hq1]]
    exact oneM_count (winL_check hck _ _)
  have ans2 : ∀ f : Int, ansOf q2 L q2.step f = if 2 ^ 64 - 1 ≤ totL (winL L f (f + q2.step)) then ⟨false, 0, 11⟩ else ⟨true, totL (winL L f (f + q2.step)), 0⟩ := fun f => by
    unfold ansOf
    rw [show q2.kind = 1 by rw [hq2]]
    exact oneM_count (winL_check hck _ _)
  have r1 : q1.start = q.start := by rw [hq1]
  have r2 : q1.step = q.step := by rw [hq1]
  rw [r2] at ans1
  have r3 : q2.start = q.start := by rw [hq2]
  have r4 : q2.step = w := by rw [hq2]
  obtain ⟨T, hT⟩ : ∃ T : Nat, totL (winL L q.start (q.start + w)) = T := ⟨_, rfl⟩
  obtain ⟨bw, cw, mw, e7, hbw, -, -, xw0, xw1, xw2, xw3⟩ := h7.get (i := 0) (by omega)
  have hz : q2.start + ((0 : Nat) : Int) * q2.step = q.start := by rw [r3]; simp
  generalize ansL (ansOf q2 L q2.step) q2.start q2.step 1 = AW at *
  rw [hz] at xw0 xw1 xw2 xw3
  rw [ans2, r4, hT] at xw1 xw2 xw3
  simp only [Nat.zero_mul, Nat.zero_add] at xw0 xw1 xw2 xw3
  clear h7 hz
  obtain ⟨vb, vc, e5⟩ := h5.slice
  -- are there as many as there should be?
  refine IW_cut' (fun E' st' => s = st' ∧ E' 2 = ptr tb ∧ E' 5 = .slice vb n vc ∧ E' 7 = .slice (some ⟨bw, 0, none⟩) 1 cw) ?_ ?_
  · simp [go_sem, e2, e5, e7, g2]
  rw [e5] at h5
  clear e2 e5 e7
  rintro E st' ⟨rfl, e2, e5, e7⟩
  refine IW_cut (fun E' st' => s = st' ∧ E' 2 = ptr tb ∧ E' 5 = .slice vb n vc ∧ E' 7 = .slice (some ⟨bw, 0, none⟩) 1 cw ∧ E' 8 = Val.u 0) ?_ ?_
  · simp [go_sem, e2, e5, e7]
  clear e2 e5 e7
  rintro E st' ⟨rfl, e2, e5, e7, e8⟩
  have fromI : ∀ i : Nat, i ≤ n → q.start + (i : Int) * q.step ≤ q.start + w := fun i hi => by
    have : (i : Int) * q.step ≤ (n : Int) * q.step := Int.mul_le_mul_of_nonneg_right (by omega) (by omega)
    rw [Int.mul_comm (n : Int) q.step] at this
    omega
  refine IW_cut' (fun E' st' => s = st' ∧ E' 2 = ptr tb ∧ E' 7 = .slice (some ⟨bw, 0, none⟩) 1 cw ∧ E' 8 = Val.u T ∧ T ≤ 2 ^ 64 - 1) ?_ ?_
  · simp [go_sem]
    refine ⟨fun E st' => s = st' ∧ E 2 = ptr tb ∧ E 5 = .slice vb n vc ∧ E 7 = .slice (some ⟨bw, 0, none⟩) 1 cw ∧ ∃ (i sum : Nat), E 9 = Val.i (i : Int) ∧ E 8 = Val.u (sum : Int) ∧ i ≤ n ∧ sum ≤ 2 ^ 64 - 1 ∧ sum = totL (winL L q.start (q.start + (i : Int) * q.step)),
      fun E _ => match E 9 with | .int _ z => n - z.toNat | _ => 0, ⟨s, .rfl' _, rfl, by simp [go_sem, e2], by simp [go_sem, e5], by simp [go_sem, e7], 0, 0, by simp [go_sem], by simp [go_sem, e8], by omega, by omega, by simp [winL_empty]⟩, ?_⟩
    clear e2 e5 e7 e8
    rintro E st' ⟨rfl, e2, e5, e7, i, sum, e9, e8, hi, hs1, hsum⟩
    by_cases hlt : i < n
    rotate_left
    · have : i = n := by omega
      subst this
      have hwn : (i : Int) * q.step = w := by rw [← hw, Int.mul_comm]
      rw [hwn, hT] at hsum
      subst hsum
      simp [go_sem, e2, e5, e7, e8, e9]
      omega
    have t1 : ((i : Int) < n) = True := eq_true (by omega)
    have hwi : IntKind.i64.wrap ((i : Int) + 1) = ((i + 1 : Nat) : Int) := by rw [wrap_id (by omega) (by omega)]; omega
    obtain ⟨bl, cl, ml, hvl, hbl, hlen, -, -, y1, y2, y3⟩ := h5.get hlt
    injection hvl with v1 v2 v3
    subst v1; subst v3
    obtain ⟨f, hf⟩ : ∃ f, q.start + (i : Int) * q.step = f := ⟨_, rfl⟩
    have a1 : i * 4 + 3 < (ansL (ansOf q1 L q1.step) q1.start q1.step n).length := by
      rw [ansL_length]; omega
    generalize ansL (ansOf q1 L q1.step) q1.start q1.step n = AL at *
    rw [r1, r2, hf] at y1 y2 y3
    rw [ans1] at y1 y2 y3
    obtain ⟨t, ht⟩ : ∃ t, totL (winL L f (f + q.step)) = t := ⟨_, rfl⟩
    rw [ht] at y1 y2 y3
    have hf0 : q.start ≤ f := by
      have : 0 ≤ (i : Int) * q.step := Int.mul_nonneg (by omega) (by omega)
      omega
    have hf1 : f + q.step = q.start + ((i + 1 : Nat) : Int) * q.step := by
      rw [← hf, Int.natCast_add, Int.add_mul]
      simp
      omega
    have hfw := fromI (i + 1) (by omega)
    rw [← hf1] at hfw
    have j1 := winL_split hf0 (show f ≤ f + q.step by omega) L
    have j2 := winL_split (show q.start ≤ f + q.step by omega) hfw L
    rw [hf] at hsum
    rw [ht, ← hsum] at j1
    rw [← j1, hT] at j2
    rw [hf1] at j1
    by_cases c1 : 2 ^ 64 - 1 ≤ t
    · rw [if_pos c1] at y1 y2 y3
      rw [if_pos (show 2 ^ 64 - 1 ≤ T by omega)] at xw1 xw2 xw3
      simp [go_sem, e2, e5, e7, e8, e9, t1, hlt, hbl, y1, y2, y3, hbw, xw0, xw1, xw2, xw3]
      refine awake _ fun st' => ?_
      simp [go_sem]
    rw [if_neg c1] at y1 y2 y3
    have hwu : IntKind.u64.wrap (18446744073709551615 - (sum : Int)) = 18446744073709551615 - (sum : Int) := wraps_u64 _ (by omega) (by omega)
    by_cases c2 : 2 ^ 64 - 1 < sum + t
    · have q3 : (18446744073709551615 - (sum : Int) < (t : Int)) = True := eq_true (by omega)
      rw [if_pos (show 2 ^ 64 - 1 ≤ T by omega)] at xw1 xw2 xw3
      simp [go_sem, e2, e5, e7, e8, e9, t1, hlt, hbl, y1, y2, y3, hbw, xw0, xw1, xw2, xw3, hwu, q3]
      refine awake _ fun st' => ?_
      simp [go_sem]
    have q3 : (18446744073709551615 - (sum : Int) < (t : Int)) = False := eq_false (by omega)
    have hwa : IntKind.u64.wrap ((sum : Int) + (t : Int)) = ((sum + t : Nat) : Int) := by rw [wraps_u64 _ (by omega) (by omega)]; omega
    simp [go_sem, e2, e5, e7, e8, e9, t1, hlt, hbl, y1, y2, y3, hwu, q3, hwa, hwi]
    exact ⟨_, .rfl' _, ⟨rfl, i + 1, by simp, sum + t, by simp, by omega, by omega, j1⟩, by omega⟩
  clear e2 e5 e7 e8
  rintro E st' ⟨rfl, e2, e7, e8, hTm⟩
  by_cases c : T = 2 ^ 64 - 1
  · have qc : ((T : Int) = 18446744073709551615) = True := eq_true (by omega)
    rw [if_pos (show 2 ^ 64 - 1 ≤ T by omega)] at xw1 xw2 xw3
    simp [go_sem, e2, e7, e8, hbw, xw0, xw1, xw2, xw3, qc]
    refine awake _ fun st' => ?_
    simp [go_sem]
  · have qc : ((T : Int) = 18446744073709551615) = False := eq_false (by omega)
    rw [if_neg (show ¬ 2 ^ 64 - 1 ≤ T by omega)] at xw1 xw2 xw3
    simp [go_sem, e2, e7, e8, hbw, xw0, xw1, xw2, xw3, qc]
    refine draw [0, 1, 2, 3, 4, 5, 6, 7, 9, 8, 10, 11, 12, 13, 14, 15, 17, 16, 18, 19, 20, 21, 22, 23, 24] (by kernel_rfl) ?_
    simp [go_sem, e2, e7, e8, hbw, xw0, xw1, xw2, xw3, qc, g2]
    refine awake _ fun st' => ?_
    simp [go_sem]
end
end Go.Proofs.YtflbapmjdfnhhaaGreat
