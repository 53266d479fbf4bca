/- A sketch's answer to a question: the program's way. -/
import Derived.Test.YtflbapmjdfnhhaaGreatC26
import Derived.Test.YtflbapmjdfnhhaaGreatC30
import Derived.Test.YtflbapmjdfnhhaaGreatC18
import Derived.Test.YtflbapmjdfnhhaaGreatC12
import Derived.Test.YtflbapmjdfnhhaaGreatC13
set_option linter.unusedVariables false
set_option linter.unusedSimpArgs false
set_option maxRecDepth 100000
set_option maxHeartbeats 1000000
namespace Go.Proofs.YtflbapmjdfnhhaaGreat
open Go.RowKit (Below)
/-- A sketch's answer. -/
def oneM (kind : Int) (a b : Nat) (s : SkD) : AnsD :=
  if kind = 1 then (if satSum (s.hist.map (·.2)) = 2 ^ 64 - 1 then ⟨false, 0, 11⟩ else ⟨true, satSum (s.hist.map (·.2)), 0⟩)
  else if kind = 2 then (if (quantL (toN s.hist) a b).2 = 0 then ⟨true, (quantL (toN s.hist) a b).1, 0⟩ else if (quantL (toN s.hist) a b).2 = 3 then ⟨false, 0, 0⟩ else ⟨false, 0, (quantL (toN s.hist) a b).2⟩)
  else if kind = 3 then ⟨true, distinctM s.hashes, 0⟩
  else if kind = 4 then (if 0 < s.g.n then ⟨true, s.g.lo, 0⟩ else ⟨false, 0, 0⟩)
  else if kind = 5 then (if 0 < s.g.n then ⟨true, s.g.hi, 0⟩ else ⟨false, 0, 0⟩)
  else if kind = 6 then ⟨true, s.g.nans, 0⟩ else ⟨false, 0, 0⟩
structure G3 (C : Heap → Prop) (i j : Nat) (s0 s1 s2 : Heap) (done : List Nat) (s : Heap) : Prop where
  base : C s
  a : i ∉ done → j ∉ done → s = s0
  b : i ∈ done → j ∉ done → s = s1
  c : j ∈ done → s = s2
theorem G3.skip {C : Heap → Prop} {i j : Nat} {s0 s1 s2 : Heap} {done : List Nat} {s : Heap} {k : Nat} (h : G3 C i j s0 s1 s2 done s) (hi : k ≠ i ∧ k ≠ j) : G3 C i j s0 s1 s2 (k :: done) s :=
  ⟨h.base, fun h1 h2 => h.a (fun h3 => h1 (List.mem_cons_of_mem _ h3)) (fun h3 => h2 (List.mem_cons_of_mem _ h3)), fun h1 h2 => h.b ((List.mem_cons.1 h1).resolve_left (Ne.symm hi.1)) (fun h3 => h2 (List.mem_cons_of_mem _ h3)), fun h1 => h.c ((List.mem_cons.1 h1).resolve_left (Ne.symm hi.2))⟩
/-- What the switch leaves. -/
def OneMid (st : Heap) (c d : Nat) (A : AnsD) (st' : Heap) : Prop := New st st' ∧ st' c = some (.cells true [Val.i 0, .bool false, Val.u 0, Val.i 0] 4 (.ty 1)) ∧ ∃ v : Nat, st' d = some (.cells true [Val.i 0, .bool A.has, Val.u v, Val.i A.err] 4 (.ty 1)) ∧ (A.has = true → v = A.val) ∧ (A.has = false → A.val = 0)
theorem OneMid.mk {st st1 : Heap} {c d v : Nat} {A : AnsD} (kk : New st st1) (hdn : st d = none) (ncd : c ≠ d) (g3 : st1 c = some (.cells true [Val.i 0, .bool false, Val.u 0, Val.i 0] 4 (.ty 1))) (h1 : A.has = true → v = A.val) (h2 : A.has = false → A.val = 0) : OneMid st c d A (upd st1 d (.cells true [Val.i 0, .bool A.has, Val.u v, Val.i A.err] 4 (.ty 1))) :=
  ⟨kk.put hdn, by rw [upd_ne _ _ ncd]; exact g3, v, upd_same _ _ _, h1, h2⟩
section
variable {W0 : World} {st : Heap}
theorem one_spec {c0 c1 c2 c3 c4 c5 c6 c7 : Value} {kind : Int} {a b : Nat} {cs : List Value} {s : SkD} (h : SkAt st cs s) (ok : SkOK s) (hc : checkS s = true) (ha : a < 2 ^ 64) (hb : b < 2 ^ 64) : ICalls Tryz.prog W0 51 #[.agg #[c0, c1, c2, c3, c4, c5, c6, c7, Val.i kind, Val.u a, Val.u b], .agg cs.toArray] st fun e st' => New st st' ∧ e = .returned (.agg ((oneM kind a b s).cells 0).toArray) := by
  have h0 := h
  obtain ⟨hv, kv, rfl, h1, h2⟩ := h
  obtain ⟨o1, o2, o3, o4, o5⟩ := ok
  obtain ⟨hist, hashes, g⟩ := s
  simp only at o1 o2 o3 o4 o5 h1 h2
  unfold checkS at hc
  simp only [Bool.and_eq_true] at hc
  obtain ⟨hc1, hc2, hc3⟩ := hc
  obtain ⟨hvb, hvc, rfl⟩ := h1.slice
  obtain ⟨kvb, kvc, rfl⟩ := h2.slice
  obtain ⟨A, hA⟩ : ∃ A, oneM kind a b ⟨hist, hashes, g⟩ = A := ⟨_, rfl⟩
  rw [hA]
  obtain ⟨K, hK⟩ : ∃ K : List Value, [c0, c1, c2, c3, c4, c5, c6, c7, Val.i kind, Val.u a, Val.u b] = K := ⟨_, rfl⟩
  obtain ⟨L, hL⟩ : ∃ L : List Value, [Value.slice hvb hist.length hvc, .slice kvb hashes.length kvc, Val.u g.n, Val.u g.nans, Val.u g.lo, Val.u g.hi] = L := ⟨_, rfl⟩
  refine enter (args := [_, _]) Tryz.func51 rfl ?_
  iterate 3 refine IW_assoc ?_
  refine IW_cut (fun E' st' => ∃ ta tb c d r, E' 2 = ptr ta ∧ E' 3 = ptr tb ∧ E' 4 = ptr c ∧ E' 5 = ptr d ∧ E' 6 = ptr r ∧ New st st' ∧ st c = none ∧ st d = none ∧ c ≠ d ∧ ta ≠ c ∧ ta ≠ d ∧ tb ≠ c ∧ tb ≠ d ∧ r ≠ c ∧ r ≠ d ∧ st' ta = some (.cells true K 11 (.ty 1)) ∧ st' tb = some (.cells true L 6 (.ty 1)) ∧ st' c = some (.cells true [Val.i 0, .bool false, Val.u 0, Val.i 0] 4 (.ty 1)) ∧ st' d = some (.cells true [Val.i 0, .bool false, Val.u 0, Val.i 0] 4 (.ty 1)) ∧ HistAt st' r (mergeB (List.replicate 7424 0) hist)) ?_ ?_
  · simp [-List.reduceReplicate, go_sem]
    unfold NewP
    intro ta hta
    refine ⟨.ty 1, ?_⟩
    have hKl : K.length = 11 := by rw [← hK]; rfl
    have hLl : L.length = 6 := by rw [← hL]; rfl
    rw [hK, hKl]
    have k1 := (New.refl st).add (b := ta) (o := .cells true K 11 (.ty 1)) hta
    have g1 := upd_same st ta (.cells true K 11 (.ty 1))
    simp [-List.reduceReplicate, go_sem]
    unfold NewP
    intro tb htb
    refine ⟨.ty 1, ?_⟩
    rw [hL, hLl]
    have k2 := (New.refl (upd st ta (.cells true K 11 (.ty 1)))).add (b := tb) (o := .cells true L 6 (.ty 1)) htb
    have g2 := upd_same (upd st ta (.cells true K 11 (.ty 1))) tb (.cells true L 6 (.ty 1))
    generalize upd st ta (.cells true K 11 (.ty 1)) = st1 at *
    generalize upd st1 tb (.cells true L 6 (.ty 1)) = st2 at *
    simp [-List.reduceReplicate, go_sem]
    unfold NewP
    intro c hcc
    refine ⟨.ty 1, ?_⟩
    have k3 := (New.refl st2).add (b := c) (o := .cells true [Val.i 0, .bool false, Val.u 0, Val.i 0] 4 (.ty 1)) hcc
    have g3 := upd_same st2 c (.cells true [Val.i 0, .bool false, Val.u 0, Val.i 0] 4 (.ty 1))
    simp [-List.reduceReplicate, go_sem]
    generalize upd st2 c (.cells true [Val.i 0, .bool false, Val.u 0, Val.i 0] 4 (.ty 1)) = st3 at *
    unfold NewP
    intro d hdd
    refine ⟨.ty 1, ?_⟩
    have k4 := (New.refl st3).add (b := d) (o := .cells true [Val.i 0, .bool false, Val.u 0, Val.i 0] 4 (.ty 1)) hdd
    have g4 := upd_same st3 d (.cells true [Val.i 0, .bool false, Val.u 0, Val.i 0] 4 (.ty 1))
    simp [-List.reduceReplicate, go_sem]
    generalize upd st3 d (.cells true [Val.i 0, .bool false, Val.u 0, Val.i 0] 4 (.ty 1)) = st4 at *
    have g1' := k4 _ _ (k3 _ _ (k2 _ _ g1))
    have g2' := k4 _ _ (k3 _ _ g2)
    have g3' := k4 _ _ g3
    have kk := ((k1.trans k2).trans k3).trans k4
    have hcn : st c = none := (k1.trans k2).none hcc
    have hdn : st d = none := ((k1.trans k2).trans k3).none hdd
    have ncd : c ≠ d := by rintro rfl; rw [g3] at hdd; cases hdd
    have nac : ta ≠ c := by rintro rfl; rw [k2 _ _ g1] at hcc; cases hcc
    have nad : ta ≠ d := by rintro rfl; rw [k3 _ _ (k2 _ _ g1)] at hdd; cases hdd
    have nbc : tb ≠ c := by rintro rfl; rw [g2] at hcc; cases hcc
    have nbd : tb ≠ d := by rintro rfl; rw [k3 _ _ g2] at hdd; cases hdd
    have gL0 : L[0]? = some (.slice hvb hist.length hvc) := by rw [← hL]; rfl
    have gL1 : L[1]? = some (.slice kvb hashes.length kvc) := by rw [← hL]; rfl
    have gL2 : (L.drop 2).take 4 = g.cells := by rw [← hL]; rfl
    simp [-List.reduceReplicate, go_sem, g2', gL0]
    refine (histFrom_spec (h1.new kk) (by omega) o1).mono ?_
    rintro e st5 ⟨k5, hR⟩
    rw [if_pos hc1] at hR
    obtain ⟨r, rfl, hrn, hh⟩ := hR
    have g25 := k5 _ _ g2'
    have nrc : r ≠ c := by rintro rfl; rw [g3'] at hrn; cases hrn
    have nrd : r ≠ d := by rintro rfl; rw [g4] at hrn; cases hrn
    simp [-List.reduceReplicate, go_sem, g25, gL1]
    refine (kmvCheck_spec (h2.new (kk.trans k5)) (by omega)).mono ?_
    rintro e st6 ⟨rfl, rfl⟩
    rw [hc2]
    simp [-List.reduceReplicate, go_sem, g25, gL2, hLl]
    refine (gaugeCheck_spec o5).mono ?_
    rintro e st7 ⟨rfl, k7⟩
    rw [hc3]
    have k57 := k5.trans k7
    simp [-List.reduceReplicate, go_sem]
    exact ⟨kk.trans k57, hcn, hdn, ncd, nac, nad, nbc, nbd, nrc, nrd, k57 _ _ g1', k57 _ _ g2', k57 _ _ g3', k57 _ _ g4, hh.new k7⟩
  rintro E1 st1 ⟨ta, tb, c, d, r, e2, e3, e4, e5, e6, kk, hcn, hdn, ncd, nac, nad, nbc, nbd, nrc, nrd, g1, g2, g3, g4, hh⟩
  have hKl : K.length = 11 := by rw [← hK]; rfl
  have hLl : L.length = 6 := by rw [← hL]; rfl
  have gK8 : K[8]? = some (Val.i kind) := by rw [← hK]; rfl
  have gK9 : K[9]? = some (Val.u a) := by rw [← hK]; rfl
  have gK10 : K[10]? = some (Val.u b) := by rw [← hK]; rfl
  have gL0 : L[0]? = some (.slice hvb hist.length hvc) := by rw [← hL]; rfl
  have gL1 : L[1]? = some (.slice kvb hashes.length kvc) := by rw [← hL]; rfl
  have gL2 : L[2]? = some (Val.u g.n) := by rw [← hL]; rfl
  have gL3 : L[3]? = some (Val.u g.nans) := by rw [← hL]; rfl
  have gL4 : L[4]? = some (Val.u g.lo) := by rw [← hL]; rfl
  have gL5 : L[5]? = some (Val.u g.hi) := by rw [← hL]; rfl
  refine IW_cut (fun E' st' => E' 4 = ptr c ∧ E' 5 = ptr d ∧ OneMid st c d A st') ?_ ?_
  · unfold oneM at hA
    simp only at hA
    simp only [IW_seq, IW_region]
    by_cases x1 : kind = 1
    · have q1 := eq_true x1
      rw [if_pos x1] at hA
      simp [-List.reduceReplicate, go_sem, e2, e3, e4, e5, e6, g1, gK8, q1]
      refine (histCount_spec hh).mono ?_
      rintro e st2 ⟨rfl, rfl⟩
      have hce := count_eq hc1 o1 hh.2.1
      rw [hce]
      by_cases y : satSum (hist.map (·.2)) = 2 ^ 64 - 1
      · rw [if_pos y] at hA ⊢
        subst hA
        simp [-List.reduceReplicate, go_sem, e2, e3, e4, e5, e6, g4, upd_same]
        exact OneMid.mk kk hdn ncd g3 (by simp) (by simp)
      · rw [if_neg y] at hA ⊢
        subst hA
        simp [-List.reduceReplicate, go_sem, e2, e3, e4, e5, e6, g4, upd_same]
        exact OneMid.mk kk hdn ncd g3 (by simp) (by simp)
    have q1 := eq_false x1
    rw [if_neg x1] at hA
    by_cases x2 : kind = 2
    · have q2 := eq_true x2
      rw [if_pos x2] at hA
      simp [-List.reduceReplicate, go_sem, e2, e3, e4, e5, e6, g1, gK8, gK9, gK10, q1, q2]
      refine (Quantile_spec hh ha hb).mono ?_
      rintro e st2 ⟨rfl, k2⟩
      rw [quant_eq hc1 o1 hh.2.1]
      have g32 := k2 _ _ g3
      have g42 := k2 _ _ g4
      have kk2 := kk.trans k2
      obtain ⟨⟨qv, qe⟩, hq⟩ : ∃ p, quantL (toN hist) a b = p := ⟨_, rfl⟩
      rw [hq] at hA ⊢
      simp only at hA ⊢
      by_cases y0 : qe = 0
      · rw [if_pos y0] at hA
        subst hA
        subst y0
        simp [-List.reduceReplicate, go_sem, e2, e3, e4, e5, e6, g42, upd_same]
        exact OneMid.mk kk2 hdn ncd g32 (by simp) (by simp)
      rw [if_neg y0] at hA
      have p0 := eq_false y0
      by_cases y3 : qe = 3
      · rw [if_pos y3] at hA
        subst hA
        subst y3
        simp [-List.reduceReplicate, go_sem, e2, e3, e4, e5, e6, g42, upd_same]
        exact OneMid.mk kk2 hdn ncd g32 (by simp) (by simp)
      · rw [if_neg y3] at hA
        have p3 := eq_false y3
        subst hA
        simp [-List.reduceReplicate, go_sem, e2, e3, e4, e5, e6, g42, upd_same, p0, p3]
        exact OneMid.mk kk2 hdn ncd g32 (by simp) (by simp)
    have q2 := eq_false x2
    rw [if_neg x2] at hA
    by_cases x3 : kind = 3
    · have q3 := eq_true x3
      rw [if_pos x3] at hA
      subst hA
      simp [-List.reduceReplicate, go_sem, e2, e3, e4, e5, e6, g1, g2, gL1, gK8, q1, q2, q3]
      refine (Distinct_spec (h2.new kk) hc2 o3).mono ?_
      rintro e st2 ⟨rfl, k2⟩
      have g32 := k2 _ _ g3
      have g42 := k2 _ _ g4
      have kk2 := kk.trans k2
      simp [-List.reduceReplicate, go_sem, e2, e3, e4, e5, e6, g42, upd_same]
      exact OneMid.mk kk2 hdn ncd g32 (by simp) (by simp)
    have q3 := eq_false x3
    rw [if_neg x3] at hA
    by_cases x4 : kind = 4
    · have q4 := eq_true x4
      rw [if_pos x4] at hA
      simp [-List.reduceReplicate, go_sem, e2, e3, e4, e5, e6, g1, gK8, q1, q2, q3, q4]
      refine drawG [0, 1, 2, 3, 4, 5, 6, 7, 8, 9, 10] (fun i v => match i with
        | 0 | 1 | 4 => v = .pointer (some ⟨tb, 2, none⟩)
        | 2 => v = Val.u g.n
        | 3 => v = .bool (decide (0 < g.n))
        | 5 => v = .pointer (some ⟨tb, 4, none⟩)
        | 6 => v = Val.u g.lo
        | 7 => v = .pointer (some ⟨d, 1, none⟩)
        | 9 => v = .pointer (some ⟨d, 2, none⟩)
        | _ => True) (G3 (fun s => s tb = some (.cells true L 6 (.ty 1))) 8 10 st1 (upd st1 d (.cells true [Val.i 0, .bool (decide (0 < g.n)), Val.u 0, Val.i 0] 4 (.ty 1))) (upd st1 d (.cells true [Val.i 0, .bool (decide (0 < g.n)), Val.u g.lo, Val.i 0] 4 (.ty 1)))) (by kernel_rfl) (by kernel_rfl) ?_ ?_ ?_ ?_
      · exact ⟨g2, fun _ _ => rfl, fun h => absurd h (by simp), fun h => absurd h (by simp)⟩
      · intro i oo hi done E sta hnd hG hdp hcl hd hE
        have hg := hG.base
        match i with
        | 0 =>
          have x3 := hE 3 (oldB_spec (by kernel_rfl))
          injection hi with hi; subst hi
          simp [wantedE, go_sem, x3, e3, hg, gL2, gL4, gL5, gL3]
          exact hG.skip (by decide)
        | 1 =>
          injection hi with hi; subst hi
          have d0 := hd { on := 0, ground := .data } (by simp) (by decide) _ _ rfl rfl
          simp only at d0
          simp [wantedE, go_sem, d0, hg, gL2, gL4, gL5, gL3]
          exact hG.skip (by decide)
        | 2 =>
          injection hi with hi; subst hi
          have d1 := hd { on := 1, ground := .data } (by simp) (by decide) _ _ rfl rfl
          simp only at d1
          simp [wantedE, go_sem, d1, hg, gL2, gL4, gL5, gL3]
          exact hG.skip (by decide)
        | 3 =>
          injection hi with hi; subst hi
          have d2 := hd { on := 2, ground := .data } (by simp) (by decide) _ _ rfl rfl
          simp only at d2
          simp [wantedE, go_sem, d2, hg, gL2, gL4, gL5, gL3]
          exact hG.skip (by decide)
        | 4 =>
          have x3 := hE 3 (oldB_spec (by kernel_rfl))
          injection hi with hi; subst hi
          simp [wantedE, go_sem, x3, e3, hg, gL2, gL4, gL5, gL3]
          exact hG.skip (by decide)
        | 5 =>
          injection hi with hi; subst hi
          have d4 := hd { on := 4, ground := .data } (by simp) (by decide) _ _ rfl rfl
          simp only at d4
          simp [wantedE, go_sem, d4, hg, gL2, gL4, gL5, gL3]
          exact hG.skip (by decide)
        | 6 =>
          injection hi with hi; subst hi
          have d5 := hd { on := 5, ground := .data } (by simp) (by decide) _ _ rfl rfl
          simp only at d5
          simp [wantedE, go_sem, d5, hg, gL2, gL4, gL5, gL3]
          exact hG.skip (by decide)
        | 7 =>
          have x5 := hE 5 (oldB_spec (by kernel_rfl))
          injection hi with hi; subst hi
          simp [wantedE, go_sem, x5, e5, hg, gL2, gL4, gL5, gL3]
          exact hG.skip (by decide)
        | 8 =>
          injection hi with hi; subst hi
          have d7 := hd { on := 7, ground := .data } (by simp) (by decide) _ _ rfl rfl
          have d3 := hd { on := 3, ground := .data } (by simp) (by decide) _ _ rfl rfl
          simp only at d7 d3
          have n10 : 10 ∉ done := fun h => hnd (hcl 10 _ h rfl { on := 8, ground := .chain } (by simp) (by decide))
          have h8 := hG.a hnd n10
          subst h8
          simp [wantedE, go_sem, d7, d3, g4]
          exact ⟨by rw [upd_ne _ _ nbd]; exact g2, fun h _ => absurd (by simp) h, fun _ _ => rfl, fun h => absurd h (by simp [n10])⟩
        | 9 =>
          have x5 := hE 5 (oldB_spec (by kernel_rfl))
          injection hi with hi; subst hi
          simp [wantedE, go_sem, x5, e5, hg, gL2, gL4, gL5, gL3]
          exact hG.skip (by decide)
        | 10 =>
          injection hi with hi; subst hi
          have d9 := hd { on := 9, ground := .data } (by simp) (by decide) _ _ rfl rfl
          have d6 := hd { on := 6, ground := .data } (by simp) (by decide) _ _ rfl rfl
          simp only at d9 d6
          have i8 : 8 ∈ done := hdp { on := 8, ground := .chain } (by simp) (by decide)
          have h8 := hG.b i8 hnd
          subst h8
          simp [wantedE, go_sem, d9, d6, hg, gL2, gL4, gL5, gL3]
          exact ⟨by rw [upd_ne _ _ nbd]; exact g2, fun _ h => absurd (by simp) h, fun _ h => absurd (by simp) h, fun _ => rfl⟩
        | i + 11 => simp at hi
      · intro done E sta hall hG hd hE
        have hP := hG.c (hall 10 (by simp))
        subst hP
        by_cases y : 0 < g.n
        · rw [if_pos y] at hA
          subst hA
          have hd : decide (0 < g.n) = true := decide_eq_true y
          rw [hd]
          simp [go_sem, e4, e5, hE 4 (noB_spec (by kernel_rfl)), hE 5 (noB_spec (by kernel_rfl))]
          exact OneMid.mk kk hdn ncd g3 (by simp) (by simp)
        · rw [if_neg y] at hA
          subst hA
          have hd : decide (0 < g.n) = false := decide_eq_false y
          rw [hd]
          simp [go_sem, e4, e5, hE 4 (noB_spec (by kernel_rfl)), hE 5 (noB_spec (by kernel_rfl))]
          exact OneMid.mk kk hdn ncd g3 (by simp) (by simp)
      · intro j oj hj
        match j with
        | 0 | 1 | 2 | 3 | 4 | 5 | 6 | 7 | 8 | 9 | 10 => simp at hj; subst hj; decide
        | j + 11 => simp at hj
    have q4 := eq_false x4
    rw [if_neg x4] at hA
    by_cases x5 : kind = 5
    · have q5 := eq_true x5
      rw [if_pos x5] at hA
      simp [-List.reduceReplicate, go_sem, e2, e3, e4, e5, e6, g1, gK8, q1, q2, q3, q4, q5]
      refine drawG [0, 1, 2, 3, 4, 5, 6, 7, 8, 9, 10] (fun i v => match i with
        | 0 | 1 | 4 => v = .pointer (some ⟨tb, 2, none⟩)
        | 2 => v = Val.u g.n
        | 3 => v = .bool (decide (0 < g.n))
        | 5 => v = .pointer (some ⟨tb, 5, none⟩)
        | 6 => v = Val.u g.hi
        | 7 => v = .pointer (some ⟨d, 1, none⟩)
        | 9 => v = .pointer (some ⟨d, 2, none⟩)
        | _ => True) (G3 (fun s => s tb = some (.cells true L 6 (.ty 1))) 8 10 st1 (upd st1 d (.cells true [Val.i 0, .bool (decide (0 < g.n)), Val.u 0, Val.i 0] 4 (.ty 1))) (upd st1 d (.cells true [Val.i 0, .bool (decide (0 < g.n)), Val.u g.hi, Val.i 0] 4 (.ty 1)))) (by kernel_rfl) (by kernel_rfl) ?_ ?_ ?_ ?_
      · exact ⟨g2, fun _ _ => rfl, fun h => absurd h (by simp), fun h => absurd h (by simp)⟩
      · intro i oo hi done E sta hnd hG hdp hcl hd hE
        have hg := hG.base
        match i with
        | 0 =>
          have x3 := hE 3 (oldB_spec (by kernel_rfl))
          injection hi with hi; subst hi
          simp [wantedE, go_sem, x3, e3, hg, gL2, gL4, gL5, gL3]
          exact hG.skip (by decide)
        | 1 =>
          injection hi with hi; subst hi
          have d0 := hd { on := 0, ground := .data } (by simp) (by decide) _ _ rfl rfl
          simp only at d0
          simp [wantedE, go_sem, d0, hg, gL2, gL4, gL5, gL3]
          exact hG.skip (by decide)
        | 2 =>
          injection hi with hi; subst hi
          have d1 := hd { on := 1, ground := .data } (by simp) (by decide) _ _ rfl rfl
          simp only at d1
          simp [wantedE, go_sem, d1, hg, gL2, gL4, gL5, gL3]
          exact hG.skip (by decide)
        | 3 =>
          injection hi with hi; subst hi
          have d2 := hd { on := 2, ground := .data } (by simp) (by decide) _ _ rfl rfl
          simp only at d2
          simp [wantedE, go_sem, d2, hg, gL2, gL4, gL5, gL3]
          exact hG.skip (by decide)
        | 4 =>
          have x3 := hE 3 (oldB_spec (by kernel_rfl))
          injection hi with hi; subst hi
          simp [wantedE, go_sem, x3, e3, hg, gL2, gL4, gL5, gL3]
          exact hG.skip (by decide)
        | 5 =>
          injection hi with hi; subst hi
          have d4 := hd { on := 4, ground := .data } (by simp) (by decide) _ _ rfl rfl
          simp only at d4
          simp [wantedE, go_sem, d4, hg, gL2, gL4, gL5, gL3]
          exact hG.skip (by decide)
        | 6 =>
          injection hi with hi; subst hi
          have d5 := hd { on := 5, ground := .data } (by simp) (by decide) _ _ rfl rfl
          simp only at d5
          simp [wantedE, go_sem, d5, hg, gL2, gL4, gL5, gL3]
          exact hG.skip (by decide)
        | 7 =>
          have x5 := hE 5 (oldB_spec (by kernel_rfl))
          injection hi with hi; subst hi
          simp [wantedE, go_sem, x5, e5, hg, gL2, gL4, gL5, gL3]
          exact hG.skip (by decide)
        | 8 =>
          injection hi with hi; subst hi
          have d7 := hd { on := 7, ground := .data } (by simp) (by decide) _ _ rfl rfl
          have d3 := hd { on := 3, ground := .data } (by simp) (by decide) _ _ rfl rfl
          simp only at d7 d3
          have n10 : 10 ∉ done := fun h => hnd (hcl 10 _ h rfl { on := 8, ground := .chain } (by simp) (by decide))
          have h8 := hG.a hnd n10
          subst h8
          simp [wantedE, go_sem, d7, d3, g4]
          exact ⟨by rw [upd_ne _ _ nbd]; exact g2, fun h _ => absurd (by simp) h, fun _ _ => rfl, fun h => absurd h (by simp [n10])⟩
        | 9 =>
          have x5 := hE 5 (oldB_spec (by kernel_rfl))
          injection hi with hi; subst hi
          simp [wantedE, go_sem, x5, e5, hg, gL2, gL4, gL5, gL3]
          exact hG.skip (by decide)
        | 10 =>
          injection hi with hi; subst hi
          have d9 := hd { on := 9, ground := .data } (by simp) (by decide) _ _ rfl rfl
          have d6 := hd { on := 6, ground := .data } (by simp) (by decide) _ _ rfl rfl
          simp only at d9 d6
          have i8 : 8 ∈ done := hdp { on := 8, ground := .chain } (by simp) (by decide)
          have h8 := hG.b i8 hnd
          subst h8
          simp [wantedE, go_sem, d9, d6, hg, gL2, gL4, gL5, gL3]
          exact ⟨by rw [upd_ne _ _ nbd]; exact g2, fun _ h => absurd (by simp) h, fun _ h => absurd (by simp) h, fun _ => rfl⟩
        | i + 11 => simp at hi
      · intro done E sta hall hG hd hE
        have hP := hG.c (hall 10 (by simp))
        subst hP
        by_cases y : 0 < g.n
        · rw [if_pos y] at hA
          subst hA
          have hd : decide (0 < g.n) = true := decide_eq_true y
          rw [hd]
          simp [go_sem, e4, e5, hE 4 (noB_spec (by kernel_rfl)), hE 5 (noB_spec (by kernel_rfl))]
          exact OneMid.mk kk hdn ncd g3 (by simp) (by simp)
        · rw [if_neg y] at hA
          subst hA
          have hd : decide (0 < g.n) = false := decide_eq_false y
          rw [hd]
          simp [go_sem, e4, e5, hE 4 (noB_spec (by kernel_rfl)), hE 5 (noB_spec (by kernel_rfl))]
          exact OneMid.mk kk hdn ncd g3 (by simp) (by simp)
      · intro j oj hj
        match j with
        | 0 | 1 | 2 | 3 | 4 | 5 | 6 | 7 | 8 | 9 | 10 => simp at hj; subst hj; decide
        | j + 11 => simp at hj
    have q5 := eq_false x5
    rw [if_neg x5] at hA
    by_cases x6 : kind = 6
    · have q6 := eq_true x6
      rw [if_pos x6] at hA
      subst hA
      simp [-List.reduceReplicate, go_sem, e2, e3, e4, e5, e6, g1, gK8, q1, q2, q3, q4, q5, q6]
      refine drawG [0, 1, 2, 3, 4, 5, 6] (fun i v => match i with
        | 0 => v = .pointer (some ⟨tb, 2, none⟩)
        | 1 => v = .pointer (some ⟨tb, 3, none⟩)
        | 2 => v = Val.u g.nans
        | 3 => v = .pointer (some ⟨d, 1, none⟩)
        | 5 => v = .pointer (some ⟨d, 2, none⟩)
        | _ => True) (G3 (fun s => s tb = some (.cells true L 6 (.ty 1))) 4 6 st1 (upd st1 d (.cells true [Val.i 0, .bool true, Val.u 0, Val.i 0] 4 (.ty 1))) (upd st1 d (.cells true [Val.i 0, .bool true, Val.u g.nans, Val.i 0] 4 (.ty 1)))) (by kernel_rfl) (by kernel_rfl) ?_ ?_ ?_ ?_
      · exact ⟨g2, fun _ _ => rfl, fun h => absurd h (by simp), fun h => absurd h (by simp)⟩
      · intro i oo hi done E sta hnd hG hdp hcl hd hE
        have hg := hG.base
        match i with
        | 0 =>
          have x3 := hE 3 (oldB_spec (by kernel_rfl))
          injection hi with hi; subst hi
          simp [wantedE, go_sem, x3, e3, hg, gL2, gL4, gL5, gL3]
          exact hG.skip (by decide)
        | 1 =>
          injection hi with hi; subst hi
          have d0 := hd { on := 0, ground := .data } (by simp) (by decide) _ _ rfl rfl
          simp only at d0
          simp [wantedE, go_sem, d0, hg, gL2, gL4, gL5, gL3]
          exact hG.skip (by decide)
        | 2 =>
          injection hi with hi; subst hi
          have d1 := hd { on := 1, ground := .data } (by simp) (by decide) _ _ rfl rfl
          simp only at d1
          simp [wantedE, go_sem, d1, hg, gL2, gL4, gL5, gL3]
          exact hG.skip (by decide)
        | 3 =>
          have x5 := hE 5 (oldB_spec (by kernel_rfl))
          injection hi with hi; subst hi
          simp [wantedE, go_sem, x5, e5, hg, gL2, gL4, gL5, gL3]
          exact hG.skip (by decide)
        | 4 =>
          injection hi with hi; subst hi
          have d3 := hd { on := 3, ground := .data } (by simp) (by decide) _ _ rfl rfl
          simp only at d3
          have n10 : 6 ∉ done := fun h => hnd (hcl 6 _ h rfl { on := 4, ground := .chain } (by simp) (by decide))
          have h8 := hG.a hnd n10
          subst h8
          simp [wantedE, go_sem, d3, hg, gL2, gL4, gL5, gL3]
          simp [g4]
          exact ⟨by rw [upd_ne _ _ nbd]; exact g2, fun h _ => absurd (by simp) h, fun _ _ => rfl, fun h => absurd h (by simp [n10])⟩
        | 5 =>
          have x5 := hE 5 (oldB_spec (by kernel_rfl))
          injection hi with hi; subst hi
          simp [wantedE, go_sem, x5, e5, hg, gL2, gL4, gL5, gL3]
          exact hG.skip (by decide)
        | 6 =>
          injection hi with hi; subst hi
          have d5 := hd { on := 5, ground := .data } (by simp) (by decide) _ _ rfl rfl
          have d2 := hd { on := 2, ground := .data } (by simp) (by decide) _ _ rfl rfl
          simp only at d5 d2
          have i8 : 4 ∈ done := hdp { on := 4, ground := .chain } (by simp) (by decide)
          have h8 := hG.b i8 hnd
          subst h8
          simp [wantedE, go_sem, d5, d2, hg, gL2, gL4, gL5, gL3]
          exact ⟨by rw [upd_ne _ _ nbd]; exact g2, fun _ h => absurd (by simp) h, fun _ h => absurd (by simp) h, fun _ => rfl⟩
        | i + 7 => simp at hi
      · intro done E sta hall hG hd hE
        have hP := hG.c (hall 6 (by simp))
        subst hP
        simp [go_sem, e4, e5, hE 4 (noB_spec (by kernel_rfl)), hE 5 (noB_spec (by kernel_rfl))]
        exact OneMid.mk kk hdn ncd g3 (by simp) (by simp)
      · intro j oj hj
        match j with
        | 0 | 1 | 2 | 3 | 4 | 5 | 6 => simp at hj; subst hj; decide
        | j + 7 => simp at hj
    have q6 := eq_false x6
    rw [if_neg x6] at hA
    subst hA
    simp [-List.reduceReplicate, go_sem, e2, e3, e4, e5, e6, g1, gK8, q1, q2, q3, q4, q5, q6]
    exact ⟨kk, g3, 0, g4, by simp, by simp⟩
  rintro E2 st2 ⟨e4', e5', kk2, hcz, v, hdv, hv1, hv2⟩
  obtain ⟨has, val, err⟩ := A
  simp only at hdv hv1 hv2
  cases has with
  | true =>
    have := hv1 rfl
    subst this
    simp [go_sem, e4', e5', hdv, hcz]
    refine RetI_cell ?_
    simp [go_sem, e4', AnsD.cells]
    exact kk2.put hcn
  | false =>
    have := hv2 rfl
    subst this
    simp [go_sem, e4', e5', hdv, hcz, ncd, Ne.symm ncd, upd_ne]
    refine RetI_cell ?_
    simp [go_sem, e4', AnsD.cells, ncd, Ne.symm ncd, upd_ne]
    exact (kk2.put hdn).put hcn
end
end Go.Proofs.YtflbapmjdfnhhaaGreat
set_option linter.unusedVariables false
set_option linter.unusedSimpArgs false
set_option maxRecDepth 100000
set_option maxHeartbeats 1000000
namespace Go.Proofs.YtflbapmjdfnhhaaGreat
open Go.RowKit (Below)
def mergeG (a b : GauD) : GauD :=
  if a.n = 0 ∨ b.n = 0 then ⟨satAdd a.n b.n, satAdd a.nans b.nans, (if a.n = 0 then b else a).lo, (if a.n = 0 then b else a).hi⟩
  else ⟨satAdd a.n b.n, satAdd a.nans b.nans, if lessN b.lo a.lo then b.lo else a.lo, if lessN a.hi b.hi then b.hi else a.hi⟩
theorem mergeG_ok {a b : GauD} (oa : GauOK a) (ob : GauOK b) : GauOK (mergeG a b) := by
  unfold mergeG
  split
  · split
    · exact ⟨satAdd_lt, satAdd_lt, ob.lo, ob.hi⟩
    · exact ⟨satAdd_lt, satAdd_lt, oa.lo, oa.hi⟩
  · refine ⟨satAdd_lt, satAdd_lt, ?_, ?_⟩
    · simp only; split
      · exact ob.lo
      · exact oa.lo
    · simp only; split
      · exact ob.hi
      · exact oa.hi
section
variable {W0 : World} {st : Heap}
theorem gaugeMerge_spec {a b : GauD} (oa : GauOK a) (ob : GauOK b) : ICalls Tryz.prog W0 80 #[.agg a.cells.toArray, .agg b.cells.toArray] st fun e st' => e = .returned (.agg (mergeG a b).cells.toArray) ∧ New st st' := by
  obtain ⟨M, hM⟩ : ∃ M, mergeG a b = M := ⟨_, rfl⟩
  rw [hM]
  obtain ⟨an, ax, al, ah⟩ := a
  obtain ⟨bn, bx, bl, bh⟩ := b
  refine enter (args := [_, _]) Tryz.func80 rfl ?_
  iterate 2 refine IW_assoc ?_
  refine IW_cut (fun E' st' => ∃ ta tb c d, ∃ g : GauD, g = (if an = 0 then (⟨bn, bx, bl, bh⟩ : GauD) else ⟨an, ax, al, ah⟩) ∧ E' 2 = ptr ta ∧ E' 3 = ptr tb ∧ E' 4 = ptr c ∧ E' 5 = ptr d ∧ New st st' ∧ st c = none ∧ st d = none ∧ c ≠ d ∧ ta ≠ c ∧ ta ≠ d ∧ tb ≠ c ∧ tb ≠ d ∧ st' ta = some (.cells true [Val.u an, Val.u ax, Val.u al, Val.u ah] 4 (.ty 1)) ∧ st' tb = some (.cells true [Val.u bn, Val.u bx, Val.u bl, Val.u bh] 4 (.ty 1)) ∧ st' c = some (.cells true [Val.u 0, Val.u 0, Val.u 0, Val.u 0] 4 (.ty 1)) ∧ st' d = some (.cells true [Val.u g.n, Val.u g.nans, Val.u g.lo, Val.u g.hi] 4 (.ty 1))) ?_ ?_
  · simp [go_sem, GauD.cells]
    unfold NewP
    intro ta hta
    refine ⟨.ty 1, ?_⟩
    have k1 := (New.refl st).add (b := ta) (o := .cells true [Val.u an, Val.u ax, Val.u al, Val.u ah] 4 (.ty 1)) hta
    have g1 := upd_same st ta (.cells true [Val.u an, Val.u ax, Val.u al, Val.u ah] 4 (.ty 1))
    simp [go_sem]
    generalize upd st ta (.cells true [Val.u an, Val.u ax, Val.u al, Val.u ah] 4 (.ty 1)) = st1 at *
    unfold NewP
    intro tb htb
    refine ⟨.ty 1, ?_⟩
    have k2 := (New.refl st1).add (b := tb) (o := .cells true [Val.u bn, Val.u bx, Val.u bl, Val.u bh] 4 (.ty 1)) htb
    have g2 := upd_same st1 tb (.cells true [Val.u bn, Val.u bx, Val.u bl, Val.u bh] 4 (.ty 1))
    simp [go_sem]
    generalize upd st1 tb (.cells true [Val.u bn, Val.u bx, Val.u bl, Val.u bh] 4 (.ty 1)) = st2 at *
    unfold NewP
    intro c hcc
    refine ⟨.ty 1, ?_⟩
    have k3 := (New.refl st2).add (b := c) (o := .cells true [Val.u 0, Val.u 0, Val.u 0, Val.u 0] 4 (.ty 1)) hcc
    have g3 := upd_same st2 c (.cells true [Val.u 0, Val.u 0, Val.u 0, Val.u 0] 4 (.ty 1))
    have g1' := k2 _ _ g1
    have ga := k3 _ _ g1'
    have gb := k3 _ _ g2
    have kk3 := (k1.trans k2).trans k3
    simp [go_sem]
    generalize upd st2 c (.cells true [Val.u 0, Val.u 0, Val.u 0, Val.u 0] 4 (.ty 1)) = st3 at *
    simp [go_sem, ga]
    unfold NewP
    intro d hdd
    refine ⟨.ty 1, ?_⟩
    have ncd : c ≠ d := by rintro rfl; rw [g3] at hdd; cases hdd
    have nac : ta ≠ c := by rintro rfl; rw [g1'] at hcc; cases hcc
    have nad : ta ≠ d := by rintro rfl; rw [ga] at hdd; cases hdd
    have nbc : tb ≠ c := by rintro rfl; rw [g2] at hcc; cases hcc
    have nbd : tb ≠ d := by rintro rfl; rw [gb] at hdd; cases hdd
    have hcn : st c = none := (k1.trans k2).none hcc
    have hdn : st d = none := kk3.none hdd
    by_cases c0 : an = 0
    · subst c0
      simp [go_sem, ga, gb, g3, nad, nbd, ncd, upd_ne, upd_same]
      exact ⟨kk3.put hdn, hcn, hdn, nac, nbc⟩
    · have q0 : ((an : Nat) : Int) = 0 ↔ False := by simp; omega
      simp [go_sem, ga, gb, g3, nad, nbd, ncd, upd_ne, upd_same, c0]
      exact ⟨kk3.put hdn, hcn, hdn, nac, nbc⟩
  rintro E1 s0 ⟨ta, tb, c, d, g, hgd, e2, e3, e4, e5, kk, hcn, hdn, ncd, nac, nad, nbc, nbd, g1, g2, g3, g4⟩
  refine IW_cut (fun E' st' => st' = upd s0 d (.cells true [Val.u (satAdd an bn : Nat), Val.u (satAdd ax bx : Nat), Val.u g.lo, Val.u g.hi] 4 (.ty 1)) ∧ E' 2 = ptr ta ∧ E' 3 = ptr tb ∧ E' 4 = ptr c ∧ E' 5 = ptr d) ?_ ?_
  · simp only [IW_draw]
    refine drawG [0, 1, 2, 3, 4, 5, 6, 7, 8, 9, 10, 11, 12, 13] (fun i v => match i with
      | 0 => v = .pointer (some ⟨ta, 1, none⟩)
      | 1 => v = Val.u ax
      | 2 => v = .pointer (some ⟨tb, 1, none⟩)
      | 3 => v = Val.u bx
      | 4 => v = .int .u64 (satAdd ax bx : Nat)
      | 5 => v = ptr ta
      | 6 => v = Val.u an
      | 7 => v = ptr tb
      | 8 => v = Val.u bn
      | 9 => v = .int .u64 (satAdd an bn : Nat)
      | 10 => v = .pointer (some ⟨d, 1, none⟩)
      | 12 => v = ptr d
      | _ => True) (G3 (fun s => s ta = some (.cells true [Val.u an, Val.u ax, Val.u al, Val.u ah] 4 (.ty 1)) ∧ s tb = some (.cells true [Val.u bn, Val.u bx, Val.u bl, Val.u bh] 4 (.ty 1))) 11 13 s0 (upd s0 d (.cells true [Val.u g.n, Val.u (satAdd ax bx : Nat), Val.u g.lo, Val.u g.hi] 4 (.ty 1))) (upd s0 d (.cells true [Val.u (satAdd an bn : Nat), Val.u (satAdd ax bx : Nat), Val.u g.lo, Val.u g.hi] 4 (.ty 1)))) (by kernel_rfl) (by kernel_rfl) ?_ ?_ ?_ ?_
    · exact ⟨⟨g1, g2⟩, fun _ _ => rfl, fun h => absurd h (by simp), fun h => absurd h (by simp)⟩
    · intro i oo hi done E sta hnd hG hdp hcl hd hE
      have hg := hG.base
      obtain ⟨b1, b2⟩ := hg
      match i with
      | 0 =>
        have x2 := hE 2 (oldB_spec (by kernel_rfl))
        injection hi with hi; subst hi
        simp [wantedE, go_sem, x2, e2, b1, b2]
        exact hG.skip (by decide)
      | 1 =>
        injection hi with hi; subst hi
        have d0 := hd { on := 0, ground := .data } (by simp) (by decide) _ _ rfl rfl
        simp only at d0
        simp [wantedE, go_sem, d0, b1, b2]
        exact hG.skip (by decide)
      | 2 =>
        have x3 := hE 3 (oldB_spec (by kernel_rfl))
        injection hi with hi; subst hi
        simp [wantedE, go_sem, x3, e3, b1, b2]
        exact hG.skip (by decide)
      | 3 =>
        injection hi with hi; subst hi
        have d2 := hd { on := 2, ground := .data } (by simp) (by decide) _ _ rfl rfl
        simp only at d2
        simp [wantedE, go_sem, d2, b1, b2]
        exact hG.skip (by decide)
      | 4 =>
        injection hi with hi; subst hi
        have d1 := hd { on := 1, ground := .data } (by simp) (by decide) _ _ rfl rfl
        have d3 := hd { on := 3, ground := .data } (by simp) (by decide) _ _ rfl rfl
        simp only at d1 d3
        simp [wantedE, go_sem, d1, d3, b1, b2]
        refine (wideAdd_spec oa.nans ob.nans).mono ?_
        rintro e st' ⟨rfl, rfl⟩
        simp [go_sem]
        exact hG.skip (by decide)
      | 5 =>
        have x2 := hE 2 (oldB_spec (by kernel_rfl))
        injection hi with hi; subst hi
        simp [wantedE, go_sem, x2, e2, b1, b2]
        exact hG.skip (by decide)
      | 6 =>
        injection hi with hi; subst hi
        have d5 := hd { on := 5, ground := .data } (by simp) (by decide) _ _ rfl rfl
        simp only at d5
        simp [wantedE, go_sem, d5, b1, b2]
        exact hG.skip (by decide)
      | 7 =>
        have x3 := hE 3 (oldB_spec (by kernel_rfl))
        injection hi with hi; subst hi
        simp [wantedE, go_sem, x3, e3, b1, b2]
        exact hG.skip (by decide)
      | 8 =>
        injection hi with hi; subst hi
        have d7 := hd { on := 7, ground := .data } (by simp) (by decide) _ _ rfl rfl
        simp only at d7
        simp [wantedE, go_sem, d7, b1, b2]
        exact hG.skip (by decide)
      | 9 =>
        injection hi with hi; subst hi
        have d6 := hd { on := 6, ground := .data } (by simp) (by decide) _ _ rfl rfl
        have d8 := hd { on := 8, ground := .data } (by simp) (by decide) _ _ rfl rfl
        simp only at d6 d8
        simp [wantedE, go_sem, d6, d8, b1, b2]
        refine (wideAdd_spec oa.n ob.n).mono ?_
        rintro e st' ⟨rfl, rfl⟩
        simp [go_sem]
        exact hG.skip (by decide)
      | 10 =>
        have x5 := hE 5 (oldB_spec (by kernel_rfl))
        injection hi with hi; subst hi
        simp [wantedE, go_sem, x5, e5, b1, b2]
        exact hG.skip (by decide)
      | 11 =>
        injection hi with hi; subst hi
        have d10 := hd { on := 10, ground := .data } (by simp) (by decide) _ _ rfl rfl
        have d4 := hd { on := 4, ground := .data } (by simp) (by decide) _ _ rfl rfl
        simp only at d10 d4
        have n10 : 13 ∉ done := fun h => hnd (hcl 13 _ h rfl { on := 11, ground := .chain } (by simp) (by decide))
        have h8 := hG.a hnd n10
        subst h8
        simp [wantedE, go_sem, d10, d4, b1, b2]
        simp [g4]
        exact ⟨by rw [upd_ne _ _ nad, upd_ne _ _ nbd]; exact ⟨g1, g2⟩, fun h _ => absurd (by simp) h, fun _ _ => rfl, fun h => absurd h (by simp [n10])⟩
      | 12 =>
        have x5 := hE 5 (oldB_spec (by kernel_rfl))
        injection hi with hi; subst hi
        simp [wantedE, go_sem, x5, e5, b1, b2]
        exact hG.skip (by decide)
      | 13 =>
        injection hi with hi; subst hi
        have d12 := hd { on := 12, ground := .data } (by simp) (by decide) _ _ rfl rfl
        have d9 := hd { on := 9, ground := .data } (by simp) (by decide) _ _ rfl rfl
        simp only at d12 d9
        have i8 : 11 ∈ done := hdp { on := 11, ground := .chain } (by simp) (by decide)
        have h8 := hG.b i8 hnd
        subst h8
        simp [wantedE, go_sem, d12, d9, b1, b2]
        exact ⟨by rw [upd_ne _ _ nad, upd_ne _ _ nbd]; exact ⟨g1, g2⟩, fun _ h => absurd (by simp) h, fun _ h => absurd (by simp) h, fun _ => rfl⟩
      | i + 14 => simp at hi
    · intro done E sta hall hG hd hE
      have hP := hG.c (hall 13 (by simp))
      subst hP
      have x2 := (hE 2 (noB_spec (by kernel_rfl))).trans e2
      have x3 := (hE 3 (noB_spec (by kernel_rfl))).trans e3
      have x4 := (hE 4 (noB_spec (by kernel_rfl))).trans e4
      have x5 := (hE 5 (noB_spec (by kernel_rfl))).trans e5
      exact ⟨rfl, rfl, x2, x3, x4, x5⟩
    · intro j oj hj
      match j with
      | 0 | 1 | 2 | 3 | 4 | 5 | 6 | 7 | 8 | 9 | 10 | 11 | 12 | 13 => simp at hj; subst hj; decide
      | j + 14 => simp at hj
  clear e2 e3 e4 e5
  rintro E2 st2 ⟨rfl, e2, e3, e4, e5⟩
  obtain ⟨s1, hs1⟩ : ∃ s1, upd s0 d (.cells true [Val.u (satAdd an bn : Nat), Val.u (satAdd ax bx : Nat), Val.u g.lo, Val.u g.hi] 4 (.ty 1)) = s1 := ⟨_, rfl⟩
  rw [hs1]
  have kk1 : New st s1 := by rw [← hs1]; exact kk.put hdn
  have g1' : s1 ta = some (.cells true [Val.u an, Val.u ax, Val.u al, Val.u ah] 4 (.ty 1)) := by rw [← hs1, upd_ne _ _ nad]; exact g1
  have g2' : s1 tb = some (.cells true [Val.u bn, Val.u bx, Val.u bl, Val.u bh] 4 (.ty 1)) := by rw [← hs1, upd_ne _ _ nbd]; exact g2
  have g3' : s1 c = some (.cells true [Val.u 0, Val.u 0, Val.u 0, Val.u 0] 4 (.ty 1)) := by rw [← hs1, upd_ne _ _ ncd]; exact g3
  have g4' : s1 d = some (.cells true [Val.u (satAdd an bn : Nat), Val.u (satAdd ax bx : Nat), Val.u g.lo, Val.u g.hi] 4 (.ty 1)) := by rw [← hs1]; exact upd_same _ _ _
  clear hs1
  unfold mergeG at hM
  simp only at hM
  by_cases c1 : an = 0 ∨ bn = 0
  · rw [if_pos c1] at hM
    have hMc : M.cells = [Val.u (satAdd an bn : Nat), Val.u (satAdd ax bx : Nat), Val.u g.lo, Val.u g.hi] := by
      rw [← hM, hgd]
      unfold GauD.cells
      split <;> rfl
    rw [hMc]
    by_cases c2 : an = 0
    · have q1 : ((an : Nat) : Int) = 0 := by omega
      simp [go_sem, e2, e3, e4, e5, g1', g2', g3', g4', q1, c2]
      refine RetI_cell ?_
      simp [go_sem, e4]
      exact kk1.put hcn
    · have c3 : bn = 0 := c1.resolve_left c2
      have q1 : ((bn : Nat) : Int) = 0 := by omega
      simp [go_sem, e2, e3, e4, e5, g1', g2', g3', g4', q1, c2, c3]
      refine RetI_cell ?_
      simp [go_sem, e4]
      exact kk1.put hcn
  · rw [if_neg c1] at hM
    have c2 : an ≠ 0 := fun h => c1 (.inl h)
    have c3 : bn ≠ 0 := fun h => c1 (.inr h)
    rw [if_neg c2] at hgd
    subst hgd
    simp only at g4 g4'
    simp [go_sem, e2, e3, e4, e5, g1', g2', g4', c2, c3]
    refine (Less_spec ob.lo oa.lo).mono ?_
    rintro e s2 ⟨rfl, rfl⟩
    simp only
    obtain ⟨lo, hlo⟩ : ∃ lo, (if lessN bl al = true then bl else al) = lo := ⟨_, rfl⟩
    obtain ⟨hi, hhi⟩ : ∃ hi, (if lessN ah bh = true then bh else ah) = hi := ⟨_, rfl⟩
    rw [hlo, hhi] at hM
    cases hl : lessN bl al with
    | true =>
      rw [hl, if_pos rfl] at hlo
      subst hlo
      simp [go_sem, e2, e3, e4, e5, g1', g2', g4', nbd, upd_ne, upd_same]
      refine (Less_spec oa.hi ob.hi).mono ?_
      rintro e s3 ⟨rfl, rfl⟩
      simp only
      cases hh : lessN ah bh with
      | true =>
        rw [hh, if_pos rfl] at hhi
        subst hhi
        subst hM
        simp [go_sem, e2, e3, e4, e5, g2', g3', nbd, Ne.symm nbd, ncd, Ne.symm ncd, upd_ne, upd_same, GauD.cells]
        refine RetI_cell ?_
        simp [go_sem, e4]
        exact (kk1.put hdn).put hcn
      | false =>
        rw [hh, if_neg (by simp)] at hhi
        subst hhi
        subst hM
        simp [go_sem, e2, e3, e4, e5, g2', g3', nbd, Ne.symm nbd, ncd, Ne.symm ncd, upd_ne, upd_same, GauD.cells]
        refine RetI_cell ?_
        simp [go_sem, e4]
        exact (kk1.put hdn).put hcn
    | false =>
      rw [hl, if_neg (by simp)] at hlo
      subst hlo
      simp [go_sem, e2, e3, e4, e5, g1', g2', g4', nbd, upd_ne, upd_same]
      refine (Less_spec oa.hi ob.hi).mono ?_
      rintro e s3 ⟨rfl, rfl⟩
      simp only
      cases hh : lessN ah bh with
      | true =>
        rw [hh, if_pos rfl] at hhi
        subst hhi
        subst hM
        simp [go_sem, e2, e3, e4, e5, g2', g3', g4', nbd, Ne.symm nbd, ncd, Ne.symm ncd, upd_ne, upd_same, GauD.cells]
        refine RetI_cell ?_
        simp [go_sem, e4]
        exact (kk1.put hdn).put hcn
      | false =>
        rw [hh, if_neg (by simp)] at hhi
        subst hhi
        subst hM
        simp [go_sem, e2, e3, e4, e5, g2', g3', g4', nbd, Ne.symm nbd, ncd, Ne.symm ncd, upd_ne, upd_same, GauD.cells]
        refine RetI_cell ?_
        simp [go_sem, e4]
        exact kk1.put hcn
end
end Go.Proofs.YtflbapmjdfnhhaaGreat
