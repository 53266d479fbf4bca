/- What the document says of names, of blocks, of tombs. -/
import Derived.Test.YtflbapmjdfnhhaaGreatC20
import Derived.Test.YtflbapmjdfnhhaaGreatC21
import Derived.Test.YtflbapmjdfnhhaaGreatC18
import Derived.Test.YtflbapmjdfnhhaaGreatC13
set_option linter.unusedVariables false
set_option linter.unusedSimpArgs false
set_option maxRecDepth 100000
set_option maxHeartbeats 8000000
namespace Go.Proofs.YtflbapmjdfnhhaaGreat
open Go.RowKit (Below)
section
variable {W0 : World} {st : Heap}
end
end Go.Proofs.YtflbapmjdfnhhaaGreat
set_option linter.unusedVariables false
set_option linter.unusedSimpArgs false
set_option maxRecDepth 100000
set_option maxHeartbeats 8000000
namespace Go.Proofs.YtflbapmjdfnhhaaGreat
open Go.RowKit (Below)
section
variable {W0 : World} {st : Heap}
end
end Go.Proofs.YtflbapmjdfnhhaaGreat
set_option linter.unusedVariables false
set_option linter.unusedSimpArgs false
set_option maxRecDepth 100000
set_option maxHeartbeats 8000000
namespace Go.Proofs.YtflbapmjdfnhhaaGreat
open Go.RowKit (Below)
section
variable {W0 : World} {st : Heap}
end
end Go.Proofs.YtflbapmjdfnhhaaGreat
set_option linter.unusedVariables false
set_option linter.unusedSimpArgs false
set_option maxRecDepth 100000
set_option maxHeartbeats 8000000
namespace Go.Proofs.YtflbapmjdfnhhaaGreat
open Go.RowKit (Below)
def SameR (P : Prop) (st : Heap) (e : Ending) (st' : Heap) : Prop := ∃ r, e = .returned (.bool r) ∧ (P → r = true) ∧ New st st'
section
variable {W0 : World} {st : Heap}
theorem SameR.no {P : Prop} {st st' : Heap} (h : ¬ P) (hN : New st st') : SameR P st (.returned (.bool false)) st' := ⟨false, rfl, fun hp => absurd hp h, hN⟩
end
end Go.Proofs.YtflbapmjdfnhhaaGreat
set_option linter.unusedVariables false
set_option linter.unusedSimpArgs false
set_option maxRecDepth 100000
set_option maxHeartbeats 8000000
namespace Go.Proofs.YtflbapmjdfnhhaaGreat
open Go.RowKit (Below)
section
variable {W0 : World} {st : Heap}
theorem TombsAt.append {ts cs : List Value} {l : List TombD} {t : TombD} (hl : ts.length = l.length * 8) (h : TombsAt st ts l) (ht : TombAt st cs t) (hc : cs.length = 8) : TombsAt st (ts ++ cs) (l ++ [t]) := by
  intro i x hi
  by_cases hlt : i < l.length
  · rw [List.getElem?_append_left hlt] at hi
    have := h i x hi
    rwa [List.drop_append_of_le_length (by omega), List.take_append_of_le_length (by rw [List.length_drop]; omega)]
  · rw [List.getElem?_append_right (by omega)] at hi
    have h0 : i - l.length = 0 := by
      rcases Nat.eq_zero_or_pos (i - l.length) with h | h
      · exact h
      · rw [List.getElem?_eq_none (by simp; omega)] at hi; cases hi
    rw [h0] at hi
    injection hi with hi
    subst hi
    have hi' : i = l.length := by omega
    subst hi'
    rw [← hl, List.drop_left, List.take_of_length_le (by omega)]
    exact ht
end
end Go.Proofs.YtflbapmjdfnhhaaGreat
set_option linter.unusedVariables false
set_option linter.unusedSimpArgs false
set_option maxRecDepth 100000
set_option maxHeartbeats 400000
namespace Go.Proofs.YtflbapmjdfnhhaaGreat
open Go.RowKit (Below)
/-- Buckets as a row. -/
def bkV (l : List (Int × Nat)) : List Value := l.flatMap fun p => [Val.i p.1, .int .u64 (p.2 : Int)]
theorem bkV_get : ∀ (l : List (Int × Nat)) (i : Nat) (x : Int × Nat), l[i]? = some x → ((bkV l).drop (i * 2)).take 2 = [Val.i x.1, .int .u64 (x.2 : Int)]
  | [], i, x, h => by simp at h
  | y :: l, 0, x, h => by
    simp only [List.getElem?_cons_zero, Option.some.injEq] at h
    subst h
    simp [bkV]
  | y :: l, i + 1, x, h => by
    have := bkV_get l i x (by simpa using h)
    have e : (i + 1) * 2 = 2 + i * 2 := by omega
    rw [e, ← List.drop_drop]
    exact this
/-- The document's rule on buckets: their places rise, none is empty. -/
def checkB : Int → List (Int × Nat) → Bool
  | _, [] => true
  | p, x :: l => !(decide (x.1 ≤ p) || decide (7424 ≤ x.1) || decide (x.2 = 0)) && checkB x.1 l
section
variable {W0 : World} {st : Heap}
theorem histCheck_spec {v : Value} {l : List (Int × Nat)} (h : RegF st 2 v (bkV l) l.length) (hll : l.length < 2 ^ 50) : ICalls Tryz.prog W0 97 #[v] st fun e st' => e = .returned (.bool (checkB (-1) l)) ∧ New st st' := by
  obtain ⟨tb, tc, rfl⟩ := h.slice
  generalize hres : checkB (-1) l = res
  refine enter (args := [_]) Tryz.func97 rfl ?_
  simp [Tryz.f97, go_sem]
  refine ⟨fun E st' => New st st' ∧ E 6 = .slice tb l.length tc ∧ E 7 = Val.i l.length ∧ ∃ (i : Nat) (p : Int), E 8 = Val.i i ∧ i ≤ l.length ∧ E 3 = Val.i p ∧ checkB p (l.drop i) = res,
    fun E _ => match E 8 with | .int _ i => l.length - i.toNat | _ => 0, ⟨st, .rfl' _, New.refl _, by simp [go_sem], by simp [go_sem], 0, -1, by simp [go_sem], by omega, by simp [go_sem], hres⟩, ?_⟩
  rintro E st2 ⟨hk2, e6, e7, i, p, e8, hi, e3, hc⟩
  by_cases hlt : i < l.length
  · have hlt' : ((i : Int) < l.length) = True := eq_true (by omega)
    have hwi : IntKind.i64.wrap ((i : Int) + 1) = (i : Int) + 1 := wrap_id (by omega) (by omega)
    obtain ⟨mb, off, cap, rw_, zs, mm, g', hv, hs, hget⟩ := rows_get (h.new hk2) (by omega)
    injection hv with v1 v2 v3
    subst v1; subst v3
    obtain ⟨hlen, hcell, hcc⟩ := hget i hlt
    have hx : l[i]? = some l[i] := List.getElem?_eq_getElem hlt
    rw [bkV_get l i _ hx] at hcell
    have hd : l.drop i = l[i] :: l.drop (i + 1) := List.drop_eq_getElem_cons hlt
    rw [hd] at hc
    generalize l[i] = x at *
    obtain ⟨xi, xn⟩ := x
    simp only [checkB] at hc hcell
    simp [go_sem, e3, e6, e7, e8, hlt, hlt', hs, hlen, hcell]
    unfold NewP
    intro nb hnb
    refine ⟨.ty 1, ?_⟩
    have hN := (New.refl st2).add (b := nb) (o := .cells true [Val.i xi, .int .u64 (xn : Int)] 2 (.ty 1)) hnb
    by_cases h1 : xi ≤ p
    · have q1 := eq_true h1
      simp only [q1, decide_true, Bool.true_or, Bool.not_true, Bool.false_and] at hc
      subst hc
      simp [go_sem, e3, e6, e7, e8, q1]
      exact hk2.trans hN
    have q1 := eq_false h1
    by_cases h2 : 7424 ≤ xi
    · have q2 := eq_true h2
      simp only [q1, q2, decide_true, decide_false, Bool.true_or, Bool.or_true, Bool.false_or, Bool.not_true, Bool.false_and] at hc
      subst hc
      simp [go_sem, e3, e6, e7, e8, q1, q2]
      exact hk2.trans hN
    have q2 := eq_false h2
    by_cases h3 : xn = 0
    · have q3 := eq_true h3
      simp only [q1, q2, q3, decide_true, decide_false, Bool.true_or, Bool.or_true, Bool.false_or, Bool.not_true, Bool.false_and] at hc
      subst hc
      subst h3
      simp [go_sem, e3, e6, e7, e8, q1, q2]
      exact hk2.trans hN
    have q3 := eq_false h3
    simp only [q1, q2, q3, decide_false, Bool.false_or, Bool.not_false, Bool.true_and] at hc
    simp [go_sem, e3, e6, e7, e8, q1, q2, h3, hwi]
    exact ⟨_, .rfl' _, ⟨hk2.trans hN, i + 1, by simp, by omega, hc⟩, by omega⟩
  · have hk' : i = l.length := by omega
    subst hk'
    rw [List.drop_length] at hc
    simp only [checkB] at hc
    subst hc
    simp [go_sem, e3, e6, e7, e8]
    exact hk2
end
end Go.Proofs.YtflbapmjdfnhhaaGreat
set_option linter.unusedVariables false
set_option linter.unusedSimpArgs false
set_option maxRecDepth 100000
set_option maxHeartbeats 400000
namespace Go.Proofs.YtflbapmjdfnhhaaGreat
open Go.RowKit (Below)
def addB (h : List Nat) (p : Int × Nat) : List Nat := h.set p.1.toNat (satAdd (h.getD p.1.toNat 0) p.2)
def mergeB (h : List Nat) (l : List (Int × Nat)) : List Nat := l.foldl addB h
theorem checkB_spec : ∀ (l : List (Int × Nat)) (p : Int), checkB p l = true → ∀ x ∈ l, p < x.1 ∧ x.1 < 7424 ∧ x.2 ≠ 0
  | [], p, h, x, hx => by simp at hx
  | y :: l, p, h, x, hx => by
    simp only [checkB, Bool.and_eq_true, Bool.not_eq_true', Bool.or_eq_false_iff, decide_eq_false_iff_not] at h
    obtain ⟨⟨⟨h1, h2⟩, h3⟩, h4⟩ := h
    rcases List.mem_cons.1 hx with rfl | hx
    · exact ⟨by omega, by omega, h3⟩
    · have := checkB_spec l _ h4 x hx
      exact ⟨by omega, this.2⟩
theorem HistAt.new {st st' : Heap} {r : Nat} {h : List Nat} (hr : HistAt st r h) (hk : New st st') : HistAt st' r h := ⟨hk _ _ hr.1, hr.2⟩
theorem HistAt.add {st : Heap} {r : Nat} {h : List Nat} {p : Int × Nat} (hr : HistAt st r h) : HistAt (upd st r (.cells true (cellsU (addB h p)) 7424 (.own r 0 120))) r (addB h p) := by
  refine ⟨upd_same _ _ _, by simp [addB, hr.2.1], fun n hn => ?_⟩
  rcases List.mem_or_eq_of_mem_set hn with hn | rfl
  · exact hr.2.2 n hn
  · exact satAdd_lt
def GM (nb : Nat) (st3 st5 : Heap) (c : HObj) (done : List Nat) (st : Heap) : Prop := st nb = some c ∧ (16 ∉ done → st = st3) ∧ (16 ∈ done → st = st5)
theorem GM.skip {nb : Nat} {st3 st5 : Heap} {c : HObj} {done : List Nat} {st : Heap} {i : Nat} (h : GM nb st3 st5 c done st) (hi : i ≠ 16) : GM nb st3 st5 c (i :: done) st :=
  ⟨h.1, fun h1 => h.2.1 fun h2 => h1 (List.mem_cons_of_mem _ h2), fun h1 => h.2.2 ((List.mem_cons.1 h1).resolve_left (Ne.symm hi))⟩
section
variable {W0 : World} {st : Heap}
theorem histMerge_spec {r : Nat} {h : List Nat} {v : Value} {l : List (Int × Nat)} (hr : HistAt st r h) (hv : RegF st 2 v (bkV l) l.length) (hll : l.length < 2 ^ 50) (hn : ∀ x ∈ l, x.2 < 2 ^ 64) : ICalls Tryz.prog W0 78 #[ptr r, v] st fun e st' => But1 r st st' ∧
    if checkB (-1) l = true then e = .returned (Val.i 0) ∧ HistAt st' r (mergeB h l) else e = .returned (Val.i 5) ∧ HistAt st' r h := by
  obtain ⟨tb, tc, rfl⟩ := hv.slice
  refine enter (args := [_, _]) Tryz.func78 rfl ?_
  simp [Tryz.f78, go_sem]
  refine (histCheck_spec hv hll).mono ?_
  rintro e st1 ⟨rfl, hk1⟩
  cases hc : checkB (-1) l with
  | false =>
    simp [go_sem]
    exact ⟨hk1.but r, hr.new hk1⟩
  | true =>
  simp [go_sem]
  have hr1 := hr.new hk1
  refine ⟨fun E st' => But1 r st st' ∧ E 0 = ptr r ∧ E 14 = .slice tb l.length tc ∧ E 15 = Val.i l.length ∧ ∃ i : Nat, E 16 = Val.i i ∧ i ≤ l.length ∧ HistAt st' r (mergeB h (l.take i)),
    fun E _ => match E 16 with | .int _ i => l.length - i.toNat | _ => 0, ⟨st1, .rfl' _, hk1.but r, by simp [go_sem], by simp [go_sem], by simp [go_sem], 0, by simp [go_sem], by omega, by simpa [mergeB] using hr1⟩, ?_⟩
  rintro E st2 ⟨hk2, e0, e14, e15, i, e16, hi, hr2⟩
  by_cases hlt : i < l.length
  · have hlt' : ((i : Int) < l.length) = True := eq_true (by omega)
    have hwi : IntKind.i64.wrap ((i : Int) + 1) = (i : Int) + 1 := wrap_id (by omega) (by omega)
    obtain ⟨mb, off, cap, rw_, zs, mm, g', hv', hs, hget⟩ := rows_get (hv.but hk2 hr.1) (by omega)
    injection hv' with v1 v2 v3
    subst v1; subst v3
    obtain ⟨hlen, hcell, hcc⟩ := hget i hlt
    have hx : l[i]? = some l[i] := List.getElem?_eq_getElem hlt
    rw [bkV_get l i _ hx] at hcell
    have htk : l.take (i + 1) = l.take i ++ [l[i]] := by rw [List.take_add_one, hx]; rfl
    obtain ⟨c1, c2, c3⟩ := checkB_spec l _ hc _ (List.getElem_mem hlt)
    have hn' := hn _ (List.getElem_mem hlt)
    generalize l[i] = x at *
    obtain ⟨xi, xn⟩ := x
    simp only at c1 c2 c3 hn' hcell
    obtain ⟨H, hH⟩ : ∃ H, mergeB h (l.take i) = H := ⟨_, rfl⟩
    have hnext : mergeB h (l.take (i + 1)) = addB H (xi, xn) := by rw [htk, ← hH]; simp [mergeB]
    rw [hH] at hr2
    obtain ⟨z, rfl⟩ : ∃ z : Nat, xi = (z : Int) := ⟨xi.toNat, by omega⟩
    have hzl : z < H.length := by rw [hr2.2.1]; omega
    have hgz : (cellsU H)[z]? = some (.int .u64 (H[z] : Int)) := by simp [cellsU, List.getElem?_eq_getElem hzl]
    have hgd : H.getD z 0 = H[z] := by simp [List.getD_eq_getElem?_getD, List.getElem?_eq_getElem hzl]
    have hset : (cellsU H).set z (.int .u64 ((satAdd H[z] xn : Nat) : Int)) = cellsU (addB H ((z : Int), xn)) := by
      unfold addB cellsU
      rw [List.map_set, Int.toNat_natCast, hgd]
    simp [go_sem, e0, e14, e15, e16, hlt, hlt', hs, hlen, hcell]
    unfold NewP
    intro nb hnb
    refine ⟨.ty 1, ?_⟩
    have hN := (New.refl st2).add (b := nb) (o := .cells true [Val.i z, .int .u64 (xn : Int)] 2 (.ty 1)) hnb
    have hr3 := hr2.new hN
    have htb := upd_same st2 nb (.cells true [Val.i z, .int .u64 (xn : Int)] 2 (.ty 1))
    have hne : nb ≠ r := by rintro rfl; rw [hr2.1] at hnb; cases hnb
    have z1 : ((z : Int) < 7424) = True := eq_true (by omega)
    simp [go_sem, e0, e14, e15, e16]
    generalize upd st2 nb (.cells true [Val.i z, .int .u64 (xn : Int)] 2 (.ty 1)) = st3 at *
    refine drawG [0, 1, 2, 3, 4, 5, 6, 7, 8, 9, 10, 11, 12, 13, 14, 15, 16] (fun i v => match i with
      | 0 | 3 | 6 | 7 | 13 | 14 => v = ptr r
      | 1 | 4 => v = ptr nb
      | 2 | 5 => v = Val.i z
      | 8 | 15 => v = .pointer (some ⟨r, z, none⟩)
      | 9 => v = .int .u64 (H[z] : Int)
      | 10 => v = .pointer (some ⟨nb, 1, none⟩)
      | 11 => v = .int .u64 (xn : Int)
      | 12 => v = .int .u64 ((satAdd H[z] xn : Nat) : Int)
      | _ => True) (GM nb st3 (upd st3 r (.cells true (cellsU (addB H ((z : Int), xn))) 7424 (.own r 0 120))) (.cells true [Val.i z, .int .u64 (xn : Int)] 2 (.ty 1))) (by kernel_rfl) (by kernel_rfl) ⟨htb, fun _ => rfl, fun h => absurd h (by simp)⟩ ?_ ?_ ?_
    · intro i oo hi done E st5 hnd hG hdp hcl hd hE
      have hg := hG
      obtain ⟨g1, g2, g3⟩ := hg
      match i with
      | 0 =>
        have x0 := hE 0 (oldB_spec (by kernel_rfl))
        simp at hi; subst hi
        simp [wantedE, go_sem, x0, e0]
        exact hG.skip (by decide)
      | 1 =>
        have x0 := hE 6 (oldB_spec (by kernel_rfl))
        simp at hi; subst hi
        simp [wantedE, go_sem, x0, e0]
        exact hG.skip (by decide)
      | 2 =>
        simp at hi; subst hi
        have d0 := hd { on := 1, ground := .data } (by simp) (by decide) _ _ rfl rfl
        simp only at d0
        simp [wantedE, go_sem, d0, g1]
        exact hG.skip (by decide)
      | 3 =>
        have x0 := hE 0 (oldB_spec (by kernel_rfl))
        simp at hi; subst hi
        simp [wantedE, go_sem, x0, e0]
        exact hG.skip (by decide)
      | 4 =>
        have x0 := hE 6 (oldB_spec (by kernel_rfl))
        simp at hi; subst hi
        simp [wantedE, go_sem, x0, e0]
        exact hG.skip (by decide)
      | 5 =>
        simp at hi; subst hi
        have d0 := hd { on := 4, ground := .data } (by simp) (by decide) _ _ rfl rfl
        simp only at d0
        simp [wantedE, go_sem, d0, g1]
        exact hG.skip (by decide)
      | 6 =>
        simp at hi; subst hi
        have d0 := hd { on := 3, ground := .data } (by simp) (by decide) _ _ rfl rfl
        simp only at d0
        simp [wantedE, go_sem, d0]
        exact hG.skip (by decide)
      | 7 =>
        simp at hi; subst hi
        have d0 := hd { on := 6, ground := .data } (by simp) (by decide) _ _ rfl rfl
        simp only at d0
        simp [wantedE, go_sem, d0]
        exact hG.skip (by decide)
      | 8 =>
        simp at hi; subst hi
        have d0 := hd { on := 7, ground := .data } (by simp) (by decide) _ _ rfl rfl
        have d1 := hd { on := 5, ground := .data } (by simp) (by decide) _ _ rfl rfl
        simp only at d0 d1
        simp [wantedE, go_sem, d0, d1, z1]
        exact hG.skip (by decide)
      | 9 =>
        simp at hi; subst hi
        have d0 := hd { on := 8, ground := .data } (by simp) (by decide) _ _ rfl rfl
        simp only at d0
        have hno : 16 ∉ done := fun h16 => hnd (hcl 16 _ h16 rfl { on := 9, ground := .phase } (by simp) (by decide))
        have g2' := g2 hno
        subst g2'
        simp [wantedE, go_sem, d0, hr3.1, hgz]
        exact hG.skip (by decide)
      | 10 =>
        have x0 := hE 6 (oldB_spec (by kernel_rfl))
        simp at hi; subst hi
        simp [wantedE, go_sem, x0, e0]
        exact hG.skip (by decide)
      | 11 =>
        simp at hi; subst hi
        have d0 := hd { on := 10, ground := .data } (by simp) (by decide) _ _ rfl rfl
        simp only at d0
        simp [wantedE, go_sem, d0, g1]
        exact hG.skip (by decide)
      | 12 =>
        simp at hi; subst hi
        have d0 := hd { on := 9, ground := .data } (by simp) (by decide) _ _ rfl rfl
        have d1 := hd { on := 11, ground := .data } (by simp) (by decide) _ _ rfl rfl
        simp only at d0 d1
        simp [wantedE, go_sem, d0, d1]
        refine (wideAdd_spec (hr3.2.2 _ (List.getElem_mem hzl)) hn').mono ?_
        rintro e st4 ⟨rfl, rfl⟩
        simp [go_sem]
        exact hG.skip (by decide)
      | 13 =>
        simp at hi; subst hi
        have d0 := hd { on := 0, ground := .data } (by simp) (by decide) _ _ rfl rfl
        simp only at d0
        simp [wantedE, go_sem, d0]
        exact hG.skip (by decide)
      | 14 =>
        simp at hi; subst hi
        have d0 := hd { on := 13, ground := .data } (by simp) (by decide) _ _ rfl rfl
        simp only at d0
        simp [wantedE, go_sem, d0]
        exact hG.skip (by decide)
      | 15 =>
        simp at hi; subst hi
        have d0 := hd { on := 14, ground := .data } (by simp) (by decide) _ _ rfl rfl
        have d1 := hd { on := 2, ground := .data } (by simp) (by decide) _ _ rfl rfl
        simp only at d0 d1
        simp [wantedE, go_sem, d0, d1, z1]
        exact hG.skip (by decide)
      | 16 =>
        simp at hi; subst hi
        have d0 := hd { on := 15, ground := .data } (by simp) (by decide) _ _ rfl rfl
        have d1 := hd { on := 12, ground := .data } (by simp) (by decide) _ _ rfl rfl
        simp only at d0 d1
        have g2' := g2 hnd
        subst g2'
        have hzc : z ≤ (cellsU H).length := by simp [cellsU]; omega
        have hz7 : z < 7424 := by omega
        have hzd : z < (cellsU H).length := by simp [cellsU]; exact hzl
        simp [wantedE, go_sem, d0, d1, hr3.1, hzc, hz7, hzd, hset]
        exact ⟨by rw [upd_ne _ _ hne]; exact g1, fun h => absurd (List.mem_cons_self) h, fun _ => rfl⟩
      | k + 17 => simp at hi
    · intro done E st5 hall hG hd hE
      have x0 := hE 0 (noB_spec (by kernel_rfl))
      have x14 := hE 14 (noB_spec (by kernel_rfl))
      have x15 := hE 15 (noB_spec (by kernel_rfl))
      have x16 := hE 16 (noB_spec (by kernel_rfl))
      have := hG.2.2 (hall 16 (by simp))
      subst this
      simp [go_sem, x0, x14, x15, x16, e0, e14, e15, e16, hwi]
      refine ⟨_, .rfl' _, ⟨((hk2.trans (hN.but r))).put, i + 1, by simp, by omega, ?_⟩, by omega⟩
      rw [hnext]
      exact hr3.add
    · intro j oj hj
      match j with
      | 0 | 1 | 2 | 3 | 4 | 5 | 6 | 7 | 8 | 9 | 10 | 11 | 12 | 13 | 14 | 15 | 16 => simp at hj; subst hj; decide
      | j + 17 => simp at hj
  · have hk' : i = l.length := by omega
    subst hk'
    rw [List.take_length] at hr2
    simp [go_sem, e0, e14, e15, e16]
    exact ⟨hk2, hr2⟩
end
end Go.Proofs.YtflbapmjdfnhhaaGreat
set_option linter.unusedVariables false
set_option linter.unusedSimpArgs false
set_option maxRecDepth 100000
set_option maxHeartbeats 400000
namespace Go.Proofs.YtflbapmjdfnhhaaGreat
open Go.RowKit (Below)
section
variable {W0 : World} {st : Heap}
theorem histFrom_spec {v : Value} {l : List (Int × Nat)} (hv : RegF st 2 v (bkV l) l.length) (hll : l.length < 2 ^ 50) (hn : ∀ x ∈ l, x.2 < 2 ^ 64) : ICalls Tryz.prog W0 83 #[v] st fun e st' => New st st' ∧
    if checkB (-1) l = true then ∃ r, e = .returned (.tuple #[ptr r, Val.i 0]) ∧ st r = none ∧ HistAt st' r (mergeB (List.replicate 7424 0) l) else e = .returned (.tuple #[.pointer none, Val.i 5]) := by
  obtain ⟨tb, tc, rfl⟩ := hv.slice
  refine enter (args := [_]) Tryz.func83 rfl ?_
  simp [-List.reduceReplicate, Tryz.f83, go_sem]
  refine histNew_spec.mono ?_
  rintro e st1 ⟨r, rfl, hr, hk1, hh⟩
  simp [-List.reduceReplicate, go_sem]
  refine (histMerge_spec hh (hv.new hk1) hll hn).mono ?_
  rintro e st2 ⟨hk2, hR⟩
  have hk : New st st2 := fun k o hk => hk2 k o (ne_of_new hk hr) (hk1 k o hk)
  cases hc : checkB (-1) l with
  | false =>
    rw [hc, if_neg (by simp)] at hR
    obtain ⟨rfl, -⟩ := hR
    simp [-List.reduceReplicate, go_sem]
    exact hk
  | true =>
    rw [hc, if_pos rfl] at hR
    obtain ⟨rfl, hR⟩ := hR
    simp [-List.reduceReplicate, go_sem]
    exact ⟨hk, hr, hR⟩
theorem histCount_spec {r : Nat} {h : List Nat} (hr : HistAt st r h) : ICalls Tryz.prog W0 86 #[ptr r] st fun e st' => e = .returned (.tuple #[.int .u64 (h.foldl satAdd 0 : Nat), if h.foldl satAdd 0 = 2 ^ 64 - 1 then Val.i 11 else Val.i 0]) ∧ st' = st := by
  refine enter (args := [_]) Tryz.func86 rfl ?_
  simp [Tryz.f86, go_sem]
  refine ICalls.mono (by simpa using upto_spec (i := 7423) hr (by omega)) ?_
  rintro e st1 ⟨rfl, rfl⟩
  have htk : h.take 7424 = h := by rw [← hr.2.1]; exact List.take_length
  rw [htk]
  by_cases hm : h.foldl satAdd 0 = 2 ^ 64 - 1
  · rw [if_pos hm]
    have q : ((h.foldl satAdd 0 : Nat) : Int) = 18446744073709551615 := by omega
    simp [go_sem, q]
  · rw [if_neg hm]
    have q : (((h.foldl satAdd 0 : Nat) : Int) = 18446744073709551615) = False := eq_false (by omega)
    simp [go_sem, q]
end
end Go.Proofs.YtflbapmjdfnhhaaGreat
set_option linter.unusedVariables false
set_option linter.unusedSimpArgs false
set_option maxRecDepth 100000
set_option maxHeartbeats 400000
namespace Go.Proofs.YtflbapmjdfnhhaaGreat
open Go.RowKit (Below)
def ascK : List Nat → Bool
  | a :: b :: l => decide (a < b) && ascK (b :: l)
  | _ => true
/-- The rule on hashes: they rise, and they are not too many. -/
def checkK (l : List Nat) : Bool := decide (l.length ≤ 1024) && ascK l
theorem ascK_short {l : List Nat} (h : l.length ≤ 1) : ascK l = true := by
  match l, h with
  | [], _ => rfl
  | [a], _ => rfl
section
variable {W0 : World} {st : Heap}
theorem kmvCheck_spec {v : Value} {l : List Nat} (h : RegF st 1 v (cellsU l) l.length) (hll : l.length < 2 ^ 50) : ICalls Tryz.prog W0 84 #[v] st fun e st' => e = .returned (.bool (checkK l)) ∧ st' = st := by
  obtain ⟨tb, tc, rfl⟩ := h.slice
  generalize hres : checkK l = res
  refine enter (args := [_]) Tryz.func84 rfl ?_
  simp [Tryz.f84, go_sem]
  refine ⟨fun E st' => st' = st ∧ E 0 = .slice tb l.length tc ∧ ∃ i : Nat, E 3 = Val.i i ∧ 1 ≤ i ∧ i ≤ l.length + 1 ∧ (decide (l.length ≤ 1024) && ascK (l.drop (i - 1))) = res,
    fun E _ => match E 3 with | .int _ i => l.length + 1 - i.toNat | _ => 0, ⟨st, .rfl' _, rfl, by simp [go_sem], 1, by simp [go_sem], by omega, by omega, by simpa [checkK] using hres⟩, ?_⟩
  rintro E st2 ⟨rfl, e0, i, e3, hi1, hi, hc⟩
  by_cases hlt : i < l.length
  · have hlt' : ((i : Int) < l.length) = True := eq_true (by omega)
    by_cases hbig : 1024 < i
    · have q1 : ((i : Int) ≤ 1024) = False := eq_false (by omega)
      have q2 : ((l.length : Int) ≤ 1024) = False := eq_false (by omega)
      have hd : decide (l.length ≤ 1024) = false := by simp; omega
      rw [hd, Bool.false_and] at hc
      subst hc
      simp [go_sem, e0, e3, hlt, hlt', q1, q2]
    · obtain ⟨k, rfl⟩ : ∃ k, i = k + 1 := ⟨i - 1, by omega⟩
      have q1 : ((k : Int) + 1 ≤ 1024) = True := eq_true (by omega)
      have q4 : ((k : Int) + 1 < l.length) = True := eq_true (by omega)
      have q5 : ((0 : Int) ≤ (k : Int) + 1) = True := eq_true (by omega)
      have q6 : ((k : Int) + 1).toNat = k + 1 := by omega
      have q3 : k + 1 ≤ 1024 := by omega
      have hwi : IntKind.i64.wrap ((k : Int) + 1 + 1) = (k : Int) + 1 + 1 := wrap_id (by omega) (by omega)
      have hwk' : IntKind.i64.wrap (k : Int) = (k : Int) := wrap_id (by omega) (by omega)
      obtain ⟨blk, off, rfl, hg⟩ := src_get h.src (by omega)
      have hg1 := hg (k + 1) (by omega)
      have hg0 := hg k (by omega)
      have hkl : k < l.length := by omega
      have hv1 : (cellsU l)[k + 1]? = some (.int .u64 (l[k + 1] : Int)) := by simp [cellsU, List.getElem?_eq_getElem hlt]
      have hv0 : (cellsU l)[k]? = some (.int .u64 (l[k] : Int)) := by simp [cellsU, List.getElem?_eq_getElem hkl]
      rw [hv1] at hg1
      rw [hv0] at hg0
      have hd0 : l.drop k = l[k] :: l[k + 1] :: l.drop (k + 2) := by
        rw [List.drop_eq_getElem_cons hkl, List.drop_eq_getElem_cons hlt]
      have hd1 : l.drop (k + 1) = l[k + 1] :: l.drop (k + 2) := List.drop_eq_getElem_cons hlt
      have hk1 : k + 1 - 1 = k := by omega
      rw [hk1, hd0] at hc
      simp only [ascK] at hc
      rw [← hd1] at hc
      generalize l[k + 1] = y at *
      generalize l[k] = x at *
      simp [go_sem, e0, e3, hlt, q1, q3, q4]
      refine draw [0, 1, 2, 4, 5, 6, 7, 3, 8, 9] (by kernel_rfl) ?_
      by_cases hyx : y ≤ x
      · have hf : decide (x < y) = false := by simp; omega
        rw [hf, Bool.false_and, Bool.and_false] at hc
        subst hc
        simp [go_sem, e0, e3, hlt, q4, q5, q6, hkl, hwk', hg1, hg0, hyx]
      · have hf : decide (x < y) = true := by simp; omega
        rw [hf, Bool.true_and] at hc
        simp [go_sem, e0, e3, hlt, q4, q5, q6, hkl, hwk', hg1, hg0, hyx, hwi]
        exact ⟨_, .rfl' _, ⟨rfl, k + 2, by simp; omega, by omega, by omega, hc⟩, by omega⟩
  · have hlt' : ((i : Int) < l.length) = False := eq_false (by omega)
    have : ascK (l.drop (i - 1)) = true := ascK_short (by simp; omega)
    rw [this, Bool.and_true] at hc
    subst hc
    simp [go_sem, e0, e3, hlt, hlt']
    omega
end
end Go.Proofs.YtflbapmjdfnhhaaGreat
