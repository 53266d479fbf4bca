/- The document's reader of numbers and texts (varveref04.R). -/
import Derived.Test.YtadgciaclhjjkaaGreatC18
import Derived.Test.YtadgciaclhjjkaaGreatC14
import Derived.Test.YtadgciaclhjjkaaGreatC33
import Derived.Test.YtadgciaclhjjkaaGreatC21
import Derived.Test.YtadgciaclhjjkaaGreatC23
import Derived.Test.YtadgciaclhjjkaaGreatC19
import Derived.Test.YtadgciaclhjjkaaGreatC20
set_option linter.unusedVariables false
set_option linter.unusedSimpArgs false
set_option maxRecDepth 100000
set_option maxHeartbeats 8000000
namespace Go.Proofs.YtadgciaclhjjkaaGreat
open Go.RowKit (Below)
/-- A heap of what has these marks alone. -/
theorem only (p : Tg → Prop) (st : Heap) : ∃ s0 : Heap, (∀ st', New s0 st' ↔ Keep p st st') ∧ (∀ v, Fresh st v → Fresh s0 v) := by
  classical
  refine ⟨fun k => match st k with | some o => if ∃ g, o.tag = some g ∧ p g then some o else none | none => none, fun st' => ⟨fun h k o g hk ht hp => ?_, fun h k o hk => ?_⟩, fun v hv b off n c e => ?_⟩
  · refine h k o ?_
    simp only [hk]
    rw [if_pos ⟨g, ht, hp⟩]
  · simp only at hk
    split at hk
    · rename_i o' ho
      split at hk
      · rename_i hex
        obtain ⟨g, ht, hp⟩ := hex
        injection hk with hk
        subst hk
        exact h k _ g ho ht hp
      · cases hk
    · cases hk
  · simp only [hv b off n c e]
def refC (bv : Value) (a : Int) (bad : Bool) (r : Nat) : HObj := .cells true [bv, Val.i a, .bool bad] 3 (.own r 0 94)
/-- The reader stands at a place, or something was wrong. -/
def RefAt (st : Heap) (r : Nat) (bv : Value) : Option Int → Prop
  | some a => st r = some (refC bv a false r)
  | none => ∃ a, st r = some (refC bv a true r)
theorem RefAt.cell {st : Heap} {r : Nat} {bv : Value} {p : Option Int} (h : RefAt st r bv p) : ∃ a bad, st r = some (refC bv a bad r) ∧ p = (if bad = true then none else some a) := by
  cases p with
  | none => obtain ⟨a, h⟩ := h; exact ⟨a, true, h, rfl⟩
  | some a => exact ⟨a, false, h, rfl⟩
def numR (b : Bs) (p : Option Int) : Nat × Option Int := match p.bind (vgetM b) with
  | some (n, a) => (n, some a)
  | none => (0, none)
section
variable {W0 : World} {st : Heap}
theorem refNum_spec {r : Nat} {bv : Value} {b : Bs} {g0 : Tg} {p : Option Int} (hr : RefAt st r bv p) (hb : Reg st g0 1 bv (bytesV b) b.length) (hg : Free g0) (hl : b.length < 2 ^ 60) :
    ICalls Tryz.prog W0 28 #[ptr r] st fun e st' => But1 r st st' ∧ e = .returned (Val.u (numR b p).1) ∧ RefAt st' r bv (numR b p).2 := by
  obtain ⟨a0, bad0, hr0, hp⟩ := hr.cell
  obtain ⟨base, cap, rfl⟩ := hb.slice
  generalize hres : p.bind (vgetM b) = res
  have hout : ∀ R, res = R → numR b p = match R with | some (n, a) => (n, some (a : Int)) | none => (0, none) := by
    intro R h
    unfold numR
    rw [hres, h]
  refine enter (args := [_]) Tryz.func28 rfl ?_
  simp [Tryz.f28, go_sem]
  refine ⟨fun E st' => But1 r st st' ∧ E 0 = ptr r ∧ ∃ (i v : Nat) (a : Int) (bad : Bool), st' r = some (refC (.slice base b.length cap) a bad r) ∧ E 4 = Val.i i ∧ E 3 = Val.u v ∧ i ≤ 10 ∧ v < 128 ^ i ∧ ((bad = true ∧ i = 0 ∧ res = none) ∨ (bad = false ∧ (if a < 0 then none else vgetL b (10 - i) a.toNat v) = res)),
    fun E _ => match E 4 with | .int _ i => 10 - i.toNat | _ => 0, ⟨st, .rfl' _, But1.refl _ _, by simp [go_sem], 0, 0, a0, bad0, hr0, by simp [go_sem], by simp [go_sem], by omega, by decide, ?_⟩, ?_⟩
  · rw [← hres, hp]
    cases bad0 with
    | true => left; simp
    | false => right; simp [vgetM]
  rintro E st1 ⟨hB1, e0, i, v, a, bad, hr1, e4, e3, hi, hv, hrec⟩
  unfold refC at hr1
  have hb1 : Reg st1 g0 1 (.slice base b.length cap) (bytesV b) b.length := hb.but hg hB1 hr0
  have fail : ∀ {a' : Int}, res = none → But1 r st (upd st1 r (.cells true [.slice base b.length cap, Val.i a', .bool true] 3 (.own r 0 94))) ∧ (0 : Int) = ((numR b p).1 : Nat) ∧ RefAt (upd st1 r (.cells true [.slice base b.length cap, Val.i a', .bool true] 3 (.own r 0 94))) r (.slice base b.length cap) (numR b p).2 := by
    intro a' h
    rw [hout _ h]
    exact ⟨hB1.put, rfl, a', upd_same _ _ _⟩
  by_cases hi10 : i < 10
  · have hi10' : ((i : Int) < 10) = True := eq_true (by omega)
    rcases hrec with ⟨rfl, hi0, hrec⟩ | ⟨rfl, hrec⟩
    · simp [go_sem, e0, e4, e3, hi10']
      refine draw [0, 1, 2, 3, 4, 5, 6, 7, 8, 9, 10, 11, 12, 13, 14, 16, 17, 18, 15, 19, 20, 21, 22] (by kernel_rfl) ?_
      simp [go_sem, e0, e4, e3, hi10', hr1]
      exact fail hrec
    · have w64 : ∀ x : Nat, x < 2 ^ 64 → IntKind.u64.wrap (x : Int) = x := fun x hx => wraps_u64 _ (by omega) (by omega)
      by_cases ha : a < 0
      · have ha' := eq_true ha
        rw [if_pos ha] at hrec
        simp [go_sem, e0, e4, e3, hi10']
        refine draw [0, 1, 2, 3, 4, 5, 6, 7, 8, 9, 10, 11, 12, 13, 14, 16, 17, 18, 15, 19, 20, 21, 22] (by kernel_rfl) ?_
        simp [go_sem, e0, e4, e3, hi10', hr1, ha']
        exact fail hrec.symm
      rw [if_neg ha] at hrec
      obtain ⟨at', rfl⟩ := Int.eq_ofNat_of_zero_le (show 0 ≤ a by omega)
      rw [Int.toNat_natCast] at hrec
      obtain ⟨k, hk⟩ : ∃ k, 10 - i = k + 1 := ⟨9 - i, by omega⟩
      have hki : 9 - k = i := by omega
      rw [hk] at hrec
      unfold vgetL at hrec
      rw [hki] at hrec
      by_cases hlt : at' < b.length
      rotate_left
      · have hlt' : ((b.length : Int) ≤ at') = True := eq_true (by omega)
        rw [List.getElem?_eq_none (by omega)] at hrec
        simp [go_sem, e0, e4, e3, hi10']
        refine draw [0, 1, 2, 3, 4, 5, 6, 7, 8, 9, 10, 11, 12, 13, 14, 16, 17, 18, 15, 19, 20, 21, 22] (by kernel_rfl) ?_
        simp [go_sem, e0, e4, e3, hi10', hr1, hlt', ha]
        exact fail hrec.symm
      have hlt' : ((b.length : Int) ≤ at') = False := eq_false (by omega)
      have hlt2 : ((at' : Int) < b.length) = True := eq_true (by omega)
      have ha' : ((at' : Int) < 0) = False := eq_false (by omega)
      obtain ⟨blk, off, rfl, hg'⟩ := src_get hb1.src (by omega)
      have hgx := hg' at' (by omega)
      obtain ⟨x, hx⟩ : ∃ x, b[at']? = some x := ⟨_, List.getElem?_eq_getElem hlt⟩
      have hbx : (bytesV b)[at']? = some (.int .u8 x.toNat) := by simp [bytesV, hx]
      rw [hbx] at hgx
      have hx8 := x.toNat_lt
      rw [hx] at hrec
      simp only at hrec
      generalize x.toNat = c at *
      have hnr : ∀ y, y ≠ blk → y ≠ r → True := fun _ _ _ => trivial
      have hne : blk ≠ r := by
        obtain ⟨_, _, _, hv', _, hrow⟩ := hb1
        injection hv' with q1 q2 q3
        subst q1
        rcases hrow with h0 | ⟨b', off', rw', ys, n, hb', hs, _⟩
        · omega
        · injection hb' with hb'
          injection hb' with hb' _
          subst hb'
          exact ne_of_tag hs hr1 (by intro e; injection e with e; exact hg _ _ _ e)
      have hw1 : IntKind.i64.wrap ((at' : Int) + 1) = (at' : Int) + 1 := wrap_id (by omega) (by omega)
      have hwi : IntKind.i64.wrap ((i : Int) + 1) = ((i + 1 : Nat) : Int) := by rw [wrap_id (by omega) (by omega)]; omega
      have hcm : (c : Int) % 128 = ((c % 128 : Nat) : Int) := by omega
      by_cases hbad : i = 9 ∧ 1 < c
      · rw [if_pos ⟨by omega, hbad.2⟩] at hrec
        obtain ⟨rfl, hbad⟩ := hbad
        have hbad' : (1 : Int) < c := by omega
        simp [go_sem, e0, e4, e3, hi10']
        refine draw [0, 1, 2, 3, 4, 5, 6, 7, 8, 9, 10, 11, 12, 13, 14, 16, 17, 18, 15, 19, 20, 21, 22] (by kernel_rfl) ?_
        simp [go_sem, e0, e4, e3, hr1, hlt', ha']
        refine draw [0, 1, 2, 4, 5, 6, 3, 7, 8, 9, 10] (by kernel_rfl) ?_
        simp [go_sem, e0, e4, e3, hr1, hlt2, hlt, hgx, hw1, hbad', hne]
        exact fail hrec.symm
      rw [if_neg (by omega)] at hrec
      have hw7 : IntKind.i64.wrap (7 * (i : Int)) = 7 * (i : Int) := wrap_id (by omega) (by omega)
      have hpow : ((2 : Int) ^ (7 * i)) = ((128 ^ i : Nat) : Int) := by rw [pow128]; simp
      have hterm : c % 128 * 128 ^ i < 2 ^ 64 ∧ v + c % 128 * 128 ^ i < 2 ^ 64 ∧ (i ≠ 9 → v + c % 128 * 128 ^ i < 128 ^ (i + 1)) := by
        by_cases hk0 : i = 9
        · subst hk0
          have h2 : c % 128 * 128 ^ 9 ≤ 1 * 128 ^ 9 := Nat.mul_le_mul_right _ (by omega)
          have h4 : (128 : Nat) ^ 9 = 9223372036854775808 := by decide
          exact ⟨by omega, by omega, fun h => absurd rfl h⟩
        · have h2 : c % 128 * 128 ^ i ≤ 127 * 128 ^ i := Nat.mul_le_mul_right _ (by omega)
          have h3 : (128 : Nat) ^ i ≤ 128 ^ 8 := Nat.pow_le_pow_right (by decide) (by omega)
          have h4 : (128 : Nat) ^ 8 = 72057594037927936 := by decide
          have h5 : (128 : Nat) ^ (i + 1) = 128 ^ i * 128 := by rw [Nat.pow_succ]
          exact ⟨by omega, by omega, fun _ => by omega⟩
      obtain ⟨ht1, ht2, ht3⟩ := hterm
      have q9 : ((i : Int) = 9) = True ∧ ((1 : Int) < c) = False ∨ ((i : Int) = 9) = False := by
        by_cases h : (i : Int) = 9
        · exact .inl ⟨eq_true h, eq_false (by omega)⟩
        · exact .inr (eq_false h)
      obtain ⟨T, hT⟩ : ∃ T, c % 128 * 128 ^ i = T := ⟨_, rfl⟩
      have hcast : ((c : Int) % 128 * ((128 ^ i : Nat) : Int)) = (T : Int) := by rw [← hT]; simp
      rw [hT] at hrec ht1 ht2 ht3
      have hws : IntKind.u64.wrap ((c : Int) % 128 * 2 ^ (7 * i)) = (T : Int) := by rw [hpow, hcast]; exact wraps_u64 _ (by omega) (by omega)
      have hvT : IntKind.u64.wrap ((v : Int) + T) = ((v + T : Nat) : Int) := by rw [wraps_u64 _ (by omega) (by omega)]; omega
      have hw7u : IntKind.u64.wrap (7 * (i : Int)) = 7 * (i : Int) := wraps_u64 _ (by omega) (by omega)
      have hmod : IntKind.u64.wrap ((c : Int).tmod 128) = (c : Int) % 128 := by rw [Int.tmod_eq_emod_of_nonneg (by omega)]; exact wraps_u64 _ (by omega) (by omega)
      have hn7 : ¬ 7 * (i : Int) < 0 := by omega
      have htn : (7 * (i : Int)).toNat = 7 * i := by omega
      have hmin3 : min (7 * i) 64 = 7 * i := by omega
      by_cases hc : c < 128
      · have qc : ((c : Int) < 128) = True := eq_true (by omega)
        rw [if_pos hc] at hrec
        have q0 : (c = 0) = True ∧ (0 < i) = True ∧ res = none ∨ ((c = 0) = False ∨ (c = 0) = True ∧ (0 < i) = False) ∧ res = some (v + T, at' + 1) := by
          by_cases h0 : c = 0
          · by_cases h1 : 0 < i
            · rw [if_pos ⟨by omega, h0⟩] at hrec
              exact .inl ⟨eq_true h0, eq_true h1, hrec.symm⟩
            · rw [if_neg (by omega)] at hrec
              exact .inr ⟨.inr ⟨eq_true h0, eq_false h1⟩, hrec.symm⟩
          · rw [if_neg (by omega)] at hrec
            exact .inr ⟨.inl (eq_false h0), hrec.symm⟩
        have good : res = some (v + T, at' + 1) → But1 r st (upd st1 r (.cells true [.slice (some ⟨blk, off, none⟩) b.length cap, Val.i ((at' : Int) + 1), .bool false] 3 (.own r 0 94))) ∧ (v : Int) + T = ((numR b p).1 : Nat) ∧ RefAt (upd st1 r (.cells true [.slice (some ⟨blk, off, none⟩) b.length cap, Val.i ((at' : Int) + 1), .bool false] 3 (.own r 0 94))) r (.slice (some ⟨blk, off, none⟩) b.length cap) (numR b p).2 := by
          intro h
          rw [hout _ h]
          refine ⟨hB1.put, by simp, ?_⟩
          show upd _ _ _ _ = _
          rw [upd_same]
          rfl
        rcases q9 with ⟨q9, q91⟩ | q9
        · rcases q0 with ⟨q0, qi, hn⟩ | ⟨q0 | ⟨q0, qi⟩, hs⟩
          · simp [go_sem, e0, e4, e3, hi10']
            refine draw [0, 1, 2, 3, 4, 5, 6, 7, 8, 9, 10, 11, 12, 13, 14, 16, 17, 18, 15, 19, 20, 21, 22] (by kernel_rfl) ?_
            simp [go_sem, e0, e4, e3, hr1, hlt', ha']
            refine draw [0, 1, 2, 4, 5, 6, 3, 7, 8, 9, 10] (by kernel_rfl) ?_
            simp [go_sem, e0, e4, e3, hr1, hlt2, hlt, hgx, hw1, hwi, hne, hw7, hw7u, hmod, hn7, htn, hmin3, hws, hvT, q9, q91, qc, q0, qi]
            exact fail hn
          · simp [go_sem, e0, e4, e3, hi10']
            refine draw [0, 1, 2, 3, 4, 5, 6, 7, 8, 9, 10, 11, 12, 13, 14, 16, 17, 18, 15, 19, 20, 21, 22] (by kernel_rfl) ?_
            simp [go_sem, e0, e4, e3, hr1, hlt', ha']
            refine draw [0, 1, 2, 4, 5, 6, 3, 7, 8, 9, 10] (by kernel_rfl) ?_
            simp [go_sem, e0, e4, e3, hr1, hlt2, hlt, hgx, hw1, hwi, hne, hw7, hw7u, hmod, hn7, htn, hmin3, hws, hvT, q9, q91, qc, q0]
            exact good hs
          · simp [go_sem, e0, e4, e3, hi10']
            refine draw [0, 1, 2, 3, 4, 5, 6, 7, 8, 9, 10, 11, 12, 13, 14, 16, 17, 18, 15, 19, 20, 21, 22] (by kernel_rfl) ?_
            simp [go_sem, e0, e4, e3, hr1, hlt', ha']
            refine draw [0, 1, 2, 4, 5, 6, 3, 7, 8, 9, 10] (by kernel_rfl) ?_
            simp [go_sem, e0, e4, e3, hr1, hlt2, hlt, hgx, hw1, hwi, hne, hw7, hw7u, hmod, hn7, htn, hmin3, hws, hvT, q9, q91, qc, q0, qi]
            exact good hs
        · rcases q0 with ⟨q0, qi, hn⟩ | ⟨q0 | ⟨q0, qi⟩, hs⟩
          · simp [go_sem, e0, e4, e3, hi10']
            refine draw [0, 1, 2, 3, 4, 5, 6, 7, 8, 9, 10, 11, 12, 13, 14, 16, 17, 18, 15, 19, 20, 21, 22] (by kernel_rfl) ?_
            simp [go_sem, e0, e4, e3, hr1, hlt', ha']
            refine draw [0, 1, 2, 4, 5, 6, 3, 7, 8, 9, 10] (by kernel_rfl) ?_
            simp [go_sem, e0, e4, e3, hr1, hlt2, hlt, hgx, hw1, hwi, hne, hw7, hw7u, hmod, hn7, htn, hmin3, hws, hvT, q9, qc, q0, qi]
            exact fail hn
          · simp [go_sem, e0, e4, e3, hi10']
            refine draw [0, 1, 2, 3, 4, 5, 6, 7, 8, 9, 10, 11, 12, 13, 14, 16, 17, 18, 15, 19, 20, 21, 22] (by kernel_rfl) ?_
            simp [go_sem, e0, e4, e3, hr1, hlt', ha']
            refine draw [0, 1, 2, 4, 5, 6, 3, 7, 8, 9, 10] (by kernel_rfl) ?_
            simp [go_sem, e0, e4, e3, hr1, hlt2, hlt, hgx, hw1, hwi, hne, hw7, hw7u, hmod, hn7, htn, hmin3, hws, hvT, q9, qc, q0]
            exact good hs
          · simp [go_sem, e0, e4, e3, hi10']
            refine draw [0, 1, 2, 3, 4, 5, 6, 7, 8, 9, 10, 11, 12, 13, 14, 16, 17, 18, 15, 19, 20, 21, 22] (by kernel_rfl) ?_
            simp [go_sem, e0, e4, e3, hr1, hlt', ha']
            refine draw [0, 1, 2, 4, 5, 6, 3, 7, 8, 9, 10] (by kernel_rfl) ?_
            simp [go_sem, e0, e4, e3, hr1, hlt2, hlt, hgx, hw1, hwi, hne, hw7, hw7u, hmod, hn7, htn, hmin3, hws, hvT, q9, qc, q0, qi]
            exact good hs
      · have qc : ((c : Int) < 128) = False := eq_false (by omega)
        rw [if_neg hc] at hrec
        have q9 : ((i : Int) = 9) = False := eq_false (by omega)
        simp [go_sem, e0, e4, e3, hi10']
        refine draw [0, 1, 2, 3, 4, 5, 6, 7, 8, 9, 10, 11, 12, 13, 14, 16, 17, 18, 15, 19, 20, 21, 22] (by kernel_rfl) ?_
        simp [go_sem, e0, e4, e3, hr1, hlt', ha']
        refine draw [0, 1, 2, 4, 5, 6, 3, 7, 8, 9, 10] (by kernel_rfl) ?_
        simp [go_sem, e0, e4, e3, hr1, hlt2, hlt, hgx, hw1, hwi, hne, hw7, hw7u, hmod, hn7, htn, hmin3, hws, hvT, q9, qc]
        refine ⟨_, .rfl' _, ⟨hB1.put, i + 1, v + T, (at' : Int) + 1, .inl ⟨upd_same _ _ _, by omega, by omega, by omega, ht3 (by omega), ?_⟩⟩, by omega⟩
        rw [if_neg (by omega), show ((at' : Int) + 1).toNat = at' + 1 by omega, ← hrec, show 10 - (i + 1) = k by omega]
  · have : i = 10 := by omega
    subst this
    rcases hrec with ⟨-, h0, -⟩ | ⟨rfl, hrec⟩
    · omega
    have hn : res = none := by
      rw [← hrec]
      split <;> simp [vgetL]
    simp [go_sem, e0, e4, e3, hr1]
    exact fail hn
end
end Go.Proofs.YtadgciaclhjjkaaGreat
set_option linter.unusedVariables false
set_option linter.unusedSimpArgs false
set_option maxRecDepth 100000
set_option maxHeartbeats 8000000
namespace Go.Proofs.YtadgciaclhjjkaaGreat
open Go.RowKit (Below)
theorem Reg.mid {st : Heap} {g : Tg} {cap a n : Nat} {base : Option Addr} {b : Bs} (h : Reg st g 1 (.slice base b.length cap) (bytesV b) b.length) (ha : a + n ≤ b.length) :
    Reg st g 1 (.slice (if cap = a then base else base.map (·.add a)) n (cap - a)) (bytesV ((b.drop a).take n)) n := by
  have := (h.drop (k := a) (by omega)).take (m := n) (by omega)
  rw [show bytesV ((b.drop a).take n) = ((bytesV b).drop a).take n by simp [bytesV, List.map_take, List.map_drop]]
  exact this
section
variable {W0 : World} {st : Heap}
end
end Go.Proofs.YtadgciaclhjjkaaGreat
set_option linter.unusedVariables false
set_option linter.unusedSimpArgs false
set_option maxRecDepth 100000
set_option maxHeartbeats 2000000
namespace Go.Proofs.YtadgciaclhjjkaaGreat
open Go.RowKit (Below)
def ReadBk (st : Heap) (R : Option (List Bk × Int)) (e : Ending) (st' : Heap) : Prop := New st st' ∧ match R with
      | some (l, a) => ∃ v, e = .returned (.tuple #[v, Val.i a, .bool true]) ∧ Vec st' (.ty 1) 2 v (bkV l) l.length ∧ Fresh st v
      | none => e = .returned (.tuple #[.slice none 0 0, Val.i 0, .bool false])
theorem bks_count {b : Bs} {dn lim : Bool} : ∀ {k next : Nat} {a : Int} {r : List Bk × Int}, bksM b dn lim k next a = some r → r.1.length ≤ k
  | 0, next, a, r, h => by
    unfold bksM at h
    injection h with h
    subst h
    exact Nat.le_refl _
  | k + 1, next, a, r, h => by
    unfold bksM at h
    obtain ⟨s, hs, h⟩ := Option.bind_eq_some_iff.1 h
    obtain ⟨n, hn, h⟩ := Option.bind_eq_some_iff.1 h
    split at h
    · cases h
    obtain ⟨q, hq, h⟩ := Option.map_eq_some_iff.1 h
    have ih := bks_count hq
    subst h
    simp only
    split
    · simp only [List.length_cons]; omega
    · omega
theorem histR_count {b : Bs} {lim : Bool} {a : Int} {r : List Bk × Int} (h : histRM b lim a = some r) : r.1.length ≤ 7424 := by
  unfold histRM at h
  obtain ⟨p, hp, h⟩ := Option.bind_eq_some_iff.1 h
  split at h
  · obtain ⟨n, hn, h⟩ := Option.bind_eq_some_iff.1 h
    split at h
    · cases h
    have := bks_count h
    omega
  split at h
  · obtain ⟨f, hf, h⟩ := Option.bind_eq_some_iff.1 h
    obtain ⟨n, hn, h⟩ := Option.bind_eq_some_iff.1 h
    split at h
    · cases h
    have := bks_count h
    omega
  · cases h
/-- How far the head is read. -/
def HeadJ (b : Bs) (at_ : Int) (s : Heap) (t7 : Nat) (v : Value) (i : Nat) : Prop := (i = 0 ∧ v = Val.i at_ ∧ s t7 = some (.cells true [Val.u 0, Val.u 0] 2 (.ty 0))) ∨ (i = 1 ∧ ∃ h0 a1 : Nat, vgetM b at_ = some (h0, a1) ∧ v = Val.i a1 ∧ s t7 = some (.cells true [Val.u h0, Val.u 0] 2 (.ty 0))) ∨
        (i = 2 ∧ ∃ h0 a1 h1 a2 : Nat, vgetM b at_ = some (h0, a1) ∧ vgetM b a1 = some (h1, a2) ∧ v = Val.i a2 ∧ s t7 = some (.cells true [Val.u h0, Val.u h1] 2 (.ty 0)))
section
variable {W0 : World} {st : Heap}
theorem histRead_spec {bv : Value} {b : Bs} {g0 : Tg} {at_ : Int} (hb : Reg st g0 1 bv (bytesV b) b.length) (hl : b.length < 2 ^ 60) :
    ICalls Tryz.prog W0 224 #[bv, Val.i at_] st fun e st' => New st st' ∧ match histRM b true at_ with
      | some (l, a) => ∃ v, e = .returned (.tuple #[v, Val.i a, .bool true]) ∧ Vec st' (.ty 1) 2 v (bkV l) l.length ∧ Fresh st v
      | none => e = .returned (.tuple #[.slice none 0 0, Val.i 0, .bool false]) := by
  obtain ⟨bb, bc, rfl⟩ := hb.slice
  generalize hRES : histRM b true at_ = RES
  unfold histRM at hRES
  refine enter (args := [_, _]) Tryz.func224 rfl ?_
  iterate 3 refine IW_assoc ?_
  refine IW_cut' (fun E' s => ∃ (t7 h0 h1 : Nat) (a1 a2 : Nat), vgetM b at_ = some (h0, a1) ∧ vgetM b a1 = some (h1, a2) ∧ New st s ∧ E' 0 = .slice bb b.length bc ∧ E' 1 = Val.i a2 ∧ E' 7 = ptr t7 ∧ s t7 = some (.cells true [Val.u h0, Val.u h1] 2 (.ty 0))) ?_ ?_
  · simp [go_sem]
    unfold NewP
    intro t7 ht7
    refine ⟨.ty 0, ?_⟩
    have hc1 := upd_same st t7 (.cells true [Val.u 0, Val.u 0] 2 (.ty 0))
    have k1 := (New.refl st).add (b := t7) (o := .cells true [Val.u 0, Val.u 0] 2 (.ty 0)) ht7
    simp [go_sem]
    generalize upd st t7 (.cells true [Val.u 0, Val.u 0] 2 (.ty 0)) = s1 at *
    refine ⟨fun E s => New st s ∧ E 0 = .slice bb b.length bc ∧ E 7 = ptr t7 ∧ ∃ i : Nat, E 16 = Val.i i ∧ HeadJ b at_ s t7 (E 1) i,
      fun E _ => match E 16 with | .int _ i => 2 - i.toNat | _ => 0, ⟨s1, .rfl' _, k1, by simp [go_sem], by simp [go_sem], 0, by simp [go_sem], .inl ⟨rfl, by simp [go_sem], hc1⟩⟩, ?_⟩
    rintro E s2 ⟨k2, e0, e7, i, e16, hJ⟩
    rcases hJ with ⟨rfl, e1, hc2⟩ | ⟨rfl, h0, a1, hv1, e1, hc2⟩ | ⟨rfl, h0, a1, h1, a2, hv1, hv2, e1, hc2⟩
    · have w1 : IntKind.i64.wrap 1 = 1 := wrap_id (by omega) (by omega)
      simp [go_sem, e0, e1, e7, e16]
      refine (vGet_spec (hb.new k2) hl).mono ?_
      rintro e s3 ⟨rfl, rfl⟩
      cases hv : vgetM b at_ with
      | none =>
        rw [hv] at hRES
        simp at hRES
        subst hRES
        simp [go_sem, vgetV, hc2, e7]
        exact k2.put ht7
      | some p =>
        obtain ⟨h0, a1⟩ := p
        simp [go_sem, vgetV, hc2, e0, e7, e16, w1]
        refine ⟨_, .rfl' _, k2.put ht7, 1, rfl, .inr (.inl ⟨rfl, h0, a1, hv, rfl, upd_same _ _ _⟩)⟩
    · have w2 : IntKind.i64.wrap 2 = 2 := wrap_id (by omega) (by omega)
      simp [go_sem, e0, e1, e7, e16]
      refine (vGet_spec (hb.new k2) hl).mono ?_
      rintro e s3 ⟨rfl, rfl⟩
      cases hv : vgetM b a1 with
      | none =>
        rw [hv1] at hRES
        simp [hv] at hRES
        subst hRES
        simp [go_sem, vgetV, hc2, e7]
        exact k2.put ht7
      | some p =>
        obtain ⟨h1, a2⟩ := p
        simp [go_sem, vgetV, hc2, e0, e7, e16, w2]
        refine ⟨_, .rfl' _, k2.put ht7, 2, rfl, .inr (.inr ⟨rfl, h0, a1, h1, a2, hv1, hv, rfl, upd_same _ _ _⟩)⟩
    · simp [go_sem, e0, e1, e7, e16]
      exact ⟨t7, h0, h1, a1, hv1, a2, hv2, k2, rfl, rfl, hc2⟩
  rintro E s3 ⟨t7, h0, h1, a1, a2, hv1, hv2, K3, e0, e1, e7, hc3⟩
  have hbd1 := vgetM_bound hv1
  have hbd2 := vgetM_bound hv2
  simp only at hbd1 hbd2
  rw [hv1] at hRES
  simp only [Option.bind_some, hv2] at hRES
  by_cases hz : h0 = 0
  · subst hz
    rw [if_pos rfl] at hRES
    have x1 : ((7424 : Int) < h1) = True ∨ ((7424 : Int) < h1) = False := by
      by_cases c : 7424 < h1
      · exact .inl (eq_true (by omega))
      · exact .inr (eq_false (by omega))
    by_cases c1 : 7424 < h1
    · have x1 : ((7424 : Int) < h1) = True := eq_true (by omega)
      rw [if_pos (.inl c1)] at hRES
      subst hRES
      simp [go_sem, e0, e1, e7, hc3, x1, c1]
      exact K3
    have x1 : ((7424 : Int) < h1) = False := eq_false (by omega)
    rw [if_neg (by simp; omega)] at hRES
    simp [go_sem, e0, e1, e7, hc3, x1, c1]
    obtain ⟨R0, hR0⟩ : ∃ R, bksM b false true h1 0 a2 = R := ⟨_, rfl⟩
    rw [hR0] at hRES
    subst hRES
    refine ⟨fun E s => New st s ∧ E 0 = .slice bb b.length bc ∧ E 7 = ptr t7 ∧ s t7 = some (.cells true [Val.u 0, Val.u h1] 2 (.ty 0)) ∧ E 58 = Val.u h1 ∧ ∃ (i nx : Nat) (l : List Bk) (a : Int) (v : Value), E 59 = Val.u i ∧ i ≤ h1 ∧ l.length ≤ i ∧ E 1 = Val.i a ∧ E 11 = Val.u nx ∧ nx ≤ 7424 ∧ E 12 = v ∧ Vec s (.ty 1) 2 v (bkV l) l.length ∧ Fresh st v ∧ (bksM b false true (h1 - i) nx a).map (fun r => (l ++ r.1, r.2)) = R0,
      fun E _ => match E 59 with | .int _ i => h1 - i.toNat | _ => 0, ⟨s3, .rfl' _, K3, by simp [go_sem, e0], by simp [go_sem, e7], hc3, by simp [go_sem], 0, 0, [], a2, .slice none 0 0, by simp [go_sem], by omega, by simp, by simp [go_sem, e1], by simp [go_sem], by omega, by simp [go_sem], Vec.nil, Fresh.none, by rw [← hR0]; simp⟩, ?_⟩
    clear e0 e1 e7 E hc3
    rintro E st2 ⟨k3, e0, e7, hc3, e58, i, nx, l, a, v, e59, hi, hll, e1, e11, hnx, e12, hV, hF, hrec⟩
    obtain ⟨vb, vc, rfl⟩ := hV.slice
    by_cases hlt : i < h1
    rotate_left
    · have hlt' : ((i : Int) < h1) = False := eq_false (by omega)
      have : i = h1 := by omega
      subst this
      rw [Nat.sub_self, bksM] at hrec
      simp at hrec
      subst hrec
      simp [go_sem, e1, e12, e58, e59, hlt']
      exact ⟨k3, hV, hF⟩
    have hlt' : ((i : Int) < h1) = True := eq_true (by omega)
    have hwi : IntKind.u64.wrap ((i : Int) + 1) = ((i + 1 : Nat) : Int) := by rw [IntKind.wrap_u64]; omega
    obtain ⟨q, hq⟩ : ∃ q, h1 - i = q + 1 := ⟨h1 - i - 1, by omega⟩
    rw [hq, bksM] at hrec
    rw [if_neg (by simp)] at hrec
    simp [go_sem, e0, e1, e7, e58, e59, hlt, hlt', hc3]
    refine (vGet_spec (hb.new k3) hl).mono ?_
    rintro e s4 ⟨rfl, rfl⟩
    cases h2 : vgetM b a with
    | none =>
      rw [h2] at hrec
      simp at hrec
      subst hrec
      simp [go_sem, vgetV]
      exact k3
    | some p =>
    obtain ⟨sp, a4⟩ := p
    have hb2 := vgetM_bound h2
    simp only at hb2
    rw [h2] at hrec
    simp only [Option.map_some, Option.bind_some] at hrec
    simp [go_sem, vgetV, e0]
    refine (vGet_spec (hb.new k3) hl).mono ?_
    rintro e s5 ⟨rfl, rfl⟩
    cases h3 : vgetM b a4 with
    | none =>
      rw [h3] at hrec
      simp at hrec
      subst hrec
      simp [go_sem, vgetV]
      exact k3
    | some p =>
    obtain ⟨cnt, a5⟩ := p
    have hb3 := vgetM_bound h3
    simp only at hb3
    rw [h3] at hrec
    simp only [Option.bind_some] at hrec
    by_cases c1 : 7424 ≤ sp
    · have x1 : ((7424 : Int) ≤ sp) = True := eq_true (by omega)
      rw [if_pos (.inl c1)] at hrec
      simp at hrec
      subst hrec
      simp [go_sem, vgetV, x1, c1]
      exact k3
    have x1 : ((7424 : Int) ≤ sp) = False := eq_false (by omega)
    have hwn : IntKind.u64.wrap ((nx : Int) + (sp : Int)) = ((nx + sp : Nat) : Int) := by rw [IntKind.wrap_u64]; omega
    obtain ⟨y, hy⟩ : ∃ y, nx + sp = y := ⟨_, rfl⟩
    rw [hy] at hwn hrec
    by_cases c2 : 7424 ≤ y
    · have x2 : ((7424 : Int) ≤ y) = True := eq_true (by omega)
      rw [if_pos (.inr ⟨trivial, c2⟩)] at hrec
      simp at hrec
      subst hrec
      simp [go_sem, vgetV, e11, x1, c1, hwn, x2, c2]
      exact k3
    have x2 : ((7424 : Int) ≤ y) = False := eq_false (by omega)
    rw [if_neg (by omega)] at hrec
    have hwy : IntKind.i64.wrap (y : Int) = y := wrap_id (by omega) (by omega)
    have hwn2 : IntKind.u64.wrap ((y : Int) + 1) = ((y + 1 : Nat) : Int) := by rw [IntKind.wrap_u64]; omega
    simp only [true_or, if_true] at hrec
    have x3 : ((0 : Int) < cnt) = True ∨ ((0 : Int) < cnt) = False := by
      by_cases c3 : 0 < cnt
      · exact .inl (eq_true (by omega))
      · exact .inr (eq_false (by omega))
    have fin : ∀ (s5' : Heap), s5' = s5 → True := fun _ _ => trivial
    rcases x3 with x3 | x3
    all_goals
      have c3 : (0 < cnt) = ((0 : Int) < cnt) := by simp
      rw [x3] at c3
      simp [go_sem, vgetV, e7, e11, x1, c1, hwn, x2, c2, hc3, x3, c3, hwy, e12]
      unfold NewS
      intro nc hnc
      refine ⟨.ty 0, ?_⟩
      have k6 := (New.refl s5).add (b := nc) (o := .cells true [Val.i y, Val.u cnt] 2 (.ty 0)) hnc
      have hc6 := k6 _ _ hc3
      simp [go_sem]
      refine AppI_new (st0 := st) (g := .ty 1) (m := 1) (ys := [Val.i y, Val.u cnt]) si23 (hV.new' k6) hF (k3.trans k6) (by simp [srcCells, lkN_mk, upd_same, cellsOf]) (by simp [Value.oneCell']) (by omega) ?_
      intro nd ndc s7 hV7 hF7 k7 hE7
      have hc7 := hE7.keep _ _ hc6 (by simp [HObj.tag])
      simp [go_sem, e0, e7, e58, e59, hwn2, hwi]
      refine ⟨_, .rfl' _, ⟨k7, hc7, i + 1, by omega, by omega, y + 1, l ++ [((y : Int), cnt)], by simp; omega, by omega, by omega, by simpa [bkV] using hV7, by simpa using hF7, ?_⟩, by omega⟩
      rw [← hrec, show h1 - (i + 1) = q by omega]
      cases bksM b false true q (y + 1) a5 <;> simp
  by_cases hz1 : h0 = 1
  · subst hz1
    rw [if_neg (by omega), if_pos rfl] at hRES
    have x00 : True := trivial
    simp [go_sem, e0, e1, e7, hc3]
    refine (vGet_spec (hb.new K3) hl).mono ?_
    rintro e s4 ⟨rfl, rfl⟩
    cases hv3 : vgetM b a2 with
    | none =>
      rw [hv3] at hRES
      simp at hRES
      subst hRES
      simp [go_sem, vgetV]
      exact K3
    | some p =>
    obtain ⟨n, a3⟩ := p
    have hbd3 := vgetM_bound hv3
    simp only at hbd3
    rw [hv3] at hRES
    simp only [Option.bind_some] at hRES
    by_cases c1 : 7424 < n
    · have x1 : ((7424 : Int) < n) = True := eq_true (by omega)
      rw [if_pos (.inl c1)] at hRES
      subst hRES
      simp [go_sem, vgetV, e0, e7, hc3, x1, c1]
      exact K3
    have x1 : ((7424 : Int) < n) = False := eq_false (by omega)
    by_cases c2 : 7424 ≤ h1
    · have x2 : ((7424 : Int) ≤ h1) = True := eq_true (by omega)
      rw [if_pos (.inr (.inl c2))] at hRES
      subst hRES
      simp [go_sem, vgetV, e0, e7, hc3, x1, c1, x2, c2]
      exact K3
    have x2 : ((7424 : Int) ≤ h1) = False := eq_false (by omega)
    rw [if_neg (by simp; omega)] at hRES
    simp [go_sem, vgetV, e0, e7, hc3, x1, c1, x2, c2]
    obtain ⟨R0, hR0⟩ : ∃ R, bksM b true true n h1 a3 = R := ⟨_, rfl⟩
    rw [hR0] at hRES
    subst hRES
    refine ⟨fun E s => New st s ∧ E 0 = .slice bb b.length bc ∧ E 7 = ptr t7 ∧ s t7 = some (.cells true [Val.u 1, Val.u h1] 2 (.ty 0)) ∧ E 58 = Val.u n ∧ ∃ (i nx : Nat) (l : List Bk) (a : Int) (v : Value), E 59 = Val.u i ∧ i ≤ n ∧ l.length ≤ i ∧ E 1 = Val.i a ∧ E 11 = Val.u nx ∧ nx ≤ 7424 ∧ E 12 = v ∧ Vec s (.ty 1) 2 v (bkV l) l.length ∧ Fresh st v ∧ (bksM b true true (n - i) nx a).map (fun r => (l ++ r.1, r.2)) = R0,
      fun E _ => match E 59 with | .int _ i => n - i.toNat | _ => 0, ⟨s4, .rfl' _, K3, by simp [go_sem, e0], by simp [go_sem, e7], hc3, by simp [go_sem], 0, h1, [], a3, .slice none 0 0, by simp [go_sem], by omega, by simp, by simp [go_sem, e1], by simp [go_sem], by omega, by simp [go_sem], Vec.nil, Fresh.none, by rw [← hR0]; simp⟩, ?_⟩
    clear e0 e1 e7 E hc3
    rintro E st2 ⟨k3, e0, e7, hc3, e58, i, nx, l, a, v, e59, hi, hll, e1, e11, hnx, e12, hV, hF, hrec⟩
    obtain ⟨vb, vc, rfl⟩ := hV.slice
    by_cases hlt : i < n
    rotate_left
    · have hlt' : ((i : Int) < n) = False := eq_false (by omega)
      have : i = n := by omega
      subst this
      rw [Nat.sub_self, bksM] at hrec
      simp at hrec
      subst hrec
      simp [go_sem, e1, e12, e58, e59, hlt']
      exact ⟨k3, hV, hF⟩
    have hlt' : ((i : Int) < n) = True := eq_true (by omega)
    have hwi : IntKind.u64.wrap ((i : Int) + 1) = ((i + 1 : Nat) : Int) := by rw [IntKind.wrap_u64]; omega
    obtain ⟨q, hq⟩ : ∃ q, n - i = q + 1 := ⟨n - i - 1, by omega⟩
    rw [hq, bksM] at hrec
    rw [if_pos rfl] at hrec
    simp only [Option.bind_some] at hrec
    simp [go_sem, e0, e1, e7, e58, e59, hlt, hlt', hc3]
    have hs0 : (0 : Nat) < 7424 := by omega
    obtain ⟨sp, hsp⟩ : ∃ s : Nat, s = 0 := ⟨0, rfl⟩
    have a4e : True := trivial
    refine (vGet_spec (hb.new k3) hl).mono ?_
    rintro e s5 ⟨rfl, rfl⟩
    cases h3 : vgetM b a with
    | none =>
      rw [h3] at hrec
      simp at hrec
      subst hrec
      simp [go_sem, vgetV]
      exact k3
    | some p =>
    obtain ⟨cnt, a5⟩ := p
    have hb3 := vgetM_bound h3
    simp only at hb3
    rw [h3] at hrec
    simp only [Option.bind_some] at hrec
    have hy : nx + 0 = nx := Nat.add_zero _
    have hwn0 : IntKind.u64.wrap (nx : Int) = nx := wraps_u64 _ (by omega) (by omega)
    have hwn1 : IntKind.u64.wrap ((nx : Int) + 0) = nx := by rw [Int.add_zero]; exact hwn0
    by_cases c2 : 7424 ≤ nx
    · have x2 : ((7424 : Int) ≤ nx) = True := eq_true (by omega)
      rw [if_pos (by simp; omega)] at hrec
      simp at hrec
      subst hrec
      simp [go_sem, vgetV, e11, hwn0, hwn1, x2, c2]
      exact k3
    have x2 : ((7424 : Int) ≤ nx) = False := eq_false (by omega)
    rw [if_neg (by simp; omega)] at hrec
    rw [Nat.add_zero] at hrec
    obtain ⟨y, hyy⟩ : ∃ y, nx = y := ⟨_, rfl⟩
    have hwy : IntKind.i64.wrap (nx : Int) = nx := wrap_id (by omega) (by omega)
    have hwn2 : IntKind.u64.wrap ((nx : Int) + 1) = ((nx + 1 : Nat) : Int) := by rw [IntKind.wrap_u64]; omega
    by_cases c3 : 0 < cnt
    · have x3 : ((0 : Int) < cnt) = True := eq_true (by omega)
      have ecn : (true = false ∨ 0 < cnt) = True := eq_true (.inr c3)
      have c3' : ¬ cnt = 0 := by omega
      simp only [ecn, if_true] at hrec
      simp [go_sem, vgetV, e7, e11, hwn0, hwn1, x2, c2, hc3, x3, c3, c3', hwy, e12]
      unfold NewS
      intro nc hnc
      refine ⟨.ty 0, ?_⟩
      have k6 := (New.refl s5).add (b := nc) (o := .cells true [Val.i nx, Val.u cnt] 2 (.ty 0)) hnc
      have hc6 := k6 _ _ hc3
      simp [go_sem]
      refine AppI_new (st0 := st) (g := .ty 1) (m := 1) (ys := [Val.i nx, Val.u cnt]) si23 (hV.new' k6) hF (k3.trans k6) (by simp [srcCells, lkN_mk, upd_same, cellsOf]) (by simp [Value.oneCell']) (by omega) ?_
      intro nd ndc s7 hV7 hF7 k7 hE7
      have hc7 := hE7.keep _ _ hc6 (by simp [HObj.tag])
      simp [go_sem, e0, e7, e11, e58, e59, hwn0, hwn1, hwn2, hwi]
      refine ⟨_, .rfl' _, ⟨k7, hc7, i + 1, by omega, by omega, nx + 1, l ++ [((nx : Int), cnt)], by simp; omega, by omega, by omega, by simpa [bkV] using hV7, by simpa using hF7, ?_⟩, by omega⟩
      rw [← hrec, show n - (i + 1) = q by omega]
      cases bksM b true true q (nx + 1) a5 <;> simp
    · have x3 : ((0 : Int) < cnt) = False := eq_false (by omega)
      have ecn : (true = false ∨ 0 < cnt) = False := eq_false (by simp; omega)
      have c3' : cnt = 0 := by omega
      simp only [ecn, if_false] at hrec
      simp [go_sem, vgetV, x2, c2, x3, c3, c3', hwn0, hwn1, e0, e7, e11, e12, e58, e59, hwn2, hwi, hc3]
      refine ⟨_, .rfl' _, ⟨k3, hc3, i + 1, by omega, by omega, nx + 1, l, by omega, by omega, by omega, hV, hF, ?_⟩, by omega⟩
      rw [← hrec, show n - (i + 1) = q by omega]
      cases bksM b true true q (nx + 1) a5 <;> simp
  rw [if_neg hz, if_neg hz1] at hRES
  subst hRES
  have x0 : ((h0 : Int) = 1) = False := eq_false (by omega)
  have x1 : ((1 : Int) < h0) = True := eq_true (by omega)
  have hz2 : 1 < h0 := by omega
  simp [go_sem, e0, e1, e7, hc3, x0, x1, hz1, hz2]
  exact K3
theorem histGet_spec {bv : Value} {b : Bs} {g0 : Tg} {at_ : Int} (hb : Reg st g0 1 bv (bytesV b) b.length) (hl : b.length < 2 ^ 60) :
    ICalls Tryz.prog W0 180 #[bv, Val.i at_] st fun e st' => New st st' ∧ match histGetM b true at_ with
      | some (l, a) => ∃ v, e = .returned (.tuple #[v, Val.i a, .bool true]) ∧ Vec st' (.ty 1) 2 v (bkV l) l.length ∧ Fresh st v
      | none => e = .returned (.tuple #[.slice none 0 0, Val.i 0, .bool false]) := by
  have hb0 := hb
  obtain ⟨bb, bc, rfl⟩ := hb.slice
  generalize hRES : histGetM b true at_ = RES
  unfold histGetM at hRES
  refine enter (args := [_, _]) Tryz.func180 rfl ?_
  simp [Tryz.f180, go_sem]
  refine (histRead_spec hb hl).mono ?_
  rintro e s1 ⟨k1, hR⟩
  cases hr : histRM b true at_ with
  | none =>
    rw [hr] at hR hRES
    simp at hR hRES
    subst hR
    subst hRES
    simp [go_sem]
    refine draw [0, 1, 2, 3, 4, 5, 6, 7, 8, 10, 11, 12, 13, 9, 14, 15, 16] (by kernel_rfl) ?_
    simp [go_sem]
    exact k1
  | some p =>
  obtain ⟨l, a⟩ := p
  obtain ⟨h0, h1, h2, h3⟩ := histR_pos hr
  rw [hr] at hR hRES
  obtain ⟨v, rfl, hV, hF⟩ := hR
  simp only [Option.bind_some] at hRES h1 h2 h3
  obtain ⟨vb, vc, rfl⟩ := hV.slice
  have hll := histR_count hr
  simp only at hll
  simp [go_sem]
  refine draw [0, 1, 2, 3, 4, 5, 6, 7, 8, 10, 11, 12, 13, 9, 14, 15, 16] (by kernel_rfl) ?_
  simp [go_sem]
  refine (histCheck_spec (hV.reg.toF Free.ty) (by omega)).mono ?_
  rintro e s2 ⟨rfl, k2⟩
  have K2 := k1.trans k2
  cases hck : checkB (-1) l with
  | false =>
    rw [if_neg (by rw [hck]; simp)] at hRES
    subst hRES
    simp [go_sem]
    exact K2
  | true =>
  obtain ⟨at0, rfl⟩ := Int.eq_ofNat_of_zero_le h0
  obtain ⟨a', rfl⟩ := Int.eq_ofNat_of_zero_le (show 0 ≤ a by omega)
  have hle : at0 ≤ a' := by omega
  have hle2 : a' ≤ b.length := by omega
  have hcap := hb0.cap
  obtain ⟨m, hm⟩ : ∃ m, a' - at0 = m := ⟨_, rfl⟩
  have hmid := (hb0.new K2).mid (a := at0) (n := m) (by omega)
  have he : ((a' : Int) - (at0 : Int)).toNat = m := by omega
  rw [Int.toNat_natCast, he] at hRES
  have hml : ((b.drop at0).take m).length = m := by rw [List.length_take, List.length_drop]; omega
  rw [hck] at hRES
  generalize (b.drop at0).take m = B at *
  have hcl : a' ≤ bc := by omega
  have hfb := form_bound hck h3
  simp [go_sem, hle, hle2, hcl, hm]
  refine (form_spec (g := .ty 1) (by simp) ((hV.reg.toF Free.ty).new k2) hck h3).mono ?_
  rintro e s3 ⟨v3, rfl, hV3, hF3, k3⟩
  simp [go_sem, hle, hle2, hcl, hm]
  have hmid3 := hmid.new k3
  rw [← hml] at hmid3
  refine (eqBytes_spec hV3.reg (b := B) (by rw [hml]; rw [hml] at hmid3; exact hmid3) (by omega) (by omega)).mono ?_
  rintro e s4 ⟨rfl, rfl⟩
  by_cases heq : formB l = B
  · rw [if_pos ⟨rfl, heq.symm⟩] at hRES
    subst hRES
    simp [go_sem, heq]
    exact ⟨K2.trans k3, (hV.new' k2).new' k3, hF⟩
  · rw [if_neg (fun h => heq h.2.symm)] at hRES
    subst hRES
    simp [go_sem, heq]
    exact K2.trans k3
end
end Go.Proofs.YtadgciaclhjjkaaGreat
set_option linter.unusedVariables false
set_option linter.unusedSimpArgs false
set_option maxRecDepth 100000
set_option maxHeartbeats 8000000
namespace Go.Proofs.YtadgciaclhjjkaaGreat
open Go.RowKit (Below)
section
variable {W0 : World}
end
end Go.Proofs.YtadgciaclhjjkaaGreat
set_option linter.unusedVariables false
set_option linter.unusedSimpArgs false
set_option maxRecDepth 100000
set_option maxHeartbeats 8000000
namespace Go.Proofs.YtadgciaclhjjkaaGreat
open Go.RowKit (Below)
section
variable {W0 : World} {st : Heap}
end
end Go.Proofs.YtadgciaclhjjkaaGreat
