/- The document's reader of numbers and texts (varveref04.R). -/
import Derived.Test.YtahgfnbkkfpcnaaGreatC31
import Derived.Test.YtahgfnbkkfpcnaaGreatC26
set_option linter.unusedVariables false
set_option linter.unusedSimpArgs false
set_option maxRecDepth 100000
set_option maxHeartbeats 8000000
namespace Go.Proofs.YtahgfnbkkfpcnaaGreat
open Go.RowKit (Below)
theorem only (p : Tg → Prop) (st : Heap) : ∃ s0 : Heap, (∀ st', New s0 st' ↔ Keep p st st') ∧ (∀ v, Fresh st v → Fresh s0 v) := by
 classical
 refine ⟨fun k => match st k with | some o => if ∃ g, o.tag = some g ∧ p g then some o else none | none => none, fun st' => ⟨fun h k o g hk ht hp => ?_, fun h k o hk => ?_⟩, fun v hv b off n c e => ?_⟩
 ·refine h k o ?_
  simp only [hk]
  rw [if_pos ⟨g, ht, hp⟩]
 ·simp only at hk
  split at hk
  ·rename_i o' ho
   split at hk
   ·rename_i hex
    obtain ⟨g, ht, hp⟩ := hex
    injection hk with hk
    subst hk
    exact h k _ g ho ht hp
   ·cases hk
  ·cases hk
 ·simp only [hv b off n c e]
def refC (bv : Value) (a : Int) (bad : Bool) (r : Nat) : HObj := .cells true [bv, Val.i a, .bool bad] 3 (.own r 0 94)
def RefAt (st : Heap) (r : Nat) (bv : Value) : Option Int → Prop
 | some a => st r = some (refC bv a false r)
 | none => ∃ a, st r = some (refC bv a true r)
theorem RefAt.cell {st : Heap} {r : Nat} {bv : Value} {p : Option Int} (h : RefAt st r bv p) : ∃ a bad, st r = some (refC bv a bad r) ∧ p = (if bad = true then none else some a) := by
 cases p with
 | none => obtain ⟨a, h⟩ := h; exact ⟨a, true, h, rfl⟩
 | some a => exact ⟨a, false, h, rfl⟩
def numR (b : Bs) (p : Option Int) : Nat × Option Int := match p.bind (vgetM b) with
 | some (n, a) => (n, some a)
 | none => (0, none)
section
variable {W0 : World} {st : Heap}
theorem z5o {r : Nat} {bv : Value} {b : Bs} {g0 : Tg} {p : Option Int} (hr : RefAt st r bv p) (hb : Reg st g0 1 bv (bytesV b) b.length) (hg : Free g0) (hl : b.length < 2 ^ 60) :
  z00 Tryz.prog W0 29 #[ptr r] st fun e st' => But1 r st st' ∧ e = .returned (Val.u (numR b p).1) ∧ RefAt st' r bv (numR b p).2 := by
 obtain ⟨a0, bad0, hr0, hp⟩ := hr.cell
 obtain ⟨base, cap, rfl⟩ := hb.slice
 generalize hres : p.bind (vgetM b) = res
 have hout : ∀ R, res = R → numR b p = match R with | some (n, a) => (n, some (a : Int)) | none => (0, none) := by
  intro R h
  unfold numR
  rw [hres, h]
 refine enter (args := [_]) Tryz.func29 rfl ?_
 simp [Tryz.f29, go_sem]
 refine ⟨fun E st' => But1 r st st' ∧ E 0 = ptr r ∧ ∃ (i v : Nat) (a : Int) (bad : Bool), st' r = some (refC (.slice base b.length cap) a bad r) ∧ E 4 = Val.i i ∧ E 3 = Val.u v ∧ i ≤ 10 ∧ v < 128 ^ i ∧ ((bad = true ∧ i = 0 ∧ res = none) ∨ (bad = false ∧ (if a < 0 then none else vgetL b (10 - i) a.toNat v) = res)),
  fun E _ => match E 4 with | .int _ i => 10 - i.toNat | _ => 0, ⟨st, .rfl' _, But1.refl _ _, by simp [go_sem], 0, 0, a0, bad0, hr0, by simp [go_sem], by simp [go_sem], by omega, by decide, ?_⟩, ?_⟩
 ·rw [← hres, hp]
  cases bad0 with
  | true => left; simp
  | false => right; simp [vgetM]
 rintro E st1 ⟨hB1, e0, i, v, a, bad, hr1, e4, e3, hi, hv, hrec⟩
 unfold refC at hr1
 have hb1 : Reg st1 g0 1 (.slice base b.length cap) (bytesV b) b.length := hb.but hg hB1 hr0
 have fail : ∀ {a' : Int}, res = none → But1 r st (upd st1 r (.cells true [.slice base b.length cap, Val.i a', .bool true] 3 (.own r 0 94))) ∧ (0 : Int) = ((numR b p).1 : Nat) ∧ RefAt (upd st1 r (.cells true [.slice base b.length cap, Val.i a', .bool true] 3 (.own r 0 94))) r (.slice base b.length cap) (numR b p).2 := by
  intro a' h
  rw [hout _ h]
  exact ⟨hB1.put, rfl, a', upd_same _ _ _⟩
 by_cases hi10 : i < 10
 ·have hi10' : ((i : Int) < 10) = True := eq_true (by omega)
  rcases hrec with ⟨rfl, hi0, hrec⟩ | ⟨rfl, hrec⟩
  ·simp [go_sem, e0, e4, e3, hi10']
   refine draw [0, 1, 2, 3, 4, 5, 6, 7, 8, 9, 10, 11, 12, 13, 14, 16, 17, 18, 15, 19, 20, 21, 22] (by kernel_rfl) ?_
   simp [go_sem, e0, e4, e3, hi10', hr1]
   exact fail hrec
  ·have w64 : ∀ x : Nat, x < 2 ^ 64 → IntKind.u64.wrap (x : Int) = x := fun x hx => z0c _ (by omega) (by omega)
   by_cases ha : a < 0
   ·have ha' := eq_true ha
    rw [if_pos ha] at hrec
    simp [go_sem, e0, e4, e3, hi10']
    refine draw [0, 1, 2, 3, 4, 5, 6, 7, 8, 9, 10, 11, 12, 13, 14, 16, 17, 18, 15, 19, 20, 21, 22] (by kernel_rfl) ?_
    simp [go_sem, e0, e4, e3, hi10', hr1, ha']
    exact fail hrec.symm
   rw [if_neg ha] at hrec
   obtain ⟨at', rfl⟩ := Int.eq_ofNat_of_zero_le (show 0 ≤ a by omega)
   rw [Int.toNat_natCast] at hrec
   obtain ⟨k, hk⟩ : ∃ k, 10 - i = k + 1 := ⟨9 - i, by omega⟩
   have hki : 9 - k = i := by omega
   rw [hk] at hrec
   unfold vgetL at hrec
   rw [hki] at hrec
   by_cases hlt : at' < b.length
   rotate_left
   ·have hlt' : ((b.length : Int) ≤ at') = True := eq_true (by omega)
    rw [List.getElem?_eq_none (by omega)] at hrec
    simp [go_sem, e0, e4, e3, hi10']
    refine draw [0, 1, 2, 3, 4, 5, 6, 7, 8, 9, 10, 11, 12, 13, 14, 16, 17, 18, 15, 19, 20, 21, 22] (by kernel_rfl) ?_
    simp [go_sem, e0, e4, e3, hi10', hr1, hlt', ha]
    exact fail hrec.symm
   have hlt' : ((b.length : Int) ≤ at') = False := eq_false (by omega)
   have hlt2 : ((at' : Int) < b.length) = True := eq_true (by omega)
   have ha' : ((at' : Int) < 0) = False := eq_false (by omega)
   obtain ⟨blk, off, rfl, hg'⟩ := z0h hb1.src (by omega)
   have hgx := hg' at' (by omega)
   obtain ⟨x, hx⟩ : ∃ x, b[at']? = some x := ⟨_, List.getElem?_eq_getElem hlt⟩
   have hbx : (bytesV b)[at']? = some (.int .u8 x.toNat) := by simp [bytesV, hx]
   rw [hbx] at hgx
   have hx8 := x.toNat_lt
   rw [hx] at hrec
   simp only at hrec
   generalize x.toNat = c at *
   have hnr : ∀ y, y ≠ blk → y ≠ r → True := fun _ _ _ => trivial
   have hne : blk ≠ r := by
    obtain ⟨_, _, _, hv', _, hrow⟩ := hb1
    injection hv' with q1 q2 q3
    subst q1
    rcases hrow with h0 | ⟨b', off', rw', ys, n, hb', hs, _⟩
    ·omega
    ·injection hb' with hb'
     injection hb' with hb' _
     subst hb'
     exact z66 hs hr1 (by intro e; injection e with e; exact hg _ _ _ e)
   have hw1 : IntKind.i64.wrap ((at' : Int) + 1) = (at' : Int) + 1 := z03 (by omega) (by omega)
   have hwi := wrS i (by omega)
   have hcm : (c : Int) % 128 = ((c % 128 : Nat) : Int) := by omega
   by_cases hbad : i = 9 ∧ 1 < c
   ·rw [if_pos ⟨by omega, hbad.2⟩] at hrec
    obtain ⟨rfl, hbad⟩ := hbad
    have hbad' : (1 : Int) < c := by omega
    simp [go_sem, e0, e4, e3, hi10']
    refine draw [0, 1, 2, 3, 4, 5, 6, 7, 8, 9, 10, 11, 12, 13, 14, 16, 17, 18, 15, 19, 20, 21, 22] (by kernel_rfl) ?_
    simp [go_sem, e0, e4, e3, hr1, hlt', ha']
    refine draw [0, 1, 2, 4, 5, 6, 3, 7, 8, 9, 10] (by kernel_rfl) ?_
    simp [go_sem, e0, e4, e3, hr1, hlt2, hlt, hgx, hw1, hbad', hne]
    exact fail hrec.symm
   rw [if_neg (by omega)] at hrec
   have hw7 : IntKind.i64.wrap (7 * (i : Int)) = 7 * (i : Int) := z03 (by omega) (by omega)
   have hpow : ((2 : Int) ^ (7 * i)) = ((128 ^ i : Nat) : Int) := by rw [z7v]; simp
   have hterm : c % 128 * 128 ^ i < 2 ^ 64 ∧ v + c % 128 * 128 ^ i < 2 ^ 64 ∧ (i ≠ 9 → v + c % 128 * 128 ^ i < 128 ^ (i + 1)) := by
    by_cases hk0 : i = 9
    ·subst hk0
     have h2 : c % 128 * 128 ^ 9 ≤ 1 * 128 ^ 9 := Nat.mul_le_mul_right _ (by omega)
     have h4 : (128 : Nat) ^ 9 = 9223372036854775808 := by decide
     exact ⟨by omega, by omega, fun h => absurd rfl h⟩
    ·have h2 : c % 128 * 128 ^ i ≤ 127 * 128 ^ i := Nat.mul_le_mul_right _ (by omega)
     have h3 : (128 : Nat) ^ i ≤ 128 ^ 8 := Nat.pow_le_pow_right (by decide) (by omega)
     have h4 : (128 : Nat) ^ 8 = 72057594037927936 := by decide
     have h5 : (128 : Nat) ^ (i + 1) = 128 ^ i * 128 := by rw [Nat.pow_succ]
     exact ⟨by omega, by omega, fun _ => by omega⟩
   obtain ⟨ht1, ht2, ht3⟩ := hterm
   have q9 : ((i : Int) = 9) = True ∧ ((1 : Int) < c) = False ∨ ((i : Int) = 9) = False := by
    by_cases h : (i : Int) = 9
    ·exact .inl ⟨eq_true h, eq_false (by omega)⟩
    ·exact .inr (eq_false h)
   obtain ⟨T, hT⟩ : ∃ T, c % 128 * 128 ^ i = T := ⟨_, rfl⟩
   have hcast : ((c : Int) % 128 * ((128 ^ i : Nat) : Int)) = (T : Int) := by rw [← hT]; simp
   rw [hT] at hrec ht1 ht2 ht3
   have hws : IntKind.u64.wrap ((c : Int) % 128 * 2 ^ (7 * i)) = (T : Int) := by rw [hpow, hcast]; exact z0c _ (by omega) (by omega)
   have hvT : IntKind.u64.wrap ((v : Int) + T) = ((v + T : Nat) : Int) := by rw [z0c _ (by omega) (by omega)]; omega
   have hw7u : IntKind.u64.wrap (7 * (i : Int)) = 7 * (i : Int) := z0c _ (by omega) (by omega)
   have hmod : IntKind.u64.wrap ((c : Int).tmod 128) = (c : Int) % 128 := by rw [Int.tmod_eq_emod_of_nonneg (by omega)]; exact z0c _ (by omega) (by omega)
   have hn7 : ¬ 7 * (i : Int) < 0 := by omega
   have htn : (7 * (i : Int)).toNat = 7 * i := by omega
   have hmin3 : min (7 * i) 64 = 7 * i := by omega
   by_cases hc : c < 128
   ·have qc : ((c : Int) < 128) = True := eq_true (by omega)
    rw [if_pos hc] at hrec
    have q0 : (c = 0) = True ∧ (0 < i) = True ∧ res = none ∨ ((c = 0) = False ∨ (c = 0) = True ∧ (0 < i) = False) ∧ res = some (v + T, at' + 1) := by
     by_cases h0 : c = 0
     ·by_cases h1 : 0 < i
      ·rw [if_pos ⟨by omega, h0⟩] at hrec
       exact .inl ⟨eq_true h0, eq_true h1, hrec.symm⟩
      ·rw [if_neg (by omega)] at hrec
       exact .inr ⟨.inr ⟨eq_true h0, eq_false h1⟩, hrec.symm⟩
     ·rw [if_neg (by omega)] at hrec
      exact .inr ⟨.inl (eq_false h0), hrec.symm⟩
    have good : res = some (v + T, at' + 1) → But1 r st (upd st1 r (.cells true [.slice (some ⟨blk, off, none⟩) b.length cap, Val.i ((at' : Int) + 1), .bool false] 3 (.own r 0 94))) ∧ (v : Int) + T = ((numR b p).1 : Nat) ∧ RefAt (upd st1 r (.cells true [.slice (some ⟨blk, off, none⟩) b.length cap, Val.i ((at' : Int) + 1), .bool false] 3 (.own r 0 94))) r (.slice (some ⟨blk, off, none⟩) b.length cap) (numR b p).2 := by
     intro h
     rw [hout _ h]
     refine ⟨hB1.put, by simp, ?_⟩
     show upd _ _ _ _ = _
     rw [upd_same]
     rfl
    rcases q9 with ⟨q9, q91⟩ | q9
    ·rcases q0 with ⟨q0, qi, hn⟩ | ⟨q0 | ⟨q0, qi⟩, hs⟩
     ·simp [go_sem, e0, e4, e3, hi10']
      refine draw [0, 1, 2, 3, 4, 5, 6, 7, 8, 9, 10, 11, 12, 13, 14, 16, 17, 18, 15, 19, 20, 21, 22] (by kernel_rfl) ?_
      simp [go_sem, e0, e4, e3, hr1, hlt', ha']
      refine draw [0, 1, 2, 4, 5, 6, 3, 7, 8, 9, 10] (by kernel_rfl) ?_
      simp [go_sem, e0, e4, e3, hr1, hlt2, hlt, hgx, hw1, hwi, hne, hw7, hw7u, hmod, hn7, htn, hmin3, hws, hvT, q9, q91, qc, q0, qi]
      exact fail hn
     ·simp [go_sem, e0, e4, e3, hi10']
      refine draw [0, 1, 2, 3, 4, 5, 6, 7, 8, 9, 10, 11, 12, 13, 14, 16, 17, 18, 15, 19, 20, 21, 22] (by kernel_rfl) ?_
      simp [go_sem, e0, e4, e3, hr1, hlt', ha']
      refine draw [0, 1, 2, 4, 5, 6, 3, 7, 8, 9, 10] (by kernel_rfl) ?_
      simp [go_sem, e0, e4, e3, hr1, hlt2, hlt, hgx, hw1, hwi, hne, hw7, hw7u, hmod, hn7, htn, hmin3, hws, hvT, q9, q91, qc, q0]
      exact good hs
     ·simp [go_sem, e0, e4, e3, hi10']
      refine draw [0, 1, 2, 3, 4, 5, 6, 7, 8, 9, 10, 11, 12, 13, 14, 16, 17, 18, 15, 19, 20, 21, 22] (by kernel_rfl) ?_
      simp [go_sem, e0, e4, e3, hr1, hlt', ha']
      refine draw [0, 1, 2, 4, 5, 6, 3, 7, 8, 9, 10] (by kernel_rfl) ?_
      simp [go_sem, e0, e4, e3, hr1, hlt2, hlt, hgx, hw1, hwi, hne, hw7, hw7u, hmod, hn7, htn, hmin3, hws, hvT, q9, q91, qc, q0, qi]
      exact good hs
    ·rcases q0 with ⟨q0, qi, hn⟩ | ⟨q0 | ⟨q0, qi⟩, hs⟩
     ·simp [go_sem, e0, e4, e3, hi10']
      refine draw [0, 1, 2, 3, 4, 5, 6, 7, 8, 9, 10, 11, 12, 13, 14, 16, 17, 18, 15, 19, 20, 21, 22] (by kernel_rfl) ?_
      simp [go_sem, e0, e4, e3, hr1, hlt', ha']
      refine draw [0, 1, 2, 4, 5, 6, 3, 7, 8, 9, 10] (by kernel_rfl) ?_
      simp [go_sem, e0, e4, e3, hr1, hlt2, hlt, hgx, hw1, hwi, hne, hw7, hw7u, hmod, hn7, htn, hmin3, hws, hvT, q9, qc, q0, qi]
      exact fail hn
     ·simp [go_sem, e0, e4, e3, hi10']
      refine draw [0, 1, 2, 3, 4, 5, 6, 7, 8, 9, 10, 11, 12, 13, 14, 16, 17, 18, 15, 19, 20, 21, 22] (by kernel_rfl) ?_
      simp [go_sem, e0, e4, e3, hr1, hlt', ha']
      refine draw [0, 1, 2, 4, 5, 6, 3, 7, 8, 9, 10] (by kernel_rfl) ?_
      simp [go_sem, e0, e4, e3, hr1, hlt2, hlt, hgx, hw1, hwi, hne, hw7, hw7u, hmod, hn7, htn, hmin3, hws, hvT, q9, qc, q0]
      exact good hs
     ·simp [go_sem, e0, e4, e3, hi10']
      refine draw [0, 1, 2, 3, 4, 5, 6, 7, 8, 9, 10, 11, 12, 13, 14, 16, 17, 18, 15, 19, 20, 21, 22] (by kernel_rfl) ?_
      simp [go_sem, e0, e4, e3, hr1, hlt', ha']
      refine draw [0, 1, 2, 4, 5, 6, 3, 7, 8, 9, 10] (by kernel_rfl) ?_
      simp [go_sem, e0, e4, e3, hr1, hlt2, hlt, hgx, hw1, hwi, hne, hw7, hw7u, hmod, hn7, htn, hmin3, hws, hvT, q9, qc, q0, qi]
      exact good hs
   ·have qc : ((c : Int) < 128) = False := eq_false (by omega)
    rw [if_neg hc] at hrec
    have q9 : ((i : Int) = 9) = False := eq_false (by omega)
    simp [go_sem, e0, e4, e3, hi10']
    refine draw [0, 1, 2, 3, 4, 5, 6, 7, 8, 9, 10, 11, 12, 13, 14, 16, 17, 18, 15, 19, 20, 21, 22] (by kernel_rfl) ?_
    simp [go_sem, e0, e4, e3, hr1, hlt', ha']
    refine draw [0, 1, 2, 4, 5, 6, 3, 7, 8, 9, 10] (by kernel_rfl) ?_
    simp [go_sem, e0, e4, e3, hr1, hlt2, hlt, hgx, hw1, hwi, hne, hw7, hw7u, hmod, hn7, htn, hmin3, hws, hvT, q9, qc]
    refine ⟨_, .rfl' _, ⟨hB1.put, i + 1, v + T, (at' : Int) + 1, .inl ⟨upd_same _ _ _, by omega, by omega, by omega, ht3 (by omega), ?_⟩⟩, by omega⟩
    rw [if_neg (by omega), show ((at' : Int) + 1).toNat = at' + 1 by omega, ← hrec, show 10 - (i + 1) = k by omega]
 ·have : i = 10 := by omega
  subst this
  rcases hrec with ⟨-, h0, -⟩ | ⟨rfl, hrec⟩
  ·omega
  have hn : res = none := by
   rw [← hrec]
   split <;> simp [vgetL]
  simp [go_sem, e0, e4, e3, hr1]
  exact fail hn
end
def z10 (b : Bs) (most : Nat) (p : Option Int) : Nat × Option Int := match p.bind (vgetM b) with
 | some (n, a) => if n ≤ most ∧ n + a ≤ b.length then (n, some a) else (0, none)
 | none => (0, none)
def textR (b : Bs) (most : Nat) (p : Option Int) : ByteArray × Option Int := match p.bind fun a => txtM b a most with
 | some (s, a) => (s, some a)
 | none => (⟨#[]⟩, none)
theorem Reg.mid {st : Heap} {g : Tg} {cap a n : Nat} {base : Option Addr} {b : Bs} (h : Reg st g 1 (.slice base b.length cap) (bytesV b) b.length) (ha : a + n ≤ b.length) :
  Reg st g 1 (.slice (if cap = a then base else base.map (·.add a)) n (cap - a)) (bytesV ((b.drop a).take n)) n := by
 have := (h.drop (k := a) (by omega)).take (m := n) (by omega)
 rw [show bytesV ((b.drop a).take n) = ((bytesV b).drop a).take n by simp [bytesV, List.map_take, List.map_drop]]
 exact this
section
variable {W0 : World} {st : Heap}
theorem numR_lt (b : Bs) (p : Option Int) : (numR b p).1 < 2 ^ 64 := by
 unfold numR
 split
 ·rename_i n a h
  obtain ⟨x, hx, h⟩ := Option.bind_eq_some_iff.1 h
  exact (z21 h).1
 ·show 0 < _
  decide
theorem z22 {r : Nat} {bv : Value} {b : Bs} {g0 : Tg} {p : Option Int} (hr : RefAt st r bv p) (hb : Reg st g0 1 bv (bytesV b) b.length) (hg : Free g0) (hl : b.length < 2 ^ 60) :
  z00 Tryz.prog W0 83 #[ptr r] st fun e st' => But1 r st st' ∧ e = .returned (Val.i (unzz (numR b p).1)) ∧ RefAt st' r bv (numR b p).2 := by
 refine enter (args := [_]) Tryz.func83 rfl ?_
 simp [Tryz.f83, go_sem]
 refine (z5o hr hb hg hl).mono ?_
 rintro e st1 ⟨hB, rfl, hR⟩
 have hlt := numR_lt b p
 generalize numR b p = N at *
 obtain ⟨n, p'⟩ := N
 simp only at *
 have hm : IntKind.u64.wrap ((n : Int).tmod 2) = ((n % 2 : Nat) : Int) := by rw [Int.tmod_eq_emod_of_nonneg (by omega), z0c _ (by omega) (by omega)]; omega
 have hd : IntKind.i64.wrap (IntKind.u64.wrap ((n : Int).tdiv 2)) = ((n / 2 : Nat) : Int) := by rw [Int.tdiv_eq_ediv_of_nonneg (by omega), z0c _ (by omega) (by omega), z03 (by omega) (by omega)]; omega
 have hd' : IntKind.i64.wrap (IntKind.u64.wrap ((n : Int) / 2)) = ((n / 2 : Nat) : Int) := by rw [z0c _ (by omega) (by omega), z03 (by omega) (by omega)]; omega
 unfold unzz
 by_cases h2 : n % 2 = 0
 ·have q : ((n : Int).tmod 2 = 1) = False := eq_false (by rw [Int.tmod_eq_emod_of_nonneg (by omega)]; omega)
  rw [if_pos h2]
  generalize ((n % 2 : Nat) : Int) = M at *
  generalize ((n / 2 : Nat) : Int) = D at *
  simp [go_sem, hm, hd', q]
  exact ⟨hB, hR⟩
 ·have q : ((n : Int).tmod 2 = 1) = True := eq_true (by rw [Int.tmod_eq_emod_of_nonneg (by omega)]; omega)
  have hw1 : IntKind.i64.wrap (-((n / 2 : Nat) : Int)) = -((n / 2 : Nat) : Int) := z03 (by omega) (by omega)
  have hw2 : IntKind.i64.wrap (-((n / 2 : Nat) : Int) - 1) = -((n / 2 : Nat) : Int) - 1 := z03 (by omega) (by omega)
  rw [if_neg h2]
  generalize ((n % 2 : Nat) : Int) = M at *
  generalize ((n / 2 : Nat) : Int) = D at *
  simp [go_sem, hm, hd', q, hw1, hw2]
  exact ⟨hB, hR⟩
theorem z6f {r : Nat} {bv : Value} {b : Bs} {g0 : Tg} {p : Option Int} {most : Nat} (hr : RefAt st r bv p) (hb : Reg st g0 1 bv (bytesV b) b.length) (hg : Free g0) (hl : b.length < 2 ^ 60) (hmo : most < 2 ^ 40) :
  z00 Tryz.prog W0 162 #[ptr r, Val.i most] st fun e st' => But1 r st st' ∧ e = .returned (Val.i (z10 b most p).1) ∧ RefAt st' r bv (z10 b most p).2 := by
 obtain ⟨base, cap, rfl⟩ := hb.slice
 refine enter (args := [_, _]) Tryz.func162 rfl ?_
 simp [Tryz.f162, go_sem]
 refine (z5o hr hb hg hl).mono ?_
 rintro e st1 ⟨hB, rfl, hR⟩
 unfold numR at hR ⊢
 cases hv : p.bind (vgetM b) with
 | none =>
  have hout : z10 b most p = (0, none) := by unfold z10; rw [hv]
  rw [hout]
  rw [hv] at hR
  obtain ⟨a, hR⟩ := hR
  unfold refC at hR
  simp [go_sem]
  refine draw [0, 1, 2, 3, 4, 5, 6, 7, 8, 9, 10, 11, 12, 13, 14, 15, 16, 17, 18, 21, 22, 23, 19, 20, 24, 25, 26, 27, 28] (by kernel_rfl) ?_
  simp [go_sem, hR]
  exact ⟨hB.put, a, upd_same _ _ _⟩
 | some x =>
  obtain ⟨n, a⟩ := x
  rw [hv] at hR
  have hbd : n < 2 ^ 64 ∧ a ≤ b.length := by
   obtain ⟨x, hx, h⟩ := Option.bind_eq_some_iff.1 hv
   have := z21 h
   simp only at this
   exact ⟨this.1, this.2.2⟩
  change st1 r = some (refC _ (a : Int) false r) at hR
  unfold refC at hR
  have hm0 : ((most : Int) < 0) = False := eq_false (by omega)
  have hw1 : IntKind.u64.wrap (most : Int) = most := z0c _ (by omega) (by omega)
  have hw2 : IntKind.u64.wrap (IntKind.i64.wrap ((b.length : Int) - a)) = (b.length : Int) - a := by rw [z03 (by omega) (by omega), z0c _ (by omega) (by omega)]
  by_cases c1 : n ≤ most
  ·have q1 : ((most : Int) < n) = False := eq_false (by omega)
   by_cases c2 : n + a ≤ b.length
   ·have q2 : ((b.length : Int) - a < n) = False := eq_false (by omega)
    have hwn : IntKind.i64.wrap (n : Int) = n := z03 (by omega) (by omega)
    have hout : z10 b most p = (n, some (a : Int)) := by unfold z10; rw [hv]; exact if_pos ⟨c1, c2⟩
    rw [hout]
    simp [go_sem]
    refine draw [0, 1, 2, 3, 4, 5, 6, 7, 8, 9, 10, 11, 12, 13, 14, 15, 16, 17, 18, 21, 22, 23, 19, 20, 24, 25, 26, 27, 28] (by kernel_rfl) ?_
    simp [go_sem, hR, hm0, hw1, hw2, q1, q2, hwn]
    exact ⟨hB, hR⟩
   ·have q2 : ((b.length : Int) - a < n) = True := eq_true (by omega)
    have hout : z10 b most p = (0, none) := by unfold z10; rw [hv]; exact if_neg (fun h => c2 h.2)
    rw [hout]
    simp [go_sem]
    refine draw [0, 1, 2, 3, 4, 5, 6, 7, 8, 9, 10, 11, 12, 13, 14, 15, 16, 17, 18, 21, 22, 23, 19, 20, 24, 25, 26, 27, 28] (by kernel_rfl) ?_
    simp [go_sem, hR, hm0, hw1, hw2, q1, q2]
    exact ⟨hB.put, a, upd_same _ _ _⟩
  ·have q1 : ((most : Int) < n) = True := eq_true (by omega)
   have hout : z10 b most p = (0, none) := by unfold z10; rw [hv]; exact if_neg (fun h => c1 h.1)
   rw [hout]
   simp [go_sem]
   refine draw [0, 1, 2, 3, 4, 5, 6, 7, 8, 9, 10, 11, 12, 13, 14, 15, 16, 17, 18, 21, 22, 23, 19, 20, 24, 25, 26, 27, 28] (by kernel_rfl) ?_
   simp [go_sem, hR, hm0, hw1, q1]
   exact ⟨hB.put, a, upd_same _ _ _⟩
theorem z7b {r : Nat} {bv : Value} {b : Bs} {g0 : Tg} {p : Option Int} {most : Nat} (hr : RefAt st r bv p) (hb : Reg st g0 1 bv (bytesV b) b.length) (hg : Free g0) (hl : b.length < 2 ^ 60) (hmo : most < 2 ^ 40) :
  z00 Tryz.prog W0 163 #[ptr r, Val.i most] st fun e st' => But1 r st st' ∧ e = .returned (.string (textR b most p).1) ∧ RefAt st' r bv (textR b most p).2 := by
 obtain ⟨a0, bad0, hr0, hp⟩ := hr.cell
 obtain ⟨base, cap, rfl⟩ := hb.slice
 refine enter (args := [_, _]) Tryz.func163 rfl ?_
 simp [Tryz.f163, go_sem]
 refine (z5o hr hb hg hl).mono ?_
 rintro e st1 ⟨hB, rfl, hR⟩
 have hb1 : Reg st1 g0 1 (.slice base b.length cap) (bytesV b) b.length := hb.but hg hB hr0
 have hcap := hb.cap
 unfold numR at hR ⊢
 have htx : (p.bind fun a => txtM b a most) = (p.bind (vgetM b)).bind fun x => if (most : Int) < x.1 ∨ b.length - x.2 < x.1 then none else some (⟨((b.drop x.2).take x.1).toArray⟩, x.2 + x.1) := by
  cases p with
  | none => rfl
  | some a =>
   simp only [Option.bind_some, txtM, z31]
   cases vgetM b a with
   | none => rfl
   | some x =>
    simp only [Option.bind_some]
    by_cases hc : (most : Int) < x.1 ∨ b.length - x.2 < x.1
    ·rw [if_pos (.inr hc), if_pos hc]; rfl
    ·rw [if_neg (by omega), if_neg hc]; rfl
 cases hv : p.bind (vgetM b) with
 | none =>
  have hout : textR b most p = (⟨#[]⟩, none) := by unfold textR; rw [htx, hv]; rfl
  rw [hout]
  rw [hv] at hR
  obtain ⟨a, hR⟩ := hR
  unfold refC at hR
  simp [go_sem]
  refine draw [0, 1, 2, 3, 4, 5, 6, 7, 8, 9, 10, 11, 12, 13, 14, 15, 16, 17, 18, 21, 22, 23, 19, 20, 24, 25, 26, 27, 28] (by kernel_rfl) ?_
  simp [go_sem, hR]
  exact ⟨hB.put, a, upd_same _ _ _⟩
 | some x =>
  obtain ⟨n, a⟩ := x
  rw [hv] at hR
  have hbd : n < 2 ^ 64 ∧ a ≤ b.length := by
   obtain ⟨x, hx, h⟩ := Option.bind_eq_some_iff.1 hv
   have := z21 h
   simp only at this
   exact ⟨this.1, this.2.2⟩
  change st1 r = some (refC _ (a : Int) false r) at hR
  unfold refC at hR
  have hm0 : ((most : Int) < 0) = False := eq_false (by omega)
  have hw1 : IntKind.u64.wrap (most : Int) = most := z0c _ (by omega) (by omega)
  have hw2 : IntKind.u64.wrap (IntKind.i64.wrap ((b.length : Int) - a)) = (b.length : Int) - a := by rw [z03 (by omega) (by omega), z0c _ (by omega) (by omega)]
  by_cases c1 : n ≤ most
  ·have q1 : ((most : Int) < n) = False := eq_false (by omega)
   by_cases c2 : n + a ≤ b.length
   ·have q2 : ((b.length : Int) - a < n) = False := eq_false (by omega)
    have hwn : IntKind.i64.wrap (n : Int) = n := z03 (by omega) (by omega)
    have hwa : IntKind.i64.wrap ((a : Int) + n) = ((a + n : Nat) : Int) := by rw [z03 (by omega) (by omega)]; omega
    have hout : textR b most p = (⟨((b.drop a).take n).toArray⟩, some ((a + n : Nat) : Int)) := by
     unfold textR
     rw [htx, hv]
     simp only [Option.bind_some]
     rw [if_neg (by omega)]
    rw [hout]
    have q3 : (0 ≤ (a : Int) + n) = True := eq_true (by omega)
    have htn : ((a : Int) + n).toNat = a + n := by omega
    have q4 : (a + n ≤ cap) = True := eq_true (by omega)
    simp [go_sem]
    refine draw [0, 1, 2, 3, 4, 5, 6, 7, 8, 9, 10, 11, 12, 13, 14, 15, 16, 17, 18, 21, 22, 23, 19, 20, 24, 25, 26, 27, 28] (by kernel_rfl) ?_
    simp [go_sem, hR, hm0, hw1, hw2, q1, q2, hwn]
    refine draw [0, 1, 2, 4, 5, 6, 8, 9, 10, 12, 3, 7, 11, 13, 14, 15, 16, 17] (by kernel_rfl) ?_
    simp [go_sem, hR, hwn, hwa, q3, htn, q4]
    have htx := z5x (hb1.mid (a := a) (n := n) (by omega))
    simp only [htx]
    simp [go_sem, hR, hwn, hwa]
    exact ⟨hB.put, upd_same _ _ _⟩
   ·have q2 : ((b.length : Int) - a < n) = True := eq_true (by omega)
    have hout : textR b most p = (⟨#[]⟩, none) := by
     unfold textR
     rw [htx, hv]
     simp only [Option.bind_some]
     rw [if_pos (by omega)]
    rw [hout]
    simp [go_sem]
    refine draw [0, 1, 2, 3, 4, 5, 6, 7, 8, 9, 10, 11, 12, 13, 14, 15, 16, 17, 18, 21, 22, 23, 19, 20, 24, 25, 26, 27, 28] (by kernel_rfl) ?_
    simp [go_sem, hR, hm0, hw1, hw2, q1, q2]
    exact ⟨hB.put, a, upd_same _ _ _⟩
  ·have q1 : ((most : Int) < n) = True := eq_true (by omega)
   have hout : textR b most p = (⟨#[]⟩, none) := by
    unfold textR
    rw [htx, hv]
    simp only [Option.bind_some]
    rw [if_pos (by omega)]
   rw [hout]
   simp [go_sem]
   refine draw [0, 1, 2, 3, 4, 5, 6, 7, 8, 9, 10, 11, 12, 13, 14, 15, 16, 17, 18, 21, 22, 23, 19, 20, 24, 25, 26, 27, 28] (by kernel_rfl) ?_
   simp [go_sem, hR, hm0, hw1, q1]
   exact ⟨hB.put, a, upd_same _ _ _⟩
end
end Go.Proofs.YtahgfnbkkfpcnaaGreat
