/- Numbers and texts as bytes (vint): what the functions make. -/
import Derived.Test.YtahgfnbkkfpcnaaGreatCTab
import Derived.Test.YtahgfnbkkfpcnaaGreatC08
import Derived.Test.YtahgfnbkkfpcnaaGreatC16
import Derived.Test.YtahgfnbkkfpcnaaGreatC17
set_option linter.unusedVariables false
set_option linter.unusedSimpArgs false
set_option maxRecDepth 100000
set_option maxHeartbeats 1000000
namespace Go.Proofs.YtahgfnbkkfpcnaaGreat
open Go.RowKit (Below)
def vputM (n : Nat) : Bs := if n < 128 then [UInt8.ofNat n] else UInt8.ofNat (n % 128 + 128) :: vputM (n / 128)
termination_by n
def vgetL (b : Bs) : (k : Nat) → (at_ v : Nat) → Option (Nat × Nat)
 | 0, _, _ => none
 | k + 1, at_, v => match b[at_]? with
  | none => none
  | some x => if k = 0 ∧ 1 < x.toNat then none
    else if x.toNat < 128 then (if k < 9 ∧ x.toNat = 0 then none else some (v + x.toNat % 128 * 128 ^ (9 - k), at_ + 1))
    else vgetL b k (at_ + 1) (v + x.toNat % 128 * 128 ^ (9 - k))
def vgetM (b : Bs) (at_ : Int) : Option (Nat × Nat) := if at_ < 0 then none else vgetL b 10 at_.toNat 0
def vgetV : Option (Nat × Nat) → Value
 | some (v, at_) => .tuple #[.int .u64 v, Val.i at_, .bool true]
 | none => .tuple #[.int .u64 0, Val.i 0, .bool false]
def zz (v : Int) : Nat := if 0 ≤ v then (2 * v).toNat else (-2 * v - 1).toNat
def unzz (u : Nat) : Int := if u % 2 = 0 then (u / 2 : Nat) else -((u / 2 : Nat) : Int) - 1
def z2a (b : Bs) (at_ : Int) : Option (Int × Nat) := (vgetM b at_).map fun p => (unzz p.1, p.2)
def z2s : Option (Int × Nat) → Value
 | some (v, at_) => .tuple #[Val.i v, Val.i at_, .bool true]
 | none => .tuple #[Val.i 0, Val.i 0, .bool false]
theorem z7v (i : Nat) : 128 ^ i = 2 ^ (7 * i) := by rw [show (128 : Nat) = 2 ^ 7 from rfl, ← Nat.pow_mul]
theorem z9e {b : Bs} : ∀ {k at_ v : Nat} {r : Nat × Nat}, k ≤ 10 → v < 128 ^ (10 - k) → vgetL b k at_ v = some r → r.1 < 2 ^ 64 ∧ at_ < r.2 ∧ r.2 ≤ b.length
 | 0, _, _, _, _, _, h => by cases h
 | k + 1, at_, v, r, hk, hv, h => by
  unfold vgetL at h
  split at h
  ·cases h
  ·rename_i x hx
   have hlt := (List.getElem?_eq_some_iff.1 hx).1
   have hx8 := x.toNat_lt
   have h9 : 10 - (k + 1) = 9 - k := by omega
   rw [h9] at hv
   have hp : (128 : Nat) ^ (9 - k) > 0 := Nat.pow_pos (by decide)
   split at h
   ·cases h
   ·rename_i h1
    split at h
    ·split at h
     ·cases h
     ·injection h with h
      subst h
      refine ⟨?_, by simp, hlt⟩
      simp only
      by_cases hk0 : k = 0
      ·subst hk0
       have : x.toNat ≤ 1 := by omega
       have h2 : x.toNat % 128 * 128 ^ (9 - 0) ≤ 1 * 128 ^ 9 := Nat.mul_le_mul_right _ (by omega)
       have h3 : (128 : Nat) ^ (9 - 0) = 9223372036854775808 := by decide
       have h4 : (128 : Nat) ^ 9 = 9223372036854775808 := by decide
       omega
      ·have h2 : x.toNat % 128 * 128 ^ (9 - k) ≤ 127 * 128 ^ (9 - k) := Nat.mul_le_mul_right _ (by omega)
       have h3 : (128 : Nat) ^ (9 - k) ≤ 128 ^ 8 := Nat.pow_le_pow_right (by decide) (by omega)
       have h4 : (128 : Nat) ^ 8 = 72057594037927936 := by decide
       omega
    ·have h2 : x.toNat % 128 * 128 ^ (9 - k) ≤ 127 * 128 ^ (9 - k) := Nat.mul_le_mul_right _ (by omega)
     by_cases hk0 : k = 0
     ·subst hk0
      cases h
     ·have h3 : 10 - k = 9 - k + 1 := by omega
      have h4 : (128 : Nat) ^ (10 - k) = 128 ^ (9 - k) * 128 := by rw [h3, Nat.pow_succ]
      have := z9e (by omega) (by omega) h
      omega
theorem z21 {b : Bs} {at_ : Int} {r : Nat × Nat} (h : vgetM b at_ = some r) : r.1 < 2 ^ 64 ∧ at_ < r.2 ∧ r.2 ≤ b.length := by
 unfold vgetM at h
 split at h
 ·cases h
 ·have := z9e (by omega) (by decide) h
  omega
theorem z14 (n : Nat) (h : n < 2 ^ 64) : (vputM n).length ≤ 10 ∧ 1 ≤ (vputM n).length := by
 have key : ∀ (k n : Nat), n < 128 ^ k → 1 ≤ k → (vputM n).length ≤ k ∧ 1 ≤ (vputM n).length := by
  intro k
  induction k with
  | zero => intro n _ h; omega
  | succ k ih =>
   intro n hn _
   unfold vputM
   split
   ·simp
   ·rename_i hge
    rw [Nat.pow_succ] at hn
    have h1 : n / 128 < 128 ^ k := Nat.div_lt_of_lt_mul (by rw [Nat.mul_comm]; exact hn)
    have hk : 1 ≤ k := by
     rcases Nat.eq_zero_or_pos k with rfl | h
     ·simp at hn; omega
     ·exact h
    have := ih (n / 128) h1 hk
    simp only [List.length_cons]
    omega
 exact key 10 n (Nat.lt_trans h (by decide)) (by decide)
theorem z24 (n : Nat) (h : n < 256) : ((UInt8.ofNat n).toNat : Int) = n := by
 simp; omega
section
variable {W0 : World} {st : Heap}
theorem zf8 {bv : Value} {b : Bs} {g : Tg} (h : Reg st g 1 bv (bytesV b) b.length) : z00 Tryz.prog W0 143 #[bv] st fun e st' => ∃ base, e = .returned (.slice base b.length b.length) ∧ Reg st g 1 (.slice base b.length b.length) (bytesV b) b.length ∧ st' = st := by
 obtain ⟨base, cap, rfl⟩ := h.slice
 have hc := h.cap
 refine enter (args := [_]) Tryz.func143 rfl ?_
 simp [Tryz.f143, go_sem, hc]
 exact h.tight
theorem zfo {base : Option Addr} {b : Bs} {g0 : Tg} (g : Tg) {n : Nat} (h : Reg st g0 1 (.slice base b.length b.length) (bytesV b) b.length) (hn : n < 2 ^ 64) (hl : b.length < 2 ^ 40) :
  z00 Tryz.prog W0 142 #[.slice base b.length b.length, Val.u n] st fun e st' => ∃ v, e = .returned v ∧ Vec st' g 1 v (bytesV (b ++ vputM n)) (b ++ vputM n).length ∧ Fresh st v ∧ New st st' := by
 refine enter (args := [_, _]) Tryz.func142 rfl ?_
 simp [Tryz.f142, go_sem]
 have hpl := z14 n hn
 refine ⟨fun E st' => New st st' ∧ ∃ (c : Bs) (m : Nat) (v : Value), E 0 = v ∧ E 1 = Val.u m ∧ m < 2 ^ 64 ∧ c ++ vputM m = b ++ vputM n ∧ ((v = .slice base b.length b.length ∧ c = b ∧ Reg st' g0 1 v (bytesV c) c.length) ∨ (Vec st' g 1 v (bytesV c) c.length ∧ Fresh st v)),
  fun E _ => match E 1 with | .int _ m => m.toNat | _ => 0, ⟨st, .rfl' _, New.refl _, b, n, _, by simp [go_sem], by simp [go_sem], hn, rfl, .inl ⟨rfl, rfl, h⟩⟩, ?_⟩
 rintro E st' ⟨hk, c, m, v, e0, e1, hm, hcm, hv⟩
 have hclen : c.length + (vputM m).length = b.length + (vputM n).length := by rw [← List.length_append, hcm, List.length_append]
 have hml := z14 m hm
 have hsl : ∃ cb cc, v = .slice cb c.length cc := by
  rcases hv with ⟨rfl, rfl, _⟩ | ⟨hv, _⟩
  ·exact ⟨_, _, rfl⟩
  ·exact hv.slice
 obtain ⟨cb, cc, rfl⟩ := hsl
 by_cases hge : 128 ≤ m
 ·have hge' : (128 : Int) ≤ m := by omega
  have hw : IntKind.u8.wrap (m : Int) = m % 256 := by rw [IntKind.wrap_u8]
  have hor := zgh ((m : Int) % 256) (by omega) (by omega)
  simp [go_sem, e0, e1, hge', hw, hor]
  unfold NewS
  intro b1 hb1
  refine ⟨.ty 0, ?_⟩
  simp [go_sem]
  have hmm : ((m : Int) % 128 + 128) = ((UInt8.ofNat (m % 128 + 128)).toNat : Int) := by rw [z24 _ (by omega)]; omega
  rw [hmm]
  have k1 : New st' (upd st' b1 (.cells true [.int .u8 ((UInt8.ofNat (m % 128 + 128)).toNat : Int)] 1 (.ty 0))) := (New.refl _).add hb1
  have hsrc : z06 1 (upd st' b1 (.cells true [.int .u8 ((UInt8.ofNat (m % 128 + 128)).toNat : Int)] 1 (.ty 0))) (.slice (some ⟨b1, 0, none⟩) 1 1) = some (1, bytesV [UInt8.ofNat (m % 128 + 128)]) := by
   simp [z06, z0i, upd_same, cellsOf, bytesV]
  have hun : vputM m = UInt8.ofNat (m % 128 + 128) :: vputM (m / 128) := by
   rw [vputM]; exact if_neg (by omega)
  have hfin : ∀ (nb : Option Addr) (nc : Nat) (st2 : Heap), Vec st2 g 1 (.slice nb (c.length + 1) nc) (bytesV c ++ bytesV [UInt8.ofNat (m % 128 + 128)]) (c.length + 1) → Fresh st (.slice nb (c.length + 1) nc) → New st st2 → ∃ (c' : Bs) (m' : Nat), (m : Int) / 128 = m' ∧ m' < 2 ^ 64 ∧ c' ++ vputM m' = b ++ vputM n ∧ (Vec st2 g 1 (.slice nb (c.length + 1) nc) (bytesV c') c'.length ∧ Fresh st (.slice nb (c.length + 1) nc)) := by
   intro nb nc st2 hv2 hf2 hk2
   refine ⟨c ++ [UInt8.ofNat (m % 128 + 128)], m / 128, by omega, by omega, ?_, ?_, hf2⟩
   ·rw [← hcm, hun]; simp
   ·simpa [z52] using hv2
  rcases hv with ⟨hveq, rfl, hr⟩ | ⟨hv, hfr⟩
  ·injection hveq with q1 q2 q3; subst q1; subst q3
   refine zc1 g si40 (hr.new k1) (hk.trans k1) hsrc (by omega) (by omega) ?_
   intro nb nc st2 hv2 hf2 hk2 _
   have hfd : ((m : Int).fdiv 128) = (m : Int) / 128 := by rw [Int.fdiv_eq_ediv_of_nonneg _ (by omega)]
   simp [go_sem, e0, e1, hfd]
   refine ⟨st2, .rfl' _, ⟨hk2, ?_⟩, by omega⟩
   obtain ⟨c', m', h1, h2, h3, h4⟩ := hfin nb nc st2 hv2 hf2 hk2
   exact ⟨c', m', h1, h2, h3, h4⟩
  ·refine AppI_new si40 (hv.new' k1) hfr (hk.trans k1) hsrc (z20 _) (by omega) ?_
   intro nb nc st2 hv2 hf2 hk2 _
   have hfd : ((m : Int).fdiv 128) = (m : Int) / 128 := by rw [Int.fdiv_eq_ediv_of_nonneg _ (by omega)]
   simp [go_sem, e0, e1, hfd]
   refine ⟨st2, .rfl' _, ⟨hk2, ?_⟩, by omega⟩
   obtain ⟨c', m', h1, h2, h3, h4⟩ := hfin nb nc st2 hv2 hf2 hk2
   exact ⟨c', m', h1, h2, h3, .inr h4⟩
 ·have hge' : ¬ (128 : Int) ≤ m := by omega
  have hw : IntKind.u8.wrap (m : Int) = m := by rw [IntKind.wrap_u8]; omega
  simp [go_sem, e0, e1, hge', hw]
  unfold NewS
  intro b1 hb1
  refine ⟨.ty 0, ?_⟩
  simp [go_sem]
  have hmm : (m : Int) = ((UInt8.ofNat m).toNat : Int) := by rw [z24 _ (by omega)]
  rw [hmm]
  have k1 : New st' (upd st' b1 (.cells true [.int .u8 ((UInt8.ofNat m).toNat : Int)] 1 (.ty 0))) := (New.refl _).add hb1
  have hsrc : z06 1 (upd st' b1 (.cells true [.int .u8 ((UInt8.ofNat m).toNat : Int)] 1 (.ty 0))) (.slice (some ⟨b1, 0, none⟩) 1 1) = some (1, bytesV [UInt8.ofNat m]) := by
   simp [z06, z0i, upd_same, cellsOf, bytesV]
  have hun : vputM m = [UInt8.ofNat m] := by rw [vputM]; exact if_pos (by omega)
  have hl1 : (b ++ vputM n).length = c.length + 1 := by rw [← hcm, hun]; simp
  have hb1' : bytesV (b ++ vputM n) = bytesV c ++ bytesV [UInt8.ofNat m] := by rw [← hcm, hun, z52]
  rcases hv with ⟨hveq, rfl, hr⟩ | ⟨hv, hfr⟩
  ·injection hveq with q1 q2 q3; subst q1; subst q3
   refine zc1 g si40 (hr.new k1) (hk.trans k1) hsrc (by omega) (by omega) ?_
   intro nb nc st2 hv2 hf2 hk2 _
   simp [go_sem]
   refine ⟨?_, hf2, hk2⟩
   rw [← List.length_append, hl1, hb1']; exact hv2
  ·refine AppI_new si40 (hv.new' k1) hfr (hk.trans k1) hsrc (z20 _) (by omega) ?_
   intro nb nc st2 hv2 hf2 hk2 _
   simp [go_sem]
   refine ⟨?_, hf2, hk2⟩
   rw [← List.length_append, hl1, hb1']; exact hv2
theorem z3r {bv : Value} {b : Bs} {g0 : Tg} (g : Tg) {n : Nat} (h : Reg st g0 1 bv (bytesV b) b.length) (hn : n < 2 ^ 64) (hl : b.length < 2 ^ 40) :
  z00 Tryz.prog W0 65 #[bv, Val.u n] st fun e st' => ∃ v, e = .returned v ∧ Vec st' g 1 v (bytesV (b ++ vputM n)) (b ++ vputM n).length ∧ Fresh st v ∧ New st st' := by
 refine enter (args := [_, _]) Tryz.func65 rfl ?_
 simp [Tryz.f65, go_sem]
 refine (zf8 h).mono ?_
 rintro e st1 ⟨base, rfl, hr, rfl⟩
 simp [go_sem]
 refine (zfo g hr hn hl).mono ?_
 rintro e st2 ⟨v, rfl, h1, h2, h3⟩
 simp [go_sem]
 exact ⟨by simpa using h1, h2, h3⟩
theorem zz_lt {v : Int} (h0 : -2 ^ 63 ≤ v) (h1 : v < 2 ^ 63) : zz v < 2 ^ 64 := by unfold zz; split <;> omega
theorem z1y {bv : Value} {b : Bs} {g0 : Tg} (g : Tg) {n : Int} (h : Reg st g0 1 bv (bytesV b) b.length) (h0 : -2 ^ 63 ≤ n) (h1 : n < 2 ^ 63) (hl : b.length < 2 ^ 40) :
  z00 Tryz.prog W0 66 #[bv, Val.i n] st fun e st' => ∃ v, e = .returned v ∧ Vec st' g 1 v (bytesV (b ++ vputM (zz n))) (b ++ vputM (zz n)).length ∧ Fresh st v ∧ New st st' := by
 refine enter (args := [_, _]) Tryz.func66 rfl ?_
 have hz : bits .xor .u64 (IntKind.u64.wrap (IntKind.u64.wrap n * 2)) (IntKind.u64.wrap (n.fdiv 9223372036854775808)) = (zz n : Int) := by
  rw [Int.fdiv_eq_ediv_of_nonneg _ (by omega)]
  by_cases hn : 0 ≤ n
  ·have e1 : n / 9223372036854775808 = 0 := by omega
   have e2 : IntKind.u64.wrap (IntKind.u64.wrap n * 2) = 2 * n := by rw [IntKind.wrap_u64, IntKind.wrap_u64]; omega
   have e3 : IntKind.u64.wrap 0 = 0 := by rw [IntKind.wrap_u64]; omega
   rw [e1, e2, e3, zjo _ (by omega) (by omega)]
   unfold zz; rw [if_pos hn]; omega
  ·have e1 : n / 9223372036854775808 = -1 := by omega
   have e2 : IntKind.u64.wrap (IntKind.u64.wrap n * 2) = 18446744073709551616 + 2 * n := by rw [IntKind.wrap_u64, IntKind.wrap_u64]; omega
   have e3 : IntKind.u64.wrap (-1) = 18446744073709551615 := by rw [IntKind.wrap_u64]; omega
   rw [e1, e2, e3, ze7 _ (by omega) (by omega)]
   unfold zz; rw [if_neg hn]; omega
 simp [Tryz.f66, go_sem, hz]
 refine (z3r g h (zz_lt h0 h1) hl).mono ?_
 rintro e st2 ⟨v, rfl, h1, h2, h3⟩
 simp [go_sem]
 exact ⟨by simpa using h1, h2, h3⟩
theorem z4z {bv : Value} {b : Bs} {g0 : Tg} {at_ : Int} (h : Reg st g0 1 bv (bytesV b) b.length) (hl : b.length < 2 ^ 60) :
  z00 Tryz.prog W0 73 #[bv, Val.i at_] st fun e st' => e = .returned (vgetV (vgetM b at_)) ∧ st' = st := by
 obtain ⟨base, cap, rfl⟩ := h.slice
 refine enter (args := [_, _]) Tryz.func73 rfl ?_
 unfold vgetM
 by_cases h0 : at_ < 0
 ·simp [Tryz.f73, go_sem, h0, vgetV]
 ·obtain ⟨a, rfl⟩ := Int.eq_ofNat_of_zero_le (show 0 ≤ at_ by omega)
  rw [if_neg h0, show (a : Int).toNat = a by omega]
  generalize hres : vgetL b 10 a 0 = res
  simp [Tryz.f73, go_sem, h0]
  refine ⟨fun E st' => st' = st ∧ E 0 = .slice base b.length cap ∧ ∃ (i at' v : Nat), E 1 = Val.i at' ∧ E 8 = Val.i i ∧ E 7 = Val.u v ∧ i ≤ 10 ∧ v < 128 ^ i ∧ vgetL b (10 - i) at' v = res,
   fun E _ => match E 8 with | .int _ i => 10 - i.toNat | _ => 0, ⟨st, .rfl' _, rfl, by simp [go_sem], 0, a, 0, by simp [go_sem], by simp [go_sem], by simp [go_sem], by omega, by decide, hres⟩, ?_⟩
  rintro E st' ⟨rfl, e0, i, at', v, e1, e8, e7, hi, hv, hrec⟩
  by_cases hi10 : i < 10
  ·have hi10' : (i : Int) < 10 := by omega
   obtain ⟨k, hk⟩ : ∃ k, 10 - i = k + 1 := ⟨9 - i, by omega⟩
   have hki : 9 - k = i := by omega
   rw [hk] at hrec
   unfold vgetL at hrec
   rw [hki] at hrec
   by_cases hlt : at' < b.length
   ·have hlt' : (at' : Int) < b.length := by omega
    obtain ⟨blk, off, rfl, hg⟩ := z0h h.src (by omega)
    have hg := hg at' (by omega)
    obtain ⟨x, hx⟩ : ∃ x, b[at']? = some x := ⟨_, List.getElem?_eq_getElem hlt⟩
    have hgx : (bytesV b)[at']? = some (.int .u8 x.toNat) := by simp [bytesV, hx]
    rw [hgx] at hg
    have hx8 := x.toNat_lt
    rw [hx] at hrec
    simp only at hrec
    generalize x.toNat = c at *
    have hw1 : IntKind.i64.wrap ((at' : Int) + 1) = ((at' + 1 : Nat) : Int) := by rw [z03 (by omega) (by omega)]; omega
    have hwi := wrS i (by omega)
    by_cases hbad : i = 9 ∧ 1 < c
    ·rw [if_pos ⟨by omega, hbad.2⟩] at hrec
     obtain ⟨rfl, hbad⟩ := hbad
     have hbad' : (1 : Int) < c := by omega
     simp [go_sem, e0, e1, e8, e7, hlt, hg, hw1, hbad']
     rw [← hrec]; simp [vgetV]
    ·rw [if_neg (by omega)] at hrec
     have hand := zeu (c : Int) (by omega) (by omega)
     have hwx : IntKind.u64.wrap ((c : Int) % 128) = (c : Int) % 128 := z0c _ (by omega) (by omega)
     have hw7 : IntKind.i64.wrap (7 * (i : Int)) = 7 * (i : Int) := z03 (by omega) (by omega)
     have hmin : min (7 * i) 64 = 7 * i := by omega
     have hpow : ((2 : Int) ^ (7 * i)) = ((128 ^ i : Nat) : Int) := by rw [z7v]; simp
     have hterm : c % 128 * 128 ^ i < 2 ^ 64 ∧ v + c % 128 * 128 ^ i < 2 ^ 64 ∧ (i ≠ 9 → v + c % 128 * 128 ^ i < 128 ^ (i + 1)) := by
      by_cases hk0 : i = 9
      ·subst hk0
       have h2 : c % 128 * 128 ^ 9 ≤ 1 * 128 ^ 9 := Nat.mul_le_mul_right _ (by omega)
       have h4 : (128 : Nat) ^ 9 = 9223372036854775808 := by decide
       exact ⟨by omega, by omega, fun h => absurd rfl h⟩
      ·have h2 : c % 128 * 128 ^ i ≤ 127 * 128 ^ i := Nat.mul_le_mul_right _ (by omega)
       have h3 : (128 : Nat) ^ i ≤ 128 ^ 8 := Nat.pow_le_pow_right (by decide) (by omega)
       have h4 : (128 : Nat) ^ 8 = 72057594037927936 := by decide
       have h5 : (128 : Nat) ^ (i + 1) = 128 ^ i * 128 := by rw [Nat.pow_succ]
       exact ⟨by omega, by omega, fun _ => by omega⟩
     obtain ⟨ht1, ht2, ht3⟩ := hterm
     obtain ⟨T, hT⟩ : ∃ T, c % 128 * 128 ^ i = T := ⟨_, rfl⟩
     have hcast : ((c : Int) % 128 * ((128 ^ i : Nat) : Int)) = (T : Int) := by rw [← hT]; simp
     have hTm : T % 2 ^ (7 * i) = 0 := by rw [← hT, z7v]; exact Nat.mul_mod_left _ _
     rw [hT] at hrec ht1 ht2 ht3
     have hws : IntKind.u64.wrap ((c : Int) % 128 * 2 ^ (7 * i)) = (T : Int) := by rw [hpow, hcast]; exact z0c _ (by omega) (by omega)
     have hor : bits .or .u64 (v : Int) (T : Int) = ((v + T : Nat) : Int) := by
      rw [zgo (7 * i) _ _ (by omega) (by rw [z7v] at hv; exact_mod_cast hv) (by omega) (by exact_mod_cast hTm) (by omega) (by omega)]
      omega
     have hn7 : ¬ 7 * (i : Int) < 0 := by omega
     have htn : (7 * (i : Int)).toNat = 7 * i := by omega
     have hmin2 : min (7 * (i : Int)).toNat IntKind.u64.bits = 7 * i := by rw [htn]; show min _ 64 = _; omega
     have hmin3 : min (7 * i) 64 = 7 * i := by omega
     have hgo : (((i : Int) = 9) = True ∨ ((i : Int) = 9) = False) ∧ (((1 : Int) < c) = True ∨ ((1 : Int) < c) = False) ∧ (((i : Int) = 9) = True → ((1 : Int) < c) = False) := by
      refine ⟨?_, ?_, ?_⟩
      ·by_cases h : (i : Int) = 9
       ·exact .inl (eq_true h)
       ·exact .inr (eq_false h)
      ·by_cases h : (1 : Int) < c
       ·exact .inl (eq_true h)
       ·exact .inr (eq_false h)
      ·intro h
       have h := of_eq_true h
       exact eq_false (by omega)
     obtain ⟨q9, q1, q91⟩ := hgo
     by_cases hc : c < 128
     ·have qc : ((c : Int) < 128) = True := eq_true (by omega)
      rw [if_pos hc] at hrec
      by_cases hz : 0 < i ∧ c = 0
      ·rw [if_pos ⟨by omega, hz.2⟩] at hrec
       have qi : (0 < i) = True := eq_true (by omega)
       have qz : (c = 0) = True := eq_true (by omega)
       have hres' : Value.tuple #[.int .u64 0, Val.i 0, .bool false] = vgetV res := by rw [← hrec]; rfl
       rcases q9 with q9 | q9
       ·have q1 := q91 q9
        simp [go_sem, e0, e1, e8, e7, hi10', hlt, hg, hw1, hwi, hand, hwx, hw7, hn7, hmin3, htn, hws, hor, q9, qc, q1, qi, qz]
        exact hres'
       ·simp [go_sem, e0, e1, e8, e7, hi10', hlt, hg, hw1, hwi, hand, hwx, hw7, hn7, hmin3, htn, hws, hor, q9, qc, qi, qz]
        exact hres'
      ·rw [if_neg (by omega)] at hrec
       have hres' : Value.tuple #[.int .u64 ((v + T : Nat) : Int), Val.i ((at' + 1 : Nat) : Int), .bool true] = vgetV res := by rw [← hrec]; rfl
       by_cases hi0 : 0 < i
       ·have qi : (0 < i) = True := eq_true (by omega)
        have qz : (c = 0) = False := eq_false (by omega)
        rcases q9 with q9 | q9
        ·have q1 := q91 q9
         simp [go_sem, e0, e1, e8, e7, hi10', hlt, hg, hw1, hwi, hand, hwx, hw7, hn7, hmin3, htn, hws, hor, q9, qc, q1, qi, qz]
         exact hres'
        ·simp [go_sem, e0, e1, e8, e7, hi10', hlt, hg, hw1, hwi, hand, hwx, hw7, hn7, hmin3, htn, hws, hor, q9, qc, qi, qz]
         exact hres'
       ·have qi : (0 < i) = False := eq_false (by omega)
        have q9 : ((i : Int) = 9) = False := eq_false (by omega)
        simp [go_sem, e0, e1, e8, e7, hi10', hlt, hg, hw1, hwi, hand, hwx, hw7, hn7, hmin3, htn, hws, hor, q9, qc, qi]
        exact hres'
     ·have qc : ((c : Int) < 128) = False := eq_false (by omega)
      rw [if_neg hc] at hrec
      have hi9 : i ≠ 9 := by omega
      have q9 : ((i : Int) = 9) = False := eq_false (by omega)
      simp [go_sem, e0, e1, e8, e7, hi10', hlt, hg, hw1, hwi, hand, hwx, hw7, hn7, hmin3, htn, hws, hor, q9, qc]
      refine ⟨st', .rfl' _, ⟨rfl, i + 1, at' + 1, by omega, by omega, v + T, by omega, by omega, ht3 hi9, ?_⟩, by omega⟩
      rw [← hrec, show 10 - (i + 1) = k by omega]
   ·have hlt' : ¬ (at' : Int) < b.length := by omega
    rw [List.getElem?_eq_none (by omega)] at hrec
    simp [go_sem, e0, e1, e8, e7, hlt, hi10']
    rw [← hrec]
    simp [vgetV]
  ·have : i = 10 := by omega
   subst this
   simp [go_sem, e0, e1, e8, e7]
   rw [← hrec]
   simp [vgetL, vgetV]
end
theorem zew (u : Nat) (h : u < 2 ^ 64) : bits .xor .i64 (IntKind.i64.wrap ((u / 2 : Nat) : Int)) (IntKind.i64.wrap (0 - IntKind.i64.wrap ((u % 2 : Nat) : Int))) = unzz u := by
 have w1 : IntKind.i64.wrap ((u / 2 : Nat) : Int) = ((u / 2 : Nat) : Int) := z03 (by omega) (by omega)
 have w2 : IntKind.i64.wrap ((u % 2 : Nat) : Int) = ((u % 2 : Nat) : Int) := z03 (by omega) (by omega)
 unfold unzz
 by_cases h2 : u % 2 = 0
 ·rw [w1, w2, h2, if_pos rfl, show IntKind.i64.wrap (0 - ((0 : Nat) : Int)) = 0 by rw [z03] <;> omega, zdu _ (by omega) (by omega)]
 ·have h3 : u % 2 = 1 := by omega
  rw [w1, w2, h3, if_neg (by omega), show IntKind.i64.wrap (0 - ((1 : Nat) : Int)) = -1 by rw [z03] <;> omega, zi5 _ (by omega) (by omega)]
def z31 (b : Bs) (at_ most : Int) : Option (Bs × Nat) :=
 match vgetM b at_ with
 | none => none
 | some (n, a) => if most < 0 ∨ most < n ∨ b.length - a < n then none else some ((b.drop a).take n, a + n)
def z3l : Option (Bs × Nat) → Value
 | some (s, a) => .tuple #[.string ⟨s.toArray⟩, Val.i a, .bool true]
 | none => .tuple #[.string ⟨#[]⟩, Val.i 0, .bool false]
section
variable {W0 : World} {st : Heap}
theorem z79 {bv : Value} {b : Bs} {g0 : Tg} {at_ : Int} (h : Reg st g0 1 bv (bytesV b) b.length) (hl : b.length < 2 ^ 60) :
  z00 Tryz.prog W0 72 #[bv, Val.i at_] st fun e st' => e = .returned (z2s (z2a b at_)) ∧ st' = st := by
 refine enter (args := [_, _]) Tryz.func72 rfl ?_
 simp [Tryz.f72, go_sem]
 refine (z4z h hl).mono ?_
 rintro e st' ⟨rfl, rfl⟩
 unfold z2a
 cases hg : vgetM b at_ with
 | none =>
  have w0 : IntKind.i64.wrap 0 = 0 := by decide
  have a0 : bits .and .u64 0 1 = 0 := by decide
  have f0 : Int.fdiv 0 2 = 0 := by decide
  have x0 : bits .xor .i64 0 0 = 0 := by decide
  simp [go_sem, vgetV, z2s, w0, a0, f0, x0]
 | some r =>
  obtain ⟨u, a⟩ := r
  have hb := z21 hg
  simp only at hb
  have hfd : ((u : Int).fdiv 2) = ((u / 2 : Nat) : Int) := by rw [Int.fdiv_eq_ediv_of_nonneg _ (by omega)]; omega
  have hand : bits .and .u64 (u : Int) 1 = ((u % 2 : Nat) : Int) := by rw [zi7 _ (by omega) (by omega)]; omega
  have hz := zew u hb.1
  simp only [Int.zero_sub] at hz
  generalize hA : ((u / 2 : Nat) : Int) = A at *
  generalize hB : ((u % 2 : Nat) : Int) = B at *
  simp [go_sem, vgetV, z2s, hfd, hand, hz]
theorem vPutText_spec {bv : Value} {b : Bs} {g0 : Tg} (g : Tg) {s : ByteArray} (h : Reg st g0 1 bv (bytesV b) b.length) (hs : s.size < 2 ^ 40) (hl : b.length < 2 ^ 40) :
  z00 Tryz.prog W0 147 #[bv, .string s] st fun e st' => ∃ v, e = .returned v ∧ Vec st' g 1 v (bytesV (b ++ (vputM s.size ++ s.data.toList))) (b ++ (vputM s.size ++ s.data.toList)).length ∧ Fresh st v ∧ New st st' := by
 refine enter (args := [_, _]) Tryz.func147 rfl ?_
 have hw : IntKind.u64.wrap (s.size : Int) = s.size := z0c _ (by omega) (by omega)
 have hne : (40 : Nat) ≠ 9 := by decide
 simp [Tryz.f147, go_sem, hw]
 refine (z3r g h (show s.size < 2 ^ 64 by omega) hl).mono ?_
 rintro e st1 ⟨v, rfl, hv, hf, hk⟩
 have hpl := z14 s.size (by omega)
 simp [go_sem]
 rw [zbz _ _ _ _ hne Tryz.underlying9]
 rw [si40]
 have hss : s.data.toList.length = s.size := by simp
 refine AppI_new (m := s.size) (ys := bytesV s.data.toList) si40 hv hf hk (by simp [z06, bytesV]) (z20 _) (by rw [List.length_append]; omega) ?_
 intro nb nc st2 hv2 hf2 hk2 _
 simp [go_sem]
 refine ⟨?_, ?_, hk2⟩
 ·have e1 : (b ++ vputM s.size).length + s.size = b.length + ((vputM s.size).length + s.size) := by simp; omega
  simp only [z52, List.append_assoc] at hv2 ⊢
  simpa [Nat.add_assoc] using hv2
 ·simpa using hf2
theorem zeg {bv : Value} {b : Bs} {g0 : Tg} {at_ most : Int} (h : Reg st g0 1 bv (bytesV b) b.length) (hl : b.length < 2 ^ 60) (hm : most < 2 ^ 63) :
  z00 Tryz.prog W0 211 #[bv, Val.i at_, Val.i most] st fun e st' => e = .returned (z3l (z31 b at_ most)) ∧ st' = st := by
 obtain ⟨base, cap, rfl⟩ := h.slice
 refine enter (args := [_, _, _]) Tryz.func211 rfl ?_
 simp [Tryz.f211, go_sem]
 refine (z4z h hl).mono ?_
 rintro e st' ⟨rfl, rfl⟩
 unfold z31
 cases hg : vgetM b at_ with
 | none =>
  have q : (false = true) = False := by simp
  simp (config := {maxSteps := 1000000}) [go_sem, vgetV, z3l]
 | some r =>
  obtain ⟨n, a⟩ := r
  have hb := z21 hg
  simp only at hb
  by_cases h1 : most < 0
  ·simp [go_sem, vgetV, z3l, h1]
  ·have hwm : IntKind.u64.wrap most = most := z0c _ (by omega) (by omega)
   by_cases h2 : most < n
   ·simp [go_sem, vgetV, z3l, h1, hwm, h2]
   ·have hwl : IntKind.i64.wrap ((b.length : Int) - a) = (b.length : Int) - a := z03 (by omega) (by omega)
    have hwl2 : IntKind.u64.wrap ((b.length : Int) - a) = (b.length : Int) - a := z0c _ (by omega) (by omega)
    by_cases h3 : b.length - a < n
    ·have h3' : (b.length : Int) - a < n := by omega
     simp [go_sem, vgetV, z3l, h1, hwm, h2, hwl, hwl2, h3, h3']
    ·have h3' : ¬ (b.length : Int) - a < n := by omega
     have hwn : IntKind.i64.wrap (n : Int) = n := z03 (by omega) (by omega)
     have hwe : IntKind.i64.wrap ((a : Int) + n) = ((a + n : Nat) : Int) := by rw [z03 (by omega) (by omega)]; omega
     have hcap := h.cap
     have c1 : a + n ≤ cap := by omega
     have c2 : a ≤ a + n := by omega
     have htx : z2k st' (.slice (if cap = a then base else base.map (·.add a)) n (cap - a)) = some ⟨((b.drop a).take n).toArray⟩ := by
      refine z5x (g := g0) ?_
      obtain ⟨hl1, base', cap', hv, hc, hr⟩ := h
      injection hv with q1 q2 q3; subst q1; subst q3
      refine ⟨by simp [bytesV]; omega, _, _, rfl, by omega, ?_⟩
      by_cases hn0 : n = 0
      ·exact .inl hn0
      ·rcases hr with hr | ⟨blk, off, rw_, ys, m, rfl, hs, hp, hoff⟩
       ·omega
       ·right
        rw [if_neg (by omega)]
        refine ⟨blk, off + a, rw_, ys, m, by simp [z39], hs, ?_, ?_⟩
        ·obtain ⟨t, ht⟩ := hp
         rw [show bytesV ((b.drop a).take n) = ((bytesV b).drop a).take n by simp [bytesV, List.map_take, List.map_drop], ← List.drop_drop, ← ht]
         rw [List.drop_append_of_le_length (by rw [z6h]; omega)]
         exact (List.take_prefix _ _).trans (List.prefix_append _ _)
        ·obtain ⟨t, ht⟩ := hp
         have := congrArg List.length ht
         simp [bytesV] at this
         omega
     have e1 : a + n - a = n := by omega
     have b0 : (0 : Int) ≤ (a : Int) + n := by omega
     have b1 : ((a : Int) + n).toNat = a + n := by omega
     simp [go_sem, vgetV, z3l, h1, hwm, h2, hwl, hwl2, h3, h3', hwn, hwe, c1, b0, b1, htx]
end
theorem z5q {a b : Nat} (ha : a < 2 ^ 32) (hb : b < 2 ^ 32) : a ^^^ b < 2 ^ 32 := Nat.xor_lt_two_pow ha hb
theorem z5c (a b : Nat) (ha : a < 2 ^ 32) (hb : b < 2 ^ 32) : bits .xor .u32 (a : Int) (b : Int) = ((a ^^^ b : Nat) : Int) := by
 have h1 : (BitVec.ofNat 32 a ^^^ BitVec.ofNat 32 b).toNat = a ^^^ b := by
  rw [BitVec.toNat_xor, BitVec.toNat_ofNat, BitVec.toNat_ofNat, Nat.mod_eq_of_lt ha, Nat.mod_eq_of_lt hb]
 unfold bits
 simp only [BitVec.ofInt_natCast]
 show IntKind.u32.wrap ((BitVec.ofNat 32 a ^^^ BitVec.ofNat 32 b).toNat : Int) = _
 rw [h1]
 have := z5q ha hb
 exact z2g _ (by omega) (by omega)
theorem zjl (a : Nat) (h : a < 2 ^ 32) : bits .and .u32 (a : Int) 15 = ((a % 16 : Nat) : Int) := by
 have := bits_mask .u32 32 (by decide) z2g 4 (by decide) (a : Int) (by omega) (by omega)
 simpa using this
def z2c : List Nat := [0, 274646895, 549293790, 820201905, 1098587580, 1361435347, 1640403810, 1905808397, 2197175160, 2460548119, 2722870694, 2987750089, 3280807620, 3553878443, 3811616794, 4084100981]
def z3o (r : Nat) : Nat := (r / 16) ^^^ z2c.getD (r % 16) 0
def zaq : Nat → Nat → Nat
 | 0, q => q
 | m + 1, q => zaq m (z3o q)
def z2p (r : Nat) (x : UInt8) : Nat := z3o (z3o (r ^^^ x.toNat))
def crcM (b : Bs) : Nat := b.foldl z2p 4294967295 ^^^ 4294967295
theorem zer (r : Nat) (h : r < 2 ^ 32) (m : Int) (hm : m = ((4294967295 : Nat) : Int)) : bits .xor .u32 m (r : Int) = ((4294967295 ^^^ r : Nat) : Int) := by
 subst hm
 exact z5c 4294967295 r (by decide) h
theorem zc0 (i : Nat) : z2c.getD i 0 < 2 ^ 32 := by
 by_cases h : i < 16
 ·have : ∀ j : Fin 16, z2c.getD j.val 0 < 2 ^ 32 := by decide
  exact this ⟨i, h⟩
 ·have : z2c.getD i 0 = 0 := by
   rw [List.getD_eq_getElem?_getD, List.getElem?_eq_none (by simp [z2c]; omega)]; rfl
  rw [this]; decide
theorem z8y {r : Nat} (h : r < 2 ^ 32) : z3o r < 2 ^ 32 := z5q (by omega) (zc0 _)
theorem zf4 {r : Nat} (h : r < 2 ^ 32) (x : UInt8) : z2p r x < 2 ^ 32 := z8y (z8y (z5q h (by have := x.toNat_lt; omega)))
theorem crc_lt : ∀ (b : Bs) (r : Nat), r < 2 ^ 32 → b.foldl z2p r < 2 ^ 32
 | [], r, h => h
 | x :: b, r, h => crc_lt b _ (zf4 h x)
theorem z6r (b : Bs) : crcM b < 2 ^ 32 := z5q (crc_lt b _ (by decide)) (by decide)
section
variable {W0 : World} {st : Heap}
theorem ze0 {bv : Value} {b : Bs} {g0 : Tg} (h : Reg st g0 1 bv (bytesV b) b.length) (hl : b.length < 2 ^ 60) :
  z00 Tryz.prog W0 247 #[.int .u32 0, bv] st fun e st' => e = .returned (.int .u32 (crcM b)) ∧ New st st' := by
 obtain ⟨base, cap, rfl⟩ := h.slice
 refine enter (args := [_, _]) Tryz.func247 rfl ?_
 have hx0 : bits .xor .u32 4294967295 0 = 4294967295 := by decide
 have hmax : IntKind.u32.max = 4294967295 := by decide
 have hsg : IntKind.u32.signed = false := by decide
 simp [Tryz.f247, go_sem, hmax, hsg, hx0]
 unfold NewP
 intro tb htb
 refine ⟨.ty 0, ?_⟩
 simp [go_sem, hmax, hsg, hx0]
 have k1 : ∀ o, New st (upd st tb o) := fun o => (New.refl _).add htb
 refine ⟨fun E st' => New st st' ∧ st' tb = some (.cells true (z2c.map fun n : Nat => Value.int .u32 (n : Int)) 16 (.ty 0)) ∧ E 5 = ptr tb ∧ E 12 = .slice base b.length cap ∧ E 13 = Val.i b.length ∧ ∃ (i r : Nat), E 14 = Val.i i ∧ E 6 = .int .u32 r ∧ i ≤ b.length ∧ r < 2 ^ 32 ∧ (b.drop i).foldl z2p r = b.foldl z2p 4294967295,
  fun E _ => match E 14 with | .int _ i => b.length - i.toNat | _ => 0, ⟨_, .rfl' _, k1 _, by rw [upd_same]; rfl, by simp [go_sem], by simp [go_sem], by simp [go_sem], 0, 4294967295, by simp [go_sem], by simp [go_sem], by omega, by decide, by simp⟩, ?_⟩
 rintro E st' ⟨hk, ht, e5, e12, e13, i, r, e14, e6, hi, hr, hrec⟩
 by_cases hlt : i < b.length
 ·obtain ⟨x, hx⟩ : ∃ x, b[i]? = some x := ⟨_, List.getElem?_eq_getElem hlt⟩
  obtain ⟨blk, off, rfl, hg⟩ := z0h (h.new hk).src (by omega)
  have hg := hg i (by omega)
  have hgx : (bytesV b)[i]? = some (.int .u8 x.toNat) := by simp [bytesV, hx]
  rw [hgx] at hg
  have hx8 := x.toNat_lt
  have hdrop : b.drop i = x :: b.drop (i + 1) := by
   rw [List.drop_eq_getElem_cons hlt]
   congr 1
   rw [List.getElem?_eq_getElem hlt] at hx
   injection hx
  rw [hdrop] at hrec
  simp only [List.foldl_cons] at hrec
  have hwx : IntKind.u32.wrap (x.toNat : Int) = x.toNat := z2g _ (by omega) (by omega)
  have hxr := z5c r x.toNat hr (by omega)
  have hwi := wrS i (by omega)
  simp [go_sem, e5, e12, e13, e14, e6, hlt, hg, hwx, hxr]
  refine ⟨fun E st' => New st st' ∧ st' tb = some (.cells true (z2c.map fun n : Nat => Value.int .u32 (n : Int)) 16 (.ty 0)) ∧ E 5 = ptr tb ∧ E 12 = .slice (some ⟨blk, off, none⟩) b.length cap ∧ E 13 = Val.i b.length ∧ E 14 = Val.i i ∧ ∃ (k q : Nat), E 22 = Val.i k ∧ E 6 = .int .u32 q ∧ k ≤ 2 ∧ q < 2 ^ 32 ∧ zaq (2 - k) q = z2p r x,
   fun E _ => match E 22 with | .int _ k => 2 - k.toNat | _ => 0, ⟨st', .rfl' _, hk, ht, by simp [go_sem, e5], by simp [go_sem, e12], by simp [go_sem, e13], by simp [go_sem, e14], 0, r ^^^ x.toNat, by simp [go_sem], by simp [go_sem], by omega, z5q hr (by omega), rfl⟩, ?_⟩
  clear e5 e12 e13 e14 e6 hk ht
  rintro E st2 ⟨hk, ht, e5, e12, e13, e14, k, q, e22, e6, hk2, hq, hrep⟩
  by_cases hk3 : k < 2
  ·have hk3' : (k : Int) < 2 := by omega
   obtain ⟨m, hm⟩ : ∃ m, 2 - k = m + 1 := ⟨1 - k, by omega⟩
   rw [hm] at hrep
   have hfd : ((q : Int).fdiv 16) = ((q / 16 : Nat) : Int) := by rw [Int.fdiv_eq_ediv_of_nonneg _ (by omega)]; omega
   have hand := zjl q hq
   have hwk := wrS k (by omega)
   have htab : z2c[q % 16]? = some (z2c.getD (q % 16) 0) := by
    rw [List.getD_eq_getElem?_getD, List.getElem?_eq_getElem (by simp [z2c]; omega)]; rfl
   have hxor := z5c (q / 16) (z2c.getD (q % 16) 0) (by omega) (zc0 _)
   generalize hT : z2c.getD (q % 16) 0 = T at *
   generalize hA : q / 16 = A at *
   have hB : q % 16 < 16 := Nat.mod_lt _ (by decide)
   generalize hBB : q % 16 = B at *
   have hB' : (B : Int) < 16 := by omega
   have hnib : z3o q = A ^^^ T := by unfold z3o; rw [hA, hBB, hT]
   simp [go_sem, e5, e12, e13, e14, e6, e22, hk3', hfd, hand, hwk, htab, hxor, ht, hB']
   refine ⟨st2, .rfl' _, ⟨hk, ht, k + 1, by omega, A ^^^ T, by omega, by omega, by rw [← hnib]; exact z8y hq, ?_⟩, by omega⟩
   rw [← hrep, show 2 - (k + 1) = m by omega, ← hnib]
   rfl
  ·have : k = 2 := by omega
   subst this
   simp [go_sem, e5, e12, e13, e14, e6, e22, hwi]
   refine ⟨st2, .rfl' _, ⟨hk, ht, i + 1, by omega, q, by omega, by omega, by omega, ?_⟩, by omega⟩
   rw [← hrec, ← hrep]
   rfl
 ·have : i = b.length := by omega
  subst this
  have hxe : bits .xor .u32 4294967295 (r : Int) = ((4294967295 ^^^ r : Nat) : Int) := zer r hr _ rfl
  simp at hrec
  simp [go_sem, e5, e12, e13, e14, e6, hlt, hmax, hsg, hxe]
  refine ⟨?_, hk⟩
  unfold crcM
  rw [← hrec, Nat.xor_comm]
end
end Go.Proofs.YtahgfnbkkfpcnaaGreat
