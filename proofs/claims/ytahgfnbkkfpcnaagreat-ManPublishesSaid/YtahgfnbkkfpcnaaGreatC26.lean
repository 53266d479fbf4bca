/- Frames. -/
import Derived.Test.YtahgfnbkkfpcnaaGreatC25
import Derived.Test.YtahgfnbkkfpcnaaGreatC24
import Derived.Test.YtahgfnbkkfpcnaaGreatC21
import Derived.Test.YtahgfnbkkfpcnaaGreatC09
set_option linter.unusedVariables false
set_option linter.unusedSimpArgs false
set_option maxRecDepth 100000
set_option maxHeartbeats 1000000
namespace Go.Proofs.YtahgfnbkkfpcnaaGreat
open Go.RowKit (Below)
def le4 (c : Nat) : Bs := [UInt8.ofNat (c % 256), UInt8.ofNat (c / 256 % 256), UInt8.ofNat (c / 65536 % 256), UInt8.ofNat (c / 16777216 % 256)]
def le4R : Bs → Nat
 | [x, y, z, w] => x.toNat + 256 * y.toNat + 65536 * z.toNat + 16777216 * w.toNat
 | _ => 0
def z0d (body : Bs) : Bs := vputM body.length ++ (le4 (crcM body) ++ body)
def z18 (b : Bs) (at_ : Int) : Except Int (Bs × Nat) :=
 if at_ < 0 ∨ b.length < at_ then .error 1
 else if at_ = b.length then .error 3
 else match vgetM b at_ with
  | none => .error 4
  | some (n, a) => if n < 1 ∨ 1048576 < n ∨ b.length - a < n + 4 then .error 4
   else if crcM ((b.drop (a + 4)).take n) ≠ le4R ((b.drop a).take 4) then .error 4 else .ok ((b.drop (a + 4)).take n, a + 4 + n)
theorem z89 (i : Nat) (x y : Int) (hx₀ : 0 ≤ x) (hx : x < 2 ^ i) (hy₀ : 0 ≤ y) (hy : y % 2 ^ i = 0) (hx₁ : x < 2 ^ 32) (hy₁ : y < 2 ^ 32) : bits .or .u32 x y = x + y := by
 have h := bits_join .u32 32 (by decide) z2g i y x hy₀ hy hy₁ hx₀ hx hx₁
 have hc : bits .or .u32 x y = bits .or .u32 y x := by
  unfold bits
  simp only [BitVec.or_comm]
 rw [hc, h]; omega
theorem Reg.drop {st : Heap} {g : Tg} {len k cap : Nat} {base : Option Addr} {xs : List Value} (h : Reg st g 1 (.slice base len cap) xs len) (hk : k ≤ len) :
  Reg st g 1 (.slice (if cap = k then base else base.map (·.add k)) (len - k) (cap - k)) (xs.drop k) (len - k) := by
 obtain ⟨hl1, base', cap', hv, hc, hr⟩ := h
 injection hv with q1 q2 q3; subst q1; subst q3
 refine ⟨by simp; omega, _, _, rfl, by omega, ?_⟩
 by_cases hn0 : len - k = 0
 ·exact .inl hn0
 ·rcases hr with hr | ⟨blk, off, rw_, ys, m, rfl, hs, hp, hoff⟩
  ·omega
  ·right
   rw [if_neg (by omega)]
   obtain ⟨t, ht⟩ := hp
   refine ⟨blk, off + k, rw_, ys, m, by simp [z39], hs, ?_, ?_⟩
   ·rw [← List.drop_drop, ← ht, List.drop_append_of_le_length (by omega)]
    exact List.prefix_append _ _
   ·have := congrArg List.length ht
    simp at this
    omega
section
variable {W0 : World} {st : Heap}
theorem sumOf_spec {bv : Value} {b : Bs} {g0 : Tg} (h : Reg st g0 1 bv (bytesV b) b.length) (hl : b.length < 2 ^ 60) :
  z00 Tryz.prog W0 195 #[bv] st fun e st' => e = .returned (.int .u32 (crcM b)) ∧ New st st' := by
 refine enter (args := [_]) Tryz.func195 rfl ?_
 simp [Tryz.f195, go_sem]
 refine (ze0 h hl).mono ?_
 rintro e st1 ⟨rfl, hk⟩
 simp [go_sem]
 exact hk
def zgf (st : Heap) (g : Tg) (bv : Value) (b body : Bs) (e : Ending) (st' : Heap) : Prop := New st st' ∧ if body.length < 1 ∨ 1048576 < body.length then e = .returned (.tuple #[bv, Val.i 1])
   else ∃ v, e = .returned (.tuple #[v, Val.i 0]) ∧ Vec st' g 1 v (bytesV (b ++ z0d body)) (b ++ z0d body).length ∧ Fresh st v
def zdm (st : Heap) (g : Tg) (r : Except Int (Bs × Nat)) (e : Ending) (st' : Heap) : Prop := New st st' ∧ match r with
   | .error k => e = .returned (.tuple #[.slice none 0 0, Val.i 0, Val.i k])
   | .ok (body, end_) => ∃ v, e = .returned (.tuple #[v, Val.i end_, Val.i 0]) ∧ Vec st' g 1 v (bytesV body) body.length
theorem zh6 {bv yv : Value} {b body : Bs} {g0 g1 : Tg} (g : Tg) (h : Reg st g0 1 bv (bytesV b) b.length) (hy : Reg st g1 1 yv (bytesV body) body.length) (hl : b.length < 2 ^ 39) (hly : body.length < 2 ^ 60) :
  z00 Tryz.prog W0 126 #[bv, yv] st (zgf st g bv b body) := by
 obtain ⟨ybase, ycap, rfl⟩ := hy.slice
 refine enter (args := [_, _]) Tryz.func126 rfl ?_
 by_cases h1 : body.length < 1
 ·have h1' : ((body.length : Int) < 1) = True := eq_true (by omega)
  simp [Tryz.f126, go_sem, h1']
  exact ⟨New.refl _, by rw [if_pos (.inl h1)]⟩
 by_cases h2 : 1048576 < body.length
 ·have h1' : ((body.length : Int) < 1) = False := eq_false (by omega)
  have h2' : ((1048576 : Int) < body.length) = True := eq_true (by omega)
  simp [Tryz.f126, go_sem, h1', h2']
  exact ⟨New.refl _, by rw [if_pos (.inr h2)]⟩
 have h1' : ((body.length : Int) < 1) = False := eq_false (by omega)
 have h2' : ((1048576 : Int) < body.length) = False := eq_false (by omega)
 have hw : IntKind.u64.wrap (body.length : Int) = body.length := z0c _ (by omega) (by omega)
 have hc := z6r body
 simp [Tryz.f126, go_sem, h1', h2']
 refine (sumOf_spec hy hly).mono ?_
 rintro e st1 ⟨rfl, hk1⟩
 generalize hcc : crcM body = c at *
 simp [go_sem, hw]
 refine (z3r g (h.new hk1) (show body.length < 2 ^ 64 by omega) (by omega)).mono ?_
 rintro e st2 ⟨v, rfl, hv, hf, hk2⟩
 rw [List.length_append] at hv
 have hpl := z14 body.length (by omega)
 have w0 : IntKind.u8.wrap (c : Int) = ((UInt8.ofNat (c % 256)).toNat : Int) := by rw [z24 _ (by omega), IntKind.wrap_u8]; omega
 have f1 : IntKind.u8.wrap ((c : Int).fdiv 256) = ((UInt8.ofNat (c / 256 % 256)).toNat : Int) := by rw [z24 _ (by omega), IntKind.wrap_u8, Int.fdiv_eq_ediv_of_nonneg _ (by omega)]; omega
 have f2 : IntKind.u8.wrap ((c : Int).fdiv 65536) = ((UInt8.ofNat (c / 65536 % 256)).toNat : Int) := by rw [z24 _ (by omega), IntKind.wrap_u8, Int.fdiv_eq_ediv_of_nonneg _ (by omega)]; omega
 have f3 : IntKind.u8.wrap ((c : Int).fdiv 16777216) = ((UInt8.ofNat (c / 16777216 % 256)).toNat : Int) := by rw [z24 _ (by omega), IntKind.wrap_u8, Int.fdiv_eq_ediv_of_nonneg _ (by omega)]; omega
 generalize hB0 : UInt8.ofNat (c % 256) = B0 at *
 generalize hB1 : UInt8.ofNat (c / 256 % 256) = B1 at *
 generalize hB2 : UInt8.ofNat (c / 65536 % 256) = B2 at *
 generalize hB3 : UInt8.ofNat (c / 16777216 % 256) = B3 at *
 have hle : le4 c = [B0, B1, B2, B3] := by unfold le4; rw [hB0, hB1, hB2, hB3]
 simp [go_sem, w0, f1, f2, f3]
 unfold NewS
 intro b3 hb3
 refine ⟨.ty 0, ?_⟩
 simp [go_sem]
 have k3 : New st2 (upd st2 b3 (.cells true [.int .u8 B0.toNat, .int .u8 B1.toNat, .int .u8 B2.toNat, .int .u8 B3.toNat] 4 (.ty 0))) := (New.refl _).add hb3
 have hk12 := hk1.trans hk2
 have hf' : Fresh st v := fun b off n c e => hk1.none (hf b off n c e)
 refine AppI_new (m := 4) (ys := bytesV (le4 c)) si40 (hv.new' k3) hf' (hk12.trans k3) ?_ (z20 _) (by omega) ?_
 ·rw [hle]; simp [z06, z0i, upd_same, cellsOf, bytesV]
 intro nb nc st4 hv4 hf4 hk4 _
 simp [go_sem]
 refine AppI_new (m := body.length) (ys := bytesV body) si40 hv4 hf4 hk4 (hy.new hk4).src (z20 _) (by omega) ?_
 intro nb2 nc2 st5 hv5 hf5 hk5 _
 simp [go_sem]
 refine ⟨hk5, ?_⟩
 rw [if_neg (by omega)]
 refine ⟨_, rfl, ?_, ?_⟩
 ·have : z0d body = vputM body.length ++ (le4 c ++ body) := by unfold z0d; rw [hcc]
  rw [this]
  have hl4 : (le4 c).length = 4 := by rw [hle]; rfl
  have e1 : (b ++ (vputM body.length ++ (le4 c ++ body))).length = b.length + (vputM body.length).length + 4 + body.length := by simp [hl4]; omega
  have e2 : bytesV (b ++ (vputM body.length ++ (le4 c ++ body))) = bytesV (b ++ vputM body.length) ++ bytesV (le4 c) ++ bytesV body := by simp [z52]
  rw [e1, e2]
  simpa using hv5
 ·simpa using hf5
theorem zhi {bv : Value} {b : Bs} {g0 : Tg} (g : Tg) {at_ : Int} (h : Reg st g0 1 bv (bytesV b) b.length) (hl : b.length < 2 ^ 40) :
  z00 Tryz.prog W0 174 #[bv, Val.i at_] st (zdm st g (z18 b at_)) := by
 obtain ⟨base, cap, rfl⟩ := h.slice
 have hcap := h.cap
 refine enter (args := [_, _]) Tryz.func174 rfl ?_
 generalize hres : z18 b at_ = res
 unfold z18 at hres
 by_cases h1 : at_ < 0
 ·rw [if_pos (.inl h1)] at hres
  subst hres
  have q1 : (at_ < 0) = True := eq_true h1
  simp [Tryz.f174, go_sem, q1]
  exact ⟨New.refl _, rfl⟩
 by_cases h2 : (b.length : Int) < at_
 ·rw [if_pos (.inr h2)] at hres
  subst hres
  have q1 : (at_ < 0) = False := eq_false h1
  have q2 : ((b.length : Int) < at_) = True := eq_true h2
  simp [Tryz.f174, go_sem, q1, q2]
  exact ⟨New.refl _, rfl⟩
 rw [if_neg (by omega)] at hres
 have q1 : (at_ < 0) = False := eq_false h1
 have q2 : ((b.length : Int) < at_) = False := eq_false h2
 by_cases h3 : at_ = b.length
 ·rw [if_pos h3] at hres
  subst hres
  subst h3
  simp [Tryz.f174, go_sem, q1]
  exact ⟨New.refl _, rfl⟩
 rw [if_neg h3] at hres
 have q3 : (at_ = (b.length : Int)) = False := eq_false h3
 simp [Tryz.f174, go_sem, q1, q2, q3]
 refine (z4z h (by omega)).mono ?_
 rintro e st1 ⟨rfl, rfl⟩
 cases hg : vgetM b at_ with
 | none =>
  rw [hg] at hres
  subst hres
  simp [go_sem, vgetV]
  exact ⟨New.refl _, rfl⟩
 | some r =>
  obtain ⟨n, a⟩ := r
  have hb := z21 hg
  simp only at hb
  rw [hg] at hres
  simp only at hres
  have hw1 : IntKind.i64.wrap ((b.length : Int) - a) = (b.length : Int) - a := z03 (by omega) (by omega)
  have hw2 : IntKind.u64.wrap ((b.length : Int) - a) = (b.length : Int) - a := z0c _ (by omega) (by omega)
  by_cases hn1 : n < 1
  ·have p1 : ((n : Int) < 1) = True := eq_true (by omega)
   rw [if_pos (.inl hn1)] at hres
   subst hres
   simp [go_sem, vgetV, p1]
   exact ⟨New.refl _, rfl⟩
  have p1 : ((n : Int) < 1) = False := eq_false (by omega)
  by_cases hn2 : 1048576 < n
  ·have p2 : ((1048576 : Int) < n) = True := eq_true (by omega)
   rw [if_pos (.inr (.inl hn2))] at hres
   subst hres
   simp [go_sem, vgetV, p1, p2]
   exact ⟨New.refl _, rfl⟩
  have p2 : ((1048576 : Int) < n) = False := eq_false (by omega)
  have hwn : IntKind.u64.wrap ((n : Int) + 4) = (n : Int) + 4 := z0c _ (by omega) (by omega)
  by_cases hn3 : b.length - a < n + 4
  ·have p3 : ((b.length : Int) - a < (n : Int) + 4) = True := eq_true (by omega)
   rw [if_pos (.inr (.inr hn3))] at hres
   subst hres
   simp [go_sem, vgetV, p1, p2, hw1, hw2, hwn, p3]
   exact ⟨New.refl _, rfl⟩
  have p3 : ((b.length : Int) - a < (n : Int) + 4) = False := eq_false (by omega)
  rw [if_neg (by omega)] at hres
  obtain ⟨blk, off, rfl, hat⟩ := z0h h.src (by omega)
  have byte : ∀ k, a + k < b.length → ∃ x : UInt8, b[a + k]? = some x ∧ (cellsOf (st1 blk))[off + (a + k)]? = some (.int .u8 x.toNat) := fun k hk => by
   have h1 := hat (a + k) (by omega)
   have h2 : b[a + k]? = some b[a + k] := List.getElem?_eq_getElem hk
   refine ⟨_, h2, ?_⟩
   rw [h1]
   simp [bytesV, h2]
  obtain ⟨x0, hx0, hc0⟩ := byte 0 (by omega)
  obtain ⟨x1, hx1, hc1⟩ := byte 1 (by omega)
  obtain ⟨x2, hx2, hc2⟩ := byte 2 (by omega)
  obtain ⟨x3, hx3, hc3⟩ := byte 3 (by omega)
  have ht4 : (b.drop a).take 4 = [x0, x1, x2, x3] := by
   apply List.ext_getElem?
   intro i
   rw [List.getElem?_take, List.getElem?_drop]
   match i with
   | 0 => simpa using hx0
   | 1 => simpa using hx1
   | 2 => simpa using hx2
   | 3 => simpa using hx3
   | i + 4 => rw [if_neg (by omega)]; rfl
  rw [ht4] at hres
  have l0 := x0.toNat_lt
  have l1 := x1.toNat_lt
  have l2 := x2.toNat_lt
  have l3 := x3.toNat_lt
  have a1 := wrS a (by omega)
  have a2 : IntKind.i64.wrap ((a : Int) + 2) = ((a + 2 : Nat) : Int) := by rw [z03 (by omega) (by omega)]; omega
  have a3 : IntKind.i64.wrap ((a : Int) + 3) = ((a + 3 : Nat) : Int) := by rw [z03 (by omega) (by omega)]; omega
  have a4 : IntKind.i64.wrap ((a : Int) + 4) = ((a + 4 : Nat) : Int) := by rw [z03 (by omega) (by omega)]; omega
  obtain ⟨S, hS⟩ : ∃ S, le4R [x0, x1, x2, x3] = S := ⟨_, rfl⟩
  rw [hS] at hres
  simp only [le4R] at hS
  obtain ⟨y0, hy0⟩ : ∃ y, x0.toNat = y := ⟨_, rfl⟩
  obtain ⟨y1, hy1⟩ : ∃ y, x1.toNat = y := ⟨_, rfl⟩
  obtain ⟨y2, hy2⟩ : ∃ y, x2.toNat = y := ⟨_, rfl⟩
  obtain ⟨y3, hy3⟩ : ∃ y, x3.toNat = y := ⟨_, rfl⟩
  rw [hy0, hy1, hy2, hy3] at hS
  rw [hy0] at hc0 l0
  rw [hy1] at hc1 l1
  rw [hy2] at hc2 l2
  rw [hy3] at hc3 l3
  have u0 : IntKind.u32.wrap (y0 : Int) = y0 := z2g _ (by omega) (by omega)
  have u1 : IntKind.u32.wrap (y1 : Int) = y1 := z2g _ (by omega) (by omega)
  have u2 : IntKind.u32.wrap (y2 : Int) = y2 := z2g _ (by omega) (by omega)
  have u3 : IntKind.u32.wrap (y3 : Int) = y3 := z2g _ (by omega) (by omega)
  have v1 : IntKind.u32.wrap ((y1 : Int) * 256) = (y1 : Int) * 256 := z2g _ (by omega) (by omega)
  have v2 : IntKind.u32.wrap ((y2 : Int) * 65536) = (y2 : Int) * 65536 := z2g _ (by omega) (by omega)
  have v3 : IntKind.u32.wrap ((y3 : Int) * 16777216) = (y3 : Int) * 16777216 := z2g _ (by omega) (by omega)
  have o1 : bits .or .u32 (y0 : Int) ((y1 : Int) * 256) = (y0 : Int) + (y1 : Int) * 256 := z89 8 _ _ (by omega) (by omega) (by omega) (by omega) (by omega) (by omega)
  have o2 : bits .or .u32 ((y0 : Int) + (y1 : Int) * 256) ((y2 : Int) * 65536) = (y0 : Int) + (y1 : Int) * 256 + (y2 : Int) * 65536 := z89 16 _ _ (by omega) (by omega) (by omega) (by omega) (by omega) (by omega)
  have o3 : bits .or .u32 ((y0 : Int) + (y1 : Int) * 256 + (y2 : Int) * 65536) ((y3 : Int) * 16777216) = (y0 : Int) + (y1 : Int) * 256 + (y2 : Int) * 65536 + (y3 : Int) * 16777216 := z89 24 _ _ (by omega) (by omega) (by omega) (by omega) (by omega) (by omega)
  have hwi : IntKind.i64.wrap (n : Int) = n := z03 (by omega) (by omega)
  have hwe : IntKind.i64.wrap ((a : Int) + 4 + n) = (a : Int) + 4 + n := z03 (by omega) (by omega)
  simp [go_sem, vgetV, p1, p2, hw1, hw2, hwn, p3]
  refine draw [0, 1, 2, 5, 6, 7, 8, 13, 14, 15, 16, 21, 22, 23, 24, 3, 4, 9, 10, 11, 12, 17, 18, 19, 20, 25, 26, 27, 28, 29] (by kernel_rfl) ?_
  have b0 : a < b.length := by omega
  have b1 : a + 1 < b.length := by omega
  have b2 : a + 2 < b.length := by omega
  have b3 : a + 3 < b.length := by omega
  have c0 : (0 : Int) ≤ (a : Int) + 1 := by omega
  have c1 : (a : Int) + 1 < b.length := by omega
  have c2 : ((a : Int) + 1).toNat = a + 1 := by omega
  have c3 : (0 : Int) ≤ (a : Int) + 2 := by omega
  have c4 : (a : Int) + 2 < b.length := by omega
  have c5 : ((a : Int) + 2).toNat = a + 2 := by omega
  have c6 : (0 : Int) ≤ (a : Int) + 3 := by omega
  have c7 : (a : Int) + 3 < b.length := by omega
  have c8 : ((a : Int) + 3).toNat = a + 3 := by omega
  have c9 : (0 : Int) ≤ (a : Int) + 4 := by omega
  have c10 : ((a : Int) + 4).toNat = a + 4 := by omega
  have c11 : (0 : Int) ≤ (a : Int) + 4 + n := by omega
  have c12 : ((a : Int) + 4 + n).toNat = a + 4 + n := by omega
  simp at hc0
  simp [go_sem, a1, a2, a3, a4, b0, b1, b2, b3, c0, c1, c2, c3, c4, c5, c6, c7, c8, c9, c10, c11, c12, hc0, hc1, hc2, hc3, u0, u1, u2, u3, v1, v2, v3, o1, o2, o3, hwi, hwe]
  refine ⟨by omega, ?_⟩
  have hbody : ((b.drop (a + 4)).take n).length = n := by simp; omega
  obtain ⟨body, hbd⟩ : ∃ body, (b.drop (a + 4)).take n = body := ⟨_, rfl⟩
  rw [hbd] at hres hbody
  have hsrc := ((h.drop (k := a + 4) (by omega)).take (m := n) (by omega)).src
  have hbv : ((bytesV b).drop (a + 4)).take n = bytesV body := by rw [← hbd]; simp [bytesV, List.map_take, List.map_drop]
  rw [hbv] at hsrc
  simp only [Option.map_some, z39] at hsrc
  refine z2q g si40 (m := n) (ys := bytesV body) hsrc (by omega) ?_
  intro nb nc st4 hv4 hf4 hk4
  simp [go_sem]
  rw [← hbody] at hv4 ⊢
  refine (sumOf_spec hv4.reg (by omega)).mono ?_
  rintro e st5 ⟨rfl, hk5⟩
  have hSi : ((y0 : Int) + (y1 : Int) * 256 + (y2 : Int) * 65536 + (y3 : Int) * 16777216) = ((S : Nat) : Int) := by rw [← hS]; omega
  rw [hSi]
  by_cases hcrc : crcM body = S
  ·rw [if_neg (by simpa using hcrc)] at hres
   subst hres
   have q : ((crcM body : Int) = (S : Int)) = True := eq_true (by omega)
   simp [go_sem, hSi, q]
   refine ⟨hk4.trans hk5, _, ?_, hv4.new' hk5⟩
   rw [show ((a + 4 + n : Nat) : Int) = (a : Int) + 4 + body.length by omega]
  ·rw [if_pos (by simpa using hcrc)] at hres
   subst hres
   have q : ((crcM body : Int) = (S : Int)) = False := eq_false (by omega)
   simp [go_sem, hSi, q]
   exact ⟨hk4.trans hk5, rfl⟩
end
set_option maxHeartbeats 4000000
def rless (n : ByteArray) (l : List ByteArray) (k : Nat) : Bool := match l[k]? with | some x => Op.bytesLess n.data.toList x.data.toList | none => false
def rpos (n : ByteArray) (l : List ByteArray) : Nat → Nat
 | 0 => 0
 | k + 1 => if rless n l k = true then rpos n l k else k + 1
def rins (l : List ByteArray) (p : ByteArray × Int) : List ByteArray := l.take (rpos p.1 l l.length) ++ (p.1 :: l.drop (rpos p.1 l l.length))
def rlist (d : RDir) : List ByteArray := d.foldl rins []
theorem z9h (n : ByteArray) (l : List ByteArray) : ∀ k, rpos n l k ≤ k
 | 0 => Nat.le_refl _
 | k + 1 => by
  unfold rpos
  split
  ·have := z9h n l k; omega
  ·omega
theorem rins_len (l : List ByteArray) (p : ByteArray × Int) : (rins l p).length = l.length + 1 := by
 have := z9h p.1 l l.length
 unfold rins
 simp; omega
theorem New.cells {s s' : Heap} {b j : Nat} {v : Value} (h : New s s') (hc : (cellsOf (s b))[j]? = some v) : (cellsOf (s' b))[j]? = some v := by
 cases hb : s b with
 | none => rw [hb] at hc; simp [cellsOf] at hc
 | some o => rw [h _ _ hb, ← hb]; exact hc
section
variable {W0 : World} {st : Heap}
theorem zfy {w : Nat} {S : RFS} (h : RFSAt st w S) (hs : S.small) : z00 Tryz.prog W0 43 #[ptr w] st fun e st' => ∃ v, e = .returned v ∧ Vec st' (.ty 1) 1 v ((rlist S.dir).map .string) (rlist S.dir).length ∧ Fresh st v ∧ New st st' := by
 have hdl := hs.dir
 refine enter (args := [_]) Tryz.func43 rfl ?_
 simp [Tryz.f43, go_sem]
 refine (z7y h hs).mono ?_
 rintro e s1 ⟨dv, rfl, hdv, hdf, k1⟩
 generalize S.dir = D at *
 obtain ⟨db, dc, rfl⟩ := hdv.slice
 simp [go_sem]
 refine ⟨fun E s => New s1 s ∧ E 3 = .slice db D.length dc ∧ ∃ (i : Nat) (v : Value) (L : List ByteArray), E 5 = Val.i (i : Int) ∧ i ≤ D.length ∧ E 4 = v ∧ Vec s (.ty 1) 1 v (L.map .string) L.length ∧ Fresh s1 v ∧ L.length = i ∧ (D.drop i).foldl rins L = rlist D,
  fun E _ => match E 5 with | .int _ z => D.length - z.toNat | _ => 0,
  ⟨s1, .rfl' _, New.refl _, by simp [go_sem], 0, .slice none 0 0, [], by simp [go_sem], by omega, by simp [go_sem], Vec.nil, Fresh.none, rfl, rfl⟩, ?_⟩
 rintro E s2 ⟨k2, e3, i, v, L, e5, hi, e4, hV, hF, hLi, hfold⟩
 obtain ⟨vb, vc, rfl⟩ := hV.slice
 by_cases hlt : i < D.length
 rotate_left
 ·have : i = D.length := by omega
  subst this
  rw [List.drop_length] at hfold
  have hL : L = rlist D := hfold
  subst hL
  simp [go_sem, e3, e4, e5]
  exact ⟨hV, hF.oldR k1, k1.trans k2⟩
 have t1 : ((i : Int) < D.length) = True := eq_true (by omega)
 have hwi := wrS i (by omega)
 have hx : D[i]? = some D[i] := List.getElem?_eq_getElem hlt
 rw [List.drop_eq_getElem_cons hlt, List.foldl_cons] at hfold
 generalize D[i] = p at *
 obtain ⟨R, hR⟩ : ∃ R, rins L p = R := ⟨_, rfl⟩
 have hRl : R.length = L.length + 1 := by rw [← hR]; exact rins_len L p
 simp [go_sem, e3, e4, e5, t1, hlt]
 refine ⟨fun E s => s = s2 ∧ E 3 = .slice db D.length dc ∧ E 4 = .slice vb L.length vc ∧ E 5 = Val.i (i : Int) ∧ ∃ k : Nat, E 6 = Val.i (k : Int) ∧ k ≤ L.length ∧ rpos p.1 L k = rpos p.1 L L.length, fun E _ => match E 6 with | .int _ z => z.toNat | _ => 0,
  ⟨s2, .rfl' _, rfl, by simp [go_sem, e3], by simp [go_sem, e4], by simp [go_sem, e5], L.length, by simp [go_sem], by omega, rfl⟩, ?_⟩
 clear e3 e4 e5
 rintro E s ⟨rfl, e3, e4, e5, k, e6, hk, hpos⟩
 obtain ⟨mb, off, rfl, hget⟩ := z0h (hdv.new' k2).src (by omega)
 have n0 := hget (i * 2) (by omega)
 have hn0 : (dV D)[i * 2]? = some (.string p.1) := by
  have := z9m (f := dC) (k := 2) (fun _ => rfl) hx (j := 0) (by omega)
  rw [Nat.add_zero] at this
  exact this
 rw [hn0] at n0
 cases k with
 | zero =>
  simp [go_sem, e3, e4, e5, e6]
  refine draw [0, 1, 2, 3, 4, 5, 6, 8, 9, 10, 11, 7, 12, 13, 14] (by kernel_rfl) ?_
  have hpos : 0 = rpos p.1 L L.length := hpos
  simp [go_sem, e3, e4, e5, e6]
  have hins : R = L.take 0 ++ (p.1 :: L.drop 0) := by rw [← hR]; unfold rins; rw [← hpos]
  have hkc : 0 ≤ vc := Nat.le_trans hk hV.reg.cap
  refine z2q (.ty 1) si32 (hV.reg.take hk).src (by omega) ?_
  intro b1 c1 s3 hV3 hF3 n3
  have n0' := n3.cells n0
  simp [go_sem, e3, e4, e5, e6, hlt, t1, n0']
  unfold NewS
  intro nb hnb
  refine ⟨.ty 1, ?_⟩
  have a3 := (New.refl s3).add (b := nb) (o := .cells true [.string p.1] 1 (.ty 1)) hnb
  simp [go_sem]
  refine AppI_new (st0 := s1) (g := .ty 1) (m := 1) (ys := [.string p.1]) si32 (hV3.new' a3) (hF3.oldR k2) ((k2.trans n3).trans a3) (by simp [z06, z0i, upd_same, cellsOf]) (by simp [Value.oneCell']) (by omega) ?_
  intro b4 c4 s4 hV4 hF4 n4 hx4
  simp [go_sem, e3, e4, e5, e6, hlt, t1]
  obtain ⟨g0, hg0, hr⟩ := ((hV.new' n3).new' a3).rf.ext hx4
  refine AppI_new (st0 := s1) (g := .ty 1) (m := L.length - 0) (ys := (L.map .string).drop 0) si32 hV4 hF4 n4 (by first | exact hr.src | simpa using hr.src) (by intro y hy; obtain ⟨a, -, rfl⟩ := List.mem_map.1 (List.mem_of_mem_drop hy); rfl) (by omega) ?_
  intro b5 c5 s5 hV5 hF5 n5 hx5
  simp [go_sem, e3, e4, e5, e6, hlt, t1, hwi]
  have hRm : (L.map Value.string).take 0 ++ [.string p.1] ++ (L.map .string).drop 0 = R.map .string := by rw [hins]; simp [List.map_take, List.map_drop]
  have hRn : 0 + 1 + (L.length - 0) = R.length := by omega
  rw [hRm] at hV5
  have hRL : 1 + L.length = R.length := by omega
  rw [hRn] at hV5 hF5
  rw [hR] at hfold
  first | rw [hRL] | rw [hRn]
  exact ⟨s5, .rfl' _, ⟨n5, i + 1, by simp, by omega, R, hV5, hF5, by omega, hfold⟩, by omega⟩
 | succ k =>
  have hkl : L[k]? = some L[k] := List.getElem?_eq_getElem (by omega)
  obtain ⟨m2, o2, hq, g2⟩ := z0h hV.src (by omega)
  subst hq
  have x0 := g2 k (by omega)
  have hx0 : (L.map Value.string)[k]? = some (.string L[k]) := by simp [hkl]
  rw [hx0] at x0
  have hrl : rless p.1 L k = Op.bytesLess p.1.data.toList L[k].data.toList := by unfold rless; rw [hkl]
  generalize L[k] = y at *
  have hwk : IntKind.i64.wrap ((k : Int) + 1 - 1) = (k : Int) := by rw [z03 (by omega) (by omega)]; omega
  have hk2 : ((0 : Int) ≤ (k : Int) + 1) = True := eq_true (by omega)
  have hk0 : ((0 : Int) < (k : Int) + 1) = True := eq_true (by omega)
  have hk1 : (k : Int) + 1 - 1 = k := by omega
  have hkL : k < L.length := by omega
  have hki : ((k : Int) < L.length) = True := eq_true (by omega)
  have hwk' : IntKind.i64.wrap (k : Int) = (k : Int) := z03 (by omega) (by omega)
  simp [go_sem, e3, e4, e5, e6]
  refine draw [0, 1, 2, 3, 4, 5, 6, 8, 9, 10, 11, 7, 12, 13, 14] (by kernel_rfl) ?_
  simp [go_sem, e3, e4, e5, e6, hk0, hwk, hk1, hwk', hlt, t1, n0, x0, hkL, hki]
  cases hb : Op.bytesLess p.1.data.toList y.data.toList with
  | true =>
   simp [go_sem, e3, e4, e5, e6, hwk, hk1, hwk']
   rw [hb] at hrl
   refine ⟨_, .rfl' _, ?_⟩
   have hz : rpos p.1 L k = rpos p.1 L L.length := by rw [← hpos, rpos, if_pos hrl]
   repeat' apply And.intro
   all_goals first | rfl | omega | exact hz | exact ⟨k, rfl, by omega, hz⟩
  | false =>
   rw [hb] at hrl
   have hkcc : k + 1 ≤ vc := Nat.le_trans hk hV.reg.cap
   have hpos : k + 1 = rpos p.1 L L.length := by rw [← hpos, rpos, if_neg (by rw [hrl]; simp)]
   simp [go_sem, e3, e4, e5, e6, hk0, hk2, hkcc, hwk, hk1, hwk']
   have hins : R = L.take (k + 1) ++ (p.1 :: L.drop (k + 1)) := by rw [← hR]; unfold rins; rw [← hpos]
   have hkc : (k + 1) ≤ vc := Nat.le_trans hk hV.reg.cap
   refine z2q (.ty 1) si32 (hV.reg.take hk).src (by omega) ?_
   intro b1 c1 s3 hV3 hF3 n3
   have n0' := n3.cells n0
   simp [go_sem, e3, e4, e5, e6, hlt, t1, n0']
   unfold NewS
   intro nb hnb
   refine ⟨.ty 1, ?_⟩
   have a3 := (New.refl s3).add (b := nb) (o := .cells true [.string p.1] 1 (.ty 1)) hnb
   simp [go_sem]
   refine AppI_new (st0 := s1) (g := .ty 1) (m := 1) (ys := [.string p.1]) si32 (hV3.new' a3) (hF3.oldR k2) ((k2.trans n3).trans a3) (by simp [z06, z0i, upd_same, cellsOf]) (by simp [Value.oneCell']) (by omega) ?_
   intro b4 c4 s4 hV4 hF4 n4 hx4
   simp [go_sem, e3, e4, e5, e6, hlt, t1]
   obtain ⟨g0, hg0, hr⟩ := ((hV.new' n3).new' a3).rf.ext hx4
   simp [go_sem, e3, e4, e5, e6, hlt, t1, hk2, hk, hkcc]
   have this := (hr.drop (k := k + 1) hk).src
   simp at this
   refine AppI_new (st0 := s1) (g := .ty 1) (m := L.length - (k + 1)) (ys := (L.map .string).drop (k + 1)) si32 hV4 hF4 n4 (by first | exact this | simpa using this) (by intro y hy; obtain ⟨a, -, rfl⟩ := List.mem_map.1 (List.mem_of_mem_drop hy); rfl) (by omega) ?_
   intro b5 c5 s5 hV5 hF5 n5 hx5
   simp [go_sem, e3, e4, e5, e6, hlt, t1, hwi]
   have hRm : (L.map Value.string).take (k + 1) ++ [.string p.1] ++ (L.map .string).drop (k + 1) = R.map .string := by rw [hins]; simp [List.map_take, List.map_drop]
   have hRn : (k + 1) + 1 + (L.length - (k + 1)) = R.length := by omega
   rw [hRm] at hV5
   have hRL : 1 + L.length = R.length := by omega
   rw [hRn] at hV5 hF5
   rw [hR] at hfold
   first | rw [hRL] | rw [hRn]
   exact ⟨s5, .rfl' _, ⟨n5, i + 1, by simp, by omega, R, hV5, hF5, by omega, hfold⟩, by omega⟩
end
set_option maxHeartbeats 1000000
variable {S : VFS} {G : RFS}
theorem FSim.wf (h : FSim S G) : G.wf := fun n z hz => by
 rw [h.get] at hz
 obtain ⟨x, hx, rfl⟩ := Option.map_eq_some_iff.1 hz
 exact ⟨by omega, by rw [Int.toNat_natCast, ← h.len]; exact h.lt hx⟩
theorem FSim.bytes (h : FSim S G) (k : Nat) (R : RF) (hk : G.files[k]? = some R) : ∃ b, z11 R.sure R.us = some b := by
 have hl := (List.getElem?_eq_some_iff.1 hk).1
 have hl' : k < S.files.length := by rw [h.len]; exact hl
 have hF : S.files[k]? = some S.files[k] := List.getElem?_eq_getElem hl'
 exact ⟨_, (h.files k _ R hF hk).2⟩
theorem FSim.new : FSim VFS.new RFS.new := ⟨rfl, rfl, fun k F R h => by simp [VFS.new] at h, ⟨by simp [VFS.new, Names], .refl _⟩, ⟨by simp [VFS.new, Names], .refl _⟩, .nil, ⟨_, rfl⟩, ⟨by simp [VFS.new], by simp [VFS.new], by simp [VFS.new]⟩, by simp [VFS.new]⟩
theorem zbj {n : ByteArray} {l : RDir} (h : rget n l = none) : z0f n l = l := by
 induction l with
 | nil => rfl
 | cons p l ih =>
  unfold rget at h
  by_cases e : strEq p.1 n = true
  ·rw [if_pos e] at h; cases h
  ·rw [if_neg e] at h
   have e' : strEq p.1 n = false := by cases hh : strEq p.1 n with
    | false => rfl
    | true => exact absurd hh e
   unfold z0f at ih ⊢
   rw [List.filter_cons, e', ih h]
   rfl
theorem FSim.lay (h : FSim S G) {n : ByteArray} {b : Bs} (ht : S.turns = []) (hg : G.turns = []) (hs : aget S.sure n = none) (hn : aget S.now n = none) (hok : z0a n = true) : FSim (S.lay n b) (G.lay (n, b)) := by
 have hgs : rget n G.sure = none := by rw [h.sure.get, hs]; rfl
 have hd : G.dir = G.sure := by unfold RFS.dir z25; rw [hg]; rfl
 have d1 := h.sure.set n S.files.length
 rw [zbj hgs, h.len] at d1
 have d2 := h.now.set n S.files.length
 rw [hd, zbj hgs, h.len] at d2
 have hd' : (G.lay (n, b)).dir = G.sure ++ [(n, (G.files.length : Int))] := by unfold RFS.dir z25 RFS.lay; rw [hg]; rfl
 obtain ⟨o1, o2, o3⟩ := h.ok
 have e : S.files.length = G.files.length := h.len
 refine ⟨h.c, by simp [VFS.lay, RFS.lay, h.len], fun k F R e1 e2 => ?_, ?_, ?_, ?_, ?_, ⟨fun p hp => ?_, fun p hp => ?_, fun t ht' i hi => ?_⟩, fun p hp => ?_⟩
 ·simp only [VFS.lay, RFS.lay] at e1 e2
  by_cases hk : k < S.files.length
  ·rw [List.getElem?_append_left hk] at e1
   rw [List.getElem?_append_left (by omega)] at e2
   exact h.files k F R e1 e2
  ·rw [List.getElem?_append_right (by omega)] at e1
   rw [List.getElem?_append_right (by omega), ← e] at e2
   cases hz : k - S.files.length with
   | zero =>
    rw [hz] at e1 e2
    injection e1 with e1; injection e2 with e2
    subst e1; subst e2
    exact ⟨rfl, rfl⟩
   | succ z => rw [hz] at e1; simp at e1
 ·show DirSim (aset S.sure n S.files.length) _
  rw [e]; exact d1
 ·rw [hd']
  show DirSim (aset S.now n S.files.length) _
  rw [e]; exact d2
 ·show TurnsSim S.turns G.turns
  exact h.turns
 ·show ∃ d, syncM S.turns _ = some d
  rw [ht]; exact ⟨_, rfl⟩
 ·simp only [VFS.lay, List.length_append, List.length_cons, List.length_nil]
  rcases aset_mem hp with hp | hp
  ·have := o1 p hp; omega
  ·omega
 ·simp only [VFS.lay, List.length_append, List.length_cons, List.length_nil]
  rcases aset_mem hp with hp | hp
  ·have := o2 p hp; omega
  ·omega
 ·have := o3 t ht' i hi
  simp only [VFS.lay, List.length_append, List.length_cons, List.length_nil]; omega
 ·rcases (z3g h.now.1).1 hp with e | ⟨e, _⟩
  ·rw [e]; exact hok
  ·exact h.names p e
theorem zi9 (l : List ByteArray) (p : ByteArray × Int) : (rins l p).Perm (p.1 :: l) := by
 unfold rins
 refine List.perm_middle.trans (.cons _ ?_)
 rw [List.take_append_drop]
theorem zd5 : ∀ (d : RDir) (l : List ByteArray), (d.foldl rins l).Perm (d.map (·.1) ++ l)
 | [], l => .refl _
 | p :: d, l => by
  rw [List.foldl_cons, List.map_cons, List.cons_append]
  exact (zd5 d _).trans (((zi9 l p).append_left _).trans List.perm_middle)
theorem z9x (d : RDir) : (rlist d).Perm (d.map (·.1)) := by
 have := zd5 d []
 rw [List.append_nil] at this
 exact this
theorem zdg {n x : ByteArray} {l : List ByteArray} {k : Nat} (h : l[k]? = some x) : rless n l k = ltT n x := by
 unfold rless
 rw [h]
theorem z9p (n : ByteArray) (l : List ByteArray) : ∀ k, k ≤ l.length → (∀ (j : Nat) x, rpos n l k ≤ j → j < k → l[j]? = some x → ltT n x = true) ∧ (∀ x, 0 < rpos n l k → l[rpos n l k - 1]? = some x → ltT n x = false)
 | 0, _ => ⟨fun j x h1 h2 => by omega, fun x h => by simp [rpos] at h⟩
 | k + 1, hk => by
  obtain ⟨i1, i2⟩ := z9p n l k (by omega)
  have hx : l[k]? = some l[k] := List.getElem?_eq_getElem (by omega)
  unfold rpos
  by_cases hc : rless n l k = true
  ·rw [if_pos hc]
   refine ⟨fun j x h1 h2 h3 => ?_, i2⟩
   by_cases hj : j = k
   ·subst hj; rw [← zdg h3]; exact hc
   ·exact i1 j x h1 (by omega) h3
  ·rw [if_neg hc]
   refine ⟨fun j x h1 h2 => by omega, fun x _ h3 => ?_⟩
   rw [Nat.add_sub_cancel] at h3
   rw [← zdg h3]
   exact Bool.eq_false_iff.2 hc
theorem zis {l : List ByteArray} (h : z0x ltT l) (p : ByteArray × Int) : z0x ltT (rins l p) := by
 obtain ⟨i1, i2⟩ := z9p p.1 l l.length (Nat.le_refl _)
 have hle := z9h p.1 l l.length
 unfold rins
 generalize rpos p.1 l l.length = K at *
 have hs : z0x ltT (l.take K ++ l.drop K) := by rw [List.take_append_drop]; exact h
 unfold z0x at hs ⊢
 obtain ⟨h1, h2, h3⟩ := List.pairwise_append.1 hs
 have hd : ∀ x ∈ l.drop K, ltT x p.1 = false := fun x hx => by
  obtain ⟨j, hj⟩ := List.mem_iff_getElem?.1 hx
  rw [List.getElem?_drop] at hj
  have := (List.getElem?_eq_some_iff.1 hj).1
  exact z7t.asymm _ _ (i1 _ _ (by omega) this hj)
 have ht : ∀ x ∈ l.take K, ltT p.1 x = false := fun x hx => by
  obtain ⟨j, hj⟩ := List.mem_iff_getElem?.1 hx
  rw [List.getElem?_take] at hj
  split at hj
  ·rename_i hjK
   have hy : l[K - 1]? = some l[K - 1] := List.getElem?_eq_getElem (by omega)
   have hn := i2 _ (by omega) hy
   by_cases e : j = K - 1
   ·subst e; rw [hy] at hj; injection hj with hj; rw [← hj]; exact hn
   ·have hjl := (List.getElem?_eq_some_iff.1 hj).1
    have := List.pairwise_iff_getElem.1 h j (K - 1) hjl (by omega) (by omega)
    rw [(List.getElem?_eq_some_iff.1 hj).2] at this
    exact z7t.trans _ _ _ this hn
  ·cases hj
 refine List.pairwise_append.2 ⟨h1, List.pairwise_cons.2 ⟨hd, h2⟩, fun a ha b hb => ?_⟩
 rcases List.mem_cons.1 hb with rfl | hb
 ·exact ht a ha
 ·exact h3 a ha b hb
theorem zfw (d : RDir) : z0x ltT (rlist d) := by
 have : ∀ (d : RDir) (l : List ByteArray), z0x ltT l → z0x ltT (d.foldl rins l) := fun d => by
  induction d with
  | nil => exact fun l h => h
  | cons p d ih => exact fun l h => ih _ (zis h p)
 exact this d [] List.Pairwise.nil
end Go.Proofs.YtahgfnbkkfpcnaaGreat
