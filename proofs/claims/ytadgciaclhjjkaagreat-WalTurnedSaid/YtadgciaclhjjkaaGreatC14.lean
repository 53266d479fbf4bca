/- Frames. -/
import Derived.Test.YtadgciaclhjjkaaGreatC13
import Derived.Test.YtadgciaclhjjkaaGreatC10
set_option linter.unusedVariables false
set_option linter.unusedSimpArgs false
set_option maxRecDepth 100000
set_option maxHeartbeats 1000000
namespace Go.Proofs.YtadgciaclhjjkaaGreat
open Go.RowKit (Below)

def le4 (c : Nat) : Bs := [UInt8.ofNat (c % 256), UInt8.ofNat (c / 256 % 256), UInt8.ofNat (c / 65536 % 256), UInt8.ofNat (c / 16777216 % 256)]
def le4R : Bs → Nat
  | [x, y, z, w] => x.toNat + 256 * y.toNat + 65536 * z.toNat + 16777216 * w.toNat
  | _ => 0
def frameM (body : Bs) : Bs := vputM body.length ++ (le4 (crcM body) ++ body)
def frameGetM (b : Bs) (at_ : Int) : Except Int (Bs × Nat) :=
  if at_ < 0 ∨ b.length < at_ then .error 1
  else if at_ = b.length then .error 3
  else match vgetM b at_ with
    | none => .error 4
    | some (n, a) => if n < 1 ∨ 1048576 < n ∨ b.length - a < n + 4 then .error 4
      else if crcM ((b.drop (a + 4)).take n) ≠ le4R ((b.drop a).take 4) then .error 4 else .ok ((b.drop (a + 4)).take n, a + 4 + n)
theorem bits_join32 (i : Nat) (x y : Int) (hx₀ : 0 ≤ x) (hx : x < 2 ^ i) (hy₀ : 0 ≤ y) (hy : y % 2 ^ i = 0) (hx₁ : x < 2 ^ 32) (hy₁ : y < 2 ^ 32) : bits .or .u32 x y = x + y := by
  have h := bits_join .u32 32 (by decide) wraps_u32 i y x hy₀ hy hy₁ hx₀ hx hx₁
  have hc : bits .or .u32 x y = bits .or .u32 y x := by
    unfold bits
    simp only [BitVec.or_comm]
  rw [hc, h]; omega
theorem Reg.drop {st : Heap} {g : Tg} {len k cap : Nat} {base : Option Addr} {xs : List Value} (h : Reg st g 1 (.slice base len cap) xs len) (hk : k ≤ len) :
    Reg st g 1 (.slice (if cap = k then base else base.map (·.add k)) (len - k) (cap - k)) (xs.drop k) (len - k) := by
  obtain ⟨hl1, base', cap', hv, hc, hr⟩ := h
  injection hv with q1 q2 q3; subst q1; subst q3
  refine ⟨by simp; omega, _, _, rfl, by omega, ?_⟩
  by_cases hn0 : len - k = 0
  · exact .inl hn0
  · rcases hr with hr | ⟨blk, off, rw_, ys, m, rfl, hs, hp, hoff⟩
    · omega
    · right
      rw [if_neg (by omega)]
      obtain ⟨t, ht⟩ := hp
      refine ⟨blk, off + k, rw_, ys, m, by simp [add_mk], hs, ?_, ?_⟩
      · rw [← List.drop_drop, ← ht, List.drop_append_of_le_length (by omega)]
        exact List.prefix_append _ _
      · have := congrArg List.length ht
        simp at this
        omega
section
variable {W0 : World} {st : Heap}
theorem sumOf_spec {bv : Value} {b : Bs} {g0 : Tg} (h : Reg st g0 1 bv (bytesV b) b.length) (hl : b.length < 2 ^ 60) :
    ICalls Tryz.prog W0 153 #[bv] st fun e st' => e = .returned (.int .u32 (crcM b)) ∧ New st st' := by
  refine enter (args := [_]) Tryz.func153 rfl ?_
  simp [Tryz.f153, go_sem]
  refine (sumMore_spec h hl).mono ?_
  rintro e st1 ⟨rfl, hk⟩
  simp [go_sem]
  exact hk
/-- What frame.Put leaves. -/
def FramePutR (st : Heap) (g : Tg) (bv : Value) (b body : Bs) (e : Ending) (st' : Heap) : Prop := New st st' ∧ if body.length < 1 ∨ 1048576 < body.length then e = .returned (.tuple #[bv, Val.i 1])
      else ∃ v, e = .returned (.tuple #[v, Val.i 0]) ∧ Vec st' g 1 v (bytesV (b ++ frameM body)) (b ++ frameM body).length ∧ Fresh st v
/-- What frame.Get leaves. -/
def FrameGetR (st : Heap) (g : Tg) (r : Except Int (Bs × Nat)) (e : Ending) (st' : Heap) : Prop := New st st' ∧ match r with
      | .error k => e = .returned (.tuple #[.slice none 0 0, Val.i 0, Val.i k])
      | .ok (body, end_) => ∃ v, e = .returned (.tuple #[v, Val.i end_, Val.i 0]) ∧ Vec st' g 1 v (bytesV body) body.length
theorem framePut_spec {bv yv : Value} {b body : Bs} {g0 g1 : Tg} (g : Tg) (h : Reg st g0 1 bv (bytesV b) b.length) (hy : Reg st g1 1 yv (bytesV body) body.length) (hl : b.length < 2 ^ 39) (hly : body.length < 2 ^ 60) :
    ICalls Tryz.prog W0 89 #[bv, yv] st (FramePutR st g bv b body) := by
  obtain ⟨ybase, ycap, rfl⟩ := hy.slice
  refine enter (args := [_, _]) Tryz.func89 rfl ?_
  by_cases h1 : body.length < 1
  · have h1' : ((body.length : Int) < 1) = True := eq_true (by omega)
    simp [Tryz.f89, go_sem, h1']
    exact ⟨New.refl _, by rw [if_pos (.inl h1)]⟩
  by_cases h2 : 1048576 < body.length
  · have h1' : ((body.length : Int) < 1) = False := eq_false (by omega)
    have h2' : ((1048576 : Int) < body.length) = True := eq_true (by omega)
    simp [Tryz.f89, go_sem, h1', h2']
    exact ⟨New.refl _, by rw [if_pos (.inr h2)]⟩
  have h1' : ((body.length : Int) < 1) = False := eq_false (by omega)
  have h2' : ((1048576 : Int) < body.length) = False := eq_false (by omega)
  have hw : IntKind.u64.wrap (body.length : Int) = body.length := wraps_u64 _ (by omega) (by omega)
  have hc := crcM_lt body
  simp [Tryz.f89, go_sem, h1', h2']
  refine (sumOf_spec hy hly).mono ?_
  rintro e st1 ⟨rfl, hk1⟩
  generalize hcc : crcM body = c at *
  simp [go_sem, hw]
  refine (vPut_spec g (h.new hk1) (show body.length < 2 ^ 64 by omega) (by omega)).mono ?_
  rintro e st2 ⟨v, rfl, hv, hf, hk2⟩
  rw [List.length_append] at hv
  have hpl := vputM_len body.length (by omega)
  have w0 : IntKind.u8.wrap (c : Int) = ((UInt8.ofNat (c % 256)).toNat : Int) := by rw [ofNat_u8 _ (by omega), IntKind.wrap_u8]; omega
  have f1 : IntKind.u8.wrap ((c : Int).fdiv 256) = ((UInt8.ofNat (c / 256 % 256)).toNat : Int) := by rw [ofNat_u8 _ (by omega), IntKind.wrap_u8, Int.fdiv_eq_ediv_of_nonneg _ (by omega)]; omega
  have f2 : IntKind.u8.wrap ((c : Int).fdiv 65536) = ((UInt8.ofNat (c / 65536 % 256)).toNat : Int) := by rw [ofNat_u8 _ (by omega), IntKind.wrap_u8, Int.fdiv_eq_ediv_of_nonneg _ (by omega)]; omega
  have f3 : IntKind.u8.wrap ((c : Int).fdiv 16777216) = ((UInt8.ofNat (c / 16777216 % 256)).toNat : Int) := by rw [ofNat_u8 _ (by omega), IntKind.wrap_u8, Int.fdiv_eq_ediv_of_nonneg _ (by omega)]; omega
  generalize hB0 : UInt8.ofNat (c % 256) = B0 at *
  generalize hB1 : UInt8.ofNat (c / 256 % 256) = B1 at *
  generalize hB2 : UInt8.ofNat (c / 65536 % 256) = B2 at *
  generalize hB3 : UInt8.ofNat (c / 16777216 % 256) = B3 at *
  have hle : le4 c = [B0, B1, B2, B3] := by unfold le4; rw [hB0, hB1, hB2, hB3]
  simp [go_sem, w0, f1, f2, f3]
  unfold NewS
  intro b3 hb3
  refine ⟨.ty 0, ?_⟩
  simp [go_sem]
  have k3 : New st2 (upd st2 b3 (.cells true [.int .u8 B0.toNat, .int .u8 B1.toNat, .int .u8 B2.toNat, .int .u8 B3.toNat] 4 (.ty 0))) := (New.refl _).add hb3
  have hk12 := hk1.trans hk2
  have hf' : Fresh st v := fun b off n c e => hk1.none (hf b off n c e)
  refine AppI_new (m := 4) (ys := bytesV (le4 c)) si40 (hv.new' k3) hf' (hk12.trans k3) ?_ (bytesV_one _) (by omega) ?_
  · rw [hle]; simp [srcCells, lkN_mk, upd_same, cellsOf, bytesV]
  intro nb nc st4 hv4 hf4 hk4 _
  simp [go_sem]
  refine AppI_new (m := body.length) (ys := bytesV body) si40 hv4 hf4 hk4 (hy.new hk4).src (bytesV_one _) (by omega) ?_
  intro nb2 nc2 st5 hv5 hf5 hk5 _
  simp [go_sem]
  refine ⟨hk5, ?_⟩
  rw [if_neg (by omega)]
  refine ⟨_, rfl, ?_, ?_⟩
  · have : frameM body = vputM body.length ++ (le4 c ++ body) := by unfold frameM; rw [hcc]
    rw [this]
    have hl4 : (le4 c).length = 4 := by rw [hle]; rfl
    have e1 : (b ++ (vputM body.length ++ (le4 c ++ body))).length = b.length + (vputM body.length).length + 4 + body.length := by simp [hl4]; omega
    have e2 : bytesV (b ++ (vputM body.length ++ (le4 c ++ body))) = bytesV (b ++ vputM body.length) ++ bytesV (le4 c) ++ bytesV body := by simp [bytesV_append]
    rw [e1, e2]
    simpa using hv5
  · simpa using hf5
theorem frameGet_spec {bv : Value} {b : Bs} {g0 : Tg} (g : Tg) {at_ : Int} (h : Reg st g0 1 bv (bytesV b) b.length) (hl : b.length < 2 ^ 40) :
    ICalls Tryz.prog W0 148 #[bv, Val.i at_] st (FrameGetR st g (frameGetM b at_)) := by
  obtain ⟨base, cap, rfl⟩ := h.slice
  have hcap := h.cap
  refine enter (args := [_, _]) Tryz.func148 rfl ?_
  generalize hres : frameGetM b at_ = res
  unfold frameGetM at hres
  by_cases h1 : at_ < 0
  · rw [if_pos (.inl h1)] at hres
    subst hres
    have q1 : (at_ < 0) = True := eq_true h1
    simp [Tryz.f148, go_sem, q1]
    exact ⟨New.refl _, rfl⟩
  by_cases h2 : (b.length : Int) < at_
  · rw [if_pos (.inr h2)] at hres
    subst hres
    have q1 : (at_ < 0) = False := eq_false h1
    have q2 : ((b.length : Int) < at_) = True := eq_true h2
    simp [Tryz.f148, go_sem, q1, q2]
    exact ⟨New.refl _, rfl⟩
  rw [if_neg (by omega)] at hres
  have q1 : (at_ < 0) = False := eq_false h1
  have q2 : ((b.length : Int) < at_) = False := eq_false h2
  by_cases h3 : at_ = b.length
  · rw [if_pos h3] at hres
    subst hres
    subst h3
    simp [Tryz.f148, go_sem, q1]
    exact ⟨New.refl _, rfl⟩
  rw [if_neg h3] at hres
  have q3 : (at_ = (b.length : Int)) = False := eq_false h3
  simp [Tryz.f148, go_sem, q1, q2, q3]
  refine (vGet_spec h (by omega)).mono ?_
  rintro e st1 ⟨rfl, rfl⟩
  cases hg : vgetM b at_ with
  | none =>
    rw [hg] at hres
    subst hres
    simp [go_sem, vgetV]
    exact ⟨New.refl _, rfl⟩
  | some r =>
    obtain ⟨n, a⟩ := r
    have hb := vgetM_bound hg
    simp only at hb
    rw [hg] at hres
    simp only at hres
    have hw1 : IntKind.i64.wrap ((b.length : Int) - a) = (b.length : Int) - a := wrap_id (by omega) (by omega)
    have hw2 : IntKind.u64.wrap ((b.length : Int) - a) = (b.length : Int) - a := wraps_u64 _ (by omega) (by omega)
    by_cases hn1 : n < 1
    · have p1 : ((n : Int) < 1) = True := eq_true (by omega)
      rw [if_pos (.inl hn1)] at hres
      subst hres
      simp [go_sem, vgetV, p1]
      exact ⟨New.refl _, rfl⟩
    have p1 : ((n : Int) < 1) = False := eq_false (by omega)
    by_cases hn2 : 1048576 < n
    · have p2 : ((1048576 : Int) < n) = True := eq_true (by omega)
      rw [if_pos (.inr (.inl hn2))] at hres
      subst hres
      simp [go_sem, vgetV, p1, p2]
      exact ⟨New.refl _, rfl⟩
    have p2 : ((1048576 : Int) < n) = False := eq_false (by omega)
    have hwn : IntKind.u64.wrap ((n : Int) + 4) = (n : Int) + 4 := wraps_u64 _ (by omega) (by omega)
    by_cases hn3 : b.length - a < n + 4
    · have p3 : ((b.length : Int) - a < (n : Int) + 4) = True := eq_true (by omega)
      rw [if_pos (.inr (.inr hn3))] at hres
      subst hres
      simp [go_sem, vgetV, p1, p2, hw1, hw2, hwn, p3]
      exact ⟨New.refl _, rfl⟩
    have p3 : ((b.length : Int) - a < (n : Int) + 4) = False := eq_false (by omega)
    rw [if_neg (by omega)] at hres
    obtain ⟨blk, off, rfl, hat⟩ := src_get h.src (by omega)
    have byte : ∀ k, a + k < b.length → ∃ x : UInt8, b[a + k]? = some x ∧ (cellsOf (st1 blk))[off + (a + k)]? = some (.int .u8 x.toNat) := fun k hk => by
      have h1 := hat (a + k) (by omega)
      have h2 : b[a + k]? = some b[a + k] := List.getElem?_eq_getElem hk
      refine ⟨_, h2, ?_⟩
      rw [h1]
      simp [bytesV, h2]
    obtain ⟨x0, hx0, hc0⟩ := byte 0 (by omega)
    obtain ⟨x1, hx1, hc1⟩ := byte 1 (by omega)
    obtain ⟨x2, hx2, hc2⟩ := byte 2 (by omega)
    obtain ⟨x3, hx3, hc3⟩ := byte 3 (by omega)
    have ht4 : (b.drop a).take 4 = [x0, x1, x2, x3] := by
      apply List.ext_getElem?
      intro i
      rw [List.getElem?_take, List.getElem?_drop]
      match i with
      | 0 => simpa using hx0
      | 1 => simpa using hx1
      | 2 => simpa using hx2
      | 3 => simpa using hx3
      | i + 4 => rw [if_neg (by omega)]; rfl
    rw [ht4] at hres
    have l0 := x0.toNat_lt
    have l1 := x1.toNat_lt
    have l2 := x2.toNat_lt
    have l3 := x3.toNat_lt
    have a1 : IntKind.i64.wrap ((a : Int) + 1) = ((a + 1 : Nat) : Int) := by rw [wrap_id (by omega) (by omega)]; omega
    have a2 : IntKind.i64.wrap ((a : Int) + 2) = ((a + 2 : Nat) : Int) := by rw [wrap_id (by omega) (by omega)]; omega
    have a3 : IntKind.i64.wrap ((a : Int) + 3) = ((a + 3 : Nat) : Int) := by rw [wrap_id (by omega) (by omega)]; omega
    have a4 : IntKind.i64.wrap ((a : Int) + 4) = ((a + 4 : Nat) : Int) := by rw [wrap_id (by omega) (by omega)]; omega
    obtain ⟨S, hS⟩ : ∃ S, le4R [x0, x1, x2, x3] = S := ⟨_, rfl⟩
    rw [hS] at hres
    simp only [le4R] at hS
    obtain ⟨y0, hy0⟩ : ∃ y, x0.toNat = y := ⟨_, rfl⟩
    obtain ⟨y1, hy1⟩ : ∃ y, x1.toNat = y := ⟨_, rfl⟩
    obtain ⟨y2, hy2⟩ : ∃ y, x2.toNat = y := ⟨_, rfl⟩
    obtain ⟨y3, hy3⟩ : ∃ y, x3.toNat = y := ⟨_, rfl⟩
    rw [hy0, hy1, hy2, hy3] at hS
    rw [hy0] at hc0 l0
    rw [hy1] at hc1 l1
    rw [hy2] at hc2 l2
    rw [hy3] at hc3 l3
    have u0 : IntKind.u32.wrap (y0 : Int) = y0 := wraps_u32 _ (by omega) (by omega)
    have u1 : IntKind.u32.wrap (y1 : Int) = y1 := wraps_u32 _ (by omega) (by omega)
    have u2 : IntKind.u32.wrap (y2 : Int) = y2 := wraps_u32 _ (by omega) (by omega)
    have u3 : IntKind.u32.wrap (y3 : Int) = y3 := wraps_u32 _ (by omega) (by omega)
    have v1 : IntKind.u32.wrap ((y1 : Int) * 256) = (y1 : Int) * 256 := wraps_u32 _ (by omega) (by omega)
    have v2 : IntKind.u32.wrap ((y2 : Int) * 65536) = (y2 : Int) * 65536 := wraps_u32 _ (by omega) (by omega)
    have v3 : IntKind.u32.wrap ((y3 : Int) * 16777216) = (y3 : Int) * 16777216 := wraps_u32 _ (by omega) (by omega)
    have o1 : bits .or .u32 (y0 : Int) ((y1 : Int) * 256) = (y0 : Int) + (y1 : Int) * 256 := bits_join32 8 _ _ (by omega) (by omega) (by omega) (by omega) (by omega) (by omega)
    have o2 : bits .or .u32 ((y0 : Int) + (y1 : Int) * 256) ((y2 : Int) * 65536) = (y0 : Int) + (y1 : Int) * 256 + (y2 : Int) * 65536 := bits_join32 16 _ _ (by omega) (by omega) (by omega) (by omega) (by omega) (by omega)
    have o3 : bits .or .u32 ((y0 : Int) + (y1 : Int) * 256 + (y2 : Int) * 65536) ((y3 : Int) * 16777216) = (y0 : Int) + (y1 : Int) * 256 + (y2 : Int) * 65536 + (y3 : Int) * 16777216 := bits_join32 24 _ _ (by omega) (by omega) (by omega) (by omega) (by omega) (by omega)
    have hwi : IntKind.i64.wrap (n : Int) = n := wrap_id (by omega) (by omega)
    have hwe : IntKind.i64.wrap ((a : Int) + 4 + n) = (a : Int) + 4 + n := wrap_id (by omega) (by omega)
    simp [go_sem, vgetV, p1, p2, hw1, hw2, hwn, p3]
    refine draw [0, 1, 2, 5, 6, 7, 8, 13, 14, 15, 16, 21, 22, 23, 24, 3, 4, 9, 10, 11, 12, 17, 18, 19, 20, 25, 26, 27, 28, 29] (by kernel_rfl) ?_
    have b0 : a < b.length := by omega
    have b1 : a + 1 < b.length := by omega
    have b2 : a + 2 < b.length := by omega
    have b3 : a + 3 < b.length := by omega
    have c0 : (0 : Int) ≤ (a : Int) + 1 := by omega
    have c1 : (a : Int) + 1 < b.length := by omega
    have c2 : ((a : Int) + 1).toNat = a + 1 := by omega
    have c3 : (0 : Int) ≤ (a : Int) + 2 := by omega
    have c4 : (a : Int) + 2 < b.length := by omega
    have c5 : ((a : Int) + 2).toNat = a + 2 := by omega
    have c6 : (0 : Int) ≤ (a : Int) + 3 := by omega
    have c7 : (a : Int) + 3 < b.length := by omega
    have c8 : ((a : Int) + 3).toNat = a + 3 := by omega
    have c9 : (0 : Int) ≤ (a : Int) + 4 := by omega
    have c10 : ((a : Int) + 4).toNat = a + 4 := by omega
    have c11 : (0 : Int) ≤ (a : Int) + 4 + n := by omega
    have c12 : ((a : Int) + 4 + n).toNat = a + 4 + n := by omega
    simp at hc0
    simp [go_sem, a1, a2, a3, a4, b0, b1, b2, b3, c0, c1, c2, c3, c4, c5, c6, c7, c8, c9, c10, c11, c12, hc0, hc1, hc2, hc3, u0, u1, u2, u3, v1, v2, v3, o1, o2, o3, hwi, hwe]
    refine ⟨by omega, ?_⟩
    have hbody : ((b.drop (a + 4)).take n).length = n := by simp; omega
    obtain ⟨body, hbd⟩ : ∃ body, (b.drop (a + 4)).take n = body := ⟨_, rfl⟩
    rw [hbd] at hres hbody
    have hsrc := ((h.drop (k := a + 4) (by omega)).take (m := n) (by omega)).src
    have hbv : ((bytesV b).drop (a + 4)).take n = bytesV body := by rw [← hbd]; simp [bytesV, List.map_take, List.map_drop]
    rw [hbv] at hsrc
    simp only [Option.map_some, add_mk] at hsrc
    refine AppI_newg g si40 (m := n) (ys := bytesV body) hsrc (by omega) ?_
    intro nb nc st4 hv4 hf4 hk4
    simp [go_sem]
    rw [← hbody] at hv4 ⊢
    refine (sumOf_spec hv4.reg (by omega)).mono ?_
    rintro e st5 ⟨rfl, hk5⟩
    have hSi : ((y0 : Int) + (y1 : Int) * 256 + (y2 : Int) * 65536 + (y3 : Int) * 16777216) = ((S : Nat) : Int) := by rw [← hS]; omega
    rw [hSi]
    by_cases hcrc : crcM body = S
    · rw [if_neg (by simpa using hcrc)] at hres
      subst hres
      have q : ((crcM body : Int) = (S : Int)) = True := eq_true (by omega)
      simp [go_sem, hSi, q]
      refine ⟨hk4.trans hk5, _, ?_, hv4.new' hk5⟩
      rw [show ((a + 4 + n : Nat) : Int) = (a : Int) + 4 + body.length by omega]
    · rw [if_pos (by simpa using hcrc)] at hres
      subst hres
      have q : ((crcM body : Int) = (S : Int)) = False := eq_false (by omega)
      simp [go_sem, hSi, q]
      exact ⟨hk4.trans hk5, rfl⟩
end
end Go.Proofs.YtadgciaclhjjkaaGreat
set_option linter.unusedVariables false
set_option linter.unusedSimpArgs false
set_option maxRecDepth 100000
set_option maxHeartbeats 2000000
namespace Go.Proofs.YtadgciaclhjjkaaGreat
open Go.RowKit (Below)
section
variable {W0 : World} {st : Heap}
def textB (s : ByteArray) : Bs := vputM s.size ++ s.data.toList
mutual
def putM : Mat → Bs
  | .mk op name value vals kids => vputM (IntKind.u64.wrap op).toNat ++
    (if op = 1 ∨ op = 2 ∨ op = 3 then textB name ++ textB value
     else if op = 4 then textB name ++ (vputM vals.length ++ (vals.map textB).flatten)
     else (if op = 5 ∨ op = 6 then vputM kids.length else []) ++ putsM kids)
def putsM : List Mat → Bs
  | [] => []
  | k :: ks => putM k ++ putsM ks
end
mutual
/-- Small enough to be written. -/
def SmallM : Mat → Prop
  | .mk op name value vals kids => 0 ≤ op ∧ op ≤ 7 ∧ name.size ≤ 32 ∧ value.size ≤ 64 ∧ vals.length ≤ 16 ∧ (∀ v ∈ vals, v.size ≤ 64) ∧ kids.length ≤ 64 ∧ SmallsM kids
def SmallsM : List Mat → Prop
  | [] => True
  | k :: ks => SmallM k ∧ SmallsM ks
end
def MatPutR (st : Heap) (g : Tg) (B : Bs) (e : Ending) (st' : Heap) : Prop := ∃ v, e = .returned v ∧ Vec st' g 1 v (bytesV B) B.length ∧ Fresh st v ∧ New st st'
theorem Fresh.old {st st1 : Heap} {v : Value} (h : Fresh st1 v) (hk : New st st1) : Fresh st v := fun b off n c e => hk.none (h b off n c e)
theorem SmallsM.get : ∀ {ms : List Mat} {i : Nat} {m : Mat}, SmallsM ms → ms[i]? = some m → SmallM m
  | [], i, m, h, hi => by simp at hi
  | x :: ms, 0, m, h, hi => by
    unfold SmallsM at h
    injection hi with hi; subst hi; exact h.1
  | x :: ms, i + 1, m, h, hi => by
    unfold SmallsM at h
    exact SmallsM.get h.2 (by simpa using hi)
theorem matput_spec (m : Mat) : ∀ {st : Heap} {cs : List Value} {bv : Value} {b : Bs} {g0 : Tg} (g : Tg), SmallM m → MatAt st cs m → Reg st g0 1 bv (bytesV b) b.length → (b ++ putM m).length < 2 ^ 40 →
    ICalls Tryz.prog W0 123 #[bv, .agg cs.toArray] st (MatPutR st g (b ++ putM m)) := by
  intro st cs bv b g0 g hsm hm hb hlen
  match m with
  | .mk op name value vals kids =>
  have hm0 := hm
  unfold MatAt at hm
  obtain ⟨vv, kv, ks, rfl, hv, hk, hkids⟩ := hm
  obtain ⟨vb, vc, rfl⟩ := hv.slice
  obtain ⟨kb, kc, rfl⟩ := hk.slice
  unfold SmallM at hsm
  obtain ⟨ho0, ho1, hs1, hs2, hs3, hs4, hs5, hsk⟩ := hsm
  obtain ⟨o, rfl⟩ := Int.eq_ofNat_of_zero_le ho0
  generalize hRES : b ++ putM (.mk o name value vals kids) = RES at *
  unfold putM at hRES
  have hwo : IntKind.u64.wrap (o : Int) = (o : Int) := wraps_u64 _ (by omega) (by omega)
  rw [hwo, Int.toNat_natCast] at hRES
  have hRl : b.length + (vputM o).length ≤ RES.length := by rw [← hRES, List.length_append, List.length_append]; omega
  refine enter (args := [_, _]) Tryz.func123 rfl ?_
  refine IW_cut (fun E' st' => ∃ tb, New st st' ∧ E' 0 = bv ∧ E' 3 = ptr tb ∧ st' tb = some (.cells true [Val.i o, .string name, .string value, .slice vb vals.length vc, .slice kb kids.length kc] 5 (.ty 0))) ?_ ?_
  · simp [go_sem]
    unfold NewP
    intro tb htb
    refine ⟨.ty 0, ?_⟩
    simp [go_sem]
    exact (New.refl _).add htb
  rintro E1 st1 ⟨tb, hk1, e0, e3, ht⟩
  refine IW_cut (fun E' st' => New st st' ∧ E' 3 = ptr tb ∧ st' tb = some (.cells true [Val.i o, .string name, .string value, .slice vb vals.length vc, .slice kb kids.length kc] 5 (.ty 0)) ∧ Vec st' g 1 (E' 0) (bytesV (b ++ vputM o)) (b ++ vputM o).length ∧ Fresh st (E' 0)) ?_ ?_
  · simp [go_sem, e0, e3, ht, hwo]
    refine (vPut_spec g (hb.new hk1) (show o < 2 ^ 64 by omega) (by omega)).mono ?_
    rintro e st2 ⟨v, rfl, hv2, hf2, hk2⟩
    simp [go_sem]
    exact ⟨hk1.trans hk2, e3, hk2 _ _ ht, by simpa using hv2, hf2.old hk1⟩
  clear ht e0 e3 hk1
  rintro E2 st2 ⟨hk2, e3, ht, hv2, hf2⟩
  obtain ⟨v2, hv0⟩ : ∃ v, E2 0 = v := ⟨_, rfl⟩
  rw [hv0] at hv2 hf2
  refine IW_cut' (fun E' st' => ∃ B, o ≠ 1 ∧ o ≠ 2 ∧ o ≠ 3 ∧ o ≠ 4 ∧ B ++ putsM kids = RES ∧ New st st' ∧ E' 3 = ptr tb ∧ st' tb = some (.cells true [Val.i o, .string name, .string value, .slice vb vals.length vc, .slice kb kids.length kc] 5 (.ty 0)) ∧ Vec st' g 1 (E' 0) (bytesV B) B.length ∧ Fresh st (E' 0)) ?_ ?_
  · have hoc : o = 0 ∨ o = 1 ∨ o = 2 ∨ o = 3 ∨ o = 4 ∨ o = 5 ∨ o = 6 ∨ o = 7 := by omega
    have hwk : IntKind.u64.wrap (kids.length : Int) = (kids.length : Int) := wraps_u64 _ (by omega) (by omega)
    have tbytes : ∀ s : ByteArray, s.size ≤ 64 → ∀ {B : Bs} {v : Value} {st3 : Heap} {K : Ending → Heap → Prop}, B.length < 2 ^ 40 → New st st3 → Vec st3 g 1 v (bytesV B) B.length →
        (∀ v' st4, Vec st4 g 1 v' (bytesV (B ++ textB s)) (B ++ textB s).length → Fresh st v' → New st3 st4 → K (.returned v') st4) → ICalls Tryz.prog W0 121 #[v, .string s] st3 K := by
      intro s hs B v st3 K hB hN hV hK
      refine (vPutText_spec g hV.reg (by omega) hB).mono ?_
      rintro e st4 ⟨v', rfl, hv4, hf4, hk4⟩
      exact hK v' st4 hv4 (hf4.old hN) hk4
    obtain ⟨vo, hvo⟩ : ∃ vo, vputM o = vo := ⟨_, rfl⟩
    rw [hvo] at hv2 hRES hRl
    have hB2 : (b ++ vo).length < 2 ^ 40 := by rw [List.length_append]; omega
    have hoc' : o = 0 ∨ (o = 1 ∨ o = 2 ∨ o = 3) ∨ o = 4 ∨ (o = 5 ∨ o = 6) ∨ o = 7 := by omega
    rcases hoc' with h0 | h123 | h4 | h56 | h7
    · have hR1 : (b ++ vo) ++ putsM kids = RES := by rw [← hRES, if_neg (by omega), if_neg (by omega), if_neg (by omega)]; simp
      subst h0
      simp [go_sem, e3, ht, hv0]
      exact ⟨b ++ vo, hR1, hk2, by simpa using hv2, hf2⟩
    · have hR1 : (b ++ vo) ++ textB name ++ textB value = RES := by rw [← hRES, if_pos (by omega)]; simp
      have hR2 : (b ++ vo).length ≤ RES.length := by rw [← hR1]; simp
      have hR3 : (b ++ vo ++ textB name).length ≤ RES.length := by rw [← hR1]; simp
      clear hRES hvo
      rcases h123 with rfl | rfl | rfl
      all_goals
        simp [go_sem, e3, ht, hv0]
        refine drawV [0, 1, 2, 3, 4, 5, 6, 7] (fun i v st' => match i with
          | 0 => v = v2
          | 1 => v = .pointer (some ⟨tb, 1, none⟩)
          | 2 => v = .string name
          | 3 => Vec st' g 1 v (bytesV (b ++ vo ++ textB name)) (b ++ vo ++ textB name).length
          | 4 => v = .pointer (some ⟨tb, 2, none⟩)
          | 5 => v = .string value
          | _ => Vec st' g 1 v (bytesV RES) RES.length ∧ Fresh st v) (by kernel_rfl) (by kernel_rfl) ?_ ?_ ?_ ?_
        · intro i v st3 st4 hN h
          match i with
          | 0 | 1 | 2 | 4 | 5 => exact h
          | 3 => exact Vec.new' h hN
          | i + 6 => exact ⟨Vec.new' h.1 hN, h.2⟩
        · intro i oo hi E st3 hN hd hE
          have ht3 := hN _ _ ht
          match i with
          | 0 =>
            have x0 := hE 0 (oldB_spec (by kernel_rfl))
            simp at hi
            subst hi
            simp [wantedE, go_sem, x0, hv0]
            exact New.refl _
          | 1 =>
            have x0 := hE 3 (oldB_spec (by kernel_rfl))
            simp at hi
            subst hi
            simp [wantedE, go_sem, x0, e3]
            exact New.refl _
          | 2 =>
            simp at hi
            subst hi
            have d1 := hd { on := 1, ground := .data } (by simp) (by decide) _ _ rfl rfl
            simp at d1
            simp [wantedE, go_sem, d1, ht3]
            exact New.refl _
          | 3 =>
            simp at hi
            subst hi
            have d0 := hd { on := 0, ground := .data } (by simp) (by decide) _ _ rfl rfl
            have d2 := hd { on := 2, ground := .data } (by simp) (by decide) _ _ rfl rfl
            simp at d0 d2
            simp [wantedE, go_sem, d0, d2]
            refine tbytes name (by omega) hB2 (hk2.trans hN) (hv2.new' hN) ?_
            intro v' st4 hv4 hf4 hk4
            exact ⟨hk4, by simpa using hv4⟩
          | 4 =>
            have x0 := hE 3 (oldB_spec (by kernel_rfl))
            simp at hi
            subst hi
            simp [wantedE, go_sem, x0, e3]
            exact New.refl _
          | 5 =>
            simp at hi
            subst hi
            have d4 := hd { on := 4, ground := .data } (by simp) (by decide) _ _ rfl rfl
            simp at d4
            simp [wantedE, go_sem, d4, ht3]
            exact New.refl _
          | 6 =>
            simp at hi
            subst hi
            have d3 := hd { on := 3, ground := .data } (by simp) (by decide) _ _ rfl rfl
            have d5 := hd { on := 5, ground := .data } (by simp) (by decide) _ _ rfl rfl
            simp only at d3 d5
            simp [wantedE, go_sem, d5]
            refine tbytes value (by omega) (by omega) (hk2.trans hN) d3 ?_
            intro v' st4 hv4 hf4 hk4
            rw [hR1] at hv4
            exact ⟨hk4, hv4, hf4⟩
          | 7 =>
            simp at hi
            subst hi
            have d6 := hd { on := 6, ground := .data } (by simp) (by decide) _ _ rfl rfl
            simp only at d6
            simp [wantedE, go_sem]
            exact ⟨New.refl _, d6⟩
          | i + 8 => simp at hi
        · intro E st3 hN hd hE
          have d7 := hd 7 _ _ rfl rfl
          simp only at d7
          simp [go_sem]
          exact ⟨_, rfl, d7.1, d7.2, hk2.trans hN⟩
        · intro j oj hj
          match j with
          | 0 | 1 | 2 | 3 | 4 | 5 | 6 | 7 => simp at hj; subst hj; decide
          | j + 8 => simp at hj
    · have hR1 : (b ++ vo) ++ textB name ++ vputM vals.length ++ (vals.map textB).flatten = RES := by rw [← hRES, if_neg (by omega), if_pos (by omega)]; simp
      have hR3 : (b ++ vo ++ textB name).length ≤ RES.length := by rw [← hR1]; simp
      have hwv : IntKind.u64.wrap (vals.length : Int) = (vals.length : Int) := wraps_u64 _ (by omega) (by omega)
      clear hRES hvo
      subst h4
      simp [go_sem, e3, ht, hv0]
      refine drawV [0, 1, 2, 3, 4, 5, 6, 7, 8, 9] (fun i v st' => match i with
          | 0 => v = v2
          | 1 => v = .pointer (some ⟨tb, 1, none⟩)
          | 2 => v = .string name
          | 3 => Vec st' g 1 v (bytesV (b ++ vo ++ textB name)) (b ++ vo ++ textB name).length ∧ Fresh st v
          | 4 => v = .pointer (some ⟨tb, 3, none⟩)
          | 5 => v = .slice vb vals.length vc
          | 6 => v = Val.i vals.length
          | 7 => v = Val.u vals.length
          | _ => Vec st' g 1 v (bytesV (b ++ vo ++ textB name ++ vputM vals.length)) (b ++ vo ++ textB name ++ vputM vals.length).length ∧ Fresh st v) (by kernel_rfl) (by kernel_rfl) ?_ ?_ ?_ ?_
      · intro i v st3 st4 hN h
        match i with
        | 0 | 1 | 2 | 4 | 5 | 6 | 7 => exact h
        | 3 => exact ⟨Vec.new' h.1 hN, h.2⟩
        | i + 8 => exact ⟨Vec.new' h.1 hN, h.2⟩
      · intro i oo hi E st3 hN hd hE
        have ht3 := hN _ _ ht
        match i with
        | 0 =>
          have x0 := hE 0 (oldB_spec (by kernel_rfl))
          simp at hi
          subst hi
          simp [wantedE, go_sem, x0, hv0]
          exact New.refl _
        | 1 =>
          have x0 := hE 3 (oldB_spec (by kernel_rfl))
          simp at hi
          subst hi
          simp [wantedE, go_sem, x0, e3]
          exact New.refl _
        | 2 =>
          simp at hi
          subst hi
          have d1 := hd { on := 1, ground := .data } (by simp) (by decide) _ _ rfl rfl
          simp at d1
          simp [wantedE, go_sem, d1, ht3]
          exact New.refl _
        | 3 =>
          simp at hi
          subst hi
          have d0 := hd { on := 0, ground := .data } (by simp) (by decide) _ _ rfl rfl
          have d2 := hd { on := 2, ground := .data } (by simp) (by decide) _ _ rfl rfl
          simp at d0 d2
          simp [wantedE, go_sem, d0, d2]
          refine tbytes name (by omega) hB2 (hk2.trans hN) (hv2.new' hN) ?_
          intro v' st4 hv4 hf4 hk4
          exact ⟨hk4, by simpa using hv4, hf4⟩
        | 4 =>
          have x0 := hE 3 (oldB_spec (by kernel_rfl))
          simp at hi
          subst hi
          simp [wantedE, go_sem, x0, e3]
          exact New.refl _
        | 5 =>
          simp at hi
          subst hi
          have d4 := hd { on := 4, ground := .data } (by simp) (by decide) _ _ rfl rfl
          simp at d4
          simp [wantedE, go_sem, d4, ht3]
          exact New.refl _
        | 6 =>
          simp at hi
          subst hi
          have d5 := hd { on := 5, ground := .data } (by simp) (by decide) _ _ rfl rfl
          simp at d5
          simp [wantedE, go_sem, d5]
          exact New.refl _
        | 7 =>
          simp at hi
          subst hi
          have d6 := hd { on := 6, ground := .data } (by simp) (by decide) _ _ rfl rfl
          simp at d6
          simp [wantedE, go_sem, d6, hwv]
          exact New.refl _
        | 8 =>
          simp at hi
          subst hi
          have d3 := hd { on := 3, ground := .data } (by simp) (by decide) _ _ rfl rfl
          have d7 := hd { on := 7, ground := .data } (by simp) (by decide) _ _ rfl rfl
          simp only at d3 d7
          simp [wantedE, go_sem, d7]
          refine (vPut_spec g d3.1.reg (show vals.length < 2 ^ 64 by omega) (by omega)).mono ?_
          rintro e st4 ⟨v', rfl, hv4, hf4, hk4⟩
          simp [go_sem]
          exact ⟨hk4, by simpa using hv4, hf4.old (hk2.trans hN)⟩
        | 9 =>
          simp at hi
          subst hi
          have d8 := hd { on := 8, ground := .data } (by simp) (by decide) _ _ rfl rfl
          simp only at d8
          simp [wantedE, go_sem]
          exact ⟨New.refl _, by simpa using d8⟩
        | i + 10 => simp at hi
      · intro E st3 hN hd hE
        have ht3 := hN _ _ ht
        have x3 : E 3 = ptr tb := (hE 3 (noB_spec (by kernel_rfl))).trans (by simp [go_sem, e3])
        have d9 := hd 9 _ _ rfl rfl
        simp only at d9
        simp [go_sem, x3, ht3]
        refine ⟨fun E st' => New st st' ∧ E 39 = .slice vb vals.length vc ∧ E 40 = Val.i vals.length ∧ ∃ (i : Nat) (B : Bs), E 41 = Val.i i ∧ i ≤ vals.length ∧ Vec st' g 1 (E 0) (bytesV B) B.length ∧ Fresh st (E 0) ∧ B ++ ((vals.drop i).map textB).flatten = RES,
          fun E _ => match E 41 with | .int _ i => vals.length - i.toNat | _ => 0, ⟨st3, .rfl' _, hk2.trans hN, by simp [go_sem], by simp [go_sem], 0, b ++ vo ++ textB name ++ vputM vals.length, by simp [go_sem], by omega, by simpa [go_sem] using d9.1, by simpa [go_sem] using d9.2, by simpa using hR1⟩, ?_⟩
        rintro E' st4 ⟨hk4, e39, e40, i, B, e41, hi, hvB, hfB, hrec⟩
        by_cases hlt : i < vals.length
        · have hlt' : ((i : Int) < vals.length) = True := eq_true (by omega)
          obtain ⟨blk, off, rfl, hg⟩ := src_get (hv.new hk4).src (by omega)
          have hgi := hg i (by omega)
          have hvi : vals[i]? = some vals[i] := List.getElem?_eq_getElem hlt
          have hgv : (vals.map Value.string)[i]? = some (.string vals[i]) := by simp [hvi]
          rw [hgv] at hgi
          rw [List.drop_eq_getElem_cons hlt] at hrec
          have hvz := hs4 vals[i] (List.getElem_mem hlt)
          generalize vals[i] = s at hgi hrec hvz
          have hwi : IntKind.i64.wrap ((i : Int) + 1) = ((i + 1 : Nat) : Int) := by rw [wrap_id (by omega) (by omega)]; omega
          have hBl : B.length ≤ RES.length := by rw [← hrec]; simp
          simp [go_sem, e39, e40, e41, hlt, hlt', hgi, hwi]
          refine tbytes s hvz (by omega) hk4 hvB ?_
          intro v' st5 hv5 hf5 hk5
          simp [go_sem, e39, e40, e41, hwi]
          refine ⟨_, .rfl' _, ⟨hk4.trans hk5, i + 1, by omega, by omega, B ++ textB s, by simpa using hv5, hf5, by simpa using hrec⟩, by omega⟩
        · have hlt' : ((i : Int) < vals.length) = False := eq_false (by omega)
          have : i = vals.length := by omega
          subst this
          rw [List.drop_length] at hrec
          simp at hrec
          subst hrec
          simp [go_sem, e39, e40, e41]
          exact ⟨_, rfl, hvB, hfB, hk4⟩
      · intro j oj hj
        match j with
        | 0 | 1 | 2 | 3 | 4 | 5 | 6 | 7 | 8 | 9 => simp at hj; subst hj; decide
        | j + 10 => simp at hj
    · have hR1 : (b ++ vo ++ vputM kids.length) ++ putsM kids = RES := by rw [← hRES, if_neg (by omega), if_neg (by omega), if_pos (by omega)]; simp
      rcases h56 with rfl | rfl
      all_goals
        simp [go_sem, e3, ht, hv0, hwk]
        refine (vPut_spec g hv2.reg (show kids.length < 2 ^ 64 by omega) (by omega)).mono ?_
        rintro e st3 ⟨v, rfl, hv3, hf3, hk3⟩
        simp [go_sem]
        exact ⟨_, hR1, hk2.trans hk3, e3, hk3 _ _ ht, hv3, hf3.old hk2⟩
    · have hR1 : (b ++ vo) ++ putsM kids = RES := by rw [← hRES, if_neg (by omega), if_neg (by omega), if_neg (by omega)]; simp
      subst h7
      simp [go_sem, e3, ht, hv0]
      exact ⟨b ++ vo, hR1, hk2, by simpa using hv2, hf2⟩
  clear ht e3 hk2 hv2 hf2 hRES hRl hv0
  rintro E3 st3 ⟨B0, o1, o2, o3, o4, hB0, hk3, e3, ht, hv3, hf3⟩
  simp [go_sem, e3, ht]
  refine ⟨fun E st' => New st st' ∧ E 60 = .slice kb kids.length kc ∧ E 61 = Val.i kids.length ∧ ∃ (i : Nat) (B : Bs), E 62 = Val.i i ∧ i ≤ kids.length ∧ Vec st' g 1 (E 0) (bytesV B) B.length ∧ Fresh st (E 0) ∧ B ++ putsM (kids.drop i) = RES,
    fun E _ => match E 62 with | .int _ i => kids.length - i.toNat | _ => 0, ⟨st3, .rfl' _, hk3, by simp [go_sem], by simp [go_sem], 0, B0, by simp [go_sem], by omega, by simpa [go_sem] using hv3, by simpa [go_sem] using hf3, by simpa using hB0⟩, ?_⟩
  clear e3 ht hv3 hf3 hk3 hB0
  rintro E st4 ⟨hk4, e60, e61, i, B, e62, hi, hvB, hfB, hrec⟩
  by_cases hlt : i < kids.length
  · have hlt' : ((i : Int) < kids.length) = True := eq_true (by omega)
    have hkr := hk.new hk4
    obtain ⟨g5, hg5, hl5, base5, cap5, hv5, hc5, hreg5⟩ := hkr
    injection hv5 with q1 q2 q3; subst q1; subst q3
    rcases hreg5 with h0 | ⟨blk, off, rw5, ys5, m5, rfl, hs5', hp5, ho5⟩
    · omega
    have hki : kids[i]? = some kids[i] := List.getElem?_eq_getElem hlt
    have hmem : kids[i] ∈ kids := List.getElem_mem hlt
    obtain ⟨hmi, hil⟩ := KidsAt.get (KidsAt.mono (fun _ _ _ _ h => h.new hk4) _ _ hkids) hki
    have hd : kids.drop i = kids[i] :: kids.drop (i + 1) := List.drop_eq_getElem_cons hlt
    rw [hd] at hrec
    unfold putsM at hrec
    have hsmi := hsk.get hki
    have hcell : ((ys5.drop (off + i * 5)).take 5) = (ks.drop (i * 5)).take 5 := by
      obtain ⟨t, ht⟩ := hp5
      have a1 : i * 5 ≤ ks.length := by omega
      have a2 : 5 ≤ (ks.drop (i * 5)).length := by rw [List.length_drop]; omega
      rw [← List.drop_drop, ← ht, List.drop_append_of_le_length a1, List.take_append_of_le_length a2]
    have hlen5 : off + i * 5 + 5 ≤ ys5.length := by
      obtain ⟨t, ht⟩ := hp5
      have := congrArg List.length ht
      simp at this
      omega
    have hwi : IntKind.i64.wrap ((i : Int) + 1) = ((i + 1 : Nat) : Int) := by rw [wrap_id (by omega) (by omega)]; omega
    obtain ⟨⟨op', name', value', vals', kids'⟩, hkk⟩ : ∃ k, kids[i] = k := ⟨_, rfl⟩
    have hmi' := hmi
    rw [hkk] at hmi'
    unfold MatAt at hmi'
    obtain ⟨vv', kv', ks', hcs, hv', hk', -⟩ := hmi'
    obtain ⟨vb', vc', rfl⟩ := hv'.slice
    obtain ⟨kb', kc', rfl⟩ := hk'.slice
    simp [go_sem, e60, e61, e62, hlt, hlt', hs5', hlen5, hcell]
    rw [hcs] at hmi ⊢
    unfold NewP
    intro tk htk
    refine ⟨.ty 0, ?_⟩
    simp [go_sem, e60, e61, e62]
    have hN : New st4 (upd st4 tk (.cells true [Val.i op', .string name', .string value', .slice vb' vals'.length vc', .slice kb' kids'.length kc'] 5 (.ty 0))) := (New.refl _).add htk
    have hBl : (B ++ putM kids[i]).length ≤ RES.length := by rw [← hrec]; simp
    refine (matput_spec kids[i] (b := B) g hsmi (hmi.new hN) (hvB.new' hN).reg (by omega)).mono ?_
    rintro e st5 ⟨v5, rfl, hv5, hf5, hk5⟩
    have hk6 : New st4 st5 := hN.trans hk5
    simp [go_sem, e60, e61, e62, hwi]
    refine ⟨_, .rfl' _, ⟨hk4.trans hk6, i + 1, by omega, by omega, B ++ putM kids[i], by simpa using hv5, hf5.old (hk4.trans hN), by simpa using hrec⟩, by omega⟩
  · have hlt' : ((i : Int) < kids.length) = False := eq_false (by omega)
    have : i = kids.length := by omega
    subst this
    rw [List.drop_length] at hrec
    unfold putsM at hrec
    simp at hrec
    subst hrec
    simp [go_sem, e60, e61, e62]
    exact ⟨_, rfl, hvB, hfB, hk4⟩
termination_by SizeOf.sizeOf m
decreasing_by
  have := List.sizeOf_lt_of_mem hmem
  simp
  omega
end
end Go.Proofs.YtadgciaclhjjkaaGreat
set_option linter.unusedVariables false
set_option linter.unusedSimpArgs false
set_option maxRecDepth 100000
set_option maxHeartbeats 2000000
namespace Go.Proofs.YtadgciaclhjjkaaGreat
open Go.RowKit (Below)
theorem textB_len {s : ByteArray} (h : s.size ≤ 64) : (textB s).length ≤ 10 + s.size := by
  have := vputM_len s.size (by omega)
  unfold textB
  rw [List.length_append]
  simp
  omega
theorem aloneM_op {op : Int} {name value : ByteArray} {vals : List ByteArray} {nk : Nat} (h : aloneM op name value vals nk = true) : 0 ≤ op ∧ op ≤ 7 := by
  by_cases h1 : 0 ≤ op ∧ op ≤ 7
  · exact h1
  · exfalso
    unfold aloneM at h
    simp only at h
    rw [if_neg (by omega), if_neg (by omega), if_neg (by omega), if_neg (by omega), if_neg (by omega)] at h
    cases h
theorem texts_len : ∀ {l : List ByteArray}, (∀ v ∈ l, v.size ≤ 64) → ((l.map textB).flatten).length ≤ 74 * l.length
  | [], _ => by simp
  | v :: l, h => by
    have h1 := texts_len (l := l) fun w hw => h w (by simp [hw])
    have h2 := h v (by simp)
    have h3 := textB_len h2
    simp only [List.map_cons, List.flatten_cons, List.length_append, List.length_cons] at h1 ⊢
    omega
mutual
theorem holdsM_small : ∀ (m : Mat) (deep : Nat) (n b : Int), n ≤ 64 → (holdsM m deep n b).1 = true → SmallM m ∧ ((putM m).length : Int) ≤ 1400 * (n - (holdsM m deep n b).2.1)
  | .mk op name value vals kids, deep, n, b, hn, h => by
    have hb := holdsM_bound (.mk op name value vals kids) deep n b
    unfold holdsM at h hb ⊢
    split at h
    · cases h
    split at h
    · cases h
    rename_i h1 h2
    rw [if_neg h1, if_neg h2] at hb ⊢
    have hal : aloneM op name value vals kids.length = true := by
      cases h : aloneM op name value vals kids.length with
      | true => rfl
      | false => exact absurd (.inr (.inr h)) h1
    obtain ⟨z1, z2, z3, z4⟩ := aloneM_bound hal
    obtain ⟨o1, o2⟩ := aloneM_op hal
    obtain ⟨k1, k2, k3⟩ := kidsM_small kids (deep + 1) (n - 1) (b - (name.size + value.size : Nat) - sizesM vals) (by omega) h
    obtain ⟨u1, u2, u3⟩ := hb
    have u4 := (u3 h).1
    generalize (kidsM kids (deep + 1) (n - 1) (b - (name.size + value.size : Nat) - sizesM vals)).2.1 = n2 at *
    unfold SmallM
    refine ⟨⟨o1, o2, z1, z2, z3, z4, by omega, k1⟩, ?_⟩
    unfold putM
    have e1 := textB_len (s := name) (by omega)
    have e2 := textB_len z2
    have e3 := texts_len z4
    have e4 := vputM_len (IntKind.u64.wrap op).toNat (by rw [wraps_u64 _ (by omega) (by omega)]; omega)
    have e5 := vputM_len vals.length (by omega)
    have e6 := vputM_len kids.length (by omega)
    rw [List.length_append]
    split
    · rw [List.length_append]; omega
    split
    · rw [List.length_append, List.length_append]; omega
    split
    · rw [List.length_append]; omega
    · simp only [List.nil_append]; omega
theorem kidsM_small : ∀ (ms : List Mat) (deep : Nat) (n b : Int), n ≤ 64 → (kidsM ms deep n b).1 = true → SmallsM ms ∧ ((ms.length : Int) ≤ n - (kidsM ms deep n b).2.1) ∧ ((putsM ms).length : Int) ≤ 1400 * (n - (kidsM ms deep n b).2.1)
  | [], deep, n, b, hn, h => by unfold kidsM SmallsM putsM; simp
  | k :: ks, deep, n, b, hn, h => by
    unfold kidsM at h ⊢
    have h1 := holdsM_bound k deep n b
    have h2 := holdsM_small k deep n b hn
    split at h
    · rename_i n' b' hh
      rw [hh] at h1 h2
      obtain ⟨t1, t2⟩ := h2 rfl
      obtain ⟨u1, u2, u3⟩ := h1
      simp only at t2 u1
      obtain ⟨k1, k2, k3⟩ := kidsM_small ks deep n' b' (by omega) h
      unfold SmallsM putsM
      refine ⟨⟨t1, k1⟩, by rw [List.length_cons]; omega, by rw [List.length_append]; omega⟩
    · cases h
end
section
variable {W0 : World} {st : Heap}
theorem matPut_spec (m : Mat) {cs : List Value} {bv : Value} {b : Bs} {g : Tg} (hm : MatAt st cs m) (hb : Reg st g 1 bv (bytesV b) b.length) (hl : b.length < 2 ^ 39) :
    ICalls Tryz.prog W0 56 #[bv, .agg cs.toArray] st fun e st' => (checkM m = false ∧ e = .returned bv ∧ New st st') ∨ (checkM m = true ∧ MatPutR st g (b ++ putM m) e st') := by
  obtain ⟨op, name, value, vals, kids⟩ := m
  have hm0 := hm
  unfold MatAt at hm
  obtain ⟨vv, kv, ks, rfl, hv, hk, hkids⟩ := hm
  obtain ⟨vb, vc, rfl⟩ := hv.slice
  obtain ⟨kb, kc, rfl⟩ := hk.slice
  generalize hM : Mat.mk op name value vals kids = M at *
  refine enter (args := [_, _]) Tryz.func56 rfl ?_
  simp [Tryz.f56, go_sem]
  unfold NewP
  intro tb htb
  refine ⟨.ty 0, ?_⟩
  have hN := (New.refl st).add (b := tb) (o := .cells true [Val.i op, .string name, .string value, .slice vb vals.length vc, .slice kb kids.length kc] 5 (.ty 0)) htb
  simp [go_sem]
  refine (matCheck_spec M (hm0.new hN)).mono ?_
  rintro e st1 ⟨rfl, hk1⟩
  have ht1 := hk1 _ _ (upd_same st tb (.cells true [Val.i op, .string name, .string value, .slice vb vals.length vc, .slice kb kids.length kc] 5 (.ty 0)))
  have hN1 := hN.trans hk1
  cases hc : checkM M with
  | false =>
    simp [go_sem]
    exact hN1
  | true =>
    have hsm := holdsM_small M 1 64 4096 (by omega) hc
    have hbd := holdsM_bound M 1 64 4096
    have := (hbd.2.2 hc).1
    simp [go_sem, ht1]
    refine (matput_spec M g hsm.1 (hm0.new hN1) (hb.new hN1) (by rw [List.length_append]; omega)).mono ?_
    rintro e st2 ⟨v, rfl, hv2, hf2, hk2⟩
    simp [go_sem]
    exact ⟨v, rfl, by simpa using hv2, hf2.old hN1, hN1.trans hk2⟩
end
end Go.Proofs.YtadgciaclhjjkaaGreat
