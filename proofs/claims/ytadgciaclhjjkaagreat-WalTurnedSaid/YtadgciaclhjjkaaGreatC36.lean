/- Labels of the laws' rows. -/
import Derived.Test.YtadgciaclhjjkaaGreatC29
import Derived.Test.YtadgciaclhjjkaaGreatC23
set_option linter.unusedVariables false
set_option linter.unusedSimpArgs false
set_option maxRecDepth 100000
set_option maxHeartbeats 1000000
namespace Go.Proofs.YtadgciaclhjjkaaGreat
open Go.RowKit (Below)
structure GoodL (l : List Lab) : Prop where
  ck : checkL l = true
  len : l.length ≤ 8
  sizes : ∀ x ∈ l, x.1.size < 2 ^ 60 ∧ x.2.size < 2 ^ 60
  two : l.length ≤ 2
  tiny : ∀ x ∈ l, x.1.size ≤ 4 ∧ x.2.size ≤ 2
section
variable {W0 : World} {st : Heap}
theorem Set_spec {i : Int} : ICalls Tryz.prog W0 76 #[Val.i i] st fun e st' => ∃ w l, e = .returned w ∧ Vec st' (.ty 1) 2 w (labV l) l.length ∧ Fresh st w ∧ GoodL l ∧ New st st' := by
  refine enter (args := [_]) Tryz.func76 rfl ?_
  simp [Tryz.f76, go_sem]
  refine (Place_spec (k := 12) (by omega) (by omega)).mono ?_
  rintro e st1 ⟨⟨m, hm, rfl⟩, rfl⟩
  have hm' : m < 12 := by omega
  have hcase : m = 0 ∨ m = 1 ∨ m = 2 ∨ m = 3 ∨ m = 4 ∨ m = 5 ∨ m = 6 ∨ m = 7 ∨ m = 8 ∨ m = 9 ∨ m = 10 ∨ m = 11 := by omega
  clear hm hm'
  have w0 : IntKind.i64.wrap 0 = 0 := by decide
  have w1 : IntKind.i64.wrap 1 = 1 := by decide
  have w2 : IntKind.i64.wrap 2 = 2 := by decide
  have w3 : IntKind.i64.wrap 3 = 3 := by decide
  have w4 : IntKind.i64.wrap 4 = 4 := by decide
  have w5 : IntKind.i64.wrap 5 = 5 := by decide
  have w6 : IntKind.i64.wrap 6 = 6 := by decide
  have w7 : IntKind.i64.wrap 7 = 7 := by decide
  have w8 : IntKind.i64.wrap 8 = 8 := by decide
  have w9 : IntKind.i64.wrap 9 = 9 := by decide
  have w10 : IntKind.i64.wrap 10 = 10 := by decide
  have w11 : IntKind.i64.wrap 11 = 11 := by decide
  have w12 : IntKind.i64.wrap 12 = 12 := by decide
  have hd : (⟨#[48, 49, 50, 51, 52, 53, 54, 55, 56, 57, 97, 98]⟩ : ByteArray).size = 12 := rfl
  rcases hcase with rfl | rfl | rfl | rfl | rfl | rfl | rfl | rfl | rfl | rfl | rfl | rfl
  · simp [go_sem, hd, w0, w1, w2, w3, w4, w5, w6, w7, w8, w9, w10, w11, w12]
    obtain ⟨x, hx⟩ : ∃ x : ByteArray, { data := #[104] } ++ ({ data := #[48, 49, 50, 51, 52, 53, 54, 55, 56, 57, 97, 98] } : ByteArray).extract 0 1 = x := ⟨_, rfl⟩
    rw [hx]
    unfold NewS
    intro nb hnb
    refine ⟨.ty 1, ?_⟩
    have n1 := (New.refl st1).add (b := nb) (o := .cells true [.string ⟨#[104, 111, 115, 116]⟩, .string x] 2 (.ty 1)) hnb
    have hV : Vec (upd st1 nb (.cells true [.string ⟨#[104, 111, 115, 116]⟩, .string x] 2 (.ty 1))) (.ty 1) 2 (.slice (some ⟨nb, 0, none⟩) 1 1) [.string ⟨#[104, 111, 115, 116]⟩, .string x] 1 := ⟨rfl, _, _, rfl, by omega, .inl ⟨nb, 2, rfl, upd_same _ _ _, by omega⟩⟩
    simp [go_sem, w0, w1, w2, w3, w4, w5, w6, w7, w8, w9, w10, w11, w12]
    exact ⟨[(⟨#[104, 111, 115, 116]⟩, x)], hV, Fresh.some hnb, ⟨by subst hx; decide +kernel, by simp, by subst hx; decide +kernel, by simp, by subst hx; decide +kernel⟩, n1⟩
  · simp [go_sem, hd, w0, w1, w2, w3, w4, w5, w6, w7, w8, w9, w10, w11, w12]
    obtain ⟨x, hx⟩ : ∃ x : ByteArray, { data := #[104] } ++ ({ data := #[48, 49, 50, 51, 52, 53, 54, 55, 56, 57, 97, 98] } : ByteArray).extract 1 2 = x := ⟨_, rfl⟩
    rw [hx]
    unfold NewS
    intro nb hnb
    refine ⟨.ty 1, ?_⟩
    have n1 := (New.refl st1).add (b := nb) (o := .cells true [.string ⟨#[104, 111, 115, 116]⟩, .string x] 2 (.ty 1)) hnb
    have hV : Vec (upd st1 nb (.cells true [.string ⟨#[104, 111, 115, 116]⟩, .string x] 2 (.ty 1))) (.ty 1) 2 (.slice (some ⟨nb, 0, none⟩) 1 1) [.string ⟨#[104, 111, 115, 116]⟩, .string x] 1 := ⟨rfl, _, _, rfl, by omega, .inl ⟨nb, 2, rfl, upd_same _ _ _, by omega⟩⟩
    simp only [List.length_cons, List.length_nil, Nat.zero_add, Nat.reduceAdd]
    generalize upd st1 nb (.cells true [.string ⟨#[104, 111, 115, 116]⟩, .string x] 2 (.ty 1)) = st2 at *
    simp [go_sem, hd, w0, w1, w2, w3, w4, w5, w6, w7, w8, w9, w10, w11, w12]
    obtain ⟨y, hy⟩ : ∃ y : ByteArray, { data := #[122] } ++ ({ data := #[48, 49, 50, 51, 52, 53, 54, 55, 56, 57, 97, 98] } : ByteArray).extract 0 1 = y := ⟨_, rfl⟩
    rw [hy]
    unfold NewS
    intro nc hnc
    refine ⟨.ty 1, ?_⟩
    have n2 := (New.refl st2).add (b := nc) (o := .cells true [.string ⟨#[122, 111, 110, 101]⟩, .string y] 2 (.ty 1)) hnc
    simp [go_sem]
    refine AppI_new (st0 := st1) (g := .ty 1) (m := 1) (ys := [.string ⟨#[122, 111, 110, 101]⟩, .string y]) si22 (hV.new' n2) (Fresh.some hnb) (n1.trans n2) (by simp [srcCells, lkN_mk, upd_same, cellsOf]) (by simp [Value.oneCell']) (by omega) ?_
    intro base cap st4 hV4 hF4 k4 hx4
    simp [go_sem]
    exact ⟨[(⟨#[104, 111, 115, 116]⟩, x), (⟨#[122, 111, 110, 101]⟩, y)], hV4, hF4, ⟨by subst hx; subst hy; decide +kernel, by simp, by subst hx; subst hy; decide +kernel, by simp, by subst hx; subst hy; decide +kernel⟩, k4⟩
  · simp [go_sem, hd, w0, w1, w2, w3, w4, w5, w6, w7, w8, w9, w10, w11, w12]
    obtain ⟨x, hx⟩ : ∃ x : ByteArray, { data := #[104] } ++ ({ data := #[48, 49, 50, 51, 52, 53, 54, 55, 56, 57, 97, 98] } : ByteArray).extract 2 3 = x := ⟨_, rfl⟩
    rw [hx]
    unfold NewS
    intro nb hnb
    refine ⟨.ty 1, ?_⟩
    have n1 := (New.refl st1).add (b := nb) (o := .cells true [.string ⟨#[104, 111, 115, 116]⟩, .string x] 2 (.ty 1)) hnb
    have hV : Vec (upd st1 nb (.cells true [.string ⟨#[104, 111, 115, 116]⟩, .string x] 2 (.ty 1))) (.ty 1) 2 (.slice (some ⟨nb, 0, none⟩) 1 1) [.string ⟨#[104, 111, 115, 116]⟩, .string x] 1 := ⟨rfl, _, _, rfl, by omega, .inl ⟨nb, 2, rfl, upd_same _ _ _, by omega⟩⟩
    simp [go_sem, w0, w1, w2, w3, w4, w5, w6, w7, w8, w9, w10, w11, w12]
    exact ⟨[(⟨#[104, 111, 115, 116]⟩, x)], hV, Fresh.some hnb, ⟨by subst hx; decide +kernel, by simp, by subst hx; decide +kernel, by simp, by subst hx; decide +kernel⟩, n1⟩
  · simp [go_sem, hd, w0, w1, w2, w3, w4, w5, w6, w7, w8, w9, w10, w11, w12]
    obtain ⟨x, hx⟩ : ∃ x : ByteArray, { data := #[104] } ++ ({ data := #[48, 49, 50, 51, 52, 53, 54, 55, 56, 57, 97, 98] } : ByteArray).extract 3 4 = x := ⟨_, rfl⟩
    rw [hx]
    unfold NewS
    intro nb hnb
    refine ⟨.ty 1, ?_⟩
    have n1 := (New.refl st1).add (b := nb) (o := .cells true [.string ⟨#[104, 111, 115, 116]⟩, .string x] 2 (.ty 1)) hnb
    have hV : Vec (upd st1 nb (.cells true [.string ⟨#[104, 111, 115, 116]⟩, .string x] 2 (.ty 1))) (.ty 1) 2 (.slice (some ⟨nb, 0, none⟩) 1 1) [.string ⟨#[104, 111, 115, 116]⟩, .string x] 1 := ⟨rfl, _, _, rfl, by omega, .inl ⟨nb, 2, rfl, upd_same _ _ _, by omega⟩⟩
    simp only [List.length_cons, List.length_nil, Nat.zero_add, Nat.reduceAdd]
    generalize upd st1 nb (.cells true [.string ⟨#[104, 111, 115, 116]⟩, .string x] 2 (.ty 1)) = st2 at *
    simp [go_sem, hd, w0, w1, w2, w3, w4, w5, w6, w7, w8, w9, w10, w11, w12]
    obtain ⟨y, hy⟩ : ∃ y : ByteArray, { data := #[122] } ++ ({ data := #[48, 49, 50, 51, 52, 53, 54, 55, 56, 57, 97, 98] } : ByteArray).extract 1 2 = y := ⟨_, rfl⟩
    rw [hy]
    unfold NewS
    intro nc hnc
    refine ⟨.ty 1, ?_⟩
    have n2 := (New.refl st2).add (b := nc) (o := .cells true [.string ⟨#[122, 111, 110, 101]⟩, .string y] 2 (.ty 1)) hnc
    simp [go_sem]
    refine AppI_new (st0 := st1) (g := .ty 1) (m := 1) (ys := [.string ⟨#[122, 111, 110, 101]⟩, .string y]) si22 (hV.new' n2) (Fresh.some hnb) (n1.trans n2) (by simp [srcCells, lkN_mk, upd_same, cellsOf]) (by simp [Value.oneCell']) (by omega) ?_
    intro base cap st4 hV4 hF4 k4 hx4
    simp [go_sem]
    exact ⟨[(⟨#[104, 111, 115, 116]⟩, x), (⟨#[122, 111, 110, 101]⟩, y)], hV4, hF4, ⟨by subst hx; subst hy; decide +kernel, by simp, by subst hx; subst hy; decide +kernel, by simp, by subst hx; subst hy; decide +kernel⟩, k4⟩
  · simp [go_sem, hd, w0, w1, w2, w3, w4, w5, w6, w7, w8, w9, w10, w11, w12]
    obtain ⟨x, hx⟩ : ∃ x : ByteArray, { data := #[104] } ++ ({ data := #[48, 49, 50, 51, 52, 53, 54, 55, 56, 57, 97, 98] } : ByteArray).extract 4 5 = x := ⟨_, rfl⟩
    rw [hx]
    unfold NewS
    intro nb hnb
    refine ⟨.ty 1, ?_⟩
    have n1 := (New.refl st1).add (b := nb) (o := .cells true [.string ⟨#[104, 111, 115, 116]⟩, .string x] 2 (.ty 1)) hnb
    have hV : Vec (upd st1 nb (.cells true [.string ⟨#[104, 111, 115, 116]⟩, .string x] 2 (.ty 1))) (.ty 1) 2 (.slice (some ⟨nb, 0, none⟩) 1 1) [.string ⟨#[104, 111, 115, 116]⟩, .string x] 1 := ⟨rfl, _, _, rfl, by omega, .inl ⟨nb, 2, rfl, upd_same _ _ _, by omega⟩⟩
    simp [go_sem, w0, w1, w2, w3, w4, w5, w6, w7, w8, w9, w10, w11, w12]
    exact ⟨[(⟨#[104, 111, 115, 116]⟩, x)], hV, Fresh.some hnb, ⟨by subst hx; decide +kernel, by simp, by subst hx; decide +kernel, by simp, by subst hx; decide +kernel⟩, n1⟩
  · simp [go_sem, hd, w0, w1, w2, w3, w4, w5, w6, w7, w8, w9, w10, w11, w12]
    obtain ⟨x, hx⟩ : ∃ x : ByteArray, { data := #[104] } ++ ({ data := #[48, 49, 50, 51, 52, 53, 54, 55, 56, 57, 97, 98] } : ByteArray).extract 5 6 = x := ⟨_, rfl⟩
    rw [hx]
    unfold NewS
    intro nb hnb
    refine ⟨.ty 1, ?_⟩
    have n1 := (New.refl st1).add (b := nb) (o := .cells true [.string ⟨#[104, 111, 115, 116]⟩, .string x] 2 (.ty 1)) hnb
    have hV : Vec (upd st1 nb (.cells true [.string ⟨#[104, 111, 115, 116]⟩, .string x] 2 (.ty 1))) (.ty 1) 2 (.slice (some ⟨nb, 0, none⟩) 1 1) [.string ⟨#[104, 111, 115, 116]⟩, .string x] 1 := ⟨rfl, _, _, rfl, by omega, .inl ⟨nb, 2, rfl, upd_same _ _ _, by omega⟩⟩
    simp only [List.length_cons, List.length_nil, Nat.zero_add, Nat.reduceAdd]
    generalize upd st1 nb (.cells true [.string ⟨#[104, 111, 115, 116]⟩, .string x] 2 (.ty 1)) = st2 at *
    simp [go_sem, hd, w0, w1, w2, w3, w4, w5, w6, w7, w8, w9, w10, w11, w12]
    obtain ⟨y, hy⟩ : ∃ y : ByteArray, { data := #[122] } ++ ({ data := #[48, 49, 50, 51, 52, 53, 54, 55, 56, 57, 97, 98] } : ByteArray).extract 1 2 = y := ⟨_, rfl⟩
    rw [hy]
    unfold NewS
    intro nc hnc
    refine ⟨.ty 1, ?_⟩
    have n2 := (New.refl st2).add (b := nc) (o := .cells true [.string ⟨#[122, 111, 110, 101]⟩, .string y] 2 (.ty 1)) hnc
    simp [go_sem]
    refine AppI_new (st0 := st1) (g := .ty 1) (m := 1) (ys := [.string ⟨#[122, 111, 110, 101]⟩, .string y]) si22 (hV.new' n2) (Fresh.some hnb) (n1.trans n2) (by simp [srcCells, lkN_mk, upd_same, cellsOf]) (by simp [Value.oneCell']) (by omega) ?_
    intro base cap st4 hV4 hF4 k4 hx4
    simp [go_sem]
    exact ⟨[(⟨#[104, 111, 115, 116]⟩, x), (⟨#[122, 111, 110, 101]⟩, y)], hV4, hF4, ⟨by subst hx; subst hy; decide +kernel, by simp, by subst hx; subst hy; decide +kernel, by simp, by subst hx; subst hy; decide +kernel⟩, k4⟩
  · simp [go_sem, hd, w0, w1, w2, w3, w4, w5, w6, w7, w8, w9, w10, w11, w12]
    obtain ⟨x, hx⟩ : ∃ x : ByteArray, { data := #[104] } ++ ({ data := #[48, 49, 50, 51, 52, 53, 54, 55, 56, 57, 97, 98] } : ByteArray).extract 6 7 = x := ⟨_, rfl⟩
    rw [hx]
    unfold NewS
    intro nb hnb
    refine ⟨.ty 1, ?_⟩
    have n1 := (New.refl st1).add (b := nb) (o := .cells true [.string ⟨#[104, 111, 115, 116]⟩, .string x] 2 (.ty 1)) hnb
    have hV : Vec (upd st1 nb (.cells true [.string ⟨#[104, 111, 115, 116]⟩, .string x] 2 (.ty 1))) (.ty 1) 2 (.slice (some ⟨nb, 0, none⟩) 1 1) [.string ⟨#[104, 111, 115, 116]⟩, .string x] 1 := ⟨rfl, _, _, rfl, by omega, .inl ⟨nb, 2, rfl, upd_same _ _ _, by omega⟩⟩
    simp [go_sem, w0, w1, w2, w3, w4, w5, w6, w7, w8, w9, w10, w11, w12]
    exact ⟨[(⟨#[104, 111, 115, 116]⟩, x)], hV, Fresh.some hnb, ⟨by subst hx; decide +kernel, by simp, by subst hx; decide +kernel, by simp, by subst hx; decide +kernel⟩, n1⟩
  · simp [go_sem, hd, w0, w1, w2, w3, w4, w5, w6, w7, w8, w9, w10, w11, w12]
    obtain ⟨x, hx⟩ : ∃ x : ByteArray, { data := #[104] } ++ ({ data := #[48, 49, 50, 51, 52, 53, 54, 55, 56, 57, 97, 98] } : ByteArray).extract 7 8 = x := ⟨_, rfl⟩
    rw [hx]
    unfold NewS
    intro nb hnb
    refine ⟨.ty 1, ?_⟩
    have n1 := (New.refl st1).add (b := nb) (o := .cells true [.string ⟨#[104, 111, 115, 116]⟩, .string x] 2 (.ty 1)) hnb
    have hV : Vec (upd st1 nb (.cells true [.string ⟨#[104, 111, 115, 116]⟩, .string x] 2 (.ty 1))) (.ty 1) 2 (.slice (some ⟨nb, 0, none⟩) 1 1) [.string ⟨#[104, 111, 115, 116]⟩, .string x] 1 := ⟨rfl, _, _, rfl, by omega, .inl ⟨nb, 2, rfl, upd_same _ _ _, by omega⟩⟩
    simp only [List.length_cons, List.length_nil, Nat.zero_add, Nat.reduceAdd]
    generalize upd st1 nb (.cells true [.string ⟨#[104, 111, 115, 116]⟩, .string x] 2 (.ty 1)) = st2 at *
    simp [go_sem, hd, w0, w1, w2, w3, w4, w5, w6, w7, w8, w9, w10, w11, w12]
    obtain ⟨y, hy⟩ : ∃ y : ByteArray, { data := #[122] } ++ ({ data := #[48, 49, 50, 51, 52, 53, 54, 55, 56, 57, 97, 98] } : ByteArray).extract 2 3 = y := ⟨_, rfl⟩
    rw [hy]
    unfold NewS
    intro nc hnc
    refine ⟨.ty 1, ?_⟩
    have n2 := (New.refl st2).add (b := nc) (o := .cells true [.string ⟨#[122, 111, 110, 101]⟩, .string y] 2 (.ty 1)) hnc
    simp [go_sem]
    refine AppI_new (st0 := st1) (g := .ty 1) (m := 1) (ys := [.string ⟨#[122, 111, 110, 101]⟩, .string y]) si22 (hV.new' n2) (Fresh.some hnb) (n1.trans n2) (by simp [srcCells, lkN_mk, upd_same, cellsOf]) (by simp [Value.oneCell']) (by omega) ?_
    intro base cap st4 hV4 hF4 k4 hx4
    simp [go_sem]
    exact ⟨[(⟨#[104, 111, 115, 116]⟩, x), (⟨#[122, 111, 110, 101]⟩, y)], hV4, hF4, ⟨by subst hx; subst hy; decide +kernel, by simp, by subst hx; subst hy; decide +kernel, by simp, by subst hx; subst hy; decide +kernel⟩, k4⟩
  · simp [go_sem, hd, w0, w1, w2, w3, w4, w5, w6, w7, w8, w9, w10, w11, w12]
    obtain ⟨x, hx⟩ : ∃ x : ByteArray, { data := #[104] } ++ ({ data := #[48, 49, 50, 51, 52, 53, 54, 55, 56, 57, 97, 98] } : ByteArray).extract 8 9 = x := ⟨_, rfl⟩
    rw [hx]
    unfold NewS
    intro nb hnb
    refine ⟨.ty 1, ?_⟩
    have n1 := (New.refl st1).add (b := nb) (o := .cells true [.string ⟨#[104, 111, 115, 116]⟩, .string x] 2 (.ty 1)) hnb
    have hV : Vec (upd st1 nb (.cells true [.string ⟨#[104, 111, 115, 116]⟩, .string x] 2 (.ty 1))) (.ty 1) 2 (.slice (some ⟨nb, 0, none⟩) 1 1) [.string ⟨#[104, 111, 115, 116]⟩, .string x] 1 := ⟨rfl, _, _, rfl, by omega, .inl ⟨nb, 2, rfl, upd_same _ _ _, by omega⟩⟩
    simp [go_sem, w0, w1, w2, w3, w4, w5, w6, w7, w8, w9, w10, w11, w12]
    exact ⟨[(⟨#[104, 111, 115, 116]⟩, x)], hV, Fresh.some hnb, ⟨by subst hx; decide +kernel, by simp, by subst hx; decide +kernel, by simp, by subst hx; decide +kernel⟩, n1⟩
  · simp [go_sem, hd, w0, w1, w2, w3, w4, w5, w6, w7, w8, w9, w10, w11, w12]
    obtain ⟨x, hx⟩ : ∃ x : ByteArray, { data := #[104] } ++ ({ data := #[48, 49, 50, 51, 52, 53, 54, 55, 56, 57, 97, 98] } : ByteArray).extract 9 10 = x := ⟨_, rfl⟩
    rw [hx]
    unfold NewS
    intro nb hnb
    refine ⟨.ty 1, ?_⟩
    have n1 := (New.refl st1).add (b := nb) (o := .cells true [.string ⟨#[104, 111, 115, 116]⟩, .string x] 2 (.ty 1)) hnb
    have hV : Vec (upd st1 nb (.cells true [.string ⟨#[104, 111, 115, 116]⟩, .string x] 2 (.ty 1))) (.ty 1) 2 (.slice (some ⟨nb, 0, none⟩) 1 1) [.string ⟨#[104, 111, 115, 116]⟩, .string x] 1 := ⟨rfl, _, _, rfl, by omega, .inl ⟨nb, 2, rfl, upd_same _ _ _, by omega⟩⟩
    simp only [List.length_cons, List.length_nil, Nat.zero_add, Nat.reduceAdd]
    generalize upd st1 nb (.cells true [.string ⟨#[104, 111, 115, 116]⟩, .string x] 2 (.ty 1)) = st2 at *
    simp [go_sem, hd, w0, w1, w2, w3, w4, w5, w6, w7, w8, w9, w10, w11, w12]
    obtain ⟨y, hy⟩ : ∃ y : ByteArray, { data := #[122] } ++ ({ data := #[48, 49, 50, 51, 52, 53, 54, 55, 56, 57, 97, 98] } : ByteArray).extract 3 4 = y := ⟨_, rfl⟩
    rw [hy]
    unfold NewS
    intro nc hnc
    refine ⟨.ty 1, ?_⟩
    have n2 := (New.refl st2).add (b := nc) (o := .cells true [.string ⟨#[122, 111, 110, 101]⟩, .string y] 2 (.ty 1)) hnc
    simp [go_sem]
    refine AppI_new (st0 := st1) (g := .ty 1) (m := 1) (ys := [.string ⟨#[122, 111, 110, 101]⟩, .string y]) si22 (hV.new' n2) (Fresh.some hnb) (n1.trans n2) (by simp [srcCells, lkN_mk, upd_same, cellsOf]) (by simp [Value.oneCell']) (by omega) ?_
    intro base cap st4 hV4 hF4 k4 hx4
    simp [go_sem]
    exact ⟨[(⟨#[104, 111, 115, 116]⟩, x), (⟨#[122, 111, 110, 101]⟩, y)], hV4, hF4, ⟨by subst hx; subst hy; decide +kernel, by simp, by subst hx; subst hy; decide +kernel, by simp, by subst hx; subst hy; decide +kernel⟩, k4⟩
  · simp [go_sem, hd, w0, w1, w2, w3, w4, w5, w6, w7, w8, w9, w10, w11, w12]
    obtain ⟨x, hx⟩ : ∃ x : ByteArray, { data := #[104] } ++ ({ data := #[48, 49, 50, 51, 52, 53, 54, 55, 56, 57, 97, 98] } : ByteArray).extract 10 11 = x := ⟨_, rfl⟩
    rw [hx]
    unfold NewS
    intro nb hnb
    refine ⟨.ty 1, ?_⟩
    have n1 := (New.refl st1).add (b := nb) (o := .cells true [.string ⟨#[104, 111, 115, 116]⟩, .string x] 2 (.ty 1)) hnb
    have hV : Vec (upd st1 nb (.cells true [.string ⟨#[104, 111, 115, 116]⟩, .string x] 2 (.ty 1))) (.ty 1) 2 (.slice (some ⟨nb, 0, none⟩) 1 1) [.string ⟨#[104, 111, 115, 116]⟩, .string x] 1 := ⟨rfl, _, _, rfl, by omega, .inl ⟨nb, 2, rfl, upd_same _ _ _, by omega⟩⟩
    simp [go_sem, w0, w1, w2, w3, w4, w5, w6, w7, w8, w9, w10, w11, w12]
    exact ⟨[(⟨#[104, 111, 115, 116]⟩, x)], hV, Fresh.some hnb, ⟨by subst hx; decide +kernel, by simp, by subst hx; decide +kernel, by simp, by subst hx; decide +kernel⟩, n1⟩
  · simp [go_sem, hd, w0, w1, w2, w3, w4, w5, w6, w7, w8, w9, w10, w11, w12]
    obtain ⟨x, hx⟩ : ∃ x : ByteArray, { data := #[104] } ++ ({ data := #[48, 49, 50, 51, 52, 53, 54, 55, 56, 57, 97, 98] } : ByteArray).extract 11 12 = x := ⟨_, rfl⟩
    rw [hx]
    unfold NewS
    intro nb hnb
    refine ⟨.ty 1, ?_⟩
    have n1 := (New.refl st1).add (b := nb) (o := .cells true [.string ⟨#[104, 111, 115, 116]⟩, .string x] 2 (.ty 1)) hnb
    have hV : Vec (upd st1 nb (.cells true [.string ⟨#[104, 111, 115, 116]⟩, .string x] 2 (.ty 1))) (.ty 1) 2 (.slice (some ⟨nb, 0, none⟩) 1 1) [.string ⟨#[104, 111, 115, 116]⟩, .string x] 1 := ⟨rfl, _, _, rfl, by omega, .inl ⟨nb, 2, rfl, upd_same _ _ _, by omega⟩⟩
    simp only [List.length_cons, List.length_nil, Nat.zero_add, Nat.reduceAdd]
    generalize upd st1 nb (.cells true [.string ⟨#[104, 111, 115, 116]⟩, .string x] 2 (.ty 1)) = st2 at *
    simp [go_sem, hd, w0, w1, w2, w3, w4, w5, w6, w7, w8, w9, w10, w11, w12]
    obtain ⟨y, hy⟩ : ∃ y : ByteArray, { data := #[122] } ++ ({ data := #[48, 49, 50, 51, 52, 53, 54, 55, 56, 57, 97, 98] } : ByteArray).extract 3 4 = y := ⟨_, rfl⟩
    rw [hy]
    unfold NewS
    intro nc hnc
    refine ⟨.ty 1, ?_⟩
    have n2 := (New.refl st2).add (b := nc) (o := .cells true [.string ⟨#[122, 111, 110, 101]⟩, .string y] 2 (.ty 1)) hnc
    simp [go_sem]
    refine AppI_new (st0 := st1) (g := .ty 1) (m := 1) (ys := [.string ⟨#[122, 111, 110, 101]⟩, .string y]) si22 (hV.new' n2) (Fresh.some hnb) (n1.trans n2) (by simp [srcCells, lkN_mk, upd_same, cellsOf]) (by simp [Value.oneCell']) (by omega) ?_
    intro base cap st4 hV4 hF4 k4 hx4
    simp [go_sem]
    exact ⟨[(⟨#[104, 111, 115, 116]⟩, x), (⟨#[122, 111, 110, 101]⟩, y)], hV4, hF4, ⟨by subst hx; subst hy; decide +kernel, by simp, by subst hx; subst hy; decide +kernel, by simp, by subst hx; subst hy; decide +kernel⟩, k4⟩
end
end Go.Proofs.YtadgciaclhjjkaaGreat
