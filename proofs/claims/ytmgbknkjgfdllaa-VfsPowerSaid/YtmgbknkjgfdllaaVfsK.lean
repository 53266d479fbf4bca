/- The document's example. -/
import Derived.Test.YtmgbknkjgfdllaaVfsJ
set_option linter.unusedVariables false
set_option linter.unusedSimpArgs false
set_option maxRecDepth 100000
set_option maxHeartbeats 1000000
namespace Go.Proofs.Ytmgbknkjgfdllaa
open Go.RowKit (Below)

abbrev nA : ByteArray := ⟨#[97]⟩
abbrev SA1 : VFS := ⟨[], [(nA, 0)], [⟨0, nA, ⟨#[]⟩, some 0⟩], [⟨0, [], [], []⟩], ⟨1, false, 0, 0, false⟩⟩
abbrev SA2 : VFS := ⟨[], [(nA, 0)], [⟨0, nA, ⟨#[]⟩, some 0⟩], [⟨0, [], [⟨false, 0, [120, 121]⟩], [120, 121]⟩], ⟨2, false, 0, 0, false⟩⟩
theorem create_A : VFS.new.create nA = (0, SA1) := by rfl
theorem append_A : SA1.append nA [120, 121] = (0, SA2) := by rfl
theorem crash_A1 : crashM SA2.turns 0 1 [] = some [(nA, 0)] := by rfl
theorem crash_A0 : crashM SA2.turns 0 0 [] = some [] := by rfl
theorem with_A : withM [] [⟨false, 0, [120, 121]⟩] 1 = some [120] := by rfl
theorem get_A : aget (VFS.new.lay nA [120]).now nA = some 0 := by rfl
theorem mapM_byteOf : ∀ bs : List UInt8, (bytesV bs).mapM byteOf = some bs
  | [] => rfl
  | b :: bs => by
    have h := mapM_byteOf bs
    unfold bytesV at h ⊢
    simp only [List.map_cons, List.mapM_cons, h]
    have hb : byteOf (.int .u8 b.toNat) = some b := by simp [byteOf]
    rw [hb]
    rfl
theorem textOf_reg {st : Heap} {g : Tg} {base : Option Addr} {cap : Nat} {bs : List UInt8} {n : Nat} (h : Reg st g 1 (.slice base n cap) (bytesV bs) n) : textOf st (.slice base n cap) = some ⟨bs.toArray⟩ := by
  have hlen : bs.length = n := by have := h.1; rw [bytesV_length] at this; omega
  have hs := h.src
  cases base with
  | none =>
    simp only [srcCells] at hs
    split at hs
    · rename_i h0
      subst h0
      have : bs = [] := List.eq_nil_of_length_eq_zero hlen
      subst this; rfl
    · cases hs
  | some a =>
    simp only [srcCells] at hs
    simp only [textOf]
    split
    · rename_i h0
      have : bs = [] := List.eq_nil_of_length_eq_zero (by omega)
      subst this; rfl
    · rename_i h0
      rw [if_neg h0] at hs
      obtain ⟨l, h1, h2⟩ := Option.map_eq_some_iff.1 hs
      rw [Nat.mul_one] at h1
      injection h2 with h2 h3
      subst h3
      rw [h1]
      simp [mapM_byteOf]
section
variable {W0 : World} {st : Heap}
theorem awake_spec : ICalls Try.prog W0 20 #[] st fun e st' => e = .returned (.bool true) ∧ Keep Free st st' := by
  refine enter (args := []) Try.func20 rfl ?_
  simp [Try.f20, go_sem]
  refine New_spec.mono ?_
  rintro e st1 ⟨f, rfl, hf, hF1, k1⟩
  simp [go_sem]
  refine (Create_spec (n := nA) hF1 ⟨by simp [VFS.new], by simp [VFS.new], by simp [VFS.new]⟩).mono ?_
  rw [create_A]
  rintro e st2 ⟨rfl, hF2, k2⟩
  simp [go_sem]
  unfold NewS
  intro b1 hb1
  refine ⟨.ty 1, ?_⟩
  simp [go_sem]
  have k3 : Keep (fun _ => True) st2 (upd st2 b1 (.cells true [.int .u8 120, .int .u8 121] 2 (.ty 1))) := Keep.rfl'.new hb1
  have hr3 : Reg (upd st2 b1 (.cells true [.int .u8 120, .int .u8 121] 2 (.ty 1))) (.ty 1) 1 (.slice (some ⟨b1, 0, none⟩) 2 2) (bytesV [120, 121]) 2 := (Vec.new (by simp [bytesV]) (Nat.le_refl _) (upd_same _ _ _) (by simp)).reg
  generalize upd st2 b1 _ = st3 at *
  have hF3 := hF2.keep k3 (fun _ _ => trivial)
  refine (Append_spec (n := nA) (b := [120, 121]) hF3 ⟨by simp, by simp, by simp⟩ hr3 (by intro x r; simp) (by simp)).mono ?_
  rw [append_A]
  rintro e st4 ⟨rfl, hF4, k4⟩
  simp [go_sem]
  unfold NewS
  intro b2 hb2
  refine ⟨.ty 2, ?_⟩
  simp [go_sem]
  have k5 : Keep (fun _ => True) st4 (upd st4 b2 (.cells true [.int .i64 1] 1 (.ty 2))) := Keep.rfl'.new hb2
  have hr5 : Reg (upd st4 b2 (.cells true [.int .i64 1] 1 (.ty 2))) (.ty 2) 1 (.slice (some ⟨b2, 0, none⟩) 1 1) ([(1 : Int)].map Val.i) 1 := (Vec.new (by simp) (Nat.le_refl _) (upd_same _ _ _) (by simp)).reg
  generalize upd st4 b2 _ = st5 at *
  have hF5 := hF4.keep k5 (fun _ _ => trivial)
  have hsm : VFS.small SA2 := ⟨by simp, by simp, by simp⟩
  refine (Crash_spec (ops := 1) (picks := [1]) (n := nA) (i := 0) hF5 hsm (by simp) crash_A1 (.inr ⟨rfl, rfl, with_A, by simp⟩) hr5 (by intro g x r; simp) (by simp [pick0]) (by simp)).mono ?_
  rintro e st6 ⟨f2, rfl, hne2, hF6, hG6, k6⟩
  simp [go_sem]
  unfold NewS
  intro b3 hb3
  refine ⟨.ty 2, ?_⟩
  simp [go_sem]
  have k7 : Keep (fun _ => True) st6 (upd st6 b3 (.cells true [.int .i64 9] 1 (.ty 2))) := Keep.rfl'.new hb3
  have hr7 : Reg (upd st6 b3 (.cells true [.int .i64 9] 1 (.ty 2))) (.ty 2) 1 (.slice (some ⟨b3, 0, none⟩) 1 1) ([(9 : Int)].map Val.i) 1 := (Vec.new (by simp) (Nat.le_refl _) (upd_same _ _ _) (by simp)).reg
  generalize upd st6 b3 _ = st7 at *
  have hF7 := hF6.keep k7 (fun _ _ => trivial)
  have hG7 := hG6.keep k7 (fun _ _ => trivial)
  refine (Crash_spec (ops := 0) (picks := [9]) (n := nA) (i := 0) (F := ⟨0, [], [], []⟩) (r := []) hF7 hsm (by simp) crash_A0 (.inl rfl) hr7 (by intro g x r; simp) (by simp [pick0]) (by simp)).mono ?_
  rintro e st8 ⟨f3, rfl, hne3, hF8, hH8, k8⟩
  have hff2 : f ≠ f2 := by
    rintro rfl
    obtain ⟨sm, nm, tv, ad, h1, _⟩ := hF5
    exact hne2 _ _ _ _ h1
  have hf2f3 : f2 ≠ f3 := by
    rintro rfl
    obtain ⟨sm, nm, tv, ad, h1, _⟩ := hG7
    exact hne3 _ _ _ _ h1
  have hG8 := hG7.keep k8 (fun x r => ⟨fun x' r' => by simp [Ne.symm hff2], fun x' r' => by simp [hf2f3]⟩)
  simp [go_sem]
  refine (Read_spec (n := nA) hG8 (by simp [VFS.lay, VFS.new])).mono ?_
  rintro e st9 ⟨k9, hread⟩
  rw [show (if [(nA, 0)] = [] then VFS.new else VFS.new.lay nA [120]) = VFS.new.lay nA [120] from rfl, get_A] at hread
  obtain ⟨F, rb, rc, hFe, rfl, hv9⟩ := hread
  have hFF : F = ⟨0, [120], [], [120]⟩ := by
    simp [VFS.lay, VFS.new] at hFe
    exact hFe.symm
  subst hFF
  have htx : textOf st9 (.slice rb 1 rc) = some ⟨#[120]⟩ := by
    exact textOf_reg (bs := [120]) hv9.reg
  simp [go_sem, htx, strEq]
  have hH9 := hH8.keep k9 (fun _ _ => trivial)
  refine (List_spec hH9 (by simp [VFS.new])).mono ?_
  rintro e st10 ⟨⟨lb, lc, rfl⟩, hH10, k10⟩
  simp [go_sem, VFS.new]
  have hf3 : f ≠ f3 := by
    rintro rfl
    obtain ⟨sm, nm, tv, ad, h1, _⟩ := hF7
    exact hne3 _ _ _ _ h1
  have hF10 := (hF8.keep k9 (fun _ _ => trivial)).keep k10 (fun x r => by intro x' r'; simp [hf3])
  refine (Calls_spec hF10).mono ?_
  rintro e st11 ⟨rfl, rfl⟩
  simp [go_sem]
  have toF : ∀ {p : Tg → Prop} {s s' : Heap}, Keep p s s' → (∀ t, Free t → p t) → Keep Free s s' := fun h hp => h.imp hp
  exact ((((((((toF k1 (fun _ _ => trivial)).trans (toF k2 fun t h x r => h f x r)).trans (toF k3 fun _ _ => trivial)).trans (toF k4 fun t h x r => h f x r)).trans (toF k5 fun _ _ => trivial)).trans (toF k6 fun t h => ⟨h f, h f2⟩)).trans (toF k7 fun _ _ => trivial)).trans (toF k8 fun t h => ⟨h f, h f3⟩)).trans ((toF k9 fun _ _ => trivial).trans (toF k10 fun t h => h f3))
end
end Go.Proofs.Ytmgbknkjgfdllaa
