/- The law VfsOnce: a fault comes once. -/
import Derived.Test.YtenencpnnjacdaaVfsK
set_option linter.unusedVariables false
set_option linter.unusedSimpArgs false
set_option maxRecDepth 100000
set_option maxHeartbeats 1000000
namespace Go.Proofs.Ytenencpnnjacdaa
open Go.RowKit (Below)

abbrev TA : VTurn := ⟨0, nA, ⟨#[]⟩, some 0⟩
def OnS (kind : Int) (n i : Nat) (F : VFile) : VFS := ⟨[], [(nA, 0)], [TA], [F], ⟨1 + i, decide (i ≤ n), kind, if i ≤ n then (n : Int) - i else 0, false⟩⟩
theorem get_nA : aget [(nA, 0)] nA = some 0 := by rfl
theorem once_step {kind : Int} {n i : Nat} {F : VFile} {b : Bs} (hk : kind ≠ 0) (hi : i < 7) (hn : n < 5) (hl : F.now.length + b.length ≤ 1000000) :
    (OnS kind n i F).append nA b = (if i = n then kind else 0, OnS kind n (i + 1) (if i = n then F.app (b.take (b.length / 2)) else F.app b)) := by
  have w1 : W (1 + (i : Int) + 1) = 1 + ((i + 1 : Nat) : Int) := by unfold W; rw [wrap_id (by omega) (by omega)]; omega
  have hok : okName nA = true := by rfl
  unfold VFS.append
  rw [hok]
  simp only [OnS, get_nA, Ctl.call, VFS.lenOf, VFS.put, VFS.ctl]
  rcases Nat.lt_trichotomy i n with h | h | h
  · have w2 : W ((n : Int) - i - 1) = n - ((i + 1 : Nat) : Int) := by unfold W; rw [wrap_id (by omega) (by omega)]; omega
    have a1 : i ≤ n := by omega
    have a2 : i + 1 ≤ n := by omega
    have a3 : ¬ i = n := by omega
    have a4 : (0 : Int) < n - i := by omega
    have a5 : b.length + F.now.length ≤ 1073741824 := by omega
    simp [w1, w2, a1, a2, a3, a4, a5, h]
  · subst h
    have a2 : ¬ i + 1 ≤ i := by omega
    have a5 : b.length / 2 + F.now.length ≤ 1073741824 := by omega
    simp [w1, a2, hk, a5]
  · have a1 : ¬ i ≤ n := by omega
    have a2 : ¬ i + 1 ≤ n := by omega
    have a3 : ¬ i = n := by omega
    have a5 : b.length + F.now.length ≤ 1073741824 := by omega
    simp [w1, a1, a2, a3, a5]
section
variable {W0 : World} {st : Heap}
theorem Place_spec {n k : Int} (hk : 0 < k) (hk2 : k < 2 ^ 40) : ICalls Try.prog W0 24 #[Val.i n, Val.i k] st fun e st' => (∃ m : Nat, (m : Int) < k ∧ e = .returned (Val.i m)) ∧ st' = st := by
  refine enter (args := [_, _]) Try.func24 rfl ?_
  have hk0 : ¬ k = 0 := by omega
  have h1 := Int.tmod_lt_of_pos n hk
  have h2 : -k < n.tmod k := by
    have := Int.lt_tmod_of_pos n hk
    omega
  have hw1 : IntKind.i64.wrap (n.tmod k) = n.tmod k := wrap_id (by omega) (by omega)
  by_cases hneg : n.tmod k < 0
  · have hw2 : IntKind.i64.wrap (n.tmod k + k) = n.tmod k + k := wrap_id (by omega) (by omega)
    simp [Try.f24, go_sem, hk0, hneg, hw1, hw2]
    refine ⟨(n.tmod k + k).toNat, by omega, by omega⟩
  · simp [Try.f24, go_sem, hk0, hneg, hw1]
    refine ⟨(n.tmod k).toNat, by omega, by omega⟩
theorem Bytes_spec {v : Value} {bs : Bs} {g : Tg} (h : Reg st g 1 v (bytesV bs) bs.length) (hl : bs.length < 2 ^ 40) : ICalls Try.prog W0 22 #[v] st fun e st' => ∃ b c, e = .returned (.slice b bs.length c) ∧ Vec st' (.ty 0) 1 (.slice b bs.length c) (bytesV bs) bs.length ∧ Keep (fun _ => True) st st' := by
  refine enter (args := [_]) Try.func22 rfl ?_
  simp [Try.f22, go_sem]
  refine AppI_fresh (.ty 0) si29 h.src (by omega) ?_
  intro b c st1 hv he
  simp [go_sem]
  exact ⟨b, c, ⟨rfl, rfl⟩, hv, he⟩
/-- What was wanted so far. -/
def wantM (n i len : Nat) : Nat := if i ≤ n then i * len else (i - 1) * len + len / 2
theorem once_spec {space : Bool} {after : Int} {bv : Value} {data : Bs} {gp : Tg} (hp : Reg st gp 1 bv (bytesV data) data.length) (hgp : Free gp) :
    ICalls Try.prog W0 7 #[.bool space, Val.i after, bv] st fun e st' => e = .returned (.bool true) := by
  obtain ⟨pb, pc, rfl⟩ := hp.slice
  refine enter (args := [_, _, _]) Try.func7 rfl ?_
  simp [Try.f7, go_sem]
  refine awake_spec.mono ?_
  rintro e st1 ⟨rfl, k1⟩
  have hp1 := hp.keep k1 hgp
  by_cases hbig : 2000 < data.length
  · have hbig' : (2000 : Int) < data.length := by omega
    simp [go_sem, hbig']
    refine awake_spec.mono ?_
    rintro e st2 ⟨rfl, k2⟩
    simp [go_sem]
  · have hbig' : ¬ (2000 : Int) < data.length := by omega
    cases space
    all_goals
      simp [go_sem, hbig']
      refine New_spec.mono ?_
      rintro e st2 ⟨f, rfl, hf, hF2, k2⟩
      simp [go_sem]
      refine (Place_spec (by omega) (by omega)).mono ?_
      rintro e st3 ⟨⟨m, hm, rfl⟩, rfl⟩
      simp [go_sem]
      refine (Create_spec (n := nA) hF2 ⟨by simp [VFS.new], by simp [VFS.new], by simp [VFS.new]⟩).mono ?_
      rw [create_A]
      rintro e st4 ⟨rfl, hF4, k4⟩
      simp [go_sem]
    · refine (Arm_spec (kind := 15) (after := m) hF4).mono ?_
      have harm : SA1.arm 15 m = (0, OnS 15 m 0 ⟨0, [], [], []⟩) := by
        unfold VFS.arm
        rw [if_neg (by omega)]
        simp [OnS, VFS.ctl]
      rw [harm]
      rintro e st5 ⟨rfl, hF5, k5⟩
      simp [go_sem]
      have kk : Keep Free st1 st5 := ((k2.imp fun _ _ => trivial).trans (k4.imp fun t h x r => h f x r)).trans (k5.imp fun t h x r => h f x r)
      refine ⟨fun E st' => E 2 = .slice pb data.length pc ∧ E 7 = Val.i 15 ∧ E 8 = ptr f ∧ E 9 = Val.i m ∧ Keep Free st1 st' ∧ ∃ (i : Nat) (F : VFile), i ≤ 7 ∧ E 11 = Val.i i ∧ E 10 = Val.i F.now.length ∧ F.now.length ≤ i * 2000 ∧ F.pend.length ≤ i ∧ F.sure = [] ∧ FSAt st' f (OnS 15 m i F),
        fun E _ => match E 11 with | .int _ i => 7 - i.toNat | _ => 0, ⟨st5, .rfl' _, by simp [go_sem], by simp [go_sem], by simp [go_sem], by simp [go_sem], kk, 0, ⟨0, [], [], []⟩, by omega, by simp [go_sem], by simp [go_sem], by simp, by simp, rfl, hF5⟩, ?_⟩
      rintro E st6 ⟨e2, e7, e8, e9, kk, i, F, hi, e11, e10, hl1, hl2, hl3, hF⟩
      have hpi := hp1.keep kk hgp
      by_cases hlt : i < 7
      · have hlt' : (i : Int) < 7 := by omega
        simp [go_sem, e2, e7, e8, e9, e10, e11, hlt']
        refine (Bytes_spec hpi (by omega)).mono ?_
        rintro e st7 ⟨b7, c7, rfl, hv7, k7⟩
        simp [go_sem, e2, e7, e8, e9, e10, e11]
        have hF7 := hF.keep k7 (fun _ _ => trivial)
        have hsm : (OnS 15 m i F).small := ⟨by simp [OnS], by simp [OnS], by simp [OnS, hl3]; omega⟩
        refine (Append_spec (n := nA) hF7 hsm hv7.reg (by intro x r; simp) (by omega)).mono ?_
        rw [once_step (by decide) (by omega) (by omega) (by omega)]
        rintro e st8 ⟨rfl, hF8, k8⟩
        have kk8 : Keep Free st1 st8 := (kk.trans (k7.imp fun _ _ => trivial)).trans (k8.imp fun t h x r => h f x r)
        have hw1 : IntKind.i64.wrap ((i : Int) + 1) = i + 1 := wrap_id (by omega) (by omega)
        have hw2 : IntKind.i64.wrap ((data.length : Int) / 2) = (data.length : Int) / 2 := wrap_id (by omega) (by omega)
        have hw3 : IntKind.i64.wrap ((F.now.length : Int) + (data.length : Int) / 2) = F.now.length + (data.length : Int) / 2 := wrap_id (by omega) (by omega)
        have hw4 : IntKind.i64.wrap ((F.now.length : Int) + data.length) = F.now.length + data.length := wrap_id (by omega) (by omega)
        by_cases him : i = m
        · subst him
          simp only [if_true] at hF8 ⊢
          simp [go_sem, e2, e7, e8, e9, e10, e11, hw1, hw2, hw3]
          refine ⟨st8, .rfl' _, ⟨kk8, i + 1, by omega, by omega, F.app (data.take (data.length / 2)), ?_, ?_, ?_, ?_, hF8⟩, by omega⟩
          · simp [VFile.app]; omega
          · simp [VFile.app]; omega
          · simp [VFile.app]; omega
          · simpa [VFile.app] using hl3
        · have him' : ¬ (i : Int) = m := by omega
          simp only [him, if_false] at hF8 ⊢
          simp [go_sem, e2, e7, e8, e9, e10, e11, him', hw1, hw4]
          refine ⟨st8, .rfl' _, ⟨kk8, i + 1, by omega, by omega, F.app data, ?_, ?_, ?_, ?_, hF8⟩, by omega⟩
          · simp [VFile.app]
          · simp [VFile.app]; omega
          · simp [VFile.app]; omega
          · simpa [VFile.app] using hl3
      · have h7 : i = 7 := by omega
        subst h7
        simp [go_sem, e2, e7, e8, e9, e10, e11]
        refine (Read_spec (n := nA) hF (by simp [OnS]; omega)).mono ?_
        rintro e st7 ⟨k7, hread⟩
        rw [show aget (OnS 15 m 7 F).now nA = some 0 from get_nA] at hread
        obtain ⟨F', rb, rc, hFe, rfl, hv7⟩ := hread
        have hFF : F' = F := by
          simp [OnS] at hFe
          exact hFe.symm
        subst hFF
        simp [go_sem, e8, e10]
        refine (Calls_spec (hF.keep k7 (fun _ _ => trivial))).mono ?_
        rintro e st8 ⟨rfl, rfl⟩
        simp [go_sem, OnS]
    · refine (Arm_spec (kind := 14) (after := m) hF4).mono ?_
      have harm : SA1.arm 14 m = (0, OnS 14 m 0 ⟨0, [], [], []⟩) := by
        unfold VFS.arm
        rw [if_neg (by omega)]
        simp [OnS, VFS.ctl]
      rw [harm]
      rintro e st5 ⟨rfl, hF5, k5⟩
      simp [go_sem]
      have kk : Keep Free st1 st5 := ((k2.imp fun _ _ => trivial).trans (k4.imp fun t h x r => h f x r)).trans (k5.imp fun t h x r => h f x r)
      refine ⟨fun E st' => E 2 = .slice pb data.length pc ∧ E 7 = Val.i 14 ∧ E 8 = ptr f ∧ E 9 = Val.i m ∧ Keep Free st1 st' ∧ ∃ (i : Nat) (F : VFile), i ≤ 7 ∧ E 11 = Val.i i ∧ E 10 = Val.i F.now.length ∧ F.now.length ≤ i * 2000 ∧ F.pend.length ≤ i ∧ F.sure = [] ∧ FSAt st' f (OnS 14 m i F),
        fun E _ => match E 11 with | .int _ i => 7 - i.toNat | _ => 0, ⟨st5, .rfl' _, by simp [go_sem], by simp [go_sem], by simp [go_sem], by simp [go_sem], kk, 0, ⟨0, [], [], []⟩, by omega, by simp [go_sem], by simp [go_sem], by simp, by simp, rfl, hF5⟩, ?_⟩
      rintro E st6 ⟨e2, e7, e8, e9, kk, i, F, hi, e11, e10, hl1, hl2, hl3, hF⟩
      have hpi := hp1.keep kk hgp
      by_cases hlt : i < 7
      · have hlt' : (i : Int) < 7 := by omega
        simp [go_sem, e2, e7, e8, e9, e10, e11, hlt']
        refine (Bytes_spec hpi (by omega)).mono ?_
        rintro e st7 ⟨b7, c7, rfl, hv7, k7⟩
        simp [go_sem, e2, e7, e8, e9, e10, e11]
        have hF7 := hF.keep k7 (fun _ _ => trivial)
        have hsm : (OnS 14 m i F).small := ⟨by simp [OnS], by simp [OnS], by simp [OnS, hl3]; omega⟩
        refine (Append_spec (n := nA) hF7 hsm hv7.reg (by intro x r; simp) (by omega)).mono ?_
        rw [once_step (by decide) (by omega) (by omega) (by omega)]
        rintro e st8 ⟨rfl, hF8, k8⟩
        have kk8 : Keep Free st1 st8 := (kk.trans (k7.imp fun _ _ => trivial)).trans (k8.imp fun t h x r => h f x r)
        have hw1 : IntKind.i64.wrap ((i : Int) + 1) = i + 1 := wrap_id (by omega) (by omega)
        have hw2 : IntKind.i64.wrap ((data.length : Int) / 2) = (data.length : Int) / 2 := wrap_id (by omega) (by omega)
        have hw3 : IntKind.i64.wrap ((F.now.length : Int) + (data.length : Int) / 2) = F.now.length + (data.length : Int) / 2 := wrap_id (by omega) (by omega)
        have hw4 : IntKind.i64.wrap ((F.now.length : Int) + data.length) = F.now.length + data.length := wrap_id (by omega) (by omega)
        by_cases him : i = m
        · subst him
          simp only [if_true] at hF8 ⊢
          simp [go_sem, e2, e7, e8, e9, e10, e11, hw1, hw2, hw3]
          refine ⟨st8, .rfl' _, ⟨kk8, i + 1, by omega, by omega, F.app (data.take (data.length / 2)), ?_, ?_, ?_, ?_, hF8⟩, by omega⟩
          · simp [VFile.app]; omega
          · simp [VFile.app]; omega
          · simp [VFile.app]; omega
          · simpa [VFile.app] using hl3
        · have him' : ¬ (i : Int) = m := by omega
          simp only [him, if_false] at hF8 ⊢
          simp [go_sem, e2, e7, e8, e9, e10, e11, him', hw1, hw4]
          refine ⟨st8, .rfl' _, ⟨kk8, i + 1, by omega, by omega, F.app data, ?_, ?_, ?_, ?_, hF8⟩, by omega⟩
          · simp [VFile.app]
          · simp [VFile.app]; omega
          · simp [VFile.app]; omega
          · simpa [VFile.app] using hl3
      · have h7 : i = 7 := by omega
        subst h7
        simp [go_sem, e2, e7, e8, e9, e10, e11]
        refine (Read_spec (n := nA) hF (by simp [OnS]; omega)).mono ?_
        rintro e st7 ⟨k7, hread⟩
        rw [show aget (OnS 14 m 7 F).now nA = some 0 from get_nA] at hread
        obtain ⟨F', rb, rc, hFe, rfl, hv7⟩ := hread
        have hFF : F' = F := by
          simp [OnS] at hFe
          exact hFe.symm
        subst hFF
        simp [go_sem, e8, e10]
        refine (Calls_spec (hF.keep k7 (fun _ _ => trivial))).mono ?_
        rintro e st8 ⟨rfl, rfl⟩
        simp [go_sem, OnS]
end
end Go.Proofs.Ytenencpnnjacdaa
