/- The file system's methods: New, Arm, Calls, Create, Append, Read. -/
import Derived.Test.YtenencpnnjacdaaVfsC
set_option linter.unusedVariables false
set_option linter.unusedSimpArgs false
set_option maxRecDepth 100000
namespace Go.Proofs.Ytenencpnnjacdaa
open Go.RowKit (Below)

def VFS.new : VFS := ⟨[], [], [], [], ⟨0, false, 0, 0, false⟩⟩
def VFS.ctl (S : VFS) (c : Ctl) : VFS := { S with c := c }
def VFile.app (F : VFile) (b : Bs) : VFile := { F with pend := F.pend ++ [⟨false, 0, b⟩], now := F.now ++ b }
def VFS.create (S : VFS) (n : ByteArray) : Int × VFS :=
  if S.c.call.1 ≠ 0 then (S.c.call.1, S.ctl S.c.call.2)
  else if okName n = false then (1, S.ctl S.c.call.2)
  else if aget S.now n = none ∧ 1024 ≤ S.now.length then (2, S.ctl S.c.call.2)
  else (0, { sure := S.sure, now := aset S.now n S.files.length, turns := S.turns ++ [⟨0, n, ⟨#[]⟩, some S.files.length⟩], files := S.files ++ [⟨S.files.length, [], [], []⟩], c := S.c.call.2 })
def VFS.arm (S : VFS) (kind after : Int) : Int × VFS :=
  if (kind ≠ 0 ∧ kind ≠ 14 ∧ kind ≠ 15) ∨ after < 0 then (1, S) else (0, S.ctl { S.c with armed := true, kind := kind, after := after })

section
variable {W0 : World} {st : Heap}
theorem FSAt.ctl' {f sm nm : Nat} {tv : Value} {ad : Nat → Nat} {S : VFS} (h1 : st f = some (.cells true (fsC sm nm tv S.files.length S.c) 9 (.own f 0 0))) (h2 : st sm = some (.map (.own f 0 5) (encM ad S.sure))) (h3 : st nm = some (.map (.own f 0 6) (encM ad S.now)))
    (h4 : Vec st (.own f 0 7) 4 tv (S.turns.flatMap (encT ad)) S.turns.length) (h5 : ∀ (i : Nat) (F : VFile), S.files[i]? = some F → FileAt st f i (ad i) F) (h6 : S.ok) (c : Ctl) :
    let st' := upd st f (.cells true (fsC sm nm tv S.files.length c) 9 (.own f 0 0))
    Keep (fun g => g ≠ .own f 0 0) st st' ∧ FSAt st' f (S.ctl c) ∧ st' f = some (.cells true (fsC sm nm tv S.files.length c) 9 (.own f 0 0)) ∧ st' sm = some (.map (.own f 0 5) (encM ad S.sure)) ∧ st' nm = some (.map (.own f 0 6) (encM ad S.now)) ∧
      Vec st' (.own f 0 7) 4 tv (S.turns.flatMap (encT ad)) S.turns.length ∧ (∀ (i : Nat) (F : VFile), S.files[i]? = some F → FileAt st' f i (ad i) F) := by
  intro st'
  have k : Keep (fun g => g ≠ .own f 0 0) st st' := Keep.rfl'.old h1 (by simp [HObj.tag])
  have a1 : st' f = some (.cells true (fsC sm nm tv S.files.length c) 9 (.own f 0 0)) := upd_same _ _ _
  have a2 := k.getM h2 (by simp)
  have a3 := k.getM h3 (by simp)
  have a4 := h4.keep k (by simp)
  have a5 : ∀ (i : Nat) (F : VFile), S.files[i]? = some F → FileAt st' f i (ad i) F := by
    intro i F hi
    obtain ⟨sv, pv, nv, us, b1, b2, b3, b4, b5⟩ := h5 i F hi
    exact ⟨sv, pv, nv, us, k.get b1 (by simp), b2.keep k (by simp), unitsAt.keep k (by simp) _ _ b3, b4.keep k (by simp), b5.keep k (by simp)⟩
  exact ⟨k, ⟨sm, nm, tv, ad, a1, a2, a3, a4, a5, h6⟩, a1, a2, a3, a4, a5⟩
theorem New_spec : ICalls Try.prog W0 26 #[] st fun e st' => ∃ f, e = .returned (ptr f) ∧ st f = none ∧ FSAt st' f .new ∧ Keep (fun _ => True) st st' := by
  refine ICalls.post (enter (args := []) Try.func26 rfl ?_)
  simp [Try.f26, go_sem]
  unfold NewM
  intro sm hsm
  refine ⟨.ty 0, ?_⟩
  simp [go_sem]
  unfold NewM
  intro nm hnm
  refine ⟨.ty 0, ?_⟩
  simp [go_sem]
  unfold NewP
  intro f hf
  refine ⟨.own f 0 0, ?_⟩
  simp [go_sem]
  have hsf : st f = none := by
    by_cases e1 : f = nm
    · subst e1; rw [upd_same] at hf; cases hf
    · rw [upd_ne _ _ e1] at hf
      by_cases e2 : f = sm
      · subst e2; rw [upd_same] at hf; cases hf
      · rwa [upd_ne _ _ e2] at hf
  have e1 : sm ≠ nm := ne_of_new (upd_same st sm _) hnm
  have e2 : nm ≠ f := ne_of_new (upd_same _ nm _) hf
  have e3 : sm ≠ f := ne_of_new ((upd_ne _ _ e1).trans (upd_same st sm _)) hf
  have hnm' : st nm = none := by rwa [upd_ne _ _ (Ne.symm e1)] at hnm
  generalize hst2 : (upd (upd (upd st sm (HObj.map (Tg.ty 0) [])) nm (HObj.map (Tg.ty 0) [])) f _ : Heap) = st2
  have b1 : st2 sm = some (.map (.ty 0) []) := by rw [← hst2, upd_ne _ _ e3, upd_ne _ _ e1, upd_same]
  have b2 : st2 nm = some (.map (.ty 0) []) := by rw [← hst2, upd_ne _ _ e2, upd_same]
  have b3 : st2 f = some (.cells true (fsC sm nm (.slice none 0 0) 0 ⟨0, false, 0, 0, false⟩) 9 (.own f 0 0)) := by rw [← hst2, upd_same]; rfl
  have b4 : Keep (fun _ => True) st st2 := by rw [← hst2]; exact (((Keep.rfl').new hsm).new hnm).new hf
  have b5 : (upd st2 sm (.map (.own f 0 5) [])) nm = some (.map (.ty 0) []) := by rw [upd_ne _ _ (Ne.symm e1), b2]
  refine ⟨upd (upd st2 sm (.map (.own f 0 5) [])) nm (.map (.own f 0 6) []), (Heap.Le.retagM b5).trans (.retagM b1), hsf, ?_, ?_⟩
  · refine ⟨sm, nm, .slice none 0 0, fun _ => 0, ?_, ?_, upd_same _ _ _, ?_, ?_, ?_⟩
    · rw [upd_ne _ _ (Ne.symm e2), upd_ne _ _ (Ne.symm e3), b3]; rfl
    · rw [upd_ne _ _ e1, upd_same]; rfl
    · exact Vec.nil
    · intro i F h; cases h
    · exact ⟨by simp [VFS.new], by simp [VFS.new], by simp [VFS.new]⟩
  · intro k o g hk ht hp
    have h1 := b4 k o g hk ht hp
    rw [upd_ne _ _ (by rintro rfl; rw [hnm'] at hk; cases hk), upd_ne _ _ (by rintro rfl; rw [hsm] at hk; cases hk)]
    exact h1
theorem Arm_spec {f : Nat} {S : VFS} {kind after : Int} (h : FSAt st f S) : ICalls Try.prog W0 28 #[ptr f, Val.i kind, Val.i after] st fun e st' => e = .returned (Val.i (S.arm kind after).1) ∧ FSAt st' f (S.arm kind after).2 ∧ Keep (Out f) st st' := by
  obtain ⟨sm, nm, tv, ad, h1, h2, h3, h4, h5, h6⟩ := h
  refine enter (args := [_, _, _]) Try.func28 rfl ?_
  have fin : ∀ c, FSAt (upd st f (.cells true (fsC sm nm tv S.files.length c) 9 (.own f 0 0))) f (S.ctl c) ∧ Keep (Out f) st (upd st f (.cells true (fsC sm nm tv S.files.length c) 9 (.own f 0 0))) := fun c => by
    obtain ⟨k, h, _⟩ := FSAt.ctl' h1 h2 h3 h4 h5 h6 c
    exact ⟨h, k.imp fun g h => h 0 0⟩
  have same : FSAt st f S := ⟨sm, nm, tv, ad, h1, h2, h3, h4, h5, h6⟩
  unfold VFS.arm
  by_cases ha : after < 0
  · have ha' : ¬ (0 ≤ after) := by omega
    by_cases k0 : kind = 0
    · simp [Try.f28, go_sem, ha, k0]; exact ⟨same, .rfl'⟩
    · by_cases k1 : kind = 14
      · simp [Try.f28, go_sem, ha, k1]; exact ⟨same, .rfl'⟩
      · by_cases k2 : kind = 15
        · simp [Try.f28, go_sem, ha, k2]; exact ⟨same, .rfl'⟩
        · simp [Try.f28, go_sem, ha, k0, k1, k2]; exact ⟨same, .rfl'⟩
  · by_cases k0 : kind = 0
    · simp [Try.f28, go_sem, ha, k0, h1, fsC]; exact fin { S.c with armed := true, kind := 0, after := after }
    · by_cases k1 : kind = 14
      · simp [Try.f28, go_sem, ha, k1, h1, fsC]; exact fin { S.c with armed := true, kind := 14, after := after }
      · by_cases k2 : kind = 15
        · simp [Try.f28, go_sem, ha, k2, h1, fsC]; exact fin { S.c with armed := true, kind := 15, after := after }
        · simp [Try.f28, go_sem, ha, k0, k1, k2]; exact ⟨same, .rfl'⟩
theorem Calls_spec {f : Nat} {S : VFS} (h : FSAt st f S) : ICalls Try.prog W0 31 #[ptr f] st fun e st' => e = .returned (Val.i S.c.calls) ∧ st' = st := by
  obtain ⟨sm, nm, tv, ad, h1, h2, h3, h4, h5, h6⟩ := h
  refine enter (args := [_]) Try.func31 rfl ?_
  simp [Try.f31, go_sem, h1, fsC]
theorem Read_spec {f : Nat} {S : VFS} {n : ByteArray} (h : FSAt st f S) (hs : ∀ F ∈ S.files, F.now.length < 2 ^ 40) : ICalls Try.prog W0 30 #[ptr f, .string n] st fun e st' =>
    Keep (fun _ => True) st st' ∧ match aget S.now n with
      | none => e = .returned (.tuple #[.slice none 0 0, Val.i 3])
      | some i => ∃ F b c, S.files[i]? = some F ∧ e = .returned (.tuple #[.slice b F.now.length c, Val.i 0]) ∧ Vec st' (.ty 0) 1 (.slice b F.now.length c) (bytesV F.now) F.now.length := by
  obtain ⟨sm, nm, tv, ad, h1, h2, h3, h4, h5, h6⟩ := h
  refine enter (args := [_, _]) Try.func30 rfl ?_
  unfold aget
  cases hg : afind n S.now 0 with
  | none =>
    simp [Try.f30, go_sem, h1, fsC, h3, mfind_encM, hg]
    exact .rfl'
  | some p =>
    have hp : p.2 < S.files.length := by
      obtain ⟨e, h7, h8⟩ := afind_mem hg
      rw [← h8]; exact h6.2.1 e h7
    obtain ⟨sv, pv, nv, us, b1, b2, b3, b4, b5⟩ := h5 p.2 S.files[p.2] (by simp [hp])
    simp [Try.f30, go_sem, h1, fsC, h3, mfind_encM, hg, b1]
    have hl := hs _ (List.getElem_mem hp)
    refine AppI_fresh (.ty 0) si29 b5.src (by omega) ?_
    intro b c st1 hv he
    simp [go_sem]
    exact ⟨he, S.files[p.2], by simp [hp], b, c, ⟨rfl, rfl, rfl⟩, hv⟩
end
end Go.Proofs.Ytenencpnnjacdaa
