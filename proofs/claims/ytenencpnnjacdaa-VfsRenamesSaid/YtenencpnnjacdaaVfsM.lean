/- The file system's methods Sync, SyncDir. -/
import Derived.Test.YtenencpnnjacdaaVfsJ
set_option linter.unusedVariables false
set_option linter.unusedSimpArgs false
set_option maxRecDepth 100000
set_option maxHeartbeats 1000000
namespace Go.Proofs.Ytenencpnnjacdaa
open Go.RowKit (Below)

def VFile.synced (F : VFile) : VFile := { F with sure := F.now, pend := [] }
section
variable {W0 : World} {st : Heap}
theorem fileSync_spec {f i a : Nat} {F : VFile} (h : FileAt st f i a F) :
    ICalls Try.prog W0 75 #[ptr a] st fun e st' => e = .returned (.tuple #[]) ∧ FileAt st' f i a F.synced ∧ Keep (fun g => g ≠ .own f i 1) st st' := by
  obtain ⟨sv, pv, nv, us, h1, h2, h3, h4, h5⟩ := h
  refine enter (args := [_]) Try.func75 rfl ?_
  obtain ⟨nb, nc, rfl⟩ := h5.slice
  have hcap := h5.reg.cap
  simp [Try.f75, go_sem]
  refine draw [0, 1, 2, 3, 5, 6, 7, 10, 11, 12, 4, 8, 9, 13, 14, 15, 16, 17, 18] (by kernel_rfl) ?_
  simp [go_sem, h1, hcap]
  have k : Keep (fun g => g ≠ .own f i 1) st (upd st a (.cells true [Val.i F.born, .slice nb F.now.length F.now.length, .slice none 0 0, .slice nb F.now.length nc] 4 (.own f i 1))) := Keep.rfl'.old h1 (by simp [HObj.tag])
  have h5' := h5.keep k (by simp)
  refine ⟨⟨_, _, _, [], upd_same _ _ _, ?_, trivial, Vec.nil, h5'⟩, k⟩
  obtain ⟨z1, base, cap, z4, z5, z6⟩ := h5'.reg
  injection z4 with y1 y2 y3; subst y1; subst y3
  exact ⟨z1, nb, F.now.length, rfl, Nat.le_refl _, z6⟩
/-- One file of a file system is another. -/
theorem FSAt.file {st' : Heap} {f k : Nat} {S : VFS} {F : VFile} {sm nm : Nat} {tv : Value} {ad : Nat → Nat} {φ : VFile → VFile} (h1 : st f = some (.cells true (fsC sm nm tv S.files.length S.c) 9 (.own f 0 0))) (h2 : st sm = some (.map (.own f 0 5) (encM ad S.sure))) (h3 : st nm = some (.map (.own f 0 6) (encM ad S.now)))
    (h4 : Vec st (.own f 0 7) 4 tv (S.turns.flatMap (encT ad)) S.turns.length) (h5 : ∀ (i : Nat) (F : VFile), S.files[i]? = some F → FileAt st f i (ad i) F) (h6 : S.ok) (hk : S.files[k]? = some F)
    (hkp : Keep (fun g => ∀ r, 1 ≤ r → r ≤ 4 → g ≠ .own f k r) st st') (hF : FileAt st' f k (ad k) (φ F)) : FSAt st' f { S with files := S.files.modify k φ } := by
  refine ⟨sm, nm, tv, ad, ?_, hkp.getM h2 (by intro r _ _; simp; omega), hkp.getM h3 (by intro r _ _; simp; omega), h4.keep hkp (by intro r _ _; simp; omega), ?_, ?_⟩
  · have := hkp.get h1 (by intro r _ _; simp; omega)
    simpa using this
  · intro i G hi
    simp only at hi
    rw [List.getElem?_modify] at hi
    by_cases hik : k = i
    · subst hik
      rw [hk] at hi
      simp at hi
      subst hi
      exact hF
    · cases hj : S.files[i]? with
      | none => rw [hj] at hi; cases hi
      | some G' =>
        rw [hj] at hi
        simp [hik] at hi
        subst hi
        exact (h5 i G' hj).keep hkp (by intro r _ _ r' _ _; simp; omega)
  · obtain ⟨o1, o2, o3⟩ := h6
    exact ⟨by simpa using o1, by simpa using o2, by simpa using o3⟩
end
def VFS.syncF (S : VFS) (n : ByteArray) : Int × VFS :=
  if S.c.call.1 ≠ 0 then (S.c.call.1, S.ctl S.c.call.2)
  else if okName n = false then (1, S.ctl S.c.call.2)
  else match aget S.now n with
    | none => (3, S.ctl S.c.call.2)
    | some k => (0, { S.ctl S.c.call.2 with files := S.files.modify k VFile.synced })
def syncM : List VTurn → Dir → Option Dir
  | [], d => some d
  | t :: ts, d => (t.does d).bind (syncM ts)
section
variable {W0 : World} {st : Heap}
theorem aget_lt {S : VFS} {n : ByteArray} {k : Nat} (h6 : S.ok) (hg : aget S.now n = some k) : k < S.files.length := by
  unfold aget at hg
  obtain ⟨p, h7, h8⟩ := Option.map_eq_some_iff.1 hg
  obtain ⟨e, h9, h10⟩ := afind_mem h7
  rw [← h8, ← h10]; exact h6.2.1 e h9
theorem Sync_spec {f : Nat} {S : VFS} {n : ByteArray} (h : FSAt st f S) : ICalls Try.prog W0 32 #[ptr f, .string n] st fun e st' => e = .returned (Val.i (S.syncF n).1) ∧ FSAt st' f (S.syncF n).2 ∧ Keep (Out f) st st' := by
  obtain ⟨sm, nm, tv, ad, h1, h2, h3, h4, h5, h6⟩ := h
  refine enter (args := [_, _]) Try.func32 rfl ?_
  simp [Try.f32, go_sem]
  refine call_spec h1 ?_
  obtain ⟨k0, hfs, h1, h2, h3, h4, h5⟩ := FSAt.ctl' h1 h2 h3 h4 h5 h6 S.c.call.2
  generalize hst1 : upd st f _ = st1 at *
  have k0' : Keep (Out f) st st1 := k0.imp fun g h => h 0 0
  unfold VFS.syncF
  simp [go_sem]
  by_cases hc : S.c.call.1 = 0
  · simp [hc, go_sem]
    refine ICalls.mono (find_spec (n := n) h1 h3) ?_
    rintro e st2 ⟨rfl, rfl⟩
    cases hk : okName n with
    | false => simp [go_sem]; exact ⟨hfs, k0'⟩
    | true =>
      cases hg : aget S.now n with
      | none => simp [go_sem]; exact ⟨hfs, k0'⟩
      | some k =>
        have hkl := aget_lt h6 hg
        have hF : S.files[k]? = some S.files[k] := List.getElem?_eq_getElem hkl
        simp [go_sem]
        refine (fileSync_spec (h5 k _ hF)).mono ?_
        rintro e st3 ⟨rfl, hF3, k3⟩
        simp [go_sem]
        have k3' : Keep (fun g => ∀ r, 1 ≤ r → r ≤ 4 → g ≠ .own f k r) st2 st3 := k3.imp fun g h => h 1 (by omega) (by omega)
        exact ⟨FSAt.file (S := S.ctl S.c.call.2) h1 h2 h3 h4 h5 h6 hF k3' hF3, k0'.trans (k3.imp fun g h => h k 1)⟩
  · simp [hc, go_sem]
    exact ⟨hfs, k0'⟩
end
end Go.Proofs.Ytenencpnnjacdaa
