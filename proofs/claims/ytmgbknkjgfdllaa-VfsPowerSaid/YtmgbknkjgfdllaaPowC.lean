/- What a file system is behind so many calls of the law: plain. -/
import Derived.Test.YtmgbknkjgfdllaaPowB
set_option linter.unusedVariables false
set_option linter.unusedSimpArgs false
set_option maxRecDepth 100000
set_option maxHeartbeats 2000000
namespace Go.Proofs.Ytmgbknkjgfdllaa
open Go.RowKit (Below)
structure PowI (S : VFS) (k : Nat) : Prop where
  turns : S.turns.length ≤ k
  nfiles : S.files.length ≤ k
  files : ∀ F ∈ S.files, F.pend.length ≤ k ∧ F.now.length ≤ 500 * k ∧ F.sure.length ≤ 500 * k
  names : Names S.now
  surs : Names S.sure
  valid : ∀ p ∈ S.now, p.1 ∈ VN
  sync : ∃ d, syncM S.turns S.sure = some d ∧ d.Perm S.now
  off : S.c.off = false
  armed : S.c.armed = false
theorem PowI.small {S : VFS} {k : Nat} (h : PowI S k) (hk : k ≤ 100) : S.small := by
  refine ⟨by have := h.turns; omega, by have := h.nfiles; omega, fun F hF => ?_⟩
  obtain ⟨h1, h2, h3⟩ := h.files F hF
  exact ⟨by omega, by omega, by omega⟩
theorem PowI.call {S : VFS} {k : Nat} (h : PowI S k) : S.c.call.1 = 0 ∧ S.c.call.2.off = false ∧ S.c.call.2.armed = false := by
  unfold Ctl.call
  rw [if_neg (by rw [h.off]; simp), if_pos h.armed]
  exact ⟨rfl, h.off, h.armed⟩
theorem PowI.le {S : VFS} {k k' : Nat} (h : PowI S k) (hk : k ≤ k') : PowI S k' :=
  ⟨by have := h.turns; omega, by have := h.nfiles; omega, fun F hF => by obtain ⟨h1, h2, h3⟩ := h.files F hF; exact ⟨by omega, by omega, by omega⟩, h.names, h.surs, h.valid, h.sync, h.off, h.armed⟩
theorem PowI.ctl {S : VFS} {k : Nat} (h : PowI S k) : PowI (S.ctl S.c.call.2) k :=
  ⟨h.turns, h.nfiles, h.files, h.names, h.surs, h.valid, h.sync, h.call.2.1, h.call.2.2⟩
theorem syncM_snoc : ∀ (ts : List VTurn) (t : VTurn) (l : Dir), syncM (ts ++ [t]) l = (syncM ts l).bind t.does
  | [], t, l => by simp [syncM]
  | x :: ts, t, l => by
    simp only [List.cons_append, syncM]
    cases h : x.does l with
    | none => rfl
    | some d => simp [syncM_snoc ts t d]
/-- A turn. -/
theorem PowI.turned {S : VFS} {k : Nat} (h : PowI S k) {t : VTurn} {now' : Dir} {files' : List VFile} (ht : t.does S.now = some now') (hv : ∀ p ∈ now', p.1 ∈ VN) (hf : files'.length ≤ k + 1) (hfs : ∀ F ∈ files', F.pend.length ≤ k + 1 ∧ F.now.length ≤ 500 * (k + 1) ∧ F.sure.length ≤ 500 * (k + 1)) :
    PowI { sure := S.sure, now := now', turns := S.turns ++ [t], files := files', c := S.c.call.2 } (k + 1) := by
  obtain ⟨d, hd, hp⟩ := h.sync
  obtain ⟨d', hd', hp', hn'⟩ := does_perm h.names hp.symm ht
  refine ⟨by have := h.turns; simp; omega, hf, hfs, hn', h.surs, hv, ⟨d', ?_, hp'.symm⟩, h.call.2.1, h.call.2.2⟩
  show syncM (S.turns ++ [t]) S.sure = some d'
  rw [syncM_snoc, hd]
  exact hd'
theorem PowI.create {S : VFS} {k : Nat} {n : ByteArray} (h : PowI S k) (hn : NameOK n) : PowI (S.create n).2 (k + 1) := by
  unfold VFS.create
  rw [if_neg (by rw [h.call.1]; simp)]
  split
  · exact h.ctl.le (by omega)
  · rename_i ho
    split
    · exact h.ctl.le (by omega)
    · refine h.turned (t := ⟨0, n, ⟨#[]⟩, some S.files.length⟩) (by simp [VTurn.does]) ?_ (by have := h.nfiles; simp; omega) ?_
      · intro p hp
        rcases (mem_aset h.names).1 hp with rfl | hp
        · rcases hn with hn | hn
          · exact absurd hn ho
          · exact hn
        · exact h.valid p hp.1
      · intro F hF
        rcases List.mem_append.1 hF with hF | hF
        · obtain ⟨h1, h2, h3⟩ := h.files F hF
          exact ⟨by omega, by omega, by omega⟩
        · simp at hF; subst hF; simp
theorem PowI.modify {S : VFS} {k i : Nat} (h : PowI S k) {f : VFile → VFile} (hf : ∀ F ∈ S.files, (f F).pend.length ≤ k + 1 ∧ (f F).now.length ≤ 500 * (k + 1) ∧ (f F).sure.length ≤ 500 * (k + 1)) : PowI { S.ctl S.c.call.2 with files := S.files.modify i f } (k + 1) := by
  refine ⟨by have := h.turns; simp [VFS.ctl]; omega, by have := h.nfiles; simp; omega, ?_, h.names, h.surs, h.valid, h.sync, h.call.2.1, h.call.2.2⟩
  intro F hF
  simp only at hF
  obtain ⟨j, hj⟩ := List.mem_iff_getElem?.1 hF
  rw [List.getElem?_modify] at hj
  split at hj
  · obtain ⟨G, hG, rfl⟩ := Option.map_eq_some_iff.1 hj
    exact hf G (List.mem_of_getElem? hG)
  · simp at hj
    obtain ⟨h1, h2, h3⟩ := h.files F (List.mem_of_getElem? hj)
    exact ⟨by omega, by omega, by omega⟩
theorem PowI.append {S : VFS} {k : Nat} {n : ByteArray} {b : Bs} (h : PowI S k) (hb : b.length ≤ 500) : PowI (S.append n b).2 (k + 1) := by
  unfold VFS.append
  have hc := h.call.1
  have hput : ∀ (j : Nat) (b' : Bs), b'.length ≤ 500 → PowI (S.put S.c.call.2 j b') (k + 1) := fun j b' hb' => by
    refine h.modify (i := j) (f := (·.app b')) fun F hF => ?_
    obtain ⟨h1, h2, h3⟩ := h.files F hF
    simp [VFile.app]
    omega
  split
  · exact h.ctl.le (by omega)
  · split
    · exact h.ctl.le (by omega)
    · split
      · exact hput _ _ hb
      · exact h.ctl.le (by omega)
theorem PowI.cut {S : VFS} {k : Nat} {n : ByteArray} {s : Int} (h : PowI S k) : PowI (S.cutF n s).2 (k + 1) := by
  unfold VFS.cutF
  rw [if_neg (by rw [h.call.1]; simp)]
  split
  · exact h.ctl.le (by omega)
  · split
    · exact h.ctl.le (by omega)
    · split
      · exact h.ctl.le (by omega)
      · refine h.modify (f := (·.cutTo s.toNat)) fun F hF => ?_
        obtain ⟨h1, h2, h3⟩ := h.files F hF
        simp [VFile.cutTo]
        omega
theorem PowI.sync' {S : VFS} {k : Nat} {n : ByteArray} (h : PowI S k) : PowI (S.syncF n).2 (k + 1) := by
  unfold VFS.syncF
  rw [if_neg (by rw [h.call.1]; simp)]
  split
  · exact h.ctl.le (by omega)
  · split
    · exact h.ctl.le (by omega)
    · refine h.modify (f := VFile.synced) fun F hF => ?_
      obtain ⟨h1, h2, h3⟩ := h.files F hF
      simp [VFile.synced]
      omega
theorem PowI.remove {S : VFS} {k : Nat} {n : ByteArray} (h : PowI S k) : PowI (S.remove n).2 (k + 1) := by
  unfold VFS.remove
  rw [if_neg (by rw [h.call.1]; simp)]
  split
  · exact h.ctl.le (by omega)
  · split
    · exact h.ctl.le (by omega)
    · refine h.turned (t := ⟨2, n, ⟨#[]⟩, none⟩) (by simp [VTurn.does]) ?_ (by have := h.nfiles; omega) ?_
      · intro p hp
        exact h.valid p ((mem_adel h.names).1 hp).1
      · intro F hF
        obtain ⟨h1, h2, h3⟩ := h.files F hF
        exact ⟨by omega, by omega, by omega⟩
theorem PowI.rename {S : VFS} {k : Nat} {n m : ByteArray} (h : PowI S k) (hm : NameOK m) : PowI (S.rename n m).2 (k + 1) := by
  unfold VFS.rename
  rw [if_neg (by rw [h.call.1]; simp)]
  split
  · exact h.ctl.le (by omega)
  · rename_i ho
    split
    · exact h.ctl.le (by omega)
    · rename_i i hi
      refine h.turned (t := ⟨1, n, m, none⟩) (by simp [VTurn.does, hi]) ?_ (by have := h.nfiles; omega) ?_
      · intro p hp
        rcases (mem_aset (adel_names h.names)).1 hp with rfl | hp
        · rcases hm with hm | hm
          · rw [hm] at ho; simp at ho
          · exact hm
        · exact h.valid p ((mem_adel h.names).1 hp.1).1
      · intro F hF
        obtain ⟨h1, h2, h3⟩ := h.files F hF
        exact ⟨by omega, by omega, by omega⟩
theorem PowI.dir {S : VFS} {k : Nat} {d : Dir} (h : PowI S k) (hd : syncM S.turns S.sure = some d) : PowI { sure := d, now := S.now, turns := [], files := S.files, c := S.c.call.2 } (k + 1) := by
  obtain ⟨d', hd', hp⟩ := h.sync
  rw [hd] at hd'
  injection hd' with hd'
  subst hd'
  exact ⟨by simp, by have := h.nfiles; simp; omega, fun F hF => by obtain ⟨h1, h2, h3⟩ := h.files F hF; exact ⟨by omega, by omega, by omega⟩, h.names, h.names.perm hp.symm, h.valid, ⟨d, rfl, hp⟩, h.call.2.1, h.call.2.2⟩
theorem PowI.now_len {S : VFS} {k : Nat} (h : PowI S k) : S.now.length ≤ 6 := by
  have : (S.now.map (·.1)).length ≤ VN.length := nodup_len h.names (by
    intro x hx
    obtain ⟨p, hp, rfl⟩ := List.mem_map.1 hx
    exact h.valid p hp)
  simpa [VN] using this
end Go.Proofs.Ytmgbknkjgfdllaa
