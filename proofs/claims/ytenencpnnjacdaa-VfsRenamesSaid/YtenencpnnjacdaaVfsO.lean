/- The file system's methods Remove, Rename. -/
import Derived.Test.YtenencpnnjacdaaVfsN
set_option linter.unusedVariables false
set_option linter.unusedSimpArgs false
set_option maxRecDepth 100000
set_option maxHeartbeats 1000000
namespace Go.Proofs.Ytenencpnnjacdaa
open Go.RowKit (Below)

def VFS.turn (S : VFS) (c : Ctl) (now : Dir) (t : VTurn) : VFS := { sure := S.sure, now := now, turns := S.turns ++ [t], files := S.files, c := c }
def VFS.remove (S : VFS) (n : ByteArray) : Int × VFS :=
  if S.c.call.1 ≠ 0 then (S.c.call.1, S.ctl S.c.call.2)
  else if okName n = false then (1, S.ctl S.c.call.2)
  else match aget S.now n with
    | none => (3, S.ctl S.c.call.2)
    | some _ => (0, S.turn S.c.call.2 (adel S.now n) ⟨2, n, ⟨#[]⟩, none⟩)
def VFS.rename (S : VFS) (n m : ByteArray) : Int × VFS :=
  if S.c.call.1 ≠ 0 then (S.c.call.1, S.ctl S.c.call.2)
  else if (okName n && okName m) = false then (1, S.ctl S.c.call.2)
  else match aget S.now n with
    | none => (3, S.ctl S.c.call.2)
    | some i => (0, S.turn S.c.call.2 (aset (adel S.now n) m i) ⟨1, n, m, none⟩)
section
variable {W0 : World} {st : Heap}
theorem FSAt.turn' {st' : Heap} {f sm nm : Nat} {tv' : Value} {ad : Nat → Nat} {S : VFS} {c : Ctl} {now' : Dir} {t : VTurn} (h2 : st sm = some (.map (.own f 0 5) (encM ad S.sure)))
    (h5 : ∀ (i : Nat) (F : VFile), S.files[i]? = some F → FileAt st f i (ad i) F) (h6 : S.ok) (ht : t.does S.now = some now') (htf : t.file = none)
    (c1 : st' f = some (.cells true (fsC sm nm tv' S.files.length c) 9 (.own f 0 0))) (c3 : st' nm = some (.map (.own f 0 6) (encM ad now'))) (c4 : Vec st' (.own f 0 7) 4 tv' ((S.turns ++ [t]).flatMap (encT ad)) (S.turns ++ [t]).length)
    (k3 : Keep (fun g => g ≠ .own f 0 0 ∧ g ≠ .own f 0 6 ∧ g ≠ .own f 0 7) st st') : FSAt st' f (S.turn c now' t) := by
  refine ⟨sm, nm, tv', ad, c1, k3.getM h2 (by simp), c3, c4, fun i F hi => (h5 i F hi).keep k3 (by intro r h1 h2; simp; omega), h6.1, does_ok ht h6.2.1 (by intro i hi; rw [htf] at hi; cases hi), ?_⟩
  intro t' ht' i hi
  simp only [VFS.turn] at ht'
  rcases List.mem_append.1 ht' with ht' | ht'
  · exact h6.2.2 t' ht' i hi
  · simp at ht'; rw [ht', htf] at hi; cases hi
theorem Remove_spec {f : Nat} {S : VFS} {n : ByteArray} (h : FSAt st f S) (hs : S.small) : ICalls Try.prog W0 42 #[ptr f, .string n] st fun e st' => e = .returned (Val.i (S.remove n).1) ∧ FSAt st' f (S.remove n).2 ∧ Keep (Out f) st st' := by
  obtain ⟨sm, nm, tv, ad, h1, h2, h3, h4, h5, h6⟩ := h
  refine enter (args := [_, _]) Try.func42 rfl ?_
  simp [Try.f42, go_sem]
  refine call_spec h1 ?_
  obtain ⟨k0, hfs, h1, h2, h3, h4, h5⟩ := FSAt.ctl' h1 h2 h3 h4 h5 h6 S.c.call.2
  generalize hst1 : upd st f _ = st1 at *
  have k0' : Keep (Out f) st st1 := k0.imp fun g h => h 0 0
  unfold VFS.remove
  simp [go_sem]
  by_cases hc : S.c.call.1 = 0
  · simp [hc, go_sem]
    refine ICalls.mono (find_spec (n := n) h1 h3) ?_
    rintro e st2 ⟨rfl, rfl⟩
    cases hk : okName n with
    | false => simp [go_sem]; exact ⟨hfs, k0'⟩
    | true =>
      cases hg : aget S.now n with
      | none => simp [go_sem]; exact ⟨hfs, k0'⟩
      | some k =>
        simp [go_sem]
        have ht : (⟨2, n, ⟨#[]⟩, none⟩ : VTurn).does S.now = some (adel S.now n) := by simp [VTurn.does]
        refine ICalls.mono (turned_spec (W0 := W0) (t := ⟨2, n, ⟨#[]⟩, none⟩) (c := S.c.call.2) h1 h3 h4 hs.1 ht) ?_
        rintro e st4 ⟨rfl, tv', c1, c3, c4, k3⟩
        simp [go_sem]
        exact ⟨FSAt.turn' h2 h5 h6 ht rfl c1 c3 c4 k3, k0'.trans (k3.imp fun g h => ⟨h 0 0, h 0 6, h 0 7⟩)⟩
  · simp [hc, go_sem]
    exact ⟨hfs, k0'⟩
theorem Rename_spec {f : Nat} {S : VFS} {n m : ByteArray} (h : FSAt st f S) (hs : S.small) : ICalls Try.prog W0 39 #[ptr f, .string n, .string m] st fun e st' => e = .returned (Val.i (S.rename n m).1) ∧ FSAt st' f (S.rename n m).2 ∧ Keep (Out f) st st' := by
  obtain ⟨sm, nm, tv, ad, h1, h2, h3, h4, h5, h6⟩ := h
  refine enter (args := [_, _, _]) Try.func39 rfl ?_
  simp [Try.f39, go_sem]
  refine call_spec h1 ?_
  obtain ⟨k0, hfs, h1, h2, h3, h4, h5⟩ := FSAt.ctl' h1 h2 h3 h4 h5 h6 S.c.call.2
  generalize hst1 : upd st f _ = st1 at *
  have k0' : Keep (Out f) st st1 := k0.imp fun g h => h 0 0
  unfold VFS.rename
  simp [go_sem]
  by_cases hc : S.c.call.1 = 0
  · simp [hc, go_sem]
    unfold NewS
    intro b hb
    refine ⟨.ty 0, ?_⟩
    have k1 : Keep (fun _ => True) st1 (upd st1 b (.cells true [.string n, .string m] 2 (.ty 0))) := Keep.rfl'.new hb
    simp [go_sem]
    refine ICalls.mono (named_spec (names := [n, m]) (by simp [srcCells, lkN_mk, upd_same, cellsOf]) ⟨_, _, rfl⟩ (by simp)) ?_
    rintro e st2 ⟨rfl, rfl⟩
    generalize upd st1 b _ = st2 at *
    have h1 := k1.get h1 trivial
    have h2 := k1.getM h2 trivial
    have h3 := k1.getM h3 trivial
    have h4 := h4.keep k1 trivial
    have h5 : ∀ (i : Nat) (F : VFile), S.files[i]? = some F → FileAt st2 f i (ad i) F := fun i F hi => (h5 i F hi).keep k1 (fun _ _ _ => trivial)
    have hfs := hfs.keep k1 (fun _ _ => trivial)
    have k0' : Keep (Out f) st st2 := k0'.trans (k1.imp fun _ _ => trivial)
    cases hk : (okName n && okName m) with
    | false =>
      have hk' : ∀ x ∈ [n, m], True := fun _ _ => trivial
      have : [n, m].all okName = false := by simpa using hk
      have hor : okName n = true → okName m = false := by intro h; rw [h] at hk; simpa using hk
      rw [this]
      simp only [go_sem, simprocAttr]
      cases hn : okName n with
      | false => simp [go_sem, hn]; exact ⟨hfs, k0'⟩
      | true => simp [go_sem, hn, hor hn]; exact ⟨hfs, k0'⟩
    | true =>
      have : [n, m].all okName = true := by simpa using hk
      rw [this]
      have hk1 : okName n = true := (Bool.and_eq_true_iff.1 hk).1
      have hk2 : okName m = true := (Bool.and_eq_true_iff.1 hk).2
      simp [go_sem, hk1, hk2]
      refine ICalls.mono (find_spec (n := n) h1 h3) ?_
      rintro e st3 ⟨rfl, rfl⟩
      cases hg : aget S.now n with
      | none => simp [go_sem, hk1, hk2]; exact ⟨hfs, k0'⟩
      | some k =>
        simp [go_sem, hk1, hk2]
        have ht : (⟨1, n, m, none⟩ : VTurn).does S.now = some (aset (adel S.now n) m k) := by simp [VTurn.does, hg]
        refine ICalls.mono (turned_spec (W0 := W0) (t := ⟨1, n, m, none⟩) (c := S.c.call.2) h1 h3 h4 hs.1 ht) ?_
        rintro e st4 ⟨rfl, tv', c1, c3, c4, k3⟩
        simp [go_sem]
        exact ⟨FSAt.turn' h2 h5 h6 ht rfl c1 c3 c4 k3, k0'.trans (k3.imp fun g h => ⟨h 0 0, h 0 6, h 0 7⟩)⟩
  · simp [hc, go_sem]
    exact ⟨hfs, k0'⟩
end
end Go.Proofs.Ytenencpnnjacdaa
