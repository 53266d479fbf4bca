/- The file system's methods Sync, SyncDir. -/
import Derived.Test.YtgppogppdmbgmaaGreatC19
import Derived.Test.YtgppogppdmbgmaaGreatC31
set_option linter.unusedVariables false
set_option linter.unusedSimpArgs false
set_option maxRecDepth 100000
set_option maxHeartbeats 1000000
namespace Go.Proofs.YtgppogppdmbgmaaGreat
open Go.RowKit (Below)

def VFile.synced (F : VFile) : VFile := { F with sure := F.now, pend := [] }
section
variable {W0 : World} {st : Heap}
theorem fileSync_spec {f i a : Nat} {F : VFile} (h : FileAt st f i a F) :
    ICalls Tryz.prog W0 101 #[ptr a] st fun e st' => e = .returned (.tuple #[]) ∧ FileAt st' f i a F.synced ∧ Keep (fun g => g ≠ .own f i 1) st st' := by
  obtain ⟨sv, pv, nv, us, h1, h2, h3, h4, h5⟩ := h
  refine enter (args := [_]) Tryz.func101 rfl ?_
  obtain ⟨nb, nc, rfl⟩ := h5.slice
  have hcap := h5.reg.cap
  simp [Tryz.f101, go_sem]
  refine draw [0, 1, 2, 3, 5, 6, 7, 10, 11, 12, 4, 8, 9, 13, 14, 15, 16, 17, 18] (by kernel_rfl) ?_
  simp [go_sem, h1, hcap]
  have k : Keep (fun g => g ≠ .own f i 1) st (upd st a (.cells true [Val.i F.born, .slice nb F.now.length F.now.length, .slice none 0 0, .slice nb F.now.length nc] 4 (.own f i 1))) := Keep.rfl'.old h1 (by simp [HObj.tag])
  have h5' := h5.keep k (by simp)
  refine ⟨⟨_, _, _, [], upd_same _ _ _, ?_, trivial, Vec.nil, h5'⟩, k⟩
  obtain ⟨z1, base, cap, z4, z5, z6⟩ := h5'.reg
  injection z4 with y1 y2 y3; subst y1; subst y3
  exact ⟨z1, nb, F.now.length, rfl, Nat.le_refl _, z6⟩
/-- One file of a file system is another. -/
theorem FSAt.file {st' : Heap} {f k : Nat} {S : VFS} {F : VFile} {sm nm : Nat} {tv : Value} {ad : Nat → Nat} {φ : VFile → VFile} (h1 : st f = some (.cells true (fsC sm nm tv S.files.length S.c) 9 (.own f 0 0))) (h2 : st sm = some (.map (.own f 0 5) (encM ad S.sure))) (h3 : st nm = some (.map (.own f 0 6) (encM ad S.now)))
    (h4 : Vec st (.own f 0 7) 4 tv (S.turns.flatMap (encT ad)) S.turns.length) (h5 : ∀ (i : Nat) (F : VFile), S.files[i]? = some F → FileAt st f i (ad i) F) (h6 : S.ok) (hk : S.files[k]? = some F)
    (hkp : Keep (fun g => ∀ r, 1 ≤ r → r ≤ 4 → g ≠ .own f k r) st st') (hF : FileAt st' f k (ad k) (φ F)) : FSAt st' f { S with files := S.files.modify k φ } := by
  refine ⟨sm, nm, tv, ad, ?_, hkp.getM h2 (by intro r _ _; simp; omega), hkp.getM h3 (by intro r _ _; simp; omega), h4.keep hkp (by intro r _ _; simp; omega), ?_, ?_⟩
  · have := hkp.get h1 (by intro r _ _; simp; omega)
    simpa using this
  · intro i G hi
    simp only at hi
    rw [List.getElem?_modify] at hi
    by_cases hik : k = i
    · subst hik
      rw [hk] at hi
      simp at hi
      subst hi
      exact hF
    · cases hj : S.files[i]? with
      | none => rw [hj] at hi; cases hi
      | some G' =>
        rw [hj] at hi
        simp [hik] at hi
        subst hi
        exact (h5 i G' hj).keep hkp (by intro r _ _ r' _ _; simp; omega)
  · obtain ⟨o1, o2, o3⟩ := h6
    exact ⟨by simpa using o1, by simpa using o2, by simpa using o3⟩
end
def VFS.syncF (S : VFS) (n : ByteArray) : Int × VFS :=
  if S.c.call.1 ≠ 0 then (S.c.call.1, S.ctl S.c.call.2)
  else if okName n = false then (1, S.ctl S.c.call.2)
  else match aget S.now n with
    | none => (3, S.ctl S.c.call.2)
    | some k => (0, { S.ctl S.c.call.2 with files := S.files.modify k VFile.synced })
def syncM : List VTurn → Dir → Option Dir
  | [], d => some d
  | t :: ts, d => (t.does d).bind (syncM ts)
section
variable {W0 : World} {st : Heap}
theorem aget_lt {S : VFS} {n : ByteArray} {k : Nat} (h6 : S.ok) (hg : aget S.now n = some k) : k < S.files.length := by
  unfold aget at hg
  obtain ⟨p, h7, h8⟩ := Option.map_eq_some_iff.1 hg
  obtain ⟨e, h9, h10⟩ := afind_mem h7
  rw [← h8, ← h10]; exact h6.2.1 e h9
theorem Sync_spec {f : Nat} {S : VFS} {n : ByteArray} (h : FSAt st f S) : ICalls Tryz.prog W0 110 #[ptr f, .string n] st fun e st' => e = .returned (Val.i (S.syncF n).1) ∧ FSAt st' f (S.syncF n).2 ∧ Keep (Out f) st st' := by
  obtain ⟨sm, nm, tv, ad, h1, h2, h3, h4, h5, h6⟩ := h
  refine enter (args := [_, _]) Tryz.func110 rfl ?_
  simp [Tryz.f110, go_sem]
  refine call_spec h1 ?_
  obtain ⟨k0, hfs, h1, h2, h3, h4, h5⟩ := FSAt.ctl' h1 h2 h3 h4 h5 h6 S.c.call.2
  generalize hst1 : upd st f _ = st1 at *
  have k0' : Keep (Out f) st st1 := k0.imp fun g h => h 0 0
  unfold VFS.syncF
  simp [go_sem]
  by_cases hc : S.c.call.1 = 0
  · simp [hc, go_sem]
    refine ICalls.mono (find_spec (n := n) h1 h3) ?_
    rintro e st2 ⟨rfl, rfl⟩
    cases hk : okName n with
    | false => simp [go_sem]; exact ⟨hfs, k0'⟩
    | true =>
      cases hg : aget S.now n with
      | none => simp [go_sem]; exact ⟨hfs, k0'⟩
      | some k =>
        have hkl := aget_lt h6 hg
        have hF : S.files[k]? = some S.files[k] := List.getElem?_eq_getElem hkl
        simp [go_sem]
        refine (fileSync_spec (h5 k _ hF)).mono ?_
        rintro e st3 ⟨rfl, hF3, k3⟩
        simp [go_sem]
        have k3' : Keep (fun g => ∀ r, 1 ≤ r → r ≤ 4 → g ≠ .own f k r) st2 st3 := k3.imp fun g h => h 1 (by omega) (by omega)
        exact ⟨FSAt.file (S := S.ctl S.c.call.2) h1 h2 h3 h4 h5 h6 hF k3' hF3, k0'.trans (k3.imp fun g h => h k 1)⟩
  · simp [hc, go_sem]
    exact ⟨hfs, k0'⟩
end
end Go.Proofs.YtgppogppdmbgmaaGreat
set_option linter.unusedVariables false
set_option linter.unusedSimpArgs false
set_option maxRecDepth 100000
set_option maxHeartbeats 1000000
namespace Go.Proofs.YtgppogppdmbgmaaGreat
open Go.RowKit (Below)

theorem aget_mem {l : Dir} {k : ByteArray} {i : Nat} (h : aget l k = some i) : ∃ e ∈ l, e.2 = i := by
  unfold aget at h
  obtain ⟨p, h7, h8⟩ := Option.map_eq_some_iff.1 h
  obtain ⟨e, h9, h10⟩ := afind_mem h7
  exact ⟨e, h9, h10.trans h8⟩
theorem does_ok {t : VTurn} {l l' : Dir} {n : Nat} (h : t.does l = some l') (hl : ∀ p ∈ l, p.2 < n) (hf : ∀ i, t.file = some i → i < n) : ∀ p ∈ l', p.2 < n := by
  unfold VTurn.does at h
  split at h
  · obtain ⟨i, hi, rfl⟩ := Option.map_eq_some_iff.1 h
    intro p hp
    rcases aset_mem hp with hp | hp
    · exact hl p hp
    · rw [hp]; exact hf i hi
  · split at h
    · obtain ⟨i, hi, rfl⟩ := Option.map_eq_some_iff.1 h
      obtain ⟨e, he, hei⟩ := aget_mem hi
      intro p hp
      rcases aset_mem hp with hp | hp
      · exact hl p (adel_mem hp)
      · rw [hp, ← hei]; exact hl e he
    · split at h
      · injection h with h; subst h; intro p hp; exact hl p (adel_mem hp)
      · injection h with h; subst h; exact hl
theorem syncM_ok {n : Nat} : ∀ {ts : List VTurn} {l l' : Dir}, syncM ts l = some l' → (∀ p ∈ l, p.2 < n) → (∀ t ∈ ts, ∀ i, t.file = some i → i < n) → ∀ p ∈ l', p.2 < n
  | [], l, l', h, hl, _ => by injection h with h; subst h; exact hl
  | t :: ts, l, l', h, hl, hf => by
    obtain ⟨d, h1, h2⟩ := Option.bind_eq_some_iff.1 h
    exact syncM_ok h2 (does_ok h1 hl (hf t (by simp))) (fun t' ht' => hf t' (by simp [ht']))
section
variable {W0 : World} {st : Heap}
theorem SyncDir_spec {f : Nat} {S : VFS} {d : Dir} (h : FSAt st f S) (hs : S.small) (hd : syncM S.turns S.sure = some d) : ICalls Tryz.prog W0 113 #[ptr f] st fun e st' =>
    e = .returned (Val.i S.c.call.1) ∧ FSAt st' f (if S.c.call.1 = 0 then { sure := d, now := S.now, turns := [], files := S.files, c := S.c.call.2 } else S.ctl S.c.call.2) ∧ Keep (Out f) st st' := by
  obtain ⟨sm, nm, tv, ad, h1, h2, h3, h4, h5, h6⟩ := h
  refine enter (args := [_]) Tryz.func113 rfl ?_
  simp [Tryz.f113, go_sem]
  refine call_spec h1 ?_
  obtain ⟨k0, hfs, h1, h2, h3, h4, h5⟩ := FSAt.ctl' h1 h2 h3 h4 h5 h6 S.c.call.2
  generalize hst1 : upd st f _ = st1 at *
  have k0' : Keep (Out f) st st1 := k0.imp fun g h => h 0 0
  simp [go_sem]
  by_cases hc : S.c.call.1 = 0
  · obtain ⟨tvb, tvc, rfl⟩ := h4.slice
    simp [hc, go_sem, h1, fsC]
    refine ⟨fun E st' => Keep (fun t => t ≠ .own f 0 5) st1 st' ∧ E 0 = ptr f ∧ E 14 = .slice tvb S.turns.length tvc ∧ E 15 = Val.i S.turns.length ∧ ∃ (j : Nat) (dj : Dir), j ≤ S.turns.length ∧ E 16 = Val.i j ∧ st' sm = some (.map (.own f 0 5) (encM ad dj)) ∧ syncM (S.turns.drop j) dj = some d,
      fun E _ => match E 16 with | .int _ j => S.turns.length - j.toNat | _ => 0, ⟨st1, .rfl' _, .rfl', by simp [go_sem], by simp [go_sem], by simp [go_sem], 0, S.sure, Nat.zero_le _, by simp [go_sem], h2, by simpa using hd⟩, ?_⟩
    rintro E st4 ⟨hk4, e0, e14, e15, j, dj, hj, e16, hdj, hcr⟩
    have h1c := hk4.get h1 (by simp)
    by_cases hlt : j < S.turns.length
    · have htj : S.turns[j]? = some S.turns[j] := List.getElem?_eq_getElem hlt
      generalize S.turns[j] = t at htj
      obtain ⟨w1, w2⟩ := flatMap_get (ad := ad) htj
      have hdrop : S.turns.drop j = t :: S.turns.drop (j + 1) := by
        rw [List.drop_eq_getElem_cons hlt]
        congr 1
        rw [List.getElem?_eq_getElem hlt] at htj
        injection htj
      rw [hdrop] at hcr
      obtain ⟨dj', hdo, hcr⟩ := Option.bind_eq_some_iff.1 hcr
      obtain ⟨hl, base, cap, hv', hc', hbase⟩ := h4.keep hk4 (by simp)
      injection hv' with q1 q2 q3; subst q1; subst q3
      have hsl := hs.1
      have hw : IntKind.i64.wrap ((j : Int) + 1) = j + 1 := wrap_id (by omega) (by omega)
      rcases hbase with ⟨b0, n0, rfl, hb0, hn0⟩ | ⟨rfl, hc0⟩
      · obtain ⟨cs, hcs⟩ : ∃ cs, cs = S.turns.flatMap (encT ad) := ⟨_, rfl⟩
        rw [← hcs] at hb0 w1 w2
        unfold encT at w1
        simp [go_sem, e14, e15, e16, hlt, hb0, w1, w2]
        unfold NewP
        intro b5 hb5
        refine ⟨.ty 0, ?_⟩
        have k5 : ∀ o, Keep (fun _ => True) st4 (upd st4 b5 o) := fun o => Keep.rfl'.new hb5
        have hbf := ne_of_new h1c hb5
        simp [go_sem, e0, e14, e15, e16, hw]
        refine draw [1, 2, 3, 0, 4, 5] (by kernel_rfl) ?_
        simp [go_sem, e0, e14, e15, e16, hw, hbf, h1c, fsC]
        refine ICalls.mono (does_spec (t := t) ((k5 _).getM hdj trivial) hdo) ?_
        rintro e st6 ⟨rfl, rfl⟩
        simp [go_sem, e0, e14, e15, e16, hw]
        refine ⟨_, .rfl' _, ⟨?_, j + 1, hlt, by omega, dj', upd_same _ _ _, hcr⟩, by omega⟩
        exact (hk4.trans ((k5 _).imp fun _ _ => trivial)).old ((k5 _).getM hdj trivial) (by simp [HObj.tag])
      · omega
    · have hje : j = S.turns.length := by omega
      subst hje
      rw [List.drop_length] at hcr
      injection hcr with hcr
      subst hcr
      simp [go_sem, e0, e14, e15, e16, h1c, fsC]
      have k6 : Keep (fun g => g ≠ .own f 0 0) st4 (upd st4 f (.cells true (fsC sm nm (.slice none 0 0) S.files.length S.c.call.2) 9 (.own f 0 0))) := Keep.rfl'.old h1c (by simp [HObj.tag])
      refine ⟨⟨sm, nm, .slice none 0 0, ad, upd_same _ _ _, k6.getM hdj (by simp), k6.getM (hk4.getM h3 (by simp)) (by simp), Vec.nil, ?_, ?_⟩, ?_⟩
      · intro i F hi
        exact ((h5 i F hi).keep hk4 (by intro r h1 h2; simp; omega)).keep k6 (by intro r h1 h2; simp; omega)
      · exact ⟨syncM_ok hd h6.1 h6.2.2, h6.2.1, by intro t ht; cases ht⟩
      · exact (k0'.trans (hk4.imp fun g h => h 0 5)).trans (k6.imp fun g h => h 0 0)
  · simp [hc, go_sem]
    exact ⟨hfs, k0'⟩
end
end Go.Proofs.YtgppogppdmbgmaaGreat
set_option linter.unusedVariables false
set_option linter.unusedSimpArgs false
set_option maxRecDepth 100000
set_option maxHeartbeats 1000000
namespace Go.Proofs.YtgppogppdmbgmaaGreat
open Go.RowKit (Below)

def VFS.turn (S : VFS) (c : Ctl) (now : Dir) (t : VTurn) : VFS := { sure := S.sure, now := now, turns := S.turns ++ [t], files := S.files, c := c }
def VFS.rename (S : VFS) (n m : ByteArray) : Int × VFS :=
  if S.c.call.1 ≠ 0 then (S.c.call.1, S.ctl S.c.call.2)
  else if (okName n && okName m) = false then (1, S.ctl S.c.call.2)
  else match aget S.now n with
    | none => (3, S.ctl S.c.call.2)
    | some i => (0, S.turn S.c.call.2 (aset (adel S.now n) m i) ⟨1, n, m, none⟩)
section
variable {W0 : World} {st : Heap}
theorem FSAt.turn' {st' : Heap} {f sm nm : Nat} {tv' : Value} {ad : Nat → Nat} {S : VFS} {c : Ctl} {now' : Dir} {t : VTurn} (h2 : st sm = some (.map (.own f 0 5) (encM ad S.sure)))
    (h5 : ∀ (i : Nat) (F : VFile), S.files[i]? = some F → FileAt st f i (ad i) F) (h6 : S.ok) (ht : t.does S.now = some now') (htf : t.file = none)
    (c1 : st' f = some (.cells true (fsC sm nm tv' S.files.length c) 9 (.own f 0 0))) (c3 : st' nm = some (.map (.own f 0 6) (encM ad now'))) (c4 : Vec st' (.own f 0 7) 4 tv' ((S.turns ++ [t]).flatMap (encT ad)) (S.turns ++ [t]).length)
    (k3 : Keep (fun g => g ≠ .own f 0 0 ∧ g ≠ .own f 0 6 ∧ g ≠ .own f 0 7) st st') : FSAt st' f (S.turn c now' t) := by
  refine ⟨sm, nm, tv', ad, c1, k3.getM h2 (by simp), c3, c4, fun i F hi => (h5 i F hi).keep k3 (by intro r h1 h2; simp; omega), h6.1, does_ok ht h6.2.1 (by intro i hi; rw [htf] at hi; cases hi), ?_⟩
  intro t' ht' i hi
  simp only [VFS.turn] at ht'
  rcases List.mem_append.1 ht' with ht' | ht'
  · exact h6.2.2 t' ht' i hi
  · simp at ht'; rw [ht', htf] at hi; cases hi
theorem Rename_spec {f : Nat} {S : VFS} {n m : ByteArray} (h : FSAt st f S) (hs : S.small) : ICalls Tryz.prog W0 112 #[ptr f, .string n, .string m] st fun e st' => e = .returned (Val.i (S.rename n m).1) ∧ FSAt st' f (S.rename n m).2 ∧ Keep (Out f) st st' := by
  obtain ⟨sm, nm, tv, ad, h1, h2, h3, h4, h5, h6⟩ := h
  refine enter (args := [_, _, _]) Tryz.func112 rfl ?_
  simp [Tryz.f112, go_sem]
  refine call_spec h1 ?_
  obtain ⟨k0, hfs, h1, h2, h3, h4, h5⟩ := FSAt.ctl' h1 h2 h3 h4 h5 h6 S.c.call.2
  generalize hst1 : upd st f _ = st1 at *
  have k0' : Keep (Out f) st st1 := k0.imp fun g h => h 0 0
  unfold VFS.rename
  simp [go_sem]
  by_cases hc : S.c.call.1 = 0
  · simp [hc, go_sem]
    unfold NewS
    intro b hb
    refine ⟨.ty 0, ?_⟩
    have k1 : Keep (fun _ => True) st1 (upd st1 b (.cells true [.string n, .string m] 2 (.ty 0))) := Keep.rfl'.new hb
    simp [go_sem]
    refine ICalls.mono (named_spec (names := [n, m]) (by simp [srcCells, lkN_mk, upd_same, cellsOf]) ⟨_, _, rfl⟩ (by simp)) ?_
    rintro e st2 ⟨rfl, rfl⟩
    generalize upd st1 b _ = st2 at *
    have h1 := k1.get h1 trivial
    have h2 := k1.getM h2 trivial
    have h3 := k1.getM h3 trivial
    have h4 := h4.keep k1 trivial
    have h5 : ∀ (i : Nat) (F : VFile), S.files[i]? = some F → FileAt st2 f i (ad i) F := fun i F hi => (h5 i F hi).keep k1 (fun _ _ _ => trivial)
    have hfs := hfs.keep k1 (fun _ _ => trivial)
    have k0' : Keep (Out f) st st2 := k0'.trans (k1.imp fun _ _ => trivial)
    cases hk : (okName n && okName m) with
    | false =>
      have hk' : ∀ x ∈ [n, m], True := fun _ _ => trivial
      have : [n, m].all okName = false := by simpa using hk
      have hor : okName n = true → okName m = false := by intro h; rw [h] at hk; simpa using hk
      rw [this]
      simp only [go_sem, simprocAttr]
      cases hn : okName n with
      | false => simp [go_sem, hn]; exact ⟨hfs, k0'⟩
      | true => simp [go_sem, hn, hor hn]; exact ⟨hfs, k0'⟩
    | true =>
      have : [n, m].all okName = true := by simpa using hk
      rw [this]
      have hk1 : okName n = true := (Bool.and_eq_true_iff.1 hk).1
      have hk2 : okName m = true := (Bool.and_eq_true_iff.1 hk).2
      simp [go_sem, hk1, hk2]
      refine ICalls.mono (find_spec (n := n) h1 h3) ?_
      rintro e st3 ⟨rfl, rfl⟩
      cases hg : aget S.now n with
      | none => simp [go_sem, hk1, hk2]; exact ⟨hfs, k0'⟩
      | some k =>
        simp [go_sem, hk1, hk2]
        have ht : (⟨1, n, m, none⟩ : VTurn).does S.now = some (aset (adel S.now n) m k) := by simp [VTurn.does, hg]
        refine ICalls.mono (turned_spec (W0 := W0) (t := ⟨1, n, m, none⟩) (c := S.c.call.2) h1 h3 h4 hs.1 ht) ?_
        rintro e st4 ⟨rfl, tv', c1, c3, c4, k3⟩
        simp [go_sem]
        exact ⟨FSAt.turn' h2 h5 h6 ht rfl c1 c3 c4 k3, k0'.trans (k3.imp fun g h => ⟨h 0 0, h 0 6, h 0 7⟩)⟩
  · simp [hc, go_sem]
    exact ⟨hfs, k0'⟩
end
end Go.Proofs.YtgppogppdmbgmaaGreat
set_option linter.unusedVariables false
set_option linter.unusedSimpArgs false
set_option maxRecDepth 100000
set_option maxHeartbeats 1000000
namespace Go.Proofs.YtgppogppdmbgmaaGreat
open Go.RowKit (Below)

section
variable {W0 : World} {st : Heap}
end
end Go.Proofs.YtgppogppdmbgmaaGreat
set_option linter.unusedVariables false
set_option linter.unusedSimpArgs false
set_option maxRecDepth 100000
set_option maxHeartbeats 8000000
namespace Go.Proofs.YtgppogppdmbgmaaGreat
open Go.RowKit (Below)
def tmpN : ByteArray := ⟨#[109, 97, 110, 105, 102, 101, 115, 116, 46, 116, 109, 112]⟩
def manN : ByteArray := ⟨#[109, 97, 110, 105, 102, 101, 115, 116]⟩
def VFS.syncD (S : VFS) : Int × VFS := match syncM S.turns S.sure with
  | some d => (S.c.call.1, if S.c.call.1 = 0 then { sure := d, now := S.now, turns := [], files := S.files, c := S.c.call.2 } else S.ctl S.c.call.2)
  | none => (0, S)
def pubStep (b : Bs) : Nat → VFS → Int × VFS
  | 0, S => S.create tmpN
  | 1, S => S.append tmpN b
  | 2, S => S.syncF tmpN
  | 3, S => S.rename tmpN manN
  | _, S => S.syncD
def pubGo (b : Bs) : List Nat → Int → VFS → Int × VFS
  | [], e, S => (e, S)
  | i :: r, _, S => if (pubStep b i S).1 = 0 then pubGo b r 0 (pubStep b i S).2 else pubStep b i S
def PubOK (b : Bs) : List Nat → VFS → Prop
  | [], _ => True
  | i :: r, S => S.small ∧ (i = 4 → ∃ d, syncM S.turns S.sure = some d) ∧ ((pubStep b i S).1 = 0 → PubOK b r (pubStep b i S).2)
section
variable {W0 : World} {st : Heap}
theorem pub1_spec {f c : Nat} {S : VFS} (h : FSAt st f S) (hs : S.small) (hc : st c = some (.cells true [ptr f] 1 (.ty 0))) :
    ICalls Tryz.prog W0 105 #[ptr c] st fun e st' => e = .returned (Val.i (S.create tmpN).1) ∧ FSAt st' f (S.create tmpN).2 ∧ Keep (Out f) st st' := by
  refine enter (args := [_]) Tryz.func105 rfl ?_
  simp [Tryz.f105, go_sem, hc]
  refine (Create_spec (n := tmpN) h hs).mono ?_
  rintro e st2 ⟨rfl, h2, hk2⟩
  simp [go_sem]
  exact ⟨h2, hk2⟩
theorem pub2_spec {f c d : Nat} {S : VFS} {b : Bs} {bv : Value} {g : Tg} (h : FSAt st f S) (hs : S.small) (hc : st c = some (.cells true [ptr f] 1 (.ty 0))) (hd : st d = some (.cells true [bv] 1 (.ty 0))) (hb : Reg st g 1 bv (bytesV b) b.length) (hg : Out f g) (hbl : b.length < 2 ^ 40) :
    ICalls Tryz.prog W0 107 #[ptr c, ptr d] st fun e st' => e = .returned (Val.i (S.append tmpN b).1) ∧ FSAt st' f (S.append tmpN b).2 ∧ Keep (Out f) st st' := by
  obtain ⟨bb, bc, rfl⟩ := hb.slice
  refine enter (args := [_, _]) Tryz.func107 rfl ?_
  simp [Tryz.f107, go_sem, hc, hd]
  refine (Append_spec (n := tmpN) h hs hb hg hbl).mono ?_
  rintro e st2 ⟨rfl, h2, hk2⟩
  simp [go_sem]
  exact ⟨h2, hk2⟩
theorem pub3_spec {f c : Nat} {S : VFS} (h : FSAt st f S) (hc : st c = some (.cells true [ptr f] 1 (.ty 0))) :
    ICalls Tryz.prog W0 109 #[ptr c] st fun e st' => e = .returned (Val.i (S.syncF tmpN).1) ∧ FSAt st' f (S.syncF tmpN).2 ∧ Keep (Out f) st st' := by
  refine enter (args := [_]) Tryz.func109 rfl ?_
  simp [Tryz.f109, go_sem, hc]
  refine (Sync_spec (n := tmpN) h).mono ?_
  rintro e st2 ⟨rfl, h2, hk2⟩
  simp [go_sem]
  exact ⟨h2, hk2⟩
theorem pub4_spec {f c : Nat} {S : VFS} (h : FSAt st f S) (hs : S.small) (hc : st c = some (.cells true [ptr f] 1 (.ty 0))) :
    ICalls Tryz.prog W0 111 #[ptr c] st fun e st' => e = .returned (Val.i (S.rename tmpN manN).1) ∧ FSAt st' f (S.rename tmpN manN).2 ∧ Keep (Out f) st st' := by
  refine enter (args := [_]) Tryz.func111 rfl ?_
  simp [Tryz.f111, go_sem, hc]
  refine (Rename_spec (n := tmpN) (m := manN) h hs).mono ?_
  rintro e st2 ⟨rfl, h2, hk2⟩
  simp [go_sem]
  exact ⟨h2, hk2⟩
theorem pub5_spec {f : Nat} {S : VFS} {d : Dir} (h : FSAt st f S) (hs : S.small) (hd : syncM S.turns S.sure = some d) :
    ICalls Tryz.prog W0 113 #[ptr f] st fun e st' => e = .returned (Val.i S.syncD.1) ∧ FSAt st' f S.syncD.2 ∧ Keep (Out f) st st' := by
  refine (SyncDir_spec h hs hd).mono ?_
  rintro e st2 ⟨rfl, h2, hk2⟩
  have : S.syncD = (S.c.call.1, if S.c.call.1 = 0 then { sure := d, now := S.now, turns := [], files := S.files, c := S.c.call.2 } else S.ctl S.c.call.2) := by unfold VFS.syncD; rw [hd]
  rw [this]
  exact ⟨rfl, h2, hk2⟩
theorem publish_spec {f : Nat} {S : VFS} {cs : List Value} {m : ManD} (h : FSAt st f S) (hm : ManAt st cs m) (hf : ManFits m) (hok : manM m = true → PubOK (frameM (bodyM m)) [0, 1, 2, 3, 4] S) :
    ICalls Tryz.prog W0 45 #[ptr f, .agg cs.toArray] st fun e st' => (if manM m = true then e = .returned (Val.i (pubGo (frameM (bodyM m)) [0, 1, 2, 3, 4] 0 S).1) ∧ FSAt st' f (pubGo (frameM (bodyM m)) [0, 1, 2, 3, 4] 0 S).2 else e = .returned (Val.i 5) ∧ FSAt st' f S) ∧ Keep (Out f) st st' := by
  have hm0 := hm
  obtain ⟨bv, tv, bs, ts, rfl, hb, hbs, ht, hts⟩ := hm
  obtain ⟨bb, bc, rfl⟩ := hb.slice
  obtain ⟨tb, tc, rfl⟩ := ht.slice
  refine enter (args := [_, _]) Tryz.func45 rfl ?_
  simp [Tryz.f45, go_sem]
  unfold NewP
  intro c hc
  refine ⟨.ty 0, ?_⟩
  simp [go_sem]
  unfold NewP
  intro tm htm
  refine ⟨.ty 0, ?_⟩
  have n1 : c ≠ tm := by rintro rfl; rw [upd_same] at htm; cases htm
  simp [go_sem, n1]
  generalize hst2 : upd (upd st c _) tm _ = st2
  have hN2 : New st st2 := by rw [← hst2]; exact ((New.refl _).add hc).add htm
  have hc2 : st2 c = some (.cells true [ptr f] 1 (.ty 0)) := by rw [← hst2, upd_ne _ _ n1, upd_same]
  refine (manEncode_spec (.ty 0) (hm0.new hN2) hf).mono ?_
  rintro e st3 ⟨hk3, hR⟩
  have hc3 := hk3 _ _ hc2
  have hN3 := hN2.trans hk3
  cases hmm : manM m with
  | false =>
    rw [if_neg (by rw [hmm]; simp)] at hR
    subst hR
    simp [go_sem]
    unfold NewP
    intro d hd
    refine ⟨.ty 0, ?_⟩
    simp [go_sem]
    have hN4 := hN3.add (o := .cells true [.slice none 0 0] 1 (.ty 0)) hd
    exact ⟨h.keep (hN4.to fun _ => True) (by simp), hN4.to _⟩
  | true =>
    rw [if_pos hmm] at hR
    obtain ⟨v, rfl, hV, hF⟩ := hR
    obtain ⟨vb, vc, rfl⟩ := hV.reg.slice
    simp [go_sem]
    unfold NewP
    intro d hd
    refine ⟨.ty 0, ?_⟩
    simp [go_sem]
    have hcd : c ≠ d := ne_of_new hc3 hd
    have hd4 := upd_same st3 d (.cells true [.slice vb (frameM (bodyM m)).length vc] 1 (.ty 0))
    generalize hst4 : upd st3 d _ = st4 at hd4 ⊢
    have hN34 : New st3 st4 := by rw [← hst4]; exact (New.refl _).add hd
    have hc4 := hN34 _ _ hc3
    have hV4 := (hV.new' hN34).reg
    have hN4 := hN3.trans hN34
    simp [go_sem, hc4]
    unfold NewS
    intro nb hnb
    refine ⟨.ty 0, ?_⟩
    simp [go_sem]
    have hok1 := hok hmm
    have hbl := bodyM_len hmm hf
    have hfl : (frameM (bodyM m)).length < 2 ^ 40 := by
      have h2 := vputM_len (bodyM m).length (by omega)
      unfold frameM le4
      simp only [List.length_append, List.length_cons, List.length_nil]
      omega
    obtain ⟨RES, hRES⟩ : ∃ R, pubGo (frameM (bodyM m)) [0, 1, 2, 3, 4] 0 S = R := ⟨_, rfl⟩
    rw [hRES]
    generalize frameM (bodyM m) = B at *
    have hrow0 := upd_same st4 nb (.cells true [.func (.func 105) #[] #[ptr c], .func (.func 107) #[] #[ptr c, ptr d], .func (.func 109) #[] #[ptr c], .func (.func 111) #[] #[ptr c], .func (.func 113) #[ptr f] #[]] 5 (.ty 0))
    generalize hst5 : upd st4 nb _ = st5 at hrow0 ⊢
    have hN45 : New st4 st5 := by rw [← hst5]; exact (New.refl _).add hnb
    have hN5 := hN4.trans hN45
    have hkb : Keep (Out f) st st5 := hN5.to _
    have hf5 : FSAt st5 f S := h.keep (hN5.to fun _ => True) (by simp)
    have w0 : IntKind.i64.wrap 0 = 0 := wrap_id (by omega) (by omega)
    have w1 : IntKind.i64.wrap 1 = 1 := wrap_id (by omega) (by omega)
    have w2 : IntKind.i64.wrap 2 = 2 := wrap_id (by omega) (by omega)
    have w3 : IntKind.i64.wrap 3 = 3 := wrap_id (by omega) (by omega)
    have w4 : IntKind.i64.wrap 4 = 4 := wrap_id (by omega) (by omega)
    have w5 : IntKind.i64.wrap 5 = 5 := wrap_id (by omega) (by omega)
    have hV5 := hV4.new hN45
    refine ⟨fun E st' => Keep (Out f) st5 st' ∧ E 25 = .slice (some ⟨nb, 0, none⟩) 5 5 ∧ E 26 = Val.i 5 ∧ ∃ i : Nat, E 27 = Val.i i ∧ i ≤ 5 ∧ E 6 = Val.i 0 ∧ ∃ S', FSAt st' f S' ∧ PubOK B ([0, 1, 2, 3, 4].drop i) S' ∧ pubGo B ([0, 1, 2, 3, 4].drop i) 0 S' = RES,
      fun E _ => match E 27 with | .int _ i => 5 - i.toNat | _ => 0, ⟨st5, .rfl' _, .rfl', by simp [go_sem], by simp [go_sem], 0, by simp [go_sem], by omega, by simp [go_sem], S, hf5, hok1, hRES⟩, ?_⟩
    rintro E st6 ⟨hk6, e25, e26, i, e27, hi, e6, S', hf6, hok', hgo⟩
    have ho0 : Out f (.ty 0) := by intro x r; simp
    have hrow := hk6.get hrow0 ho0
    have hc6 := hk6.get (hN45 _ _ hc4) ho0
    have hd6 := hk6.get (hN45 _ _ hd4) ho0
    have hV6 := hV5.keep hk6 ho0
    have hic : i = 0 ∨ i = 1 ∨ i = 2 ∨ i = 3 ∨ i = 4 ∨ i = 5 := by omega
    have hBl : B.length < 2 ^ 40 := hfl
    rcases hic with rfl | rfl | rfl | rfl | rfl | rfl
    · obtain ⟨hsm, hsd, hnx⟩ := hok'
      simp [go_sem, e25, e26, e27, hrow]
      refine (pub1_spec hf6 hsm hc6).mono ?_
      rintro e st7 ⟨rfl, hf7, hk7⟩
      simp only [List.drop_zero, List.drop_succ_cons, pubGo] at hgo
      have hk67 := hk6.trans hk7
      by_cases hz : (pubStep B 0 S').1 = 0
      · rw [if_pos hz] at hgo
        have hz' : (S'.create tmpN).1 = 0 := hz
        simp [go_sem, hz', e25, e26, e27, w0, w1, w2, w3, w4, w5]
        refine ⟨_, .rfl' _, hk67, 1, by omega, by omega, _, hf7, hnx hz, hgo⟩
      · rw [if_neg hz] at hgo
        have hz' : ((S'.create tmpN).1 = 0) = False := eq_false hz
        simp [go_sem, hz', e25, e26, e27]
        rw [← hgo]
        exact ⟨⟨rfl, hf7⟩, hkb.trans hk67⟩
    · obtain ⟨hsm, hsd, hnx⟩ := hok'
      simp [go_sem, e25, e26, e27, hrow]
      refine (pub2_spec hf6 hsm hc6 hd6 hV6 (by intro x r; simp) hBl).mono ?_
      rintro e st7 ⟨rfl, hf7, hk7⟩
      simp only [List.drop_zero, List.drop_succ_cons, pubGo] at hgo
      have hk67 := hk6.trans hk7
      by_cases hz : (pubStep B 1 S').1 = 0
      · rw [if_pos hz] at hgo
        have hz' : (S'.append tmpN B).1 = 0 := hz
        simp [go_sem, hz', e25, e26, e27, w0, w1, w2, w3, w4, w5]
        refine ⟨_, .rfl' _, hk67, 2, by omega, by omega, _, hf7, hnx hz, hgo⟩
      · rw [if_neg hz] at hgo
        have hz' : ((S'.append tmpN B).1 = 0) = False := eq_false hz
        simp [go_sem, hz', e25, e26, e27]
        rw [← hgo]
        exact ⟨⟨rfl, hf7⟩, hkb.trans hk67⟩
    · obtain ⟨hsm, hsd, hnx⟩ := hok'
      simp [go_sem, e25, e26, e27, hrow]
      refine (pub3_spec hf6 hc6).mono ?_
      rintro e st7 ⟨rfl, hf7, hk7⟩
      simp only [List.drop_zero, List.drop_succ_cons, pubGo] at hgo
      have hk67 := hk6.trans hk7
      by_cases hz : (pubStep B 2 S').1 = 0
      · rw [if_pos hz] at hgo
        have hz' : (S'.syncF tmpN).1 = 0 := hz
        simp [go_sem, hz', e25, e26, e27, w0, w1, w2, w3, w4, w5]
        refine ⟨_, .rfl' _, hk67, 3, by omega, by omega, _, hf7, hnx hz, hgo⟩
      · rw [if_neg hz] at hgo
        have hz' : ((S'.syncF tmpN).1 = 0) = False := eq_false hz
        simp [go_sem, hz', e25, e26, e27]
        rw [← hgo]
        exact ⟨⟨rfl, hf7⟩, hkb.trans hk67⟩
    · obtain ⟨hsm, hsd, hnx⟩ := hok'
      simp [go_sem, e25, e26, e27, hrow]
      refine (pub4_spec hf6 hsm hc6).mono ?_
      rintro e st7 ⟨rfl, hf7, hk7⟩
      simp only [List.drop_zero, List.drop_succ_cons, pubGo] at hgo
      have hk67 := hk6.trans hk7
      by_cases hz : (pubStep B 3 S').1 = 0
      · rw [if_pos hz] at hgo
        have hz' : (S'.rename tmpN manN).1 = 0 := hz
        simp [go_sem, hz', e25, e26, e27, w0, w1, w2, w3, w4, w5]
        refine ⟨_, .rfl' _, hk67, 4, by omega, by omega, _, hf7, hnx hz, hgo⟩
      · rw [if_neg hz] at hgo
        have hz' : ((S'.rename tmpN manN).1 = 0) = False := eq_false hz
        simp [go_sem, hz', e25, e26, e27]
        rw [← hgo]
        exact ⟨⟨rfl, hf7⟩, hkb.trans hk67⟩
    · obtain ⟨hsm, hsd, hnx⟩ := hok'
      simp [go_sem, e25, e26, e27, hrow]
      refine (pub5_spec hf6 hsm (hsd rfl).choose_spec).mono ?_
      rintro e st7 ⟨rfl, hf7, hk7⟩
      simp only [List.drop_zero, List.drop_succ_cons, pubGo] at hgo
      have hk67 := hk6.trans hk7
      by_cases hz : (pubStep B 4 S').1 = 0
      · rw [if_pos hz] at hgo
        have hz' : S'.syncD.1 = 0 := hz
        simp [go_sem, hz', e25, e26, e27, w0, w1, w2, w3, w4, w5]
        refine ⟨_, .rfl' _, hk67, 5, by omega, by omega, _, hf7, hnx hz, hgo⟩
      · rw [if_neg hz] at hgo
        have hz' : (S'.syncD.1 = 0) = False := eq_false hz
        simp [go_sem, hz', e25, e26, e27]
        rw [← hgo]
        exact ⟨⟨rfl, hf7⟩, hkb.trans hk67⟩
    · simp only [List.drop_succ_cons, List.drop_zero, pubGo] at hgo
      subst hgo
      simp [go_sem, e25, e26, e27, e6]
      exact ⟨hf6, hkb.trans hk6⟩
end
end Go.Proofs.YtgppogppdmbgmaaGreat
set_option linter.unusedVariables false
set_option linter.unusedSimpArgs false
set_option maxRecDepth 100000
set_option maxHeartbeats 8000000
namespace Go.Proofs.YtgppogppdmbgmaaGreat
open Go.RowKit (Below)
def zeroMan : List Value := [Val.i 0, Val.i 0, Val.i 0, Val.i 0, .slice none 0 0, .slice none 0 0]
def loadM (S : VFS) : Except Int ManD := match aget S.now manN with
  | none => .error 3
  | some i => match S.files[i]? with
    | none => .error 3
    | some F => match decodeM F.now with
      | some m => .ok m
      | none => .error 13
def pubEnd (b : Bs) : VFS := ⟨[(manN, 0)], [(manN, 0)], [], [⟨0, b, [], b⟩], ⟨5, false, 0, 0, false⟩⟩
def pubS1 : VFS := ⟨[], [(tmpN, 0)], [⟨0, tmpN, ⟨#[]⟩, some 0⟩], [⟨0, [], [], []⟩], ⟨1, false, 0, 0, false⟩⟩
def pubS2 (b : Bs) : VFS := ⟨[], [(tmpN, 0)], [⟨0, tmpN, ⟨#[]⟩, some 0⟩], [⟨0, [], [⟨false, 0, b⟩], b⟩], ⟨2, false, 0, 0, false⟩⟩
def pubS3 (b : Bs) : VFS := ⟨[], [(tmpN, 0)], [⟨0, tmpN, ⟨#[]⟩, some 0⟩], [⟨0, b, [], b⟩], ⟨3, false, 0, 0, false⟩⟩
def pubS4 (b : Bs) : VFS := ⟨[], [(manN, 0)], [⟨0, tmpN, ⟨#[]⟩, some 0⟩, ⟨1, tmpN, manN, none⟩], [⟨0, b, [], b⟩], ⟨4, false, 0, 0, false⟩⟩
theorem pub_new {b : Bs} (hb : b.length ≤ 1073741824) : PubOK b [0, 1, 2, 3, 4] VFS.new ∧ pubGo b [0, 1, 2, 3, 4] 0 VFS.new = (0, pubEnd b) := by
  have w1 : W 1 = 1 := by decide
  have w2 : W 2 = 2 := by decide
  have w3 : W 3 = 3 := by decide
  have w4 : W 4 = 4 := by decide
  have w5 : W 5 = 5 := by decide
  have o1 : okName tmpN = true := by decide
  have o2 : okName manN = true := by decide
  have hne : (manN == tmpN) = false := by decide
  have htt : (tmpN == tmpN) = true := by decide
  have e0 : pubStep b 0 VFS.new = (0, pubS1) := by
    simp [pubStep, VFS.new, VFS.create, Ctl.call, o1, aget, afind, aset, w1, pubS1]
  have e1 : pubStep b 1 pubS1 = (0, pubS2 b) := by
    simp [pubStep, VFS.append, Ctl.call, o1, aget, afind, htt, w2, pubS1, pubS2, VFS.lenOf, VFS.put, VFile.app, hb]
  have e2 : pubStep b 2 (pubS2 b) = (0, pubS3 b) := by
    simp [pubStep, VFS.syncF, Ctl.call, o1, aget, afind, htt, w3, pubS2, pubS3, VFS.ctl, VFile.synced, List.modify]
  have e3 : pubStep b 3 (pubS3 b) = (0, pubS4 b) := by
    simp [pubStep, VFS.rename, Ctl.call, o1, o2, aget, afind, aset, adel, htt, w4, pubS3, pubS4, VFS.turn]
  have hs : syncM (pubS4 b).turns (pubS4 b).sure = some [(manN, 0)] := by
    simp [pubS4, syncM, VTurn.does, aget, afind, aset, adel, htt]
  have e4 : pubStep b 4 (pubS4 b) = (0, pubEnd b) := by
    show VFS.syncD (pubS4 b) = _
    unfold VFS.syncD
    rw [hs]
    simp [pubS4, pubEnd, Ctl.call, w5]
  constructor
  · refine ⟨?_, by simp, fun _ => ?_⟩
    · simp [VFS.small, VFS.new]
    rw [e0]
    refine ⟨?_, by simp, fun _ => ?_⟩
    · simp [VFS.small, pubS1]
    rw [e1]
    refine ⟨?_, by simp, fun _ => ?_⟩
    · simp [VFS.small, pubS2]; omega
    rw [e2]
    refine ⟨?_, by simp, fun _ => ?_⟩
    · simp [VFS.small, pubS3]; omega
    rw [e3]
    refine ⟨?_, fun _ => ⟨_, hs⟩, fun _ => ?_⟩
    · simp [VFS.small, pubS4]; omega
    trivial
  · simp only [pubGo, e0, e1, e2, e3, e4]
    simp
section
variable {W0 : World} {st : Heap}
theorem load_spec {f : Nat} {S : VFS} (h : FSAt st f S) (hs : S.small) : ICalls Tryz.prog W0 54 #[ptr f] st fun e st' => Keep (fun _ => True) st st' ∧ match loadM S with
    | .error k => e = .returned (.tuple #[.agg zeroMan.toArray, Val.i k])
    | .ok m => ∃ cs : List Value, e = .returned (.tuple #[.agg cs.toArray, Val.i 0]) ∧ ManAt st' cs m := by
  refine enter (args := [_]) Tryz.func54 rfl ?_
  simp [Tryz.f54, go_sem]
  unfold NewP
  intro to hto
  refine ⟨.own to 1 93, ?_⟩
  simp [go_sem]
  have hto1 := upd_same st to (.cells true zeroMan 6 (.own to 1 93))
  have hst : ∃ st1, st1 = upd st to (.cells true zeroMan 6 (.own to 1 93)) := ⟨_, rfl⟩
  obtain ⟨st1, hst1⟩ := hst
  rw [← hst1] at hto1
  have hN1 : New st st1 := by rw [hst1]; exact (New.refl _).add hto
  have hgo : upd st to (.cells true [Val.i 0, Val.i 0, Val.i 0, Val.i 0, .slice none 0 0, .slice none 0 0] 6 (.own to 1 93)) = st1 := hst1.symm
  rw [hgo]
  have hf1 : FSAt st1 f S := h.keep (hN1.to fun _ => True) (by simp)
  refine (Read_spec (n := manN) hf1 (fun F hF => (hs.2.2 F hF).2.1)).mono ?_
  rintro e st2 ⟨hk2, hR⟩
  have hto2 := hk2.get hto1 trivial
  have hk02 : Keep (fun _ => True) st st2 := (hN1.to _).trans hk2
  have fin : ∀ {st' : Heap} {xs : List Value}, Keep (fun _ => True) st st' → Keep (fun _ => True) st (upd st' to (.cells true xs 6 (.own to 1 93))) := by
    intro st' xs hk k o g ho ht hp
    rw [upd_ne _ _ (ne_of_new ho hto)]
    exact hk k o g ho ht hp
  unfold loadM
  cases hg : aget S.now manN with
  | none =>
    rw [hg] at hR
    simp only at hR
    subst hR
    unfold zeroMan at hto2 ⊢
    simp [go_sem, hto2]
    refine RetI_cell_tmp ?_
    simp [go_sem]
    exact fin hk02
  | some i =>
    rw [hg] at hR
    obtain ⟨F, b, c, hFi, rfl, hV⟩ := hR
    simp only [hFi]
    have hFl : F.now.length < 2 ^ 40 := (hs.2.2 F (List.mem_of_getElem? hFi)).2.1
    simp [go_sem]
    refine (manDecode_spec hV.reg hFl).mono ?_
    rintro e st3 ⟨hk3, hR⟩
    have hto3 := hk3 _ _ hto2
    have hk03 : Keep (fun _ => True) st st3 := hk02.trans (hk3.to _)
    cases hd : decodeM F.now with
    | none =>
      rw [hd] at hR
      simp only at hR
      subst hR
      unfold zeroMan at hto3
      simp [go_sem]
      unfold NewP
      intro t6 ht6
      refine ⟨.ty 0, ?_⟩
      have n6 : to ≠ t6 := ne_of_new hto3 ht6
      have n6' := Ne.symm n6
      simp [go_sem, hto3, n6, n6']
      refine RetI_cell_tmp ?_
      simp [go_sem]
      refine ⟨fin (hk03.new ht6), ?_⟩
      rfl
    | some m =>
      rw [hd] at hR
      obtain ⟨bv, tv, bs, ts, rfl, hmV, hmF, hmM, hmt, hmT⟩ := hR
      obtain ⟨mb, mc, rfl⟩ := hmV.reg.slice
      obtain ⟨tb, tc, rfl⟩ := hmt.slice
      unfold zeroMan at hto3
      simp [go_sem]
      unfold NewP
      intro t6 ht6
      refine ⟨.ty 0, ?_⟩
      have n6 : to ≠ t6 := ne_of_new hto3 ht6
      have n6' := Ne.symm n6
      have hN6 := (New.refl st3).add (b := t6) (o := .cells true [Val.i m.seq, Val.i m.log, Val.i m.next, Val.i m.now, .slice mb m.blocks.length mc, .slice tb m.tombs.length tc] 6 (.ty 0)) ht6
      have hto6 := hN6 _ _ hto3
      simp [go_sem, hto3, n6, n6']
      refine RetI_cell_tmp ?_
      simp [go_sem]
      have hB := But1.put (o := .cells true [Val.i m.seq, Val.i m.log, Val.i m.next, Val.i m.now, .slice mb m.blocks.length mc, .slice tb m.tombs.length tc] 6 (.own to 1 93)) (But1.refl to (upd st3 t6 (.cells true [Val.i m.seq, Val.i m.log, Val.i m.next, Val.i m.now, .slice mb m.blocks.length mc, .slice tb m.tombs.length tc] 6 (.ty 0))))
      refine ⟨fin (hk03.new ht6), _, _, bs, ts, rfl, ((hmV.new' hN6).reg.toF Free.ty).but hB hto6, hmM, (hmt.new hN6).but hB hto6, fun i x hx => (hmT i x hx).mono fun _ _ _ _ hh => (hh.new hN6).but hB hto6⟩
def firstM : ManD := ⟨0, 1, 1, 0, [], []⟩
def firstC : List Value := [Val.i 0, Val.i 1, Val.i 1, Val.i 0, .slice none 0 0, .slice none 0 0]
theorem firstAt (st : Heap) : ManAt st firstC firstM := ⟨.slice none 0 0, .slice none 0 0, [], [], rfl, RegF.nil, by intro i x hi; simp [firstM] at hi, RegF.nil, by intro i x hi; simp [firstM] at hi⟩
theorem first_ok : manM firstM = true := by decide
theorem first_fits : ManFits firstM := by intro x hx; simp [firstM] at hx
theorem first_spec : ICalls Tryz.prog W0 96 #[] st fun e st' => e = .returned (.agg firstC.toArray) ∧ New st st' := by
  refine enter (args := []) Tryz.func96 rfl ?_
  simp [Tryz.f96, go_sem]
  unfold NewP
  intro to hto
  refine ⟨.ty 0, ?_⟩
  simp [go_sem]
  refine RetI_cell ?_
  simp [go_sem]
  exact ⟨rfl, (New.refl _).add hto⟩
theorem awake21_spec : ICalls Tryz.prog W0 39 #[] st fun e st' => e = .returned (.bool true) ∧ Keep Free st st' := by
  have hbl := bodyM_len first_ok first_fits
  obtain ⟨B, hB⟩ : ∃ B, frameM (bodyM firstM) = B := ⟨_, rfl⟩
  have hfl : B.length ≤ 600000 := by
    have h2 := vputM_len (bodyM firstM).length (by omega)
    rw [← hB]
    unfold frameM le4
    simp only [List.length_append, List.length_cons, List.length_nil]
    omega
  have hdec : decodeM B = some firstM := by rw [← hB]; exact decode_put first_ok first_fits
  obtain ⟨hpok, hpgo⟩ := pub_new (b := B) (by omega)
  have hload : loadM (pubEnd B) = .ok firstM := by
    have htt : (manN == manN) = true := by decide
    simp [loadM, pubEnd, aget, afind, htt, hdec]
  have hsE : (pubEnd B).small := by simp [VFS.small, pubEnd]; omega
  have hsN : VFS.new.small := by simp [VFS.small, VFS.new]
  have hloadN : loadM VFS.new = .error 3 := by simp [loadM, VFS.new, aget, afind]
  have fr : ∀ f, ∀ g, Free g → Out f g := fun f g hg x r => hg f x r
  have tr : ∀ g, Free g → True := fun _ _ => trivial
  refine enter (args := []) Tryz.func39 rfl ?_
  simp [Tryz.f39, go_sem]
  refine New_spec.mono ?_
  rintro e st1 ⟨f, rfl, hfn, hf1, hk1⟩
  simp [go_sem]
  refine first_spec.mono ?_
  rintro e st2 ⟨rfl, hk2⟩
  simp [go_sem]
  refine (publish_spec (hf1.keep (hk2.to fun _ => True) (by simp)) (firstAt st2) first_fits (fun _ => by rw [hB]; exact hpok)).mono ?_
  rintro e st3 ⟨hR, hk3⟩
  rw [if_pos first_ok, hB, hpgo] at hR
  obtain ⟨rfl, hf3⟩ := hR
  simp [go_sem]
  refine (Calls_spec hf3).mono ?_
  rintro e st4 ⟨rfl, rfl⟩
  have h5 : (pubEnd B).c.calls = 5 := rfl
  simp [go_sem, h5]
  refine (load_spec hf3 hsE).mono ?_
  rintro e st5 ⟨hk5, hR⟩
  rw [hload] at hR
  obtain ⟨cs5, rfl, hm5⟩ := hR
  obtain ⟨bv, tv, bs, ts, rfl, hb5, hbs5, ht5, hts5⟩ := hm5
  obtain ⟨bb, bc, rfl⟩ := hb5.slice
  obtain ⟨tb, tc, rfl⟩ := ht5.slice
  simp [go_sem]
  unfold NewP
  intro t2 ht2
  refine ⟨.ty 0, ?_⟩
  simp [go_sem]
  have ht26 := upd_same st5 t2 (.cells true [Val.i firstM.seq, Val.i firstM.log, Val.i firstM.next, Val.i firstM.now, .slice bb firstM.blocks.length bc, .slice tb firstM.tombs.length tc] 6 (.ty 0))
  generalize hst6 : upd st5 t2 _ = st6 at ht26 ⊢
  have hN6 : New st5 st6 := by rw [← hst6]; exact (New.refl _).add ht2
  refine New_spec.mono ?_
  rintro e st7 ⟨f2, rfl, hf2n, hf7, hk7⟩
  simp [go_sem]
  refine (load_spec hf7 hsN).mono ?_
  rintro e st8 ⟨hk8, hR⟩
  rw [hloadN] at hR
  simp only at hR
  subst hR
  have ht27 := hk7.get ht26 trivial
  have ht28 := hk8.get ht27 trivial
  unfold zeroMan
  simp [go_sem]
  unfold NewP
  intro t4 ht4
  refine ⟨.ty 0, ?_⟩
  have n24 : t2 ≠ t4 := ne_of_new ht28 ht4
  have hl1 : firstM.log = 1 := rfl
  simp [go_sem, n24, ht28, hl1]
  refine first_spec.mono ?_
  rintro e st9 ⟨rfl, hk9⟩
  simp [go_sem]
  refine (manCheck_spec (firstAt st9)).mono ?_
  rintro e st10 ⟨rfl, hk10⟩
  simp [go_sem, first_ok]
  have K1 : Keep Free st st1 := hk1.imp tr
  have K2 : Keep Free st1 st2 := hk2.to _
  have K3 : Keep Free st2 st4 := hk3.imp (fr f)
  have K5 : Keep Free st4 st5 := hk5.imp tr
  have K6 : Keep Free st5 st6 := hN6.to _
  have K7 : Keep Free st6 st7 := hk7.imp tr
  have K8 : Keep Free st7 st8 := hk8.imp tr
  exact ((((((((K1.trans K2).trans K3).trans K5).trans K6).trans K7).trans K8).new ht4).trans (hk9.to _)).trans (hk10.to _)
end
end Go.Proofs.YtgppogppdmbgmaaGreat
