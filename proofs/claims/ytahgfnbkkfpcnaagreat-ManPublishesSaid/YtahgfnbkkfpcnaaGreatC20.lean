/- The file system's methods Sync, SyncDir. -/
import Derived.Test.YtahgfnbkkfpcnaaGreatC17
set_option linter.unusedVariables false
set_option linter.unusedSimpArgs false
set_option maxRecDepth 100000
set_option maxHeartbeats 1000000
namespace Go.Proofs.YtahgfnbkkfpcnaaGreat
open Go.RowKit (Below)
def VFile.synced (F : VFile) : VFile := { F with sure := F.now, pend := [] }
section
variable {W0 : World} {st : Heap}
theorem zbd {f i a : Nat} {F : VFile} (h : z1q st f i a F) :
  z00 Tryz.prog W0 95 #[ptr a] st fun e st' => e = .returned (.tuple #[]) ∧ z1q st' f i a F.synced ∧ Keep (fun g => g ≠ .own f i 1) st st' := by
 obtain ⟨sv, pv, nv, us, h1, h2, h3, h4, h5⟩ := h
 refine enter (args := [_]) Tryz.func95 rfl ?_
 obtain ⟨nb, nc, rfl⟩ := h5.slice
 have hcap := h5.reg.cap
 simp [Tryz.f95, go_sem]
 refine draw [0, 1, 2, 3, 5, 6, 7, 10, 11, 12, 4, 8, 9, 13, 14, 15, 16, 17, 18] (by kernel_rfl) ?_
 simp [go_sem, h1, hcap]
 have k : Keep (fun g => g ≠ .own f i 1) st (upd st a (.cells true [Val.i F.born, .slice nb F.now.length F.now.length, .slice none 0 0, .slice nb F.now.length nc] 4 (.own f i 1))) := Keep.rfl'.old h1 (by simp [HObj.tag])
 have h5' := h5.keep k (by simp)
 refine ⟨⟨_, _, _, [], upd_same _ _ _, ?_, trivial, Vec.nil, h5'⟩, k⟩
 obtain ⟨z1, base, cap, z4, z5, z6⟩ := h5'.reg
 injection z4 with y1 y2 y3; subst y1; subst y3
 exact ⟨z1, nb, F.now.length, rfl, Nat.le_refl _, z6⟩
theorem FSAt.file {st' : Heap} {f k : Nat} {S : VFS} {F : VFile} {sm nm : Nat} {tv : Value} {ad : Nat → Nat} {φ : VFile → VFile} (h1 : st f = some (.cells true (fsC sm nm tv S.files.length S.c) 9 (.own f 0 0))) (h2 : st sm = some (.map (.own f 0 5) (encM ad S.sure))) (h3 : st nm = some (.map (.own f 0 6) (encM ad S.now)))
  (h4 : Vec st (.own f 0 7) 4 tv (S.turns.flatMap (encT ad)) S.turns.length) (h5 : ∀ (i : Nat) (F : VFile), S.files[i]? = some F → z1q st f i (ad i) F) (h6 : S.ok) (hk : S.files[k]? = some F)
  (hkp : Keep (fun g => ∀ r, 1 ≤ r → r ≤ 4 → g ≠ .own f k r) st st') (hF : z1q st' f k (ad k) (φ F)) : FSAt st' f { S with files := S.files.modify k φ } := by
 refine ⟨sm, nm, tv, ad, ?_, hkp.getM h2 (by intro r _ _; simp; omega), hkp.getM h3 (by intro r _ _; simp; omega), h4.keep hkp (by intro r _ _; simp; omega), ?_, ?_⟩
 ·have := hkp.get h1 (by intro r _ _; simp; omega)
  simpa using this
 ·intro i G hi
  simp only at hi
  rw [List.getElem?_modify] at hi
  by_cases hik : k = i
  ·subst hik
   rw [hk] at hi
   simp at hi
   subst hi
   exact hF
  ·cases hj : S.files[i]? with
   | none => rw [hj] at hi; cases hi
   | some G' =>
    rw [hj] at hi
    simp [hik] at hi
    subst hi
    exact (h5 i G' hj).keep hkp (by intro r _ _ r' _ _; simp; omega)
 ·obtain ⟨o1, o2, o3⟩ := h6
  exact ⟨by simpa using o1, by simpa using o2, by simpa using o3⟩
end
def VFS.syncF (S : VFS) (n : ByteArray) : Int × VFS :=
 if S.c.call.1 ≠ 0 then (S.c.call.1, S.ctl S.c.call.2)
 else if z0a n = false then (1, S.ctl S.c.call.2)
 else match aget S.now n with
  | none => (3, S.ctl S.c.call.2)
  | some k => (0, { S.ctl S.c.call.2 with files := S.files.modify k VFile.synced })
def syncM : List VTurn → Dir → Option Dir
 | [], d => some d
 | t :: ts, d => (t.does d).bind (syncM ts)
section
variable {W0 : World} {st : Heap}
theorem z9k {S : VFS} {n : ByteArray} {k : Nat} (h6 : S.ok) (hg : aget S.now n = some k) : k < S.files.length := by
 unfold aget at hg
 obtain ⟨p, h7, h8⟩ := Option.map_eq_some_iff.1 hg
 obtain ⟨e, h9, h10⟩ := z5z h7
 rw [← h8, ← h10]; exact h6.2.1 e h9
theorem zge {f : Nat} {S : VFS} {n : ByteArray} (h : FSAt st f S) : z00 Tryz.prog W0 108 #[ptr f, .string n] st fun e st' => e = .returned (Val.i (S.syncF n).1) ∧ FSAt st' f (S.syncF n).2 ∧ Keep (Out f) st st' := by
 obtain ⟨sm, nm, tv, ad, h1, h2, h3, h4, h5, h6⟩ := h
 refine enter (args := [_, _]) Tryz.func108 rfl ?_
 simp [Tryz.f108, go_sem]
 refine z5h h1 ?_
 obtain ⟨k0, hfs, h1, h2, h3, h4, h5⟩ := FSAt.ctl' h1 h2 h3 h4 h5 h6 S.c.call.2
 generalize hst1 : upd st f _ = st1 at *
 have k0' : Keep (Out f) st st1 := k0.imp fun g h => h 0 0
 unfold VFS.syncF
 simp [go_sem]
 by_cases hc : S.c.call.1 = 0
 ·simp [hc, go_sem]
  refine z00.mono (z93 (n := n) h1 h3) ?_
  rintro e st2 ⟨rfl, rfl⟩
  cases hk : z0a n with
  | false => simp [go_sem]; exact ⟨hfs, k0'⟩
  | true =>
   cases hg : aget S.now n with
   | none => simp [go_sem]; exact ⟨hfs, k0'⟩
   | some k =>
    have hkl := z9k h6 hg
    have hF : S.files[k]? = some S.files[k] := List.getElem?_eq_getElem hkl
    simp [go_sem]
    refine (zbd (h5 k _ hF)).mono ?_
    rintro e st3 ⟨rfl, hF3, k3⟩
    simp [go_sem]
    have k3' : Keep (fun g => ∀ r, 1 ≤ r → r ≤ 4 → g ≠ .own f k r) st2 st3 := k3.imp fun g h => h 1 (by omega) (by omega)
    exact ⟨FSAt.file (S := S.ctl S.c.call.2) h1 h2 h3 h4 h5 h6 hF k3' hF3, k0'.trans (k3.imp fun g h => h k 1)⟩
 ·simp [hc, go_sem]
  exact ⟨hfs, k0'⟩
end
theorem aget_mem {l : Dir} {k : ByteArray} {i : Nat} (h : aget l k = some i) : ∃ e ∈ l, e.2 = i := by
 unfold aget at h
 obtain ⟨p, h7, h8⟩ := Option.map_eq_some_iff.1 h
 obtain ⟨e, h9, h10⟩ := z5z h7
 exact ⟨e, h9, h10.trans h8⟩
theorem zbo {t : VTurn} {l l' : Dir} {n : Nat} (h : t.does l = some l') (hl : ∀ p ∈ l, p.2 < n) (hf : ∀ i, t.file = some i → i < n) : ∀ p ∈ l', p.2 < n := by
 unfold VTurn.does at h
 split at h
 ·obtain ⟨i, hi, rfl⟩ := Option.map_eq_some_iff.1 h
  intro p hp
  rcases aset_mem hp with hp | hp
  ·exact hl p hp
  ·rw [hp]; exact hf i hi
 ·split at h
  ·obtain ⟨i, hi, rfl⟩ := Option.map_eq_some_iff.1 h
   obtain ⟨e, he, hei⟩ := aget_mem hi
   intro p hp
   rcases aset_mem hp with hp | hp
   ·exact hl p (adel_mem hp)
   ·rw [hp, ← hei]; exact hl e he
  ·split at h
   ·injection h with h; subst h; intro p hp; exact hl p (adel_mem hp)
   ·injection h with h; subst h; exact hl
theorem syncM_ok {n : Nat} : ∀ {ts : List VTurn} {l l' : Dir}, syncM ts l = some l' → (∀ p ∈ l, p.2 < n) → (∀ t ∈ ts, ∀ i, t.file = some i → i < n) → ∀ p ∈ l', p.2 < n
 | [], l, l', h, hl, _ => by injection h with h; subst h; exact hl
 | t :: ts, l, l', h, hl, hf => by
  obtain ⟨d, h1, h2⟩ := Option.bind_eq_some_iff.1 h
  exact syncM_ok h2 (zbo h1 hl (hf t (by simp))) (fun t' ht' => hf t' (by simp [ht']))
section
variable {W0 : World} {st : Heap}
theorem zfm {f : Nat} {S : VFS} {d : Dir} (h : FSAt st f S) (hs : S.small) (hd : syncM S.turns S.sure = some d) : z00 Tryz.prog W0 111 #[ptr f] st fun e st' =>
  e = .returned (Val.i S.c.call.1) ∧ FSAt st' f (if S.c.call.1 = 0 then { sure := d, now := S.now, turns := [], files := S.files, c := S.c.call.2 } else S.ctl S.c.call.2) ∧ Keep (Out f) st st' := by
 obtain ⟨sm, nm, tv, ad, h1, h2, h3, h4, h5, h6⟩ := h
 refine enter (args := [_]) Tryz.func111 rfl ?_
 simp [Tryz.f111, go_sem]
 refine z5h h1 ?_
 obtain ⟨k0, hfs, h1, h2, h3, h4, h5⟩ := FSAt.ctl' h1 h2 h3 h4 h5 h6 S.c.call.2
 generalize hst1 : upd st f _ = st1 at *
 have k0' : Keep (Out f) st st1 := k0.imp fun g h => h 0 0
 simp [go_sem]
 by_cases hc : S.c.call.1 = 0
 ·obtain ⟨tvb, tvc, rfl⟩ := h4.slice
  simp [hc, go_sem, h1, fsC]
  refine ⟨fun E st' => Keep (fun t => t ≠ .own f 0 5) st1 st' ∧ E 0 = ptr f ∧ E 14 = .slice tvb S.turns.length tvc ∧ E 15 = Val.i S.turns.length ∧ ∃ (j : Nat) (dj : Dir), j ≤ S.turns.length ∧ E 16 = Val.i j ∧ st' sm = some (.map (.own f 0 5) (encM ad dj)) ∧ syncM (S.turns.drop j) dj = some d,
   fun E _ => match E 16 with | .int _ j => S.turns.length - j.toNat | _ => 0, ⟨st1, .rfl' _, .rfl', by simp [go_sem], by simp [go_sem], by simp [go_sem], 0, S.sure, Nat.zero_le _, by simp [go_sem], h2, by simpa using hd⟩, ?_⟩
  rintro E st4 ⟨hk4, e0, e14, e15, j, dj, hj, e16, hdj, hcr⟩
  have h1c := hk4.get h1 (by simp)
  by_cases hlt : j < S.turns.length
  ·have htj : S.turns[j]? = some S.turns[j] := List.getElem?_eq_getElem hlt
   generalize S.turns[j] = t at htj
   obtain ⟨w1, w2⟩ := z9y (ad := ad) htj
   have hdrop : S.turns.drop j = t :: S.turns.drop (j + 1) := by
    rw [List.drop_eq_getElem_cons hlt]
    congr 1
    rw [List.getElem?_eq_getElem hlt] at htj
    injection htj
   rw [hdrop] at hcr
   obtain ⟨dj', hdo, hcr⟩ := Option.bind_eq_some_iff.1 hcr
   obtain ⟨hl, base, cap, hv', hc', hbase⟩ := h4.keep hk4 (by simp)
   injection hv' with q1 q2 q3; subst q1; subst q3
   have hsl := hs.1
   have hw : IntKind.i64.wrap ((j : Int) + 1) = j + 1 := z03 (by omega) (by omega)
   rcases hbase with ⟨b0, n0, rfl, hb0, hn0⟩ | ⟨rfl, hc0⟩
   ·obtain ⟨cs, hcs⟩ : ∃ cs, cs = S.turns.flatMap (encT ad) := ⟨_, rfl⟩
    rw [← hcs] at hb0 w1 w2
    unfold encT at w1
    simp [go_sem, e14, e15, e16, hlt, hb0, w1, w2]
    unfold NewP
    intro b5 hb5
    refine ⟨.ty 0, ?_⟩
    have k5 : ∀ o, Keep (fun _ => True) st4 (upd st4 b5 o) := fun o => Keep.rfl'.new hb5
    have hbf := ne_of_new h1c hb5
    simp [go_sem, e0, e14, e15, e16, hw]
    refine draw [1, 2, 3, 0, 4, 5] (by kernel_rfl) ?_
    simp [go_sem, e0, e14, e15, e16, hw, hbf, h1c, fsC]
    refine z00.mono (zbt (t := t) ((k5 _).getM hdj trivial) hdo) ?_
    rintro e st6 ⟨rfl, rfl⟩
    simp [go_sem, e0, e14, e15, e16, hw]
    refine ⟨_, .rfl' _, ⟨?_, j + 1, hlt, by omega, dj', upd_same _ _ _, hcr⟩, by omega⟩
    exact (hk4.trans ((k5 _).imp fun _ _ => trivial)).old ((k5 _).getM hdj trivial) (by simp [HObj.tag])
   ·omega
  ·have hje : j = S.turns.length := by omega
   subst hje
   rw [List.drop_length] at hcr
   injection hcr with hcr
   subst hcr
   simp [go_sem, e0, e14, e15, e16, h1c, fsC]
   have k6 : Keep (fun g => g ≠ .own f 0 0) st4 (upd st4 f (.cells true (fsC sm nm (.slice none 0 0) S.files.length S.c.call.2) 9 (.own f 0 0))) := Keep.rfl'.old h1c (by simp [HObj.tag])
   refine ⟨⟨sm, nm, .slice none 0 0, ad, upd_same _ _ _, k6.getM hdj (by simp), k6.getM (hk4.getM h3 (by simp)) (by simp), Vec.nil, ?_, ?_⟩, ?_⟩
   ·intro i F hi
    exact ((h5 i F hi).keep hk4 (by intro r h1 h2; simp; omega)).keep k6 (by intro r h1 h2; simp; omega)
   ·exact ⟨syncM_ok hd h6.1 h6.2.2, h6.2.1, by intro t ht; cases ht⟩
   ·exact (k0'.trans (hk4.imp fun g h => h 0 5)).trans (k6.imp fun g h => h 0 0)
 ·simp [hc, go_sem]
  exact ⟨hfs, k0'⟩
end
def VFS.turn (S : VFS) (c : Ctl) (now : Dir) (t : VTurn) : VFS := { sure := S.sure, now := now, turns := S.turns ++ [t], files := S.files, c := c }
def VFS.rename (S : VFS) (n m : ByteArray) : Int × VFS :=
 if S.c.call.1 ≠ 0 then (S.c.call.1, S.ctl S.c.call.2)
 else if (z0a n && z0a m) = false then (1, S.ctl S.c.call.2)
 else match aget S.now n with
  | none => (3, S.ctl S.c.call.2)
  | some i => (0, S.turn S.c.call.2 (aset (adel S.now n) m i) ⟨1, n, m, none⟩)
section
variable {W0 : World} {st : Heap}
theorem FSAt.turn' {st' : Heap} {f sm nm : Nat} {tv' : Value} {ad : Nat → Nat} {S : VFS} {c : Ctl} {now' : Dir} {t : VTurn} (h2 : st sm = some (.map (.own f 0 5) (encM ad S.sure)))
  (h5 : ∀ (i : Nat) (F : VFile), S.files[i]? = some F → z1q st f i (ad i) F) (h6 : S.ok) (ht : t.does S.now = some now') (htf : t.file = none)
  (c1 : st' f = some (.cells true (fsC sm nm tv' S.files.length c) 9 (.own f 0 0))) (c3 : st' nm = some (.map (.own f 0 6) (encM ad now'))) (c4 : Vec st' (.own f 0 7) 4 tv' ((S.turns ++ [t]).flatMap (encT ad)) (S.turns ++ [t]).length)
  (k3 : Keep (fun g => g ≠ .own f 0 0 ∧ g ≠ .own f 0 6 ∧ g ≠ .own f 0 7) st st') : FSAt st' f (S.turn c now' t) := by
 refine ⟨sm, nm, tv', ad, c1, k3.getM h2 (by simp), c3, c4, fun i F hi => (h5 i F hi).keep k3 (by intro r h1 h2; simp; omega), h6.1, zbo ht h6.2.1 (by intro i hi; rw [htf] at hi; cases hi), ?_⟩
 intro t' ht' i hi
 simp only [VFS.turn] at ht'
 rcases List.mem_append.1 ht' with ht' | ht'
 ·exact h6.2.2 t' ht' i hi
 ·simp at ht'; rw [ht', htf] at hi; cases hi
theorem ziw {f : Nat} {S : VFS} {n m : ByteArray} (h : FSAt st f S) (hs : S.small) : z00 Tryz.prog W0 110 #[ptr f, .string n, .string m] st fun e st' => e = .returned (Val.i (S.rename n m).1) ∧ FSAt st' f (S.rename n m).2 ∧ Keep (Out f) st st' := by
 obtain ⟨sm, nm, tv, ad, h1, h2, h3, h4, h5, h6⟩ := h
 refine enter (args := [_, _, _]) Tryz.func110 rfl ?_
 simp [Tryz.f110, go_sem]
 refine z5h h1 ?_
 obtain ⟨k0, hfs, h1, h2, h3, h4, h5⟩ := FSAt.ctl' h1 h2 h3 h4 h5 h6 S.c.call.2
 generalize hst1 : upd st f _ = st1 at *
 have k0' : Keep (Out f) st st1 := k0.imp fun g h => h 0 0
 unfold VFS.rename
 simp [go_sem]
 by_cases hc : S.c.call.1 = 0
 ·simp [hc, go_sem]
  unfold NewS
  intro b hb
  refine ⟨.ty 0, ?_⟩
  have k1 : Keep (fun _ => True) st1 (upd st1 b (.cells true [.string n, .string m] 2 (.ty 0))) := Keep.rfl'.new hb
  simp [go_sem]
  refine z00.mono (z69 (names := [n, m]) (by simp [z06, z0i, upd_same, cellsOf]) ⟨_, _, rfl⟩ (by simp)) ?_
  rintro e st2 ⟨rfl, rfl⟩
  generalize upd st1 b _ = st2 at *
  have h1 := k1.get h1 trivial
  have h2 := k1.getM h2 trivial
  have h3 := k1.getM h3 trivial
  have h4 := h4.keep k1 trivial
  have h5 : ∀ (i : Nat) (F : VFile), S.files[i]? = some F → z1q st2 f i (ad i) F := fun i F hi => (h5 i F hi).keep k1 (fun _ _ _ => trivial)
  have hfs := hfs.keep k1 (fun _ _ => trivial)
  have k0' : Keep (Out f) st st2 := k0'.trans (k1.imp fun _ _ => trivial)
  cases hk : (z0a n && z0a m) with
  | false =>
   have hk' : ∀ x ∈ [n, m], True := fun _ _ => trivial
   have : [n, m].all z0a = false := by simpa using hk
   have hor : z0a n = true → z0a m = false := by intro h; rw [h] at hk; simpa using hk
   rw [this]
   simp only [go_sem, simprocAttr]
   cases hn : z0a n with
   | false => simp [go_sem, hn]; exact ⟨hfs, k0'⟩
   | true => simp [go_sem, hn, hor hn]; exact ⟨hfs, k0'⟩
  | true =>
   have : [n, m].all z0a = true := by simpa using hk
   rw [this]
   have hk1 : z0a n = true := (Bool.and_eq_true_iff.1 hk).1
   have hk2 : z0a m = true := (Bool.and_eq_true_iff.1 hk).2
   simp [go_sem, hk1, hk2]
   refine z00.mono (z93 (n := n) h1 h3) ?_
   rintro e st3 ⟨rfl, rfl⟩
   cases hg : aget S.now n with
   | none => simp [go_sem, hk1, hk2]; exact ⟨hfs, k0'⟩
   | some k =>
    simp [go_sem, hk1, hk2]
    have ht : (⟨1, n, m, none⟩ : VTurn).does S.now = some (aset (adel S.now n) m k) := by simp [VTurn.does, hg]
    refine z00.mono (z9c (W0 := W0) (t := ⟨1, n, m, none⟩) (c := S.c.call.2) h1 h3 h4 hs.1 ht) ?_
    rintro e st4 ⟨rfl, tv', c1, c3, c4, k3⟩
    simp [go_sem]
    exact ⟨FSAt.turn' h2 h5 h6 ht rfl c1 c3 c4 k3, k0'.trans (k3.imp fun g h => ⟨h 0 0, h 0 6, h 0 7⟩)⟩
 ·simp [hc, go_sem]
  exact ⟨hfs, k0'⟩
end
section
variable {W0 : World} {st : Heap}
end
end Go.Proofs.YtahgfnbkkfpcnaaGreat
