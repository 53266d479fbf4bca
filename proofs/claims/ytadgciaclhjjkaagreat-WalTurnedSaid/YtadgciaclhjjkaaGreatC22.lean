/- The file system's methods Sync, SyncDir. -/
import Derived.Test.YtadgciaclhjjkaaGreatC13
import Derived.Test.YtadgciaclhjjkaaGreatC21
set_option linter.unusedVariables false
set_option linter.unusedSimpArgs false
set_option maxRecDepth 100000
set_option maxHeartbeats 1000000
namespace Go.Proofs.YtadgciaclhjjkaaGreat
open Go.RowKit (Below)

def VFile.synced (F : VFile) : VFile := { F with sure := F.now, pend := [] }
section
variable {W0 : World} {st : Heap}
theorem fileSync_spec {f i a : Nat} {F : VFile} (h : FileAt st f i a F) :
    ICalls Tryz.prog W0 82 #[ptr a] st fun e st' => e = .returned (.tuple #[]) ∧ FileAt st' f i a F.synced ∧ Keep (fun g => g ≠ .own f i 1) st st' := by
  obtain ⟨sv, pv, nv, us, h1, h2, h3, h4, h5⟩ := h
  refine enter (args := [_]) Tryz.func82 rfl ?_
  obtain ⟨nb, nc, rfl⟩ := h5.slice
  have hcap := h5.reg.cap
  simp [Tryz.f82, go_sem]
  refine draw [0, 1, 2, 3, 5, 6, 7, 10, 11, 12, 4, 8, 9, 13, 14, 15, 16, 17, 18] (by kernel_rfl) ?_
  simp [go_sem, h1, hcap]
  have k : Keep (fun g => g ≠ .own f i 1) st (upd st a (.cells true [Val.i F.born, .slice nb F.now.length F.now.length, .slice none 0 0, .slice nb F.now.length nc] 4 (.own f i 1))) := Keep.rfl'.old h1 (by simp [HObj.tag])
  have h5' := h5.keep k (by simp)
  refine ⟨⟨_, _, _, [], upd_same _ _ _, ?_, trivial, Vec.nil, h5'⟩, k⟩
  obtain ⟨z1, base, cap, z4, z5, z6⟩ := h5'.reg
  injection z4 with y1 y2 y3; subst y1; subst y3
  exact ⟨z1, nb, F.now.length, rfl, Nat.le_refl _, z6⟩
/-- One file of a file system is another. -/
theorem FSAt.file {st' : Heap} {f k : Nat} {S : VFS} {F : VFile} {sm nm : Nat} {tv : Value} {ad : Nat → Nat} {φ : VFile → VFile} (h1 : st f = some (.cells true (fsC sm nm tv S.files.length S.c) 9 (.own f 0 0))) (h2 : st sm = some (.map (.own f 0 5) (encM ad S.sure))) (h3 : st nm = some (.map (.own f 0 6) (encM ad S.now)))
    (h4 : Vec st (.own f 0 7) 4 tv (S.turns.flatMap (encT ad)) S.turns.length) (h5 : ∀ (i : Nat) (F : VFile), S.files[i]? = some F → FileAt st f i (ad i) F) (h6 : S.ok) (hk : S.files[k]? = some F)
    (hkp : Keep (fun g => ∀ r, 1 ≤ r → r ≤ 4 → g ≠ .own f k r) st st') (hF : FileAt st' f k (ad k) (φ F)) : FSAt st' f { S with files := S.files.modify k φ } := by
  refine ⟨sm, nm, tv, ad, ?_, hkp.getM h2 (by intro r _ _; simp; omega), hkp.getM h3 (by intro r _ _; simp; omega), h4.keep hkp (by intro r _ _; simp; omega), ?_, ?_⟩
  · have := hkp.get h1 (by intro r _ _; simp; omega)
    simpa using this
  · intro i G hi
    simp only at hi
    rw [List.getElem?_modify] at hi
    by_cases hik : k = i
    · subst hik
      rw [hk] at hi
      simp at hi
      subst hi
      exact hF
    · cases hj : S.files[i]? with
      | none => rw [hj] at hi; cases hi
      | some G' =>
        rw [hj] at hi
        simp [hik] at hi
        subst hi
        exact (h5 i G' hj).keep hkp (by intro r _ _ r' _ _; simp; omega)
  · obtain ⟨o1, o2, o3⟩ := h6
    exact ⟨by simpa using o1, by simpa using o2, by simpa using o3⟩
end
def VFS.syncF (S : VFS) (n : ByteArray) : Int × VFS :=
  if S.c.call.1 ≠ 0 then (S.c.call.1, S.ctl S.c.call.2)
  else if okName n = false then (1, S.ctl S.c.call.2)
  else match aget S.now n with
    | none => (3, S.ctl S.c.call.2)
    | some k => (0, { S.ctl S.c.call.2 with files := S.files.modify k VFile.synced })
def syncM : List VTurn → Dir → Option Dir
  | [], d => some d
  | t :: ts, d => (t.does d).bind (syncM ts)
section
variable {W0 : World} {st : Heap}
theorem aget_lt {S : VFS} {n : ByteArray} {k : Nat} (h6 : S.ok) (hg : aget S.now n = some k) : k < S.files.length := by
  unfold aget at hg
  obtain ⟨p, h7, h8⟩ := Option.map_eq_some_iff.1 hg
  obtain ⟨e, h9, h10⟩ := afind_mem h7
  rw [← h8, ← h10]; exact h6.2.1 e h9
theorem Sync_spec {f : Nat} {S : VFS} {n : ByteArray} (h : FSAt st f S) : ICalls Tryz.prog W0 87 #[ptr f, .string n] st fun e st' => e = .returned (Val.i (S.syncF n).1) ∧ FSAt st' f (S.syncF n).2 ∧ Keep (Out f) st st' := by
  obtain ⟨sm, nm, tv, ad, h1, h2, h3, h4, h5, h6⟩ := h
  refine enter (args := [_, _]) Tryz.func87 rfl ?_
  simp [Tryz.f87, go_sem]
  refine call_spec h1 ?_
  obtain ⟨k0, hfs, h1, h2, h3, h4, h5⟩ := FSAt.ctl' h1 h2 h3 h4 h5 h6 S.c.call.2
  generalize hst1 : upd st f _ = st1 at *
  have k0' : Keep (Out f) st st1 := k0.imp fun g h => h 0 0
  unfold VFS.syncF
  simp [go_sem]
  by_cases hc : S.c.call.1 = 0
  · simp [hc, go_sem]
    refine ICalls.mono (find_spec (n := n) h1 h3) ?_
    rintro e st2 ⟨rfl, rfl⟩
    cases hk : okName n with
    | false => simp [go_sem]; exact ⟨hfs, k0'⟩
    | true =>
      cases hg : aget S.now n with
      | none => simp [go_sem]; exact ⟨hfs, k0'⟩
      | some k =>
        have hkl := aget_lt h6 hg
        have hF : S.files[k]? = some S.files[k] := List.getElem?_eq_getElem hkl
        simp [go_sem]
        refine (fileSync_spec (h5 k _ hF)).mono ?_
        rintro e st3 ⟨rfl, hF3, k3⟩
        simp [go_sem]
        have k3' : Keep (fun g => ∀ r, 1 ≤ r → r ≤ 4 → g ≠ .own f k r) st2 st3 := k3.imp fun g h => h 1 (by omega) (by omega)
        exact ⟨FSAt.file (S := S.ctl S.c.call.2) h1 h2 h3 h4 h5 h6 hF k3' hF3, k0'.trans (k3.imp fun g h => h k 1)⟩
  · simp [hc, go_sem]
    exact ⟨hfs, k0'⟩
end
end Go.Proofs.YtadgciaclhjjkaaGreat
set_option linter.unusedVariables false
set_option linter.unusedSimpArgs false
set_option maxRecDepth 100000
set_option maxHeartbeats 1000000
namespace Go.Proofs.YtadgciaclhjjkaaGreat
open Go.RowKit (Below)

theorem aget_mem {l : Dir} {k : ByteArray} {i : Nat} (h : aget l k = some i) : ∃ e ∈ l, e.2 = i := by
  unfold aget at h
  obtain ⟨p, h7, h8⟩ := Option.map_eq_some_iff.1 h
  obtain ⟨e, h9, h10⟩ := afind_mem h7
  exact ⟨e, h9, h10.trans h8⟩
theorem does_ok {t : VTurn} {l l' : Dir} {n : Nat} (h : t.does l = some l') (hl : ∀ p ∈ l, p.2 < n) (hf : ∀ i, t.file = some i → i < n) : ∀ p ∈ l', p.2 < n := by
  unfold VTurn.does at h
  split at h
  · obtain ⟨i, hi, rfl⟩ := Option.map_eq_some_iff.1 h
    intro p hp
    rcases aset_mem hp with hp | hp
    · exact hl p hp
    · rw [hp]; exact hf i hi
  · split at h
    · obtain ⟨i, hi, rfl⟩ := Option.map_eq_some_iff.1 h
      obtain ⟨e, he, hei⟩ := aget_mem hi
      intro p hp
      rcases aset_mem hp with hp | hp
      · exact hl p (adel_mem hp)
      · rw [hp, ← hei]; exact hl e he
    · split at h
      · injection h with h; subst h; intro p hp; exact hl p (adel_mem hp)
      · injection h with h; subst h; exact hl
theorem syncM_ok {n : Nat} : ∀ {ts : List VTurn} {l l' : Dir}, syncM ts l = some l' → (∀ p ∈ l, p.2 < n) → (∀ t ∈ ts, ∀ i, t.file = some i → i < n) → ∀ p ∈ l', p.2 < n
  | [], l, l', h, hl, _ => by injection h with h; subst h; exact hl
  | t :: ts, l, l', h, hl, hf => by
    obtain ⟨d, h1, h2⟩ := Option.bind_eq_some_iff.1 h
    exact syncM_ok h2 (does_ok h1 hl (hf t (by simp))) (fun t' ht' => hf t' (by simp [ht']))
section
variable {W0 : World} {st : Heap}
theorem SyncDir_spec {f : Nat} {S : VFS} {d : Dir} (h : FSAt st f S) (hs : S.small) (hd : syncM S.turns S.sure = some d) : ICalls Tryz.prog W0 88 #[ptr f] st fun e st' =>
    e = .returned (Val.i S.c.call.1) ∧ FSAt st' f (if S.c.call.1 = 0 then { sure := d, now := S.now, turns := [], files := S.files, c := S.c.call.2 } else S.ctl S.c.call.2) ∧ Keep (Out f) st st' := by
  obtain ⟨sm, nm, tv, ad, h1, h2, h3, h4, h5, h6⟩ := h
  refine enter (args := [_]) Tryz.func88 rfl ?_
  simp [Tryz.f88, go_sem]
  refine call_spec h1 ?_
  obtain ⟨k0, hfs, h1, h2, h3, h4, h5⟩ := FSAt.ctl' h1 h2 h3 h4 h5 h6 S.c.call.2
  generalize hst1 : upd st f _ = st1 at *
  have k0' : Keep (Out f) st st1 := k0.imp fun g h => h 0 0
  simp [go_sem]
  by_cases hc : S.c.call.1 = 0
  · obtain ⟨tvb, tvc, rfl⟩ := h4.slice
    simp [hc, go_sem, h1, fsC]
    refine ⟨fun E st' => Keep (fun t => t ≠ .own f 0 5) st1 st' ∧ E 0 = ptr f ∧ E 14 = .slice tvb S.turns.length tvc ∧ E 15 = Val.i S.turns.length ∧ ∃ (j : Nat) (dj : Dir), j ≤ S.turns.length ∧ E 16 = Val.i j ∧ st' sm = some (.map (.own f 0 5) (encM ad dj)) ∧ syncM (S.turns.drop j) dj = some d,
      fun E _ => match E 16 with | .int _ j => S.turns.length - j.toNat | _ => 0, ⟨st1, .rfl' _, .rfl', by simp [go_sem], by simp [go_sem], by simp [go_sem], 0, S.sure, Nat.zero_le _, by simp [go_sem], h2, by simpa using hd⟩, ?_⟩
    rintro E st4 ⟨hk4, e0, e14, e15, j, dj, hj, e16, hdj, hcr⟩
    have h1c := hk4.get h1 (by simp)
    by_cases hlt : j < S.turns.length
    · have htj : S.turns[j]? = some S.turns[j] := List.getElem?_eq_getElem hlt
      generalize S.turns[j] = t at htj
      obtain ⟨w1, w2⟩ := flatMap_get (ad := ad) htj
      have hdrop : S.turns.drop j = t :: S.turns.drop (j + 1) := by
        rw [List.drop_eq_getElem_cons hlt]
        congr 1
        rw [List.getElem?_eq_getElem hlt] at htj
        injection htj
      rw [hdrop] at hcr
      obtain ⟨dj', hdo, hcr⟩ := Option.bind_eq_some_iff.1 hcr
      obtain ⟨hl, base, cap, hv', hc', hbase⟩ := h4.keep hk4 (by simp)
      injection hv' with q1 q2 q3; subst q1; subst q3
      have hsl := hs.1
      have hw : IntKind.i64.wrap ((j : Int) + 1) = j + 1 := wrap_id (by omega) (by omega)
      rcases hbase with ⟨b0, n0, rfl, hb0, hn0⟩ | ⟨rfl, hc0⟩
      · obtain ⟨cs, hcs⟩ : ∃ cs, cs = S.turns.flatMap (encT ad) := ⟨_, rfl⟩
        rw [← hcs] at hb0 w1 w2
        unfold encT at w1
        simp [go_sem, e14, e15, e16, hlt, hb0, w1, w2]
        unfold NewP
        intro b5 hb5
        refine ⟨.ty 0, ?_⟩
        have k5 : ∀ o, Keep (fun _ => True) st4 (upd st4 b5 o) := fun o => Keep.rfl'.new hb5
        have hbf := ne_of_new h1c hb5
        simp [go_sem, e0, e14, e15, e16, hw]
        refine draw [1, 2, 3, 0, 4, 5] (by kernel_rfl) ?_
        simp [go_sem, e0, e14, e15, e16, hw, hbf, h1c, fsC]
        refine ICalls.mono (does_spec (t := t) ((k5 _).getM hdj trivial) hdo) ?_
        rintro e st6 ⟨rfl, rfl⟩
        simp [go_sem, e0, e14, e15, e16, hw]
        refine ⟨_, .rfl' _, ⟨?_, j + 1, hlt, by omega, dj', upd_same _ _ _, hcr⟩, by omega⟩
        exact (hk4.trans ((k5 _).imp fun _ _ => trivial)).old ((k5 _).getM hdj trivial) (by simp [HObj.tag])
      · omega
    · have hje : j = S.turns.length := by omega
      subst hje
      rw [List.drop_length] at hcr
      injection hcr with hcr
      subst hcr
      simp [go_sem, e0, e14, e15, e16, h1c, fsC]
      have k6 : Keep (fun g => g ≠ .own f 0 0) st4 (upd st4 f (.cells true (fsC sm nm (.slice none 0 0) S.files.length S.c.call.2) 9 (.own f 0 0))) := Keep.rfl'.old h1c (by simp [HObj.tag])
      refine ⟨⟨sm, nm, .slice none 0 0, ad, upd_same _ _ _, k6.getM hdj (by simp), k6.getM (hk4.getM h3 (by simp)) (by simp), Vec.nil, ?_, ?_⟩, ?_⟩
      · intro i F hi
        exact ((h5 i F hi).keep hk4 (by intro r h1 h2; simp; omega)).keep k6 (by intro r h1 h2; simp; omega)
      · exact ⟨syncM_ok hd h6.1 h6.2.2, h6.2.1, by intro t ht; cases ht⟩
      · exact (k0'.trans (hk4.imp fun g h => h 0 5)).trans (k6.imp fun g h => h 0 0)
  · simp [hc, go_sem]
    exact ⟨hfs, k0'⟩
end
end Go.Proofs.YtadgciaclhjjkaaGreat
set_option linter.unusedVariables false
set_option linter.unusedSimpArgs false
set_option maxRecDepth 100000
set_option maxHeartbeats 1000000
namespace Go.Proofs.YtadgciaclhjjkaaGreat
open Go.RowKit (Below)

section
variable {W0 : World} {st : Heap}
end
end Go.Proofs.YtadgciaclhjjkaaGreat
set_option linter.unusedVariables false
set_option linter.unusedSimpArgs false
set_option maxRecDepth 100000
set_option maxHeartbeats 1000000
namespace Go.Proofs.YtadgciaclhjjkaaGreat
open Go.RowKit (Below)

def VFile.cutTo (F : VFile) (s : Nat) : VFile := { F with pend := F.pend ++ [⟨true, s, []⟩], now := F.now.take s }
def VFS.cutF (S : VFS) (n : ByteArray) (s : Int) : Int × VFS :=
  if S.c.call.1 ≠ 0 then (S.c.call.1, S.ctl S.c.call.2)
  else if okName n = false then (1, S.ctl S.c.call.2)
  else match aget S.now n with
    | none => (3, S.ctl S.c.call.2)
    | some k => if s < 0 ∨ (S.lenOf k : Int) < s then (1, S.ctl S.c.call.2) else (0, { S.ctl S.c.call.2 with files := S.files.modify k (·.cutTo s.toNat) })
section
variable {W0 : World} {st : Heap}
theorem fileCut_spec {f i a s : Nat} {F : VFile} (h : FileAt st f i a F) (hsz : s ≤ F.now.length) (hs1 : F.now.length < 2 ^ 40) (hs2 : F.pend.length < 2 ^ 40) :
    ICalls Tryz.prog W0 152 #[ptr a, Val.i s] st fun e st' => e = .returned (.tuple #[]) ∧ FileAt st' f i a (F.cutTo s) ∧ Keep (fun g => ∀ r, 1 ≤ r → r ≤ 4 → g ≠ .own f i r) st st' := by
  obtain ⟨sv, pv, nv, us, h1, h2, h3, h4, h5⟩ := h
  obtain ⟨nb, nc, rfl⟩ := h5.slice
  have hncap := h5.reg.cap
  refine enter (args := [_, _]) Tryz.func152 rfl ?_
  simp [Tryz.f152, go_sem, h1]
  unfold NewS
  intro b1 hb1
  refine ⟨.ty 0, ?_⟩
  simp [go_sem]
  have k2 : Keep (fun _ => True) st (upd st b1 (.cells true [.bool true, Val.i s, .slice none 0 0] 3 (.ty 0))) := Keep.rfl'.new hb1
  refine AppI_vec (g := .own f i 2) (m := 1) (ys := [.bool true, Val.i s, .slice none 0 0]) si179 (h4.keep k2 trivial) ?_ (by simp [Value.oneCell']) (by omega) ?_
  · simp [srcCells, lkN_mk, upd_same, cellsOf]
  intro s2 c2 st2 hv2 he2
  have k3 : Keep (fun g => g ≠ .own f i 2) st st2 := (Keep.imp (fun _ _ => trivial) k2).trans (he2.toKeep (by simp))
  have h1'' := k3.get h1 (by simp)
  have h2'' := h2.keep k3 (by simp)
  have h3'' := unitsAt.keep k3 (by simp) _ _ h3
  have h5'' := h5.keep k3 (by simp)
  simp [go_sem, h1'']
  have k4 : Keep (fun g => g ≠ .own f i 1) st2 (upd st2 a (.cells true [Val.i F.born, sv, .slice s2 (F.pend.length + 1) c2, .slice nb F.now.length nc] 4 (.own f i 1))) := Keep.rfl'.old h1'' (by simp [HObj.tag])
  have ha4 := upd_same st2 a (.cells true [Val.i F.born, sv, .slice s2 (F.pend.length + 1) c2, .slice nb F.now.length nc] 4 (.own f i 1))
  generalize hst4 : upd st2 a _ = st4 at *
  unfold NewS
  intro b2 hb2
  refine ⟨.own f i 3, ?_⟩
  have hab := ne_of_new ha4 hb2
  have hsc : s ≤ nc := by omega
  simp [go_sem, hab, ha4, hsc]
  have k5 : Keep (fun _ => True) st4 (upd st4 b2 (.cells true [] 0 (.own f i 3))) := Keep.rfl'.new hb2
  have hsrc := (((h5''.keep k4 (by simp)).keep k5 trivial).reg.take hsz).src
  refine AppI_vec (g := .own f i 3) si40 (Vec.new (xs := []) rfl (Nat.le_refl 0) (upd_same _ _ _) (Nat.zero_le _)) hsrc (fun y hy => bytesV_one _ y (List.mem_of_mem_take hy)) (by omega) ?_
  intro s3 c3 st3 hv3 he3
  simp only [List.nil_append, Nat.zero_add] at hv3 ⊢
  have k6 : Keep (fun g => g ≠ .own f i 3) _ st3 := he3.toKeep (by simp)
  have ha5 := k5.get ha4 trivial
  have ha6 := k6.get ha5 (by simp)
  simp [go_sem, ha6]
  have k7 : Keep (fun g => g ≠ .own f i 1) st3 (upd st3 a (.cells true [Val.i F.born, sv, .slice s2 (F.pend.length + 1) c2, .slice s3 s c3] 4 (.own f i 1))) := Keep.rfl'.old ha6 (by simp [HObj.tag])
  have hlen : (F.now.take s).length = s := by rw [List.length_take]; omega
  have hbv : bytesV (F.now.take s) = (bytesV F.now).take s := by simp [bytesV, List.map_take]
  refine ⟨⟨sv, _, _, us ++ [.bool true, Val.i s, .slice none 0 0], upd_same _ _ _, ?_, ?_, ?_, ?_⟩, ?_⟩
  · exact ((((h2''.keep k4 (by simp)).keep k5 trivial).of_ext he3.grow).keep k7 (by simp))
  · exact unitsAt.append _ _ _ _ (unitsAt.keep k7 (by simp) _ _ (unitsAt.keep k6 (by simp) _ _ (unitsAt.keep k5 trivial _ _ (unitsAt.keep k4 (by simp) _ _ h3'')))) ⟨rfl, rfl, Reg.nil, trivial⟩
  · simpa [VFile.cutTo] using ((((hv2.keep k4 (by simp)).keep k5 trivial).keep k6 (by simp)).keep k7 (by simp))
  · show Vec _ _ 1 _ (bytesV (F.now.take s)) (F.now.take s).length
    rw [hlen, hbv]
    exact hv3.keep k7 (by simp)
  · exact ((((k3.imp (fun g h => h 2 (by omega) (by omega))).trans (k4.imp (fun g h => h 1 (by omega) (by omega)))).trans (k5.imp fun _ _ => trivial)).trans (k6.imp (fun g h => h 3 (by omega) (by omega)))).trans (k7.imp (fun g h => h 1 (by omega) (by omega)))
theorem Cut_spec {f : Nat} {S : VFS} {n : ByteArray} {s : Int} (h : FSAt st f S) (hs : S.small) : ICalls Tryz.prog W0 86 #[ptr f, .string n, Val.i s] st fun e st' => e = .returned (Val.i (S.cutF n s).1) ∧ FSAt st' f (S.cutF n s).2 ∧ Keep (Out f) st st' := by
  obtain ⟨sm, nm, tv, ad, h1, h2, h3, h4, h5, h6⟩ := h
  refine enter (args := [_, _, _]) Tryz.func86 rfl ?_
  simp [Tryz.f86, go_sem]
  refine call_spec h1 ?_
  obtain ⟨k0, hfs, h1, h2, h3, h4, h5⟩ := FSAt.ctl' h1 h2 h3 h4 h5 h6 S.c.call.2
  generalize hst1 : upd st f _ = st1 at *
  have k0' : Keep (Out f) st st1 := k0.imp fun g h => h 0 0
  unfold VFS.cutF
  simp [go_sem]
  by_cases hc : S.c.call.1 = 0
  · simp [hc, go_sem]
    refine ICalls.mono (find_spec (n := n) h1 h3) ?_
    rintro e st2 ⟨rfl, rfl⟩
    cases hk : okName n with
    | false => simp [go_sem]; exact ⟨hfs, k0'⟩
    | true =>
      cases hg : aget S.now n with
      | none => simp [go_sem]; exact ⟨hfs, k0'⟩
      | some k =>
        have hkl := aget_lt h6 hg
        obtain ⟨F, hF⟩ : ∃ F, S.files[k]? = some F := ⟨_, List.getElem?_eq_getElem hkl⟩
        have hlen : S.lenOf k = F.now.length := by simp [VFS.lenOf, hF]
        obtain ⟨q1, q2, q3⟩ := hs.2.2 F (List.mem_of_getElem? hF)
        obtain ⟨sv, pv, nv, us, b1, b2, b3, b4, b5⟩ := h5 k F hF
        obtain ⟨nb, nc, rfl⟩ := b5.slice
        by_cases hneg : s < 0
        · simp [go_sem, hneg]; exact ⟨hfs, k0'⟩
        · by_cases hbig : (F.now.length : Int) < s
          · simp [go_sem, hneg, hbig, hlen, b1]; exact ⟨hfs, k0'⟩
          · simp [go_sem, hneg, hbig, hlen, b1]
            have hfc := fileCut_spec (W0 := W0) (s := s.toNat) (h5 k F hF) (by omega) q2 q1
            rw [show ((s.toNat : Nat) : Int) = s by omega] at hfc
            refine hfc.mono ?_
            rintro e st3 ⟨rfl, hF3, k3⟩
            simp [go_sem]
            exact ⟨FSAt.file (S := S.ctl S.c.call.2) h1 h2 h3 h4 h5 h6 hF k3 hF3, k0'.trans (k3.imp fun g h r _ _ => h k r)⟩
  · simp [hc, go_sem]
    exact ⟨hfs, k0'⟩
end
end Go.Proofs.YtadgciaclhjjkaaGreat
set_option linter.unusedVariables false
set_option linter.unusedSimpArgs false
set_option maxRecDepth 100000
set_option maxHeartbeats 8000000
namespace Go.Proofs.YtadgciaclhjjkaaGreat
open Go.RowKit (Below)
section
variable {W0 : World} {st : Heap}
end
end Go.Proofs.YtadgciaclhjjkaaGreat
set_option linter.unusedVariables false
set_option linter.unusedSimpArgs false
set_option maxRecDepth 100000
set_option maxHeartbeats 8000000
namespace Go.Proofs.YtadgciaclhjjkaaGreat
open Go.RowKit (Below)
section
variable {W0 : World} {st : Heap}
end
end Go.Proofs.YtadgciaclhjjkaaGreat
set_option linter.unusedVariables false
set_option linter.unusedSimpArgs false
set_option maxRecDepth 100000
set_option maxHeartbeats 8000000
namespace Go.Proofs.YtadgciaclhjjkaaGreat
open Go.RowKit (Below)
section
variable {W0 : World} {st : Heap}
end
end Go.Proofs.YtadgciaclhjjkaaGreat
