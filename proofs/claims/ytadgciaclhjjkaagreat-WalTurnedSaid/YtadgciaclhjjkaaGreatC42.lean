/- A log goes on with another file: the walk. -/
import Derived.Test.YtadgciaclhjjkaaGreatC41
import Derived.Test.YtadgciaclhjjkaaGreatC13
import Derived.Test.YtadgciaclhjjkaaGreatC25
set_option linter.unusedVariables false
set_option linter.unusedSimpArgs false
set_option maxRecDepth 100000
set_option maxHeartbeats 2000000
namespace Go.Proofs.YtadgciaclhjjkaaGreat
open Go.RowKit (Below)
def LogAt (st : Heap) (lp f : Nat) (L : LogD) : Prop := st lp = some (.cells true [ptr f, Val.i L.last, Val.i L.end_, Val.i L.wants] 4 (.own lp 0 120))
theorem LogAt.new {st st' : Heap} {lp f : Nat} {L : LogD} (h : LogAt st lp f L) (hk : New st st') : LogAt st' lp f L := hk _ _ h
/-- Neither the file system's nor the log's. -/
def OutL (f lp : Nat) (g : Tg) : Prop := Out f g ∧ Out lp g
theorem LogAt.ne {st : Heap} {lp f : Nat} {L : LogD} {S : VFS} (h : LogAt st lp f L) (hf : FSAt st f S) : lp ≠ f := by
  rintro rfl
  obtain ⟨sm, nm, tv, ad, h1, _⟩ := hf
  unfold LogAt at h
  rw [h] at h1
  injection h1 with h1
  injection h1 with _ _ h1
  omega
theorem LogAt.keep {st st' : Heap} {lp f : Nat} {L : LogD} (h : LogAt st lp f L) (hn : lp ≠ f) (hk : Keep (Out f) st st') : LogAt st' lp f L := hk _ _ _ h rfl (by intro x r e; injection e with e; exact hn e)
/-- The directory made sure. -/
def VFS.syncT (S : VFS) : Int × VFS := (S.c.call.1, if S.c.call.1 = 0 then { sure := (syncM S.turns S.sure).getD [], now := S.now, turns := [], files := S.files, c := S.c.call.2 } else S.ctl S.c.call.2)
def turnM (S : VFS) (L : LogD) : Int × VFS × LogD :=
  if ¬ nameOKM (L.last + 1) then (2, S, L)
  else if (S.create (nameT logB (L.last + 1))).1 ≠ 0 then ((S.create (nameT logB (L.last + 1))).1, (S.create (nameT logB (L.last + 1))).2, L)
  else if (S.create (nameT logB (L.last + 1))).2.syncT.1 ≠ 0 then ((S.create (nameT logB (L.last + 1))).2.syncT.1, (S.create (nameT logB (L.last + 1))).2.syncT.2, L)
  else (0, (S.create (nameT logB (L.last + 1))).2.syncT.2, ⟨L.last + 1, L.end_, L.wants⟩)
/-- What a turn asks of the file system. -/
structure TurnOK (S : VFS) (L : LogD) : Prop where
  small : S.small
  small2 : (S.create (nameT logB (L.last + 1))).2.small
  sync : ∃ d, syncM (S.create (nameT logB (L.last + 1))).2.turns (S.create (nameT logB (L.last + 1))).2.sure = some d
def LogR (f lp : Nat) (st : Heap) (r : Int × VFS × LogD) (e : Ending) (st' : Heap) : Prop := e = .returned (Val.i r.1) ∧ FSAt st' f r.2.1 ∧ LogAt st' lp f r.2.2 ∧ Keep (OutL f lp) st st'
section
variable {W0 : World} {st : Heap}
theorem syncT_spec {f : Nat} {S : VFS} (h : FSAt st f S) (hs : S.small) (hd : ∃ d, syncM S.turns S.sure = some d) : ICalls Tryz.prog W0 88 #[ptr f] st fun e st' => e = .returned (Val.i S.syncT.1) ∧ FSAt st' f S.syncT.2 ∧ Keep (Out f) st st' := by
  obtain ⟨d, hd⟩ := hd
  refine (SyncDir_spec h hs hd).mono ?_
  rintro e st' ⟨rfl, h2, h3⟩
  refine ⟨rfl, ?_, h3⟩
  unfold VFS.syncT
  rw [hd]
  exact h2
theorem Turn_spec {f lp : Nat} {S : VFS} {L : LogD} (h : FSAt st f S) (hl : LogAt st lp f L) (hb : -2 ^ 62 < L.last ∧ L.last < 2 ^ 62) (ok : TurnOK S L) : ICalls Tryz.prog W0 33 #[ptr lp] st (LogR f lp st (turnM S L)) := by
  have hne := hl.ne h
  have hw : IntKind.i64.wrap (L.last + 1) = L.last + 1 := wrap_id (by omega) (by omega)
  have hl0 := hl
  unfold LogAt at hl
  refine enter (args := [_]) Tryz.func33 rfl ?_
  simp [Tryz.f33, go_sem, hl, hw]
  refine walName_exact.mono ?_
  rintro e s1 ⟨rfl, k1⟩
  have hlog : (⟨#[108, 111, 103, 45]⟩ : ByteArray) = logB := rfl
  rw [hlog]
  by_cases hnm : nameOKM (L.last + 1)
  · have hne0 := nameT_ne (s := logB) hnm
    simp [go_sem, hne0]
    obtain ⟨nm, hnme⟩ : ∃ x, nameT logB (L.last + 1) = x := ⟨_, rfl⟩
    have hg1 := k1 _ _ hl
    have h1 : FSAt s1 f S := h.keep (k1.to fun _ => True) (by simp)
    generalize hE0 : (Env.set _ _ _ : Env) = E0
    have f0 : E0 0 = ptr lp := by subst hE0; simp [go_sem]
    clear hE0
    refine drawT 10 [0, 1, 2, 3, 4, 5, 6, 7, 8, 9, 10, 11] (fun ix vx st' => match ix with
      | 0 | 1 | 4 | 5 => vx = ptr lp
      | 2 => vx = .pointer (some ⟨lp, 0, none⟩)
      | 3 => vx = ptr f
      | 6 => vx = .pointer (some ⟨lp, 1, none⟩)
      | 7 => vx = Val.i L.last
      | 8 => vx = Val.i (L.last + 1)
      | 9 => vx = .string (nameT logB (L.last + 1))
      | _ => True) (by kernel_rfl) (by kernel_rfl) (by kernel_rfl) (by decide) ?_ ?_ ?_ ?_
    · intro ix vx sta stb hNw h
      match ix with
      | 0 => exact h
      | 1 => exact h
      | 2 => exact h
      | 3 => exact h
      | 4 => exact h
      | 5 => exact h
      | 6 => exact h
      | 7 => exact h
      | 8 => exact h
      | 9 => exact h
      | ix + 10 => exact h
    · intro ix oo hin hi E sta hNw hd hE
      match ix with
      | 0 =>
        have x0 := hE 0 (oldT_spec (by kernel_rfl))
        injection hi with hi; subst hi
        simp [wantedE, go_sem, x0, f0, hw]
        exact New.refl _
      | 1 =>
        injection hi with hi; subst hi
        have d0 := hd { on := 0, ground := .data } (by simp) (by decide) _ _ rfl rfl
        simp only at d0
        simp [wantedE, go_sem, d0, hw]
        exact New.refl _
      | 2 =>
        injection hi with hi; subst hi
        have d1 := hd { on := 1, ground := .data } (by simp) (by decide) _ _ rfl rfl
        simp only at d1
        simp [wantedE, go_sem, d1, hw]
        exact New.refl _
      | 3 =>
        injection hi with hi; subst hi
        have d2 := hd { on := 2, ground := .data } (by simp) (by decide) _ _ rfl rfl
        simp only at d2
        have gt := hNw _ _ hg1
        simp [wantedE, go_sem, d2, gt, hw]
        exact New.refl _
      | 4 =>
        have x0 := hE 0 (oldT_spec (by kernel_rfl))
        injection hi with hi; subst hi
        simp [wantedE, go_sem, x0, f0, hw]
        exact New.refl _
      | 5 =>
        injection hi with hi; subst hi
        have d4 := hd { on := 4, ground := .data } (by simp) (by decide) _ _ rfl rfl
        simp only at d4
        simp [wantedE, go_sem, d4, hw]
        exact New.refl _
      | 6 =>
        injection hi with hi; subst hi
        have d5 := hd { on := 5, ground := .data } (by simp) (by decide) _ _ rfl rfl
        simp only at d5
        simp [wantedE, go_sem, d5, hw]
        exact New.refl _
      | 7 =>
        injection hi with hi; subst hi
        have d6 := hd { on := 6, ground := .data } (by simp) (by decide) _ _ rfl rfl
        simp only at d6
        have gt := hNw _ _ hg1
        simp [wantedE, go_sem, d6, gt, hw]
        exact New.refl _
      | 8 =>
        injection hi with hi; subst hi
        have d7 := hd { on := 7, ground := .data } (by simp) (by decide) _ _ rfl rfl
        simp only at d7
        simp [wantedE, go_sem, d7, hw]
        exact New.refl _
      | 9 =>
        injection hi with hi; subst hi
        have d8 := hd { on := 8, ground := .data } (by simp) (by decide) _ _ rfl rfl
        simp only at d8
        simp [wantedE, go_sem, d8, hw]
        refine walName_exact.mono ?_
        rintro e stx ⟨rfl, h2⟩
        simp [go_sem, hlog]
        exact h2
      | ix + 10 => omega
    · intro E sta hNw hd hE
      have x15 := hd 3 _ 15 (by omega) rfl rfl
      have x21 := hd 9 _ 21 (by omega) rfl rfl
      simp only at x15 x21
      have y0 := (hE 0 (noT_spec (by kernel_rfl))).trans f0
      simp [go_sem, x15, x21]
      obtain ⟨nd, hnd⟩ : ∃ x, x = nm := ⟨_, rfl⟩
      rw [hnme]
      have h2 : FSAt sta f S := h1.keep (hNw.to fun _ => True) (by simp)
      have hl2 : LogAt sta lp f L := hNw _ _ hg1
      obtain ⟨ok1, ok2, ok3⟩ := ok
      rw [hnme] at ok2 ok3
      have hturn : turnM S L = (if (S.create nm).1 ≠ 0 then ((S.create nm).1, (S.create nm).2, L) else if (S.create nm).2.syncT.1 ≠ 0 then ((S.create nm).2.syncT.1, (S.create nm).2.syncT.2, L) else (0, (S.create nm).2.syncT.2, ⟨L.last + 1, L.end_, L.wants⟩)) := by
        unfold turnM
        rw [if_neg (by simpa using hnm), hnme]
      rw [hturn]
      refine (Create_spec h2 ok1).mono ?_
      rintro e s3 ⟨rfl, h3, k3⟩
      have hl3 := hl2.keep hne k3
      have kk : Keep (OutL f lp) st s3 := ((k1.trans hNw).to _).trans fun k o g a b c => k3 k o g a b c.1
      simp [go_sem]
      by_cases hc : (S.create nm).1 = 0
      · have hg3 := hl3
        unfold LogAt at hg3
        simp [go_sem, hc, y0, hg3]
        refine (syncT_spec h3 ok2 ok3).mono ?_
        rintro e s4 ⟨rfl, h4, k4⟩
        have hl4 := hl3.keep hne k4
        have kk4 : Keep (OutL f lp) st s4 := kk.trans fun k o g a b c => k4 k o g a b c.1
        have hg4 := hl4
        unfold LogAt at hg4
        simp [go_sem]
        by_cases hc2 : (S.create nm).2.syncT.1 = 0
        · simp [go_sem, hc2, y0, hg4, hw]
          refine ⟨rfl, h4.keep (p := Out lp) (keepP hg4 (by intro hh; exact hh _ _ rfl)) ?_, upd_same _ _ _, kk4.trans (keepP hg4 (by intro hh; exact hh.2 _ _ rfl))⟩
          intro x r y s e
          injection e with e
          exact hne e.symm
        · simp [go_sem, hc2]
          exact ⟨rfl, h4, hl4, kk4⟩
      · simp [go_sem, hc]
        exact ⟨rfl, h3, hl3, kk⟩
    · intro j oj hj
      match j with
      | 0 | 1 | 2 | 3 | 4 | 5 | 6 | 7 | 8 | 9 | 10 | 11 => simp at hj; subst hj; decide
      | j + 12 => simp at hj
  · rw [nameT_no hnm]
    have hr : turnM S L = (2, S, L) := by unfold turnM; rw [if_pos hnm]
    rw [hr]
    simp [go_sem]
    exact ⟨rfl, h.keep (k1.to fun _ => True) (by simp), hl0.new k1, k1.to _⟩
end
end Go.Proofs.YtadgciaclhjjkaaGreat
