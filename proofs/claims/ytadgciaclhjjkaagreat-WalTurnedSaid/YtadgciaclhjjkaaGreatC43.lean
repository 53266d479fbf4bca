/- A function whose body jumps ahead to one label: its entry. Plain theorems, over any program. -/
import Derived.Test.YtadgciaclhjjkaaGreatC24
import Derived.ScopeJumps
import Derived.Test.YtadgciaclhjjkaaGreatC42
import Derived.Test.YtadgciaclhjjkaaGreatC35
import Derived.Test.YtadgciaclhjjkaaGreatC23
set_option linter.unusedVariables false
set_option linter.unusedSimpArgs false
namespace Go.Proofs.YtadgciaclhjjkaaGreat
open Go.RowKit (Below)
def JumpI (l : Nat) (J : Env → Heap → Prop) (Q : IPost) : IPost
  | .goto l', E, st => l' = l ∧ J E st
  | e, E, st => Q e E st
section
variable {l : Nat} {J : Env → Heap → Prop} {Q : IPost} {E : Env} {st : Heap}
@[go_sem] theorem JumpI_normal : JumpI l J Q .normal E st = Q .normal E st := (rfl)
@[go_sem] theorem JumpI_ret : JumpI l J Q .ret E st = Q .ret E st := (rfl)
@[go_sem] theorem JumpI_goto (l' : Nat) : JumpI l J Q (.goto l') E st = (l' = l ∧ J E st) := (rfl)
end
/-- A scope of a function, with the jump to l, and the function's end. -/
def ScopeI (P : Program) (W0 : World) (c : Code) (l : Nat) (rest : Code) (Q : IPost) (Kp : PPost) (E1 : Env) (st1 : Heap) : Prop := IW P W0 c (JumpI l (fun E2 st2 => IW P W0 rest (NoGotoI Q) Kp E2 st2) Q) Kp E1 st1
theorem ICalls_jump {P : Program} {W0 : World} {f : FuncId} {fn : Func} {x c rest : Code} {args : List Value} {st : Heap} {R : Ending → Heap → Prop} (l : Nat) (hm : P.follows .mixedOrders = true)
    (hf : P.funcs[f]? = some fn) (hb : fn.body = some (.seq x (.scope c))) (hl : findLabel c l = some rest) (hN : args.length ≤ fn.ntmps) (hfx : Code.fit fn.ntmps (fun _ => true) x = true) (hfc : Code.fit fn.ntmps (fun _ => true) c = true) (hfr : Code.fit fn.ntmps (fun _ => true) rest = true)
    (h : IW P W0 x (ThenI (ScopeI P W0 c l rest (RetI P fn.results R) (fun ch st => R (.panicked ch) st)) (fun _ _ _ => False)) (fun ch st => R (.panicked ch) st) (Env.args args) st) : ICalls P W0 f args.toArray st R := by
  intro w hs
  refine calls_of_wp hf hb ?_
  have henv : envOf { tmps := args.toArray ++ Array.replicate (fn.ntmps - args.toArray.size) undef, defers := [] } = Env.args args := by
    funext t
    simp only [envOf, Env.args]
    rw [Array.getD_eq_getD_getElem?, List.getD_eq_getElem?_getD, Array.getElem?_append]
    split
    · simp
    · rename_i ht
      rw [List.getElem?_eq_none (by simpa using ht)]
      simp only [Array.getElem?_replicate]
      split <;> rfl
  have fin : ∀ (e : Exit) (a : Act) (w' : World), Lift W0 fn.ntmps (fun a => a.defers = []) (NoGotoI (RetI P fn.results R)) (fun ch st => R (.panicked ch) st) e a w' → bodyPost P fn (fun e w' => ∃ st', Sim W0 st' w' ∧ R e st') e a w' := by
    intro e a w' hq
    cases e with
    | normal =>
      obtain ⟨h1, h2, st', h3, h4⟩ := hq
      obtain ⟨v, h5, h6⟩ := res_sound h3 h4
      exact ⟨h1, v, h5, st', h3, h6⟩
    | ret =>
      obtain ⟨h1, h2, st', h3, h4⟩ := hq
      obtain ⟨v, h5, h6⟩ := res_sound h3 h4
      exact ⟨h1, v, h5, st', h3, h6⟩
    | panic ch =>
      obtain ⟨h1, st', h3, h4⟩ := hq
      exact ⟨h1, st', h3, h4⟩
    | outgrown => exact hq.elim
    | exit id => obtain ⟨_, _, _, _, h4⟩ := hq; exact h4.elim
    | goto l => obtain ⟨_, _, _, _, h4⟩ := hq; exact h4.elim
  refine wp_seq (wp_mono (IW_sound (N := fn.ntmps) (G := fun a => a.defers = []) stays_nil hm x hfx rfl (by simp; omega) hs (henv ▸ h)) ?_)
  intro e a w1 hq
  cases e with
  | normal =>
    obtain ⟨h1, h2, st1, h3, h4⟩ := hq
    refine wp_scope_jumps l (fun a w => a.defers = [] ∧ a.tmps.size = fn.ntmps ∧ ∃ st, Sim W0 st w ∧ IW P W0 rest (NoGotoI (RetI P fn.results R)) (fun ch st => R (.panicked ch) st) (envOf a) st) (fun _ _ => 0) hl ?_ ?_
    · refine wp_mono (IW_sound (N := fn.ntmps) (G := fun a => a.defers = []) stays_nil hm c hfc h1 h2 h3 h4) ?_
      intro e a' w2 hq
      cases e with
      | goto l' => obtain ⟨k1, k2, st', k3, rfl, k4⟩ := hq; exact ⟨rfl, k1, k2, st', k3, k4⟩
      | normal => exact fin .normal a' w2 hq
      | ret => exact fin .ret a' w2 hq
      | panic ch => exact fin (.panic ch) a' w2 hq
      | outgrown => exact hq.elim
      | exit id => exact fin (.exit id) a' w2 hq
    · rintro a' w2 ⟨k1, k2, st', k3, k4⟩
      refine wp_mono (IW_sound (N := fn.ntmps) (G := fun a => a.defers = []) stays_nil hm rest hfr k1 k2 k3 k4) ?_
      intro e a'' w3 hq
      cases e with
      | goto l' => obtain ⟨_, _, _, _, k⟩ := hq; exact k.elim
      | normal => exact fin .normal a'' w3 hq
      | ret => exact fin .ret a'' w3 hq
      | panic ch => exact fin (.panic ch) a'' w3 hq
      | outgrown => exact hq.elim
      | exit id => exact fin (.exit id) a'' w3 hq
  | ret => obtain ⟨_, _, _, _, k⟩ := hq; exact k.elim
  | exit id => obtain ⟨_, _, _, _, k⟩ := hq; exact k.elim
  | goto id => obtain ⟨_, _, _, _, k⟩ := hq; exact k.elim
  | panic ch => exact fin (.panic ch) a w1 hq
  | outgrown => exact hq.elim
end Go.Proofs.YtadgciaclhjjkaaGreat
set_option linter.unusedVariables false
set_option linter.unusedSimpArgs false
set_option maxRecDepth 100000
set_option maxHeartbeats 2000000
namespace Go.Proofs.YtadgciaclhjjkaaGreat
open Go.RowKit (Below)
def readyA (S : VFS) (L : LogD) : Int × VFS := if L.wants = 3 then S.create (nameT logB L.last) else if L.wants = 2 then S.cutF (nameT logB L.last) L.end_ else (0, S)
def readyM (S : VFS) (L : LogD) : Int × VFS × LogD :=
  if L.wants = 0 then (0, S, L)
  else if (readyA S L).1 ≠ 0 then ((readyA S L).1, (readyA S L).2, L)
  else if ((readyA S L).2.syncF (nameT logB L.last)).1 ≠ 0 then (((readyA S L).2.syncF (nameT logB L.last)).1, ((readyA S L).2.syncF (nameT logB L.last)).2, ⟨L.last, L.end_, 1⟩)
  else if ((readyA S L).2.syncF (nameT logB L.last)).2.syncT.1 ≠ 0 then (((readyA S L).2.syncF (nameT logB L.last)).2.syncT.1, ((readyA S L).2.syncF (nameT logB L.last)).2.syncT.2, ⟨L.last, L.end_, 1⟩)
  else (0, ((readyA S L).2.syncF (nameT logB L.last)).2.syncT.2, ⟨L.last, L.end_, 0⟩)
structure ReadyOK (S : VFS) (L : LogD) : Prop where
  small : S.small
  small2 : ((readyA S L).2.syncF (nameT logB L.last)).2.small
  sync : ∃ d, syncM ((readyA S L).2.syncF (nameT logB L.last)).2.turns ((readyA S L).2.syncF (nameT logB L.last)).2.sure = some d
section
variable {W0 : World} {st : Heap}
theorem Ready_spec {f lp : Nat} {S : VFS} {L : LogD} (h : FSAt st f S) (hl : LogAt st lp f L) (ok : ReadyOK S L) : ICalls Tryz.prog W0 32 #[ptr lp] st (LogR f lp st (readyM S L)) := by
  have hne := hl.ne h
  have hl0 := hl
  unfold LogAt at hl
  refine ICalls_jump (args := [_]) 0 (by kernel_rfl) Tryz.func32 rfl rfl (by simp [Tryz.f32]) (by kernel_rfl) (by kernel_rfl) (by kernel_rfl) ?_
  simp [Tryz.f32, go_sem, hl]
  unfold ScopeI
  obtain ⟨nm, hnme⟩ : ∃ x, nameT logB L.last = x := ⟨_, rfl⟩
  have hlog : (⟨#[108, 111, 103, 45]⟩ : ByteArray) = logB := rfl
  by_cases hw0 : L.wants = 0
  · have hr : readyM S L = (0, S, L) := by unfold readyM; rw [if_pos hw0]
    rw [hr]
    simp [go_sem, hl]
    refine walName_exact.mono ?_
    rintro e s1 ⟨rfl, k1⟩
    have hg1 := k1 _ _ hl
    simp [go_sem, hg1, hw0]
    exact ⟨rfl, h.keep (k1.to fun _ => True) (by simp), hl0.new k1, k1.to _⟩
  · refine IW_assoc ?_
    refine IW_cut (fun E' s => E' 0 = ptr lp ∧ E' 4 = .string nm ∧ E' 3 = Val.i (readyA S L).1 ∧ FSAt s f (readyA S L).2 ∧ LogAt s lp f L ∧ Keep (OutL f lp) st s) ?_ ?_
    · simp [go_sem, hl]
      refine walName_exact.mono ?_
      rintro e s1 ⟨rfl, k1⟩
      have hg1 := k1 _ _ hl
      rw [hlog, hnme]
      simp [go_sem, hg1, hw0]
      have h1 : FSAt s1 f S := h.keep (k1.to fun _ => True) (by simp)
      have hl1 : LogAt s1 lp f L := hg1
      obtain ⟨ok1, ok2, ok3⟩ := ok
      by_cases hw3 : L.wants = 3
      · have hA : readyA S L = S.create nm := by unfold readyA; rw [if_pos hw3, hnme]
        rw [hA]
        simp only [hw3, if_true]
        refine (Create_spec h1 ok1).mono ?_
        rintro e s3 ⟨rfl, h3, k3⟩
        simp [go_sem]
        exact ⟨h3, hl1.keep hne k3, (k1.to _).trans fun k o g a b c => k3 k o g a b c.1⟩
      · by_cases hw2 : L.wants = 2
        · have hA : readyA S L = S.cutF nm L.end_ := by unfold readyA; rw [if_neg hw3, if_pos hw2, hnme]
          rw [hA]
          simp [go_sem, hw2]
          refine draw [0, 1, 2, 4, 5, 6, 7, 3, 8, 9, 10] (by kernel_rfl) ?_
          simp [go_sem, hg1]
          refine (Cut_spec h1 ok1).mono ?_
          rintro e s3 ⟨rfl, h3, k3⟩
          simp [go_sem]
          exact ⟨h3, hl1.keep hne k3, (k1.to _).trans fun k o g a b c => k3 k o g a b c.1⟩
        · have hA : readyA S L = (0, S) := by unfold readyA; rw [if_neg hw3, if_neg hw2]
          rw [hA]
          simp [go_sem, hw2, hw3]
          exact ⟨h1, hl1, k1.to _⟩
    · rintro E s ⟨e0, e4, e3, h1, hl1, kk⟩
      have hg1 := hl1
      unfold LogAt at hg1
      obtain ⟨ok1, ok2, ok3⟩ := ok
      obtain ⟨A, hA⟩ : ∃ A, readyA S L = A := ⟨_, rfl⟩
      have hr : readyM S L = (if A.1 ≠ 0 then (A.1, A.2, L) else if (A.2.syncF nm).1 ≠ 0 then ((A.2.syncF nm).1, (A.2.syncF nm).2, ⟨L.last, L.end_, 1⟩) else if (A.2.syncF nm).2.syncT.1 ≠ 0 then ((A.2.syncF nm).2.syncT.1, (A.2.syncF nm).2.syncT.2, ⟨L.last, L.end_, 1⟩) else (0, (A.2.syncF nm).2.syncT.2, ⟨L.last, L.end_, 0⟩)) := by
        unfold readyM
        rw [if_neg hw0, hA, hnme]
      rw [hr]
      rw [hA] at e3 h1 ok2 ok3
      rw [hnme] at ok2 ok3
      clear hr hA
      simp [go_sem, e0, e3, e4, hg1]
      by_cases ha : A.1 = 0
      · simp [go_sem, ha]
        have kp : ∀ o, Keep (OutL f lp) s (upd s lp o) := fun o => keepP hg1 (by intro hh; exact hh.2 _ _ rfl)
        have hup : ∀ {s : Heap} {L L' : LogD} {S : VFS}, LogAt s lp f L → FSAt s f S → FSAt (upd s lp (.cells true [ptr f, Val.i L'.last, Val.i L'.end_, Val.i L'.wants] 4 (.own lp 0 120))) f S := fun hl h => by
          unfold LogAt at hl
          refine h.keep (p := Out lp) (keepP hl (by intro hh; exact hh _ _ rfl)) ?_
          intro x r y s e
          injection e with e
          exact hne e.symm
        have h2 := hup (L' := ⟨L.last, L.end_, 1⟩) hl1 h1
        have hl2 : LogAt (upd s lp (.cells true [ptr f, Val.i L.last, Val.i L.end_, Val.i 1] 4 (.own lp 0 120))) lp f ⟨L.last, L.end_, 1⟩ := upd_same _ _ _
        have kk2 := kk.trans (kp (.cells true [ptr f, Val.i L.last, Val.i L.end_, Val.i 1] 4 (.own lp 0 120)))
        simp only at h2
        generalize upd s lp (.cells true [ptr f, Val.i L.last, Val.i L.end_, Val.i 1] 4 (.own lp 0 120)) = s2 at *
        refine (Sync_spec h2).mono ?_
        rintro e s3 ⟨rfl, h3, k3⟩
        have hl3 := hl2.keep hne k3
        have kk3 : Keep (OutL f lp) st s3 := kk2.trans fun k o g a b c => k3 k o g a b c.1
        have hg3 := hl3
        unfold LogAt at hg3
        simp [go_sem]
        by_cases hb : (A.2.syncF nm).1 = 0
        · simp [go_sem, hb, e0, hg3]
          refine (syncT_spec h3 ok2 ok3).mono ?_
          rintro e s4 ⟨rfl, h4, k4⟩
          have hl4 := hl3.keep hne k4
          have kk4 : Keep (OutL f lp) st s4 := kk3.trans fun k o g a b c => k4 k o g a b c.1
          have hg4 := hl4
          unfold LogAt at hg4
          simp [go_sem]
          by_cases hc : (A.2.syncF nm).2.syncT.1 = 0
          · simp [go_sem, hc, e0, hg4]
            exact ⟨rfl, hup (L' := ⟨L.last, L.end_, 0⟩) hl4 h4, upd_same _ _ _, kk4.trans (keepP hg4 (by intro hh; exact hh.2 _ _ rfl))⟩
          · simp [go_sem, hc]
            exact ⟨rfl, h4, hl4, kk4⟩
        · simp [go_sem, hb]
          exact ⟨rfl, h3, hl3, kk3⟩
      · simp [go_sem, ha, e3]
        exact ⟨rfl, h1, hl1, kk⟩
end
end Go.Proofs.YtadgciaclhjjkaaGreat
set_option linter.unusedVariables false
set_option linter.unusedSimpArgs false
set_option maxRecDepth 100000
set_option maxHeartbeats 2000000
namespace Go.Proofs.YtadgciaclhjjkaaGreat
open Go.RowKit (Below)
def fullL (S : VFS) (L : LogD) : Bool := decide (4096 ≤ ((getL S L.last).getD []).length)
def appT (S : VFS) (L : LogD) : Int × VFS × LogD := if fullL S L then turnM S L else (0, S, L)
def appE (S : VFS) (L : LogD) (b : Bs) : Int × VFS × LogD :=
  if (S.append (nameT logB L.last) b).1 ≠ 0 then ((S.append (nameT logB L.last) b).1, (S.append (nameT logB L.last) b).2, L)
  else (((S.append (nameT logB L.last) b).2.syncF (nameT logB L.last)).1, ((S.append (nameT logB L.last) b).2.syncF (nameT logB L.last)).2, L)
def appM (S : VFS) (L : LogD) (r : RcD) : Int × VFS × LogD :=
  if (appT S L).1 ≠ 0 then appT S L
  else if (recB r).length < 1 ∨ 1048576 < (recB r).length then (1, (appT S L).2)
  else appE (appT S L).2.1 (appT S L).2.2 (frameM (recB r))
structure AppOK (S : VFS) (L : LogD) (r : RcD) : Prop where
  files : ∀ F ∈ S.files, F.now.length < 2 ^ 40
  last : -2 ^ 62 < L.last ∧ L.last < 2 ^ 62
  turn : fullL S L = true → TurnOK S L
  small : (appT S L).2.1.small
  len : (recB r).length < 2 ^ 40
  flen : (frameM (recB r)).length < 2 ^ 40
section
variable {W0 : World} {st : Heap}
theorem readN_spec {f : Nat} {S : VFS} {L : LogD} {N5 : Nat} (h : FSAt st f S) (hs : ∀ F ∈ S.files, F.now.length < 2 ^ 40) (hN5 : ((getL S L.last).getD []).length = N5) : ICalls Tryz.prog W0 45 #[ptr f, .string (nameT logB L.last)] st fun e st' => New st st' ∧ ∃ b5 c5 e5, e = .returned (.tuple #[.slice b5 N5 c5, Val.i e5]) := by
  refine (Read_new h hs).mono ?_
  rintro e s3 ⟨k3, hm3⟩
  refine ⟨k3, ?_⟩
  cases hag : aget S.now (nameT logB L.last) with
  | none =>
    rw [hag] at hm3
    have hz : N5 = 0 := by rw [← hN5]; unfold getL; rw [hag]; rfl
    rw [hz]
    exact ⟨_, _, _, hm3⟩
  | some ix =>
    rw [hag] at hm3
    obtain ⟨F, b5, c5, hFi, he, _⟩ := hm3
    have hz : N5 = F.now.length := by rw [← hN5]; unfold getL; rw [hag]; simp [hFi]
    rw [hz]
    exact ⟨_, _, _, he⟩
theorem LogAppend_spec {f lp : Nat} {S : VFS} {L : LogD} {cs : List Value} {r : RcD} (h : FSAt st f S) (hl : LogAt st lp f L) (hR : RcAt st cs r) (hf : RcFits r) (hm : rcM r = true) (ok : AppOK S L r) : ICalls Tryz.prog W0 34 #[ptr lp, .agg cs.toArray] st (LogR f lp st (appM S L r)) := by
  have hne := hl.ne h
  have hl0 := hl
  unfold LogAt at hl
  have hlog : (⟨#[108, 111, 103, 45]⟩ : ByteArray) = logB := rfl
  obtain ⟨sq, kd, lb, ll, lc, a_, hb, hl_, hc, kb, kl, kc, n_, x_, lo, hi, ts, op, w1, w2, vb, vl, vc, jb_, jl_, jc, fr, to, hform⟩ := hR.eighteen
  subst hform
  refine enter (args := [_, _]) Tryz.func34 rfl ?_
  simp [Tryz.f34, go_sem]
  unfold NewP
  intro t3 ht3
  refine ⟨.ty 1, ?_⟩
  obtain ⟨rcs, hrcs⟩ : ∃ x, [Val.i sq, Val.i kd, Value.slice lb ll lc, Val.i a_, Value.slice hb hl_ hc, Value.slice kb kl kc, Val.u n_, Val.u x_, Val.u lo, Val.u hi, Val.i ts, Val.i op, Value.string w1, Value.string w2, Value.slice vb vl vc, Value.slice jb_ jl_ jc, Val.i fr, Val.i to] = x := ⟨_, rfl⟩
  have hrl : rcs.length = 18 := by subst hrcs; rfl
  rw [hrcs] at hR ⊢
  have k1 := (New.refl st).add (b := t3) (o := .cells true rcs 18 (.ty 1)) ht3
  have g3 := upd_same st t3 (.cells true rcs 18 (.ty 1))
  simp [go_sem, hrl]
  generalize upd st t3 (.cells true rcs 18 (.ty 1)) = s1 at *
  have hg1 := k1 _ _ hl
  have h1 : FSAt s1 f S := h.keep (k1.to fun _ => True) (by simp)
  have hR1 := hR.new k1
  obtain ⟨N5, hN5⟩ : ∃ x, ((getL S L.last).getD []).length = x := ⟨_, rfl⟩
  generalize hE0 : (Env.set _ _ _ : Env) = E0
  have f0 : E0 0 = ptr lp := by subst hE0; simp [go_sem]
  have f3 : E0 3 = ptr t3 := by subst hE0; simp [go_sem]
  clear hE0
  refine drawV [0, 1, 2, 3, 4, 5, 6, 7, 8, 9, 10, 11, 12, 13, 14] (fun ix vx st' => match ix with
    | 0 | 1 | 4 | 5 => vx = ptr lp
    | 2 => vx = .pointer (some ⟨lp, 0, none⟩)
    | 3 => vx = ptr f
    | 6 => vx = .pointer (some ⟨lp, 1, none⟩)
    | 7 => vx = Val.i L.last
    | 8 => vx = .string (nameT logB L.last)
    | 9 | 10 => ∃ b5 c5 e5, vx = .tuple #[.slice b5 N5 c5, Val.i e5]
    | 11 | 13 => ∃ b5 c5, vx = .slice b5 N5 c5
    | 12 | 14 => ∃ e5, vx = Val.i e5
    | _ => True) (by kernel_rfl) (by kernel_rfl) ?_ ?_ ?_ ?_
  · intro ix vx sta stb hNw h
    match ix with
    | 0 => exact h
    | 1 => exact h
    | 2 => exact h
    | 3 => exact h
    | 4 => exact h
    | 5 => exact h
    | 6 => exact h
    | 7 => exact h
    | 8 => exact h
    | 9 => exact h
    | 10 => exact h
    | 11 => exact h
    | 12 => exact h
    | 13 => exact h
    | 14 => exact h
    | ix + 15 => exact h
  · intro ix oo hi E sta hNw hd hE
    match ix with
    | 0 =>
      have x0 := hE 0 (oldB_spec (by kernel_rfl))
      injection hi with hi; subst hi
      simp [wantedE, go_sem, x0, f0]
      exact New.refl _
    | 1 =>
      injection hi with hi; subst hi
      have d0 := hd { on := 0, ground := .data } (by simp) (by decide) _ _ rfl rfl
      simp only at d0
      simp [wantedE, go_sem, d0]
      exact New.refl _
    | 2 =>
      injection hi with hi; subst hi
      have d1 := hd { on := 1, ground := .data } (by simp) (by decide) _ _ rfl rfl
      simp only at d1
      simp [wantedE, go_sem, d1]
      exact New.refl _
    | 3 =>
      injection hi with hi; subst hi
      have d2 := hd { on := 2, ground := .data } (by simp) (by decide) _ _ rfl rfl
      simp only at d2
      have gt := hNw _ _ hg1
      simp [wantedE, go_sem, d2, gt]
      exact New.refl _
    | 4 =>
      have x0 := hE 0 (oldB_spec (by kernel_rfl))
      injection hi with hi; subst hi
      simp [wantedE, go_sem, x0, f0]
      exact New.refl _
    | 5 =>
      injection hi with hi; subst hi
      have d4 := hd { on := 4, ground := .data } (by simp) (by decide) _ _ rfl rfl
      simp only at d4
      simp [wantedE, go_sem, d4]
      exact New.refl _
    | 6 =>
      injection hi with hi; subst hi
      have d5 := hd { on := 5, ground := .data } (by simp) (by decide) _ _ rfl rfl
      simp only at d5
      simp [wantedE, go_sem, d5]
      exact New.refl _
    | 7 =>
      injection hi with hi; subst hi
      have d6 := hd { on := 6, ground := .data } (by simp) (by decide) _ _ rfl rfl
      simp only at d6
      have gt := hNw _ _ hg1
      simp [wantedE, go_sem, d6, gt]
      exact New.refl _
    | 8 =>
      injection hi with hi; subst hi
      have d7 := hd { on := 7, ground := .data } (by simp) (by decide) _ _ rfl rfl
      simp only at d7
      simp [wantedE, go_sem, d7]
      refine walName_exact.mono ?_
      rintro e stx ⟨rfl, h2⟩
      simp [go_sem, hlog]
      exact h2
    | 9 =>
      injection hi with hi; subst hi
      have d3 := hd { on := 3, ground := .data } (by simp) (by decide) _ _ rfl rfl
      have d8 := hd { on := 8, ground := .data } (by simp) (by decide) _ _ rfl rfl
      simp only at d3 d8
      simp [wantedE, go_sem, d3, d8]
      refine (readN_spec (h1.keep (hNw.to fun _ => True) (by simp)) ok.files hN5).mono ?_
      rintro e s3 ⟨k3, b5, c5, e5, rfl⟩
      simp [go_sem]
      exact k3
    | 10 =>
      injection hi with hi; subst hi
      have d9 := hd { on := 9, ground := .data } (by simp) (by decide) _ _ rfl rfl
      simp only at d9
      obtain ⟨b5, c5, e5, d9⟩ := d9
      simp [wantedE, go_sem, d9]
      exact New.refl _
    | 11 =>
      injection hi with hi; subst hi
      have d10 := hd { on := 10, ground := .data } (by simp) (by decide) _ _ rfl rfl
      simp only at d10
      obtain ⟨b5, c5, e5, d10⟩ := d10
      simp [wantedE, go_sem, d10]
      exact New.refl _
    | 12 =>
      injection hi with hi; subst hi
      have d10 := hd { on := 10, ground := .data } (by simp) (by decide) _ _ rfl rfl
      simp only at d10
      obtain ⟨b5, c5, e5, d10⟩ := d10
      simp [wantedE, go_sem, d10]
      exact New.refl _
    | 13 =>
      injection hi with hi; subst hi
      have d11 := hd { on := 11, ground := .data } (by simp) (by decide) _ _ rfl rfl
      simp only at d11
      obtain ⟨b5, c5, d11⟩ := d11
      simp [wantedE, go_sem, d11]
      exact New.refl _
    | 14 =>
      injection hi with hi; subst hi
      have d12 := hd { on := 12, ground := .data } (by simp) (by decide) _ _ rfl rfl
      simp only at d12
      obtain ⟨e5, d12⟩ := d12
      simp [wantedE, go_sem, d12]
      exact New.refl _
    | ix + 15 => simp at hi
  · intro E sta hNw hd hE
    obtain ⟨b5, c5, x5⟩ := hd 13 _ 5 rfl rfl
    obtain ⟨e5, x6⟩ := hd 14 _ 6 rfl rfl
    have y0 := (hE 0 (noB_spec (by kernel_rfl))).trans f0
    have y3 := (hE 3 (noB_spec (by kernel_rfl))).trans f3
    have hg3 := hNw _ _ hg1
    have gt3 := hNw _ _ g3
    have h3 : FSAt sta f S := h1.keep (hNw.to fun _ => True) (by simp)
    have hR3 := hR1.new hNw
    have K3 := k1.trans hNw
    rw [ThenI_normal]
    refine IW_assoc ?_
    refine IW_cut' (fun E' s => E' 0 = ptr lp ∧ (appT S L).1 = 0 ∧ ¬ ((recB r).length < 1 ∨ 1048576 < (recB r).length) ∧ FSAt s f (appT S L).2.1 ∧ LogAt s lp f (appT S L).2.2 ∧ (∃ v, E' 5 = v ∧ Vec s (.ty 1) 1 v (bytesV (frameM (recB r))) (frameM (recB r)).length) ∧ Keep (OutL f lp) st s) ?_ ?_
    · simp [go_sem, x5, x6, y0]
      by_cases hfu : 4096 ≤ N5
      · have hfu' : (4096 : Int) ≤ N5 := by omega
        simp only [hfu', if_true]
        have htk : rcs.take 18 = rcs := List.take_of_length_le (by omega)
        have hfull : fullL S L = true := by unfold fullL; rw [hN5]; simpa using hfu
        have hT : appT S L = turnM S L := by unfold appT; rw [if_pos hfull]
        refine (Turn_spec h3 hg3 ok.last (ok.turn hfull)).mono ?_
        rintro e s6 ⟨rfl, h6, l6, k6⟩
        rw [← hT] at h6 l6 ⊢
        have hKK : Keep (OutL f lp) st s6 := (K3.to _).trans k6
        have gt6 := k6 _ _ _ gt3 rfl ⟨by intro x r; simp, by intro x r; simp⟩
        have hR6 : RcAt s6 rcs r := RcAt.free (fun k o g a b c => k6 k o g a b ⟨fun x r => c _ _ _, fun x r => c _ _ _⟩) hR3
        simp [go_sem]
        by_cases hT0 : (appT S L).1 = 0
        · simp [go_sem, hT0, y3, gt6, hrl, htk]
          refine (putRec_spec (b := []) (g0 := .ty 1) Reg.nil hR6 hf hm (by simp)).mono ?_
          rintro e s4 ⟨v4, rfl, hV4, hF4, k4⟩
          obtain ⟨vb4, vc4, rfl⟩ := hV4.slice
          simp [go_sem]
          refine (framePut_spec (.ty 1) (b := []) (body := recB r) (g0 := .ty 1) (g1 := .ty 1) Reg.nil (by simpa using hV4.reg) (by simp) (by have := ok.len; omega)).mono ?_
          rintro e s5 ⟨k5, hm5⟩
          have k45 := k4.trans k5
          by_cases hbad : (recB r).length < 1 ∨ 1048576 < (recB r).length
          · rw [if_pos hbad] at hm5
            subst hm5
            simp [go_sem]
            have hA : appM S L r = (1, (appT S L).2) := by unfold appM; rw [if_neg (by simpa using hT0), if_pos hbad]
            rw [hA]
            exact ⟨rfl, h6.keep (k45.to fun _ => True) (by simp), l6.new k45, hKK.trans (k45.to _)⟩
          · rw [if_neg hbad] at hm5
            obtain ⟨v5, rfl, hV5, hF5⟩ := hm5
            simp [go_sem]
            exact ⟨y0, ⟨fun e => hbad (.inl (by rw [e]; simp)), by omega⟩, h6.keep (k45.to fun _ => True) (by simp), l6.new k45, by simpa using hV5, hKK.trans (k45.to _)⟩
        · simp [go_sem, hT0]
          have hA : appM S L r = appT S L := by unfold appM; rw [if_pos hT0]
          rw [hA]
          exact ⟨rfl, h6, l6, hKK⟩
      · have hfu' : ¬ (4096 : Int) ≤ N5 := by omega
        have hT : appT S L = (0, S, L) := by unfold appT fullL; rw [hN5]; simp [hfu]
        have htk : rcs.take 18 = rcs := List.take_of_length_le (by omega)
        have hT0 : (appT S L).1 = 0 := by rw [hT]
        have hFS : FSAt sta f (appT S L).2.1 := by rw [hT]; exact h3
        have hLG : LogAt sta lp f (appT S L).2.2 := by rw [hT]; exact hg3
        have hKK : Keep (OutL f lp) st sta := K3.to _
        simp [go_sem, hfu', y3, gt3, hrl, htk]
        refine (putRec_spec (b := []) (g0 := .ty 1) Reg.nil hR3 hf hm (by simp)).mono ?_
        rintro e s4 ⟨v4, rfl, hV4, hF4, k4⟩
        obtain ⟨vb4, vc4, rfl⟩ := hV4.slice
        simp [go_sem]
        refine (framePut_spec (.ty 1) (b := []) (body := recB r) (g0 := .ty 1) (g1 := .ty 1) Reg.nil (by simpa using hV4.reg) (by simp) (by have := ok.len; omega)).mono ?_
        rintro e s5 ⟨k5, hm5⟩
        have k45 := k4.trans k5
        by_cases hbad : (recB r).length < 1 ∨ 1048576 < (recB r).length
        · rw [if_pos hbad] at hm5
          subst hm5
          simp [go_sem]
          have hA : appM S L r = (1, (appT S L).2) := by unfold appM; rw [if_neg (by simpa using hT0), if_pos hbad]
          rw [hA]
          exact ⟨rfl, hFS.keep (k45.to fun _ => True) (by simp), hLG.new k45, hKK.trans (k45.to _)⟩
        · rw [if_neg hbad] at hm5
          obtain ⟨v5, rfl, hV5, hF5⟩ := hm5
          simp [go_sem]
          exact ⟨y0, hT0, ⟨fun e => hbad (.inl (by rw [e]; simp)), by omega⟩, hFS.keep (k45.to fun _ => True) (by simp), hLG.new k45, by simpa using hV5, hKK.trans (k45.to _)⟩
    · rintro E' s ⟨e0, ha, hlen, h4, hl4, ⟨v, e5', hV⟩, kk⟩
      have hg4 := hl4
      unfold LogAt at hg4
      simp [go_sem]
      have hM : appM S L r = appE (appT S L).2.1 (appT S L).2.2 (frameM (recB r)) := by unfold appM; rw [if_neg (by simpa using ha), if_neg hlen]
      rw [hM]
      have hsm := ok.small
      have hfl := ok.flen
      clear hM ok ha
      generalize (appT S L).2.1 = S1 at *
      generalize (appT S L).2.2 = L1 at *
      generalize frameM (recB r) = fb at *
      refine drawT 10 [0, 1, 2, 3, 4, 5, 6, 7, 8, 9, 10, 11] (fun ix vx st' => match ix with
        | 0 | 1 | 4 | 5 => vx = ptr lp
        | 2 => vx = .pointer (some ⟨lp, 0, none⟩)
        | 3 => vx = ptr f
        | 6 => vx = .pointer (some ⟨lp, 1, none⟩)
        | 7 => vx = Val.i L1.last
        | 8 => vx = .string (nameT logB L1.last)
        | 9 => vx = v
        | _ => True) (by kernel_rfl) (by kernel_rfl) (by kernel_rfl) (by decide) ?_ ?_ ?_ ?_
      · intro ix vx sta stb hNw h
        match ix with
        | 0 => exact h
        | 1 => exact h
        | 2 => exact h
        | 3 => exact h
        | 4 => exact h
        | 5 => exact h
        | 6 => exact h
        | 7 => exact h
        | 8 => exact h
        | 9 => exact h
        | ix + 10 => exact h
      · intro ix oo hin hi E sta hNw hd hE
        match ix with
        | 0 =>
          have x0 := hE 0 (oldT_spec (by kernel_rfl))
          injection hi with hi; subst hi
          simp [wantedE, go_sem, x0, e0]
          exact New.refl _
        | 1 =>
          injection hi with hi; subst hi
          have d0 := hd { on := 0, ground := .data } (by simp) (by decide) _ _ rfl rfl
          simp only at d0
          simp [wantedE, go_sem, d0]
          exact New.refl _
        | 2 =>
          injection hi with hi; subst hi
          have d1 := hd { on := 1, ground := .data } (by simp) (by decide) _ _ rfl rfl
          simp only at d1
          simp [wantedE, go_sem, d1]
          exact New.refl _
        | 3 =>
          injection hi with hi; subst hi
          have d2 := hd { on := 2, ground := .data } (by simp) (by decide) _ _ rfl rfl
          simp only at d2
          have gt := hNw _ _ hg4
          simp [wantedE, go_sem, d2, gt]
          exact New.refl _
        | 4 =>
          have x0 := hE 0 (oldT_spec (by kernel_rfl))
          injection hi with hi; subst hi
          simp [wantedE, go_sem, x0, e0]
          exact New.refl _
        | 5 =>
          injection hi with hi; subst hi
          have d4 := hd { on := 4, ground := .data } (by simp) (by decide) _ _ rfl rfl
          simp only at d4
          simp [wantedE, go_sem, d4]
          exact New.refl _
        | 6 =>
          injection hi with hi; subst hi
          have d5 := hd { on := 5, ground := .data } (by simp) (by decide) _ _ rfl rfl
          simp only at d5
          simp [wantedE, go_sem, d5]
          exact New.refl _
        | 7 =>
          injection hi with hi; subst hi
          have d6 := hd { on := 6, ground := .data } (by simp) (by decide) _ _ rfl rfl
          simp only at d6
          have gt := hNw _ _ hg4
          simp [wantedE, go_sem, d6, gt]
          exact New.refl _
        | 8 =>
          injection hi with hi; subst hi
          have d7 := hd { on := 7, ground := .data } (by simp) (by decide) _ _ rfl rfl
          simp only at d7
          simp [wantedE, go_sem, d7]
          refine walName_exact.mono ?_
          rintro e stx ⟨rfl, h2⟩
          simp [go_sem, hlog]
          exact h2
        | 9 =>
          have x5 := hE 5 (oldT_spec (by kernel_rfl))
          injection hi with hi; subst hi
          simp [wantedE, go_sem, x5, e5']
          exact New.refl _
        | ix + 10 => omega
      · intro E sta hNw hd hE
        have x42 := hd 3 _ 42 (by omega) rfl rfl
        have x47 := hd 8 _ 47 (by omega) rfl rfl
        have x48 := hd 9 _ 48 (by omega) rfl rfl
        simp only at x42 x47 x48
        have y0 := (hE 0 (noT_spec (by kernel_rfl))).trans e0
        simp [go_sem, x42, x47, x48]
        have h5 := h4.keep (hNw.to fun _ => True) (by simp)
        have hl5 := hl4.new hNw
        refine (Append_spec h5 hsm (hV.new' hNw).reg (by intro x r; simp) hfl).mono ?_
        rintro e s6 ⟨rfl, h6, k6⟩
        have hl6 := hl5.keep hne k6
        have kk6 : Keep (OutL f lp) st s6 := (kk.trans (hNw.to _)).trans fun k o g a b c => k6 k o g a b c.1
        have hg6 := hl6
        unfold LogAt at hg6
        by_cases ha : (S1.append (nameT logB L1.last) fb).1 = 0
        · have hA : appE S1 L1 fb = (((S1.append (nameT logB L1.last) fb).2.syncF (nameT logB L1.last)).1, ((S1.append (nameT logB L1.last) fb).2.syncF (nameT logB L1.last)).2, L1) := by unfold appE; exact if_neg fun h => h ha
          rw [hA]
          simp [go_sem, ha]
          generalize hE7 : (Env.set _ _ _ : Env) = E7
          have z0 : E7 0 = ptr lp := by subst hE7; simp [go_sem, y0]
          clear hE7
          refine drawT 9 [0, 1, 2, 3, 4, 5, 6, 7, 8, 9, 10] (fun ix vx st' => match ix with
            | 0 | 1 | 4 | 5 => vx = ptr lp
            | 2 => vx = .pointer (some ⟨lp, 0, none⟩)
            | 3 => vx = ptr f
            | 6 => vx = .pointer (some ⟨lp, 1, none⟩)
            | 7 => vx = Val.i L1.last
            | 8 => vx = .string (nameT logB L1.last)
            | _ => True) (by kernel_rfl) (by kernel_rfl) (by kernel_rfl) (by decide) ?_ ?_ ?_ ?_
          · intro ix vx sta stb hNw h
            match ix with
            | 0 => exact h
            | 1 => exact h
            | 2 => exact h
            | 3 => exact h
            | 4 => exact h
            | 5 => exact h
            | 6 => exact h
            | 7 => exact h
            | 8 => exact h
            | ix + 9 => exact h
          · intro ix oo hin hi E sta hNw hd hE
            match ix with
            | 0 =>
              have x0 := hE 0 (oldT_spec (by kernel_rfl))
              injection hi with hi; subst hi
              simp [wantedE, go_sem, x0, z0]
              exact New.refl _
            | 1 =>
              injection hi with hi; subst hi
              have d0 := hd { on := 0, ground := .data } (by simp) (by decide) _ _ rfl rfl
              simp only at d0
              simp [wantedE, go_sem, d0]
              exact New.refl _
            | 2 =>
              injection hi with hi; subst hi
              have d1 := hd { on := 1, ground := .data } (by simp) (by decide) _ _ rfl rfl
              simp only at d1
              simp [wantedE, go_sem, d1]
              exact New.refl _
            | 3 =>
              injection hi with hi; subst hi
              have d2 := hd { on := 2, ground := .data } (by simp) (by decide) _ _ rfl rfl
              simp only at d2
              have gt := hNw _ _ hg6
              simp [wantedE, go_sem, d2, gt]
              exact New.refl _
            | 4 =>
              have x0 := hE 0 (oldT_spec (by kernel_rfl))
              injection hi with hi; subst hi
              simp [wantedE, go_sem, x0, z0]
              exact New.refl _
            | 5 =>
              injection hi with hi; subst hi
              have d4 := hd { on := 4, ground := .data } (by simp) (by decide) _ _ rfl rfl
              simp only at d4
              simp [wantedE, go_sem, d4]
              exact New.refl _
            | 6 =>
              injection hi with hi; subst hi
              have d5 := hd { on := 5, ground := .data } (by simp) (by decide) _ _ rfl rfl
              simp only at d5
              simp [wantedE, go_sem, d5]
              exact New.refl _
            | 7 =>
              injection hi with hi; subst hi
              have d6 := hd { on := 6, ground := .data } (by simp) (by decide) _ _ rfl rfl
              simp only at d6
              have gt := hNw _ _ hg6
              simp [wantedE, go_sem, d6, gt]
              exact New.refl _
            | 8 =>
              injection hi with hi; subst hi
              have d7 := hd { on := 7, ground := .data } (by simp) (by decide) _ _ rfl rfl
              simp only at d7
              simp [wantedE, go_sem, d7]
              refine walName_exact.mono ?_
              rintro e stx ⟨rfl, h2⟩
              simp [go_sem, hlog]
              exact h2
            | ix + 9 => omega
          · intro E sta hNw hd hE
            have x56 := hd 3 _ 56 (by omega) rfl rfl
            have x61 := hd 8 _ 61 (by omega) rfl rfl
            simp only at x56 x61
            simp [go_sem, x56, x61]
            refine (Sync_spec (h6.keep (hNw.to fun _ => True) (by simp))).mono ?_
            rintro e s8 ⟨rfl, h8, k8⟩
            simp [go_sem]
            exact ⟨rfl, h8, (hl6.new hNw).keep hne k8, (kk6.trans (hNw.to _)).trans fun k o g a b c => k8 k o g a b c.1⟩
          · intro j oj hj
            match j with
            | 0 | 1 | 2 | 3 | 4 | 5 | 6 | 7 | 8 | 9 | 10 => simp at hj; subst hj; decide
            | j + 11 => simp at hj
        · have hA : appE S1 L1 fb = ((S1.append (nameT logB L1.last) fb).1, (S1.append (nameT logB L1.last) fb).2, L1) := by unfold appE; exact if_pos ha
          rw [hA]
          simp [go_sem, ha]
          exact ⟨rfl, h6, hl6, kk6⟩
      · intro j oj hj
        match j with
        | 0 | 1 | 2 | 3 | 4 | 5 | 6 | 7 | 8 | 9 | 10 | 11 => simp at hj; subst hj; decide
        | j + 12 => simp at hj
  · intro j oj hj
    match j with
    | 0 | 1 | 2 | 3 | 4 | 5 | 6 | 7 | 8 | 9 | 10 | 11 | 12 | 13 | 14 => simp at hj; subst hj; decide
    | j + 15 => simp at hj
end
end Go.Proofs.YtadgciaclhjjkaaGreat
set_option linter.unusedVariables false
set_option linter.unusedSimpArgs false
set_option maxRecDepth 100000
set_option maxHeartbeats 1000000
namespace Go.Proofs.YtadgciaclhjjkaaGreat
open Go.RowKit (Below)
theorem frameM_len (body : Bs) (h : body.length ≤ 1048576) : body.length + 5 ≤ (frameM body).length ∧ (frameM body).length ≤ body.length + 14 := by
  have h2 := vputM_len body.length (by omega)
  unfold frameM le4
  simp only [List.length_append, List.length_cons, List.length_nil]
  omega
theorem frame_at {B body : Bs} {a : Nat} (h1 : 1 ≤ body.length) (h2 : body.length ≤ 1048576) (hp : Pre (frameM body) B a) (ha : a ≤ B.length) : frameGetM B a = .ok (body, a + (frameM body).length) := by
  have hc := crcM_lt body
  have hlen := hp.len ha
  unfold frameM at hp
  obtain ⟨hp1, hp2⟩ := hp.split
  obtain ⟨hp3, hp4⟩ := hp2.split
  have hl4 : (le4 (crcM body)).length = 4 := rfl
  have hv := vget_put (a := a) (n := body.length) (by omega) hp1
  have hfl : (frameM body).length = (vputM body.length).length + 4 + body.length := by unfold frameM; simp only [List.length_append, hl4]; omega
  have hvl := vputM_len body.length (by omega)
  rw [hl4] at hp4
  unfold frameGetM
  rw [if_neg (by omega), if_neg (by omega)]
  rw [hv]
  simp only
  rw [if_neg (by omega)]
  have e1 : (B.drop (a + (vputM body.length).length + 4)).take body.length = body := by
    obtain ⟨u, hu⟩ := hp4
    rw [← hu, List.take_left]
  have e2 : (B.drop (a + (vputM body.length).length)).take 4 = le4 (crcM body) := by
    obtain ⟨u, hu⟩ := hp3
    rw [← hu, show (4 : Nat) = (le4 (crcM body)).length from rfl, List.take_left]
  rw [e1, e2, le4_back hc]
  simp
  omega
/-- The beginning of a frame, without its end. -/
def Torn (t : Bs) : Prop := ∃ body : Bs, body.length ≤ 1048576 ∧ t <+: frameM body ∧ t.length < (frameM body).length
theorem Torn.nil : Torn [] := ⟨[], by simp, List.nil_prefix, by have := frameM_len [] (by simp); simp at this; simp; omega⟩
theorem torn_none {B t : Bs} {a : Nat} (ht : Torn t) (hd : B.drop a = t) (ha : a ≤ B.length) : ∃ k, frameGetM B a = .error k := by
  cases h : frameGetM B a with
  | error k => exact ⟨k, rfl⟩
  | ok p =>
    obtain ⟨x, e⟩ := p
    obtain ⟨hs, h1, h2⟩ := frame_canon h
    obtain ⟨body, hb, htp, htl⟩ := ht
    obtain ⟨s0, s1, s2, s3⟩ := hs
    simp only [Int.toNat_natCast] at s3
    have hpre : frameM x <+: t := by rw [← hd, ← s3]; exact List.take_prefix _ _
    have h4 := frame_eq (by omega) (by omega) (hpre.trans htp)
    have h5 := hpre.length_le
    rw [h4] at h5
    omega
theorem frames_cat : ∀ (bodies : List Bs) {B t : Bs} {a k : Nat}, B.drop a = bodies.flatMap frameM ++ t → a ≤ B.length → (∀ b ∈ bodies, 1 ≤ b.length ∧ b.length ≤ 1048576) → Torn t → bodies.length < k → framesM k B a = (bodies, ((a + (bodies.flatMap frameM).length : Nat) : Int))
  | [], B, t, a, k, hd, ha, _, ht, hk => by
    obtain ⟨k, rfl⟩ : ∃ j, k = j + 1 := ⟨k - 1, by simp at hk; omega⟩
    obtain ⟨x, hx⟩ := torn_none (a := a) ht (by simpa using hd) ha
    unfold framesM
    rw [hx]
    simp
  | b :: bs, B, t, a, k, hd, ha, hb, ht, hk => by
    obtain ⟨k, rfl⟩ : ∃ j, k = j + 1 := ⟨k - 1, by simp at hk; omega⟩
    have h1 := hb b (by simp)
    have hp : Pre (frameM b) B a := ⟨bs.flatMap frameM ++ t, by rw [hd]; simp⟩
    have hl := hp.len ha
    have hg := frame_at h1.1 h1.2 hp ha
    have ih := frames_cat bs (B := B) (t := t) (a := a + (frameM b).length) (k := k) (by rw [← List.drop_drop, hd]; simp) hl (fun x hx => hb x (by simp [hx])) ht (by simp at hk; omega)
    unfold framesM
    rw [hg]
    simp only
    rw [ih]
    simp
    omega
theorem log_frames {bodies : List Bs} {t : Bs} (hb : ∀ b ∈ bodies, 1 ≤ b.length ∧ b.length ≤ 1048576) (ht : Torn t) : bodiesM (bodies.flatMap frameM ++ t) = bodies ∧ endsM (bodies.flatMap frameM ++ t) = (bodies.flatMap frameM).length := by
  have hlen : bodies.length ≤ (bodies.flatMap frameM).length := by
    clear ht
    induction bodies with
    | nil => simp
    | cons b bs ih =>
      have := ih fun x hx => hb x (by simp [hx])
      have := frameM_len b (hb b (by simp)).2
      simp only [List.flatMap_cons, List.length_append, List.length_cons]
      omega
  have h := frames_cat bodies (B := bodies.flatMap frameM ++ t) (t := t) (a := 0) (k := (bodies.flatMap frameM ++ t).length + 1) (by simp) (by simp) hb ht (by rw [List.length_append]; omega)
  unfold bodiesM endsM
  have h' : framesM ((bodies.flatMap frameM ++ t).length + 1) (bodies.flatMap frameM ++ t) 0 = _ := h
  rw [h']
  simp
/-! ### Records -/
def recF (r : RcD) : Bs := frameM (recB r)
def encL (rs : List RcD) : Bs := rs.flatMap recF
structure RcGood (r : RcD) : Prop where
  fits : RcFits r
  rc : rcM r = true
  pos : 1 ≤ (recB r).length
  len : (recB r).length ≤ 1048576
theorem encL_eq (rs : List RcD) : encL rs = (rs.map recB).flatMap frameM := by
  unfold encL recF
  rw [List.flatMap_map]
theorem encL_snoc (rs : List RcD) (r : RcD) : encL (rs ++ [r]) = encL rs ++ recF r := by unfold encL; simp
theorem log_torn {rs : List RcD} {t : Bs} (h : ∀ r ∈ rs, RcGood r) (ht : Torn t) : bodiesM (encL rs ++ t) = rs.map recB ∧ endsM (encL rs ++ t) = (encL rs).length := by
  rw [encL_eq]
  exact log_frames (fun b hb => by obtain ⟨r, hr, rfl⟩ := List.mem_map.1 hb; exact ⟨(h r hr).pos, (h r hr).len⟩) ht
theorem recsM_map : ∀ {rs : List RcD}, (∀ r ∈ rs, RcGood r) → recsM (rs.map recB) = some (rs.map plainR)
  | [], _ => rfl
  | r :: rs, h => by
    rw [List.map_cons, recsM, rec_put (h r (by simp)).fits (h r (by simp)).rc, recsM_map fun x hx => h x (by simp [hx])]
    rfl
/-- What a log's files hold: full ones, the last one's records, and what is torn. -/
def filesL (rss : List (List RcD)) (rs : List RcD) (t : Bs) : List Bs := rss.map encL ++ [encL rs ++ t]
theorem filesL_length (rss : List (List RcD)) (rs : List RcD) (t : Bs) : (filesL rss rs t).length = rss.length + 1 := by simp [filesL]
theorem openGo_torn {get : Int → Option Bs} {k : Nat} {n : Int} {L : LogD} {q : List RcD} (h : get n = none) : openGo get k n L q = some (L, q) := by
  cases k with
  | zero => rfl
  | succ k => rw [openGo, h]
theorem openGo_some {get : Int → Option Bs} {rs : List RcD} {t : Bs} (hrs : ∀ r ∈ rs, RcGood r) (ht : Torn t) : ∀ (rss : List (List RcD)) (k : Nat) (n : Int) (L : LogD) (q : List RcD), (∀ i : Nat, get (n + i) = (filesL rss rs t)[i]?) → (∀ l ∈ rss, ∀ r ∈ l, RcGood r) → rss.length < k → L.wants ≠ 2 →
    openGo get k n L q = some (⟨n + rss.length, (encL rs).length, if t = [] then 1 else 2⟩, q ++ (rss.flatten ++ rs).map plainR)
  | [], k, n, L, q, hg, _, hk, hw => by
    obtain ⟨k, rfl⟩ : ∃ j, k = j + 1 := ⟨k - 1, by simp at hk; omega⟩
    have h0 := hg 0
    have h1 := hg 1
    simp [filesL] at h0 h1
    obtain ⟨hb, he⟩ := log_torn hrs ht
    rw [openGo, h0]
    simp only
    rw [if_neg hw, hb, recsM_map hrs]
    simp only
    rw [openGo_torn (by simpa using h1), he]
    simp
    by_cases htn : t = []
    · simp [htn]
    · have : t.length ≠ 0 := by simpa using htn
      simp [htn]
      omega
  | l :: rss, k, n, L, q, hg, hgood, hk, hw => by
    obtain ⟨k, rfl⟩ : ∃ j, k = j + 1 := ⟨k - 1, by simp at hk; omega⟩
    have h0 := hg 0
    simp [filesL] at h0
    have hl := hgood l (by simp)
    obtain ⟨hb, he⟩ := log_torn hl Torn.nil
    rw [List.append_nil] at hb he
    rw [openGo, h0]
    simp only
    rw [if_neg hw, hb, recsM_map hl]
    simp only
    rw [he, if_pos rfl, openGo_some hrs ht rss k (n + 1) _ _ (fun i => by
      have := hg (i + 1)
      simp [filesL] at this
      rw [show n + ((i : Int) + 1) = n + 1 + i by omega] at this
      rw [this]
      simp [filesL]) (fun x hx => hgood x (by simp [hx])) (by simp at hk; omega) (by simp)]
    simp
    omega
end Go.Proofs.YtadgciaclhjjkaaGreat
