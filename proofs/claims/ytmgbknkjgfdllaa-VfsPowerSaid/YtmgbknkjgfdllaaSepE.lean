/- What is shown of a part of code serves all that comes behind: cuts. Plain theorems, over any program. -/
import Derived.Test.YtmgbknkjgfdllaaSepP
set_option linter.unusedVariables false
set_option linter.unusedSimpArgs false
namespace Go.Proofs.Ytmgbknkjgfdllaa
open Go.RowKit (Below)

section
variable {P : Program} {W0 : World} {E : Env} {K K' : Value → Heap → Prop} {Kp : List PanicEntry → Heap → Prop} {st : Heap}
theorem rangeX_mono {x : Value} (hk : ∀ v st, K v st → K' v st) (h : rangeX x K st) : rangeX x K' st := by
  unfold rangeX at *
  split at h
  · obtain ⟨g, es, h1, h2⟩ := h
    exact ⟨g, es, h1, fun a b c d e => hk _ _ (h2 a b c d e)⟩
  · exact h.elim
theorem nextX_mono {x : Value} (hk : ∀ v st, K v st → K' v st) (h : nextX x K st) : nextX x K' st := by
  unfold nextX at *
  split at h
  · obtain ⟨m, ents, clock, seen, g, es, h1, h2, h3, h4, h5⟩ := h
    exact ⟨m, ents, clock, seen, g, es, h1, h2, h3, fun a => hk _ _ (h4 a), fun a b c => hk _ _ (h5 a b c)⟩
  · exact h.elim
theorem entryX_mono {x : Value} (hk : ∀ v st, K v st → K' v st) (h : entryX x K st) : entryX x K' st := by
  unfold entryX at *
  split at h
  · obtain ⟨m, ents, clock, since, seen, e, h1, h2, h3, h4, h5⟩ := h
    exact ⟨m, ents, clock, since, seen, e, h1, h2, h3, h4, hk _ _ h5⟩
  · exact h.elim
theorem opX_imp {o : Oper} (hk : ∀ v st, K v st → K' v st) (h : opX P W0 o E K Kp st) : opX P W0 o E K' Kp st := by
  by_cases hc : clsR P o.op ≤ 3
  · exact opX_mono hc (fun v st' _ => hk v st') (fun _ _ => id) h
  · obtain ⟨dst, op, type, pos, after, guard⟩ := o
    cases op
    case range t x => exact ⟨h.1, rangeX_mono hk h.2⟩
    case next x b =>
      cases b
      · exact nextX_mono hk h
      · exact opW_mono hk (fun _ _ => id) h
    case entry x => exact entryX_mono hk h
    case call c =>
      obtain ⟨callee, args, ts⟩ := c
      cases callee with
      | value f => exact absurd (by simp [clsR]) hc
      | invoke => exact opW_mono hk (fun _ _ => id) h
      | builtin b =>
        cases b <;> first | (exfalso; refine hc ?_; simp [clsR]; done) | (simp only [opX] at h; unfold builtinY at h; split at h <;> first | exact h.elim | contradiction)
    case makeMap t n =>
      cases n
      · exact absurd (by simp [clsR]) hc
      · exact opW_mono hk (fun _ _ => id) h
    all_goals first
      | (exfalso; refine hc ?_; simp [clsR]; done)
      | (exfalso; refine hc ?_; simp only [clsR]; split <;> decide)
      | exact opW_mono hk (fun _ _ => id) h
theorem IL_imp {ops : Array Oper} {Q Q' : IPost} (hq : ∀ e E st, Q e E st → Q' e E st) : ∀ (l : List Oper) (E : Env) (st : Heap), IL P W0 ops Q Kp l E st → IL P W0 ops Q' Kp l E st
  | [], E, st, h => hq _ _ _ h
  | o :: rest, E, st, h => by
    unfold IL at h ⊢
    cases hw : wantedE ops o E with
    | true => rw [hw] at h; simp only [cond_true] at h ⊢; exact opX_imp (fun v st' hk => IL_imp hq rest _ _ hk) h
    | false => rw [hw] at h; simp only [cond_false] at h ⊢; exact IL_imp hq rest _ _ h
theorem IAny_imp {ops : Array Oper} {Q Q' : IPost} (hq : ∀ e E st, Q e E st → Q' e E st) : ∀ (fuel : Nat) (listed : Array Bool) (E : Env) (st : Heap), IAny P W0 ops Q Kp fuel listed E st → IAny P W0 ops Q' Kp fuel listed E st
  | 0, listed, E, st, h => ⟨h.1, hq _ _ _ h.2⟩
  | fuel + 1, listed, E, st, h => ⟨fun hr => hq _ _ _ (h.1 hr), fun i hi => by
    have h2 := h.2 i hi
    unfold IOp at h2 ⊢
    split
    · rename_i ho; rw [ho] at h2; exact IAny_imp hq fuel _ _ _ h2
    · rename_i o ho
      rw [ho] at h2
      simp only at h2
      cases hw : wantedE ops o E with
      | true => rw [hw] at h2; simp only [cond_true] at h2 ⊢; exact opX_imp (fun v st' hk => IAny_imp hq fuel _ _ _ hk) h2
      | false => rw [hw] at h2; simp only [cond_false] at h2 ⊢; exact IAny_imp hq fuel _ _ _ h2⟩
theorem IW_imp (c : Code) : ∀ {Q Q' : IPost} {Kp : PPost} {E : Env} {st : Heap}, (∀ e E st, Q e E st → Q' e E st) → IW P W0 c Q Kp E st → IW P W0 c Q' Kp E st := by
  induction c with
  | skip => exact fun hq h => hq _ _ _ h
  | region id ops draw =>
    intro Q Q' Kp E st hq h
    cases draw with
    | true => exact IAny_imp hq _ _ _ _ h
    | false => exact IL_imp hq _ _ _ h
  | seq x y ihx ihy =>
    intro Q Q' Kp E st hq h
    refine ihx ?_ h
    intro e E st h'
    cases e <;> first | exact ihy hq h' | exact hq _ _ _ h'
  | cond c x y ihx ihy =>
    intro Q Q' Kp E st hq h
    unfold IW at h ⊢
    split at h
    · rename_i t ht
      try rw [ht]
      try simp only
      split at h
      · rename_i ht'; rw [if_pos ht']; exact ihx hq h
      · rename_i ht'; rw [if_neg ht']; exact ihy hq h
    · exact h.elim
  | block id c ih =>
    intro Q Q' Kp E st hq h
    refine ih ?_ h
    intro e E st h'
    cases e
    case exit i =>
      simp only [BlockI] at h' ⊢
      split at h'
      · rename_i hh; rw [if_pos hh]; exact hq _ _ _ h'
      · rename_i hh; rw [if_neg hh]; exact hq _ _ _ h'
    all_goals exact hq _ _ _ h'
  | loop c ih =>
    intro Q Q' Kp E st hq h
    obtain ⟨I, μ, h1, h2⟩ := h
    refine ⟨I, μ, h1, fun E st hI => ih ?_ (h2 E st hI)⟩
    intro e E st h'
    cases e <;> first | exact h' | exact hq _ _ _ h'
  | exit id => exact fun hq h => hq _ _ _ h
  | ret => exact fun hq h => hq _ _ _ h
  | label l => exact fun hq h => hq _ _ _ h
  | goto l => exact fun hq h => hq _ _ _ h
  | scope c ih =>
    intro Q Q' Kp E st hq h
    refine ih ?_ h
    intro e E st h'
    cases e <;> first | exact h' | exact hq _ _ _ h'
  | rangeFunc f params assign body _ _ => exact fun _ h => h.elim
  | refuse why => exact fun _ h => h.elim
/-- What stands ahead leaves R; from R on all goes well. -/
theorem IW_cut {x y : Code} {Q : IPost} {Kp : PPost} {E : Env} {st : Heap} (R : Env → Heap → Prop) (h1 : IW P W0 x (fun e E' st' => e = .normal ∧ R E' st') Kp E st) (h2 : ∀ E' st', R E' st' → IW P W0 y Q Kp E' st') : IW P W0 (.seq x y) Q Kp E st := by
  show IW P W0 x (ThenI (IW P W0 y Q Kp) Q) Kp E st
  refine IW_imp x ?_ h1
  rintro e E' st' ⟨rfl, hR⟩
  exact h2 E' st' hR
/-- The same, where it may leave early, too. -/
theorem IW_cut' {x y : Code} {Q : IPost} {Kp : PPost} {E : Env} {st : Heap} (R : Env → Heap → Prop) (h1 : IW P W0 x (fun e E' st' => (e = .normal ∧ R E' st') ∨ (e ≠ .normal ∧ Q e E' st')) Kp E st) (h2 : ∀ E' st', R E' st' → IW P W0 y Q Kp E' st') : IW P W0 (.seq x y) Q Kp E st := by
  show IW P W0 x (ThenI (IW P W0 y Q Kp) Q) Kp E st
  refine IW_imp x ?_ h1
  rintro e E' st' (⟨rfl, hR⟩ | ⟨hn, hQ⟩)
  · exact h2 E' st' hR
  · cases e <;> first | exact absurd rfl hn | exact hQ
end
end Go.Proofs.Ytmgbknkjgfdllaa
