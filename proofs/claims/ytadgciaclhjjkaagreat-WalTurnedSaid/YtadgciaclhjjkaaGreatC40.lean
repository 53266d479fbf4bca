/- Code that holds ranges over functions: its parts, what follows kept closed. -/
import Derived.Test.YtadgciaclhjjkaaGreatC24
import Derived.Test.YtadgciaclhjjkaaGreatC18
set_option linter.unusedVariables false
set_option linter.unusedSimpArgs false
namespace Go.Proofs.YtadgciaclhjjkaaGreat
open Go.RowKit (Below)
def ThenR (P : Program) (W0 : World) (N : Nat) (y : Code) (Q : MPost) : MPost
  | .normal, E, M, st => IWR P W0 N y Q E M st
  | e, E, M, st => Q e E M st
def BlockR (id : Nat) (Q : MPost) : MPost
  | .exit id', E, M, st => if id' = id then Q .normal E M st else Q (.exit id') E M st
  | e, E, M, st => Q e E M st
/-- A region's end. -/
def EndR (Q : MPost) (M : List Nat) : IPost := fun e E st => Q e E M st
section
variable {P : Program} {W0 : World} {N : Nat} {Q : MPost} {E : Env} {M : List Nat} {st : Heap}
theorem IWR_seq' (x y : Code) : IWR P W0 N (.seq x y) Q E M st = IWR P W0 N x (ThenR P W0 N y Q) E M st := by
  rw [IWR_seq]
  congr 1
  funext e E' M' st'
  cases e <;> rfl
theorem IWR_block' (id : Nat) (c : Code) : IWR P W0 N (.block id c) Q E M st = IWR P W0 N c (BlockR id Q) E M st := by
  rw [IWR_block]
  congr 1
  funext e E' M' st'
  cases e <;> rfl
theorem IWR_region' (id : Nat) (l : List Oper) : IWR P W0 N (.region id l.toArray false) Q E M st = IL P W0 l.toArray (EndR Q M) (fun _ _ => False) l E st := (rfl)
theorem ThenR_normal (y : Code) : ThenR P W0 N y Q .normal E M st = IWR P W0 N y Q E M st := (rfl)
theorem ThenR_ret (y : Code) : ThenR P W0 N y Q .ret E M st = Q .ret E M st := (rfl)
theorem ThenR_exit (y : Code) (i : Nat) : ThenR P W0 N y Q (.exit i) E M st = Q (.exit i) E M st := (rfl)
theorem BlockR_normal (id : Nat) : BlockR id Q .normal E M st = Q .normal E M st := (rfl)
theorem BlockR_ret (id : Nat) : BlockR id Q .ret E M st = Q .ret E M st := (rfl)
theorem BlockR_exit (id i : Nat) : BlockR id Q (.exit i) E M st = if i = id then Q .normal E M st else Q (.exit i) E M st := (rfl)
theorem EndR_any (e : Exit) : EndR Q M e E st = Q e E M st := (rfl)
theorem RetI_cells3 {R : Ending → Heap → Prop} {a b c : Nat} {t u s : TypeId} (h : loadY (tyInfo P t) (E a) (fun v _ => loadY (tyInfo P u) (E b) (fun w _ => loadY (tyInfo P s) (E c) (fun z _ => R (.returned (.tuple #[v, w, z])) st) st) st) st) : RetI P #[.cell a t, .cell b u, .cell c s] R .ret E st := by
  obtain ⟨ad, x, hv, hl, hk⟩ := loadY_out h
  obtain ⟨ad', x', hv', hl', hk'⟩ := loadY_out hk
  obtain ⟨ad'', x'', hv'', hl'', hk''⟩ := loadY_out hk'
  simp [RetI, resS, wpS_bind, hv, hv', hv'', wpS_asAddr, wpS_pure]
  refine wpS_loadVar hl ?_
  refine wpS_loadVar hl' ?_
  rw [wpS_map']
  refine wpS_loadVar hl'' ?_
  simpa using hk''
theorem RetM_cells3 {R : Ending → Heap → Prop} {a b c : Nat} {t u s : TypeId} (hnd : M.Nodup) (hD : ∀ D ∈ M, st D = some (.other (.deferred (some [])))) (h : loadY (tyInfo P t) (E a) (fun v _ => loadY (tyInfo P u) (E b) (fun w _ => loadY (tyInfo P s) (E c) (fun z _ => R (.returned (.tuple #[v, w, z])) (shutM M st)) (shutM M st)) (shutM M st)) (shutM M st)) : RetM P #[.cell a t, .cell b u, .cell c s] R .ret E M st := ⟨hnd, hD, RetI_cells3 h⟩
theorem shutM_ne {b : Nat} : ∀ {M : List Nat} {st : Heap}, b ∉ M → shutM M st b = st b
  | [], st, _ => rfl
  | D :: M, st, h => by
    simp only [List.mem_cons, not_or] at h
    rw [shutM, shutM_ne h.2, upd_ne _ _ (by first | exact h.1 | exact Ne.symm h.1)]
theorem shutM_new {st0 : Heap} : ∀ {M : List Nat} {st : Heap}, (∀ D ∈ M, st0 D = none) → New st0 st → New st0 (shutM M st)
  | [], st, _, hk => hk
  | D :: M, st, h, hk => by
    rw [shutM]
    refine shutM_new (fun D' hD' => h D' (by simp [hD'])) ?_
    exact hk.put (h D (by simp))
end
end Go.Proofs.YtadgciaclhjjkaaGreat
