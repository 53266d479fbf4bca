/- Results that lie in cells. Plain theorems, over any program. -/
import Derived.Test.YtmgbknkjgfdllaaSepS
set_option linter.unusedVariables false
set_option linter.unusedSimpArgs false
namespace Go.Proofs.Ytmgbknkjgfdllaa
section
variable {P : Program} {R : Ending → Heap → Prop} {E : Env} {st : Heap}
theorem loadY_out {t : TypeId} {v : Value} {K : Value → Heap → Prop} (h : loadY (tyInfo P t) v K st) : ∃ a x, v = .pointer (some a) ∧ ldV P t st a = some x ∧ K x st := by
  unfold loadY at h
  split at h
  · rename_i n a hi
    obtain ⟨u, hu, h⟩ := optK_iff.1 (optS_iff.1 h)
    exact ⟨a, u, rfl, by unfold ldV; rw [hi]; exact hu, h⟩
  · rename_i n a hi
    obtain ⟨u, hu, h⟩ := optK_iff.1 (optS_iff.1 h)
    exact ⟨a, u, rfl, by unfold ldV; rw [hi]; exact hu, h⟩
  · exact h.elim
theorem wpS_asAddr {a : Addr} {K : Addr → Heap → Prop} {Kp : Value → Heap → Prop} : wpS P (asAddr (.pointer (some a))) K Kp st = K a st := by
  simp [asAddr, wpS_pure]
theorem wpS_map' {α β : Type} {f : α → β} {m : Sem α} {K : β → Heap → Prop} {Kp : Value → Heap → Prop} : wpS P (f <$> m) K Kp st = wpS P m (fun v st => K (f v) st) Kp st := by
  have : f <$> m = m >>= fun a => pure (f a) := rfl
  rw [this, wpS_bind]
  simp [wpS_pure]
theorem RetI_cell {a : Nat} {t : TypeId} (h : loadY (tyInfo P t) (E a) (fun v _ => R (.returned v) st) st) : RetI P #[.cell a t] R .ret E st := by
  obtain ⟨ad, x, hv, hl, hk⟩ := loadY_out h
  simp [RetI, resS, wpS_bind, hv, wpS_asAddr, wpS_pure]
  refine wpS_loadVar hl ?_
  simpa using hk
theorem RetI_cell_tmp {a u : Nat} {t : TypeId} (h : loadY (tyInfo P t) (E a) (fun v _ => R (.returned (.tuple #[v, E u])) st) st) : RetI P #[.cell a t, .tmp u] R .ret E st := by
  obtain ⟨ad, x, hv, hl, hk⟩ := loadY_out h
  simp [RetI, resS, wpS_bind, hv, wpS_asAddr, wpS_pure]
  rw [wpS_map']
  refine wpS_loadVar hl ?_
  simpa using hk
theorem RetI_cell_two {a u w : Nat} {t : TypeId} (h : loadY (tyInfo P t) (E a) (fun v _ => R (.returned (.tuple #[v, E u, E w])) st) st) : RetI P #[.cell a t, .tmp u, .tmp w] R .ret E st := by
  obtain ⟨ad, x, hv, hl, hk⟩ := loadY_out h
  simp [RetI, resS, wpS_bind, hv, wpS_asAddr, wpS_pure]
  rw [wpS_map']
  refine wpS_loadVar hl ?_
  simpa using hk
theorem RetI_cells {a b : Nat} {t u : TypeId} (h : loadY (tyInfo P t) (E a) (fun v _ => loadY (tyInfo P u) (E b) (fun w _ => R (.returned (.tuple #[v, w])) st) st) st) : RetI P #[.cell a t, .cell b u] R .ret E st := by
  obtain ⟨ad, x, hv, hl, hk⟩ := loadY_out h
  obtain ⟨ad', x', hv', hl', hk'⟩ := loadY_out hk
  simp [RetI, resS, wpS_bind, hv, hv', wpS_asAddr, wpS_pure]
  refine wpS_loadVar hl ?_
  rw [wpS_map']
  refine wpS_loadVar hl' ?_
  simpa using hk'
end
end Go.Proofs.Ytmgbknkjgfdllaa
