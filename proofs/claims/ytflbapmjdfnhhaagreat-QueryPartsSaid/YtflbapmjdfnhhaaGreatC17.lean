/- Results that lie in cells. Plain theorems, over any program. -/
import Derived.Test.YtflbapmjdfnhhaaGreatC08
import Derived.Test.YtflbapmjdfnhhaaGreatC16
import Derived.Test.YtflbapmjdfnhhaaGreatC11
import Derived.Test.YtflbapmjdfnhhaaGreatC13
import Derived.Test.YtflbapmjdfnhhaaGreatC15
set_option linter.unusedVariables false
set_option linter.unusedSimpArgs false
namespace Go.Proofs.YtflbapmjdfnhhaaGreat
section
variable {P : Program} {R : Ending → Heap → Prop} {E : Env} {st : Heap}
theorem loadY_out {t : TypeId} {v : Value} {K : Value → Heap → Prop} (h : loadY (tyInfo P t) v K st) : ∃ a x, v = .pointer (some a) ∧ ldV P t st a = some x ∧ K x st := by
  unfold loadY at h
  split at h
  · rename_i n a hi
    obtain ⟨u, hu, h⟩ := optK_iff.1 (optS_iff.1 h)
    exact ⟨a, u, rfl, by unfold ldV; rw [hi]; exact hu, h⟩
  · rename_i n a hi
    obtain ⟨u, hu, h⟩ := optK_iff.1 (optS_iff.1 h)
    exact ⟨a, u, rfl, by unfold ldV; rw [hi]; exact hu, h⟩
  · exact h.elim
theorem wpS_asAddr {a : Addr} {K : Addr → Heap → Prop} {Kp : Value → Heap → Prop} : wpS P (asAddr (.pointer (some a))) K Kp st = K a st := by
  simp [asAddr, wpS_pure]
theorem wpS_map' {α β : Type} {f : α → β} {m : Sem α} {K : β → Heap → Prop} {Kp : Value → Heap → Prop} : wpS P (f <$> m) K Kp st = wpS P m (fun v st => K (f v) st) Kp st := by
  have : f <$> m = m >>= fun a => pure (f a) := rfl
  rw [this, wpS_bind]
  simp [wpS_pure]
theorem RetI_cell {a : Nat} {t : TypeId} (h : loadY (tyInfo P t) (E a) (fun v _ => R (.returned v) st) st) : RetI P #[.cell a t] R .ret E st := by
  obtain ⟨ad, x, hv, hl, hk⟩ := loadY_out h
  simp [RetI, resS, wpS_bind, hv, wpS_asAddr, wpS_pure]
  refine wpS_loadVar hl ?_
  simpa using hk
theorem RetI_cell_tmp {a u : Nat} {t : TypeId} (h : loadY (tyInfo P t) (E a) (fun v _ => R (.returned (.tuple #[v, E u])) st) st) : RetI P #[.cell a t, .tmp u] R .ret E st := by
  obtain ⟨ad, x, hv, hl, hk⟩ := loadY_out h
  simp [RetI, resS, wpS_bind, hv, wpS_asAddr, wpS_pure]
  rw [wpS_map']
  refine wpS_loadVar hl ?_
  simpa using hk
end
end Go.Proofs.YtflbapmjdfnhhaaGreat
set_option linter.unusedVariables false
set_option linter.unusedSimpArgs false
set_option maxRecDepth 100000
set_option maxHeartbeats 4000000
namespace Go.Proofs.YtflbapmjdfnhhaaGreat
open Go.RowKit (Below)
section
variable {W0 : World} {st : Heap}
end
end Go.Proofs.YtflbapmjdfnhhaaGreat
set_option linter.unusedVariables false
set_option linter.unusedSimpArgs false
set_option maxRecDepth 100000
set_option maxHeartbeats 4000000
namespace Go.Proofs.YtflbapmjdfnhhaaGreat
open Go.RowKit (Below)
section
variable {W0 : World}
end
end Go.Proofs.YtflbapmjdfnhhaaGreat
set_option linter.unusedVariables false
set_option linter.unusedSimpArgs false
set_option maxRecDepth 100000
set_option maxHeartbeats 2000000
namespace Go.Proofs.YtflbapmjdfnhhaaGreat
open Go.RowKit (Below)
section
variable {W0 : World}
theorem RegF.ext {st st' : Heap} {g : Tg} {size len : Nat} {v : Value} {xs : List Value} (h : RegF st size v xs len) (hk : Ext g st st') : RegF st' size v xs len := by
  obtain ⟨t, ht, h⟩ := h
  refine ⟨t, ht, ?_⟩
  by_cases e : t = g
  · subst e; exact h.of_ext hk.grow
  · exact h.keep (hk.toKeep (p := fun x => x ≠ g) (by simp)) e
theorem KidsAt.append {st : Heap} : ∀ {ms : List Mat} {ks cs : List Value} {m : Mat}, KidsAt st ks ms → MatAt st cs m → KidsAt st (ks ++ cs) (ms ++ [m])
  | [], ks, cs, m, h, hm => by
    unfold KidsAt at h
    subst h
    have := hm.length
    unfold KidsAt
    refine ⟨by simp [this], by simpa [← this] using hm, ?_⟩
    unfold KidsAt
    simp [← this]
  | x :: ms, ks, cs, m, h, hm => by
    unfold KidsAt at h
    rw [List.cons_append]
    unfold KidsAt
    refine ⟨by rw [List.length_append]; omega, ?_, ?_⟩
    · rw [List.take_append_of_le_length h.1]; exact h.2.1
    · rw [List.drop_append_of_le_length h.1]; exact KidsAt.append h.2.2 hm
theorem KidsAt.len {st : Heap} : ∀ {ms : List Mat} {ks : List Value}, KidsAt st ks ms → ks.length = ms.length * 5
  | [], ks, h => by unfold KidsAt at h; subst h; rfl
  | x :: ms, ks, h => by
    unfold KidsAt at h
    have := KidsAt.len h.2.2
    rw [List.length_drop] at this
    simp only [List.length_cons]; omega
end
end Go.Proofs.YtflbapmjdfnhhaaGreat
set_option linter.unusedVariables false
set_option linter.unusedSimpArgs false
set_option maxRecDepth 100000
set_option maxHeartbeats 4000000
namespace Go.Proofs.YtflbapmjdfnhhaaGreat
open Go.RowKit (Below)
structure MetaD where
  id : Int
  level : Int
  day : Int
  lo : Int
  hi : Int
  done : Int
  rows : Int
def MetaD.cells (x : MetaD) : List Value := [Val.i x.id, Val.i x.level, Val.i x.day, Val.i x.lo, Val.i x.hi, Val.i x.done, Val.i x.rows]
def nameOKM (n : Int) : Prop := 0 ≤ n ∧ n ≤ 99999999
instance (n : Int) : Decidable (nameOKM n) := by unfold nameOKM; infer_instance
def metaOK (x : MetaD) : Prop := nameOKM x.id ∧ (0 ≤ x.level ∧ x.level ≤ 3) ∧ 0 ≤ x.day ∧ x.day ≤ 127258290 ∧ 1 ≤ x.lo ∧ x.lo ≤ x.hi ∧ x.hi ≤ x.done ∧ x.done ≤ 1099511627776 ∧ 1 ≤ x.rows
instance (x : MetaD) : Decidable (metaOK x) := by unfold metaOK; infer_instance
structure TombD where
  seq : Int
  m : Mat
  fro : Int
  to : Int
def TombAt (st : Heap) (cs : List Value) (t : TombD) : Prop := ∃ ms, MatAt st ms t.m ∧ cs = Val.i t.seq :: (ms ++ [Val.i t.fro, Val.i t.to])
def alignedM (fro to : Int) : Prop := 0 ≤ fro ∧ fro < to ∧ to ≤ 1099511634240 ∧ fro % 8640 = 0 ∧ to % 8640 = 0
instance (fro to : Int) : Decidable (alignedM fro to) := by unfold alignedM; infer_instance
def tombOK (t : TombD) : Prop := (1 ≤ t.seq ∧ t.seq ≤ 1099511627776) ∧ alignedM t.fro t.to ∧ checkM t.m = true
instance (t : TombD) : Decidable (tombOK t) := by unfold tombOK; infer_instance
section
variable {W0 : World} {st : Heap}
end
end Go.Proofs.YtflbapmjdfnhhaaGreat
set_option linter.unusedVariables false
set_option linter.unusedSimpArgs false
set_option maxRecDepth 100000
set_option maxHeartbeats 8000000
namespace Go.Proofs.YtflbapmjdfnhhaaGreat
open Go.RowKit (Below)
/-- A row's elements, where they lie. -/
theorem rows_get {st : Heap} {size len : Nat} {v : Value} {ys : List Value} (h : RegF st size v ys len) (hl : 0 < len) : ∃ mb off cap rw zs m g, v = .slice (some ⟨mb, off, none⟩) len cap ∧ st mb = some (.cells rw zs m g) ∧
    ∀ j, j < len → off + j * size + size ≤ zs.length ∧ (zs.drop (off + j * size)).take size = (ys.drop (j * size)).take size ∧ ∀ c, c < size → zs[off + j * size + c]? = ((ys.drop (j * size)).take size)[c]? := by
  obtain ⟨g, hg, hlen, base, cap, rfl, hc, hreg⟩ := h
  rcases hreg with h0 | ⟨mb, off, rw_, zs, m, rfl, hs, hp, ho⟩
  · omega
  refine ⟨mb, off, cap, rw_, zs, m, g, rfl, hs, fun j hj => ?_⟩
  obtain ⟨t, ht⟩ := hp
  have hl2 : ys.length + t.length = zs.length - off := by
    have := congrArg List.length ht
    rw [List.length_append, List.length_drop] at this
    exact this
  have hm : j * size + size ≤ len * size := by rw [← Nat.succ_mul]; exact Nat.mul_le_mul_right _ hj
  have a1 : j * size ≤ ys.length := by omega
  have a2 : size ≤ (ys.drop (j * size)).length := by rw [List.length_drop]; omega
  have hcell : (zs.drop (off + j * size)).take size = (ys.drop (j * size)).take size := by
    rw [← List.drop_drop, ← ht, List.drop_append_of_le_length a1, List.take_append_of_le_length a2]
  refine ⟨by omega, hcell, fun c hc => ?_⟩
  rw [← hcell, List.getElem?_take, if_pos hc, List.getElem?_drop]
structure ManD where
  seq : Int
  log : Int
  next : Int
  now : Int
  blocks : List MetaD
  tombs : List TombD
def MetasAt (ys : List Value) (xs : List MetaD) : Prop := ∀ i x, xs[i]? = some x → (ys.drop (i * 7)).take 7 = x.cells
def TombsAt (st : Heap) (ys : List Value) (xs : List TombD) : Prop := ∀ i x, xs[i]? = some x → TombAt st ((ys.drop (i * 8)).take 8) x
def ManAt (st : Heap) (cs : List Value) (m : ManD) : Prop := ∃ bv tv bs ts, cs = [Val.i m.seq, Val.i m.log, Val.i m.next, Val.i m.now, bv, tv] ∧ RegF st 7 bv bs m.blocks.length ∧ MetasAt bs m.blocks ∧ RegF st 8 tv ts m.tombs.length ∧ TombsAt st ts m.tombs
theorem TombAt.mono {st st' : Heap} (hR : ∀ size v xs len, RegF st size v xs len → RegF st' size v xs len) {cs : List Value} {t : TombD} (h : TombAt st cs t) : TombAt st' cs t := by
  obtain ⟨ms, h1, h2⟩ := h
  exact ⟨ms, MatAt.mono hR _ _ h1, h2⟩
theorem ManAt.mono {st st' : Heap} (hR : ∀ size v xs len, RegF st size v xs len → RegF st' size v xs len) {cs : List Value} {m : ManD} (h : ManAt st cs m) : ManAt st' cs m := by
  obtain ⟨bv, tv, bs, ts, h1, h2, h3, h4, h5⟩ := h
  exact ⟨bv, tv, bs, ts, h1, hR _ _ _ _ h2, h3, hR _ _ _ _ h4, fun i x hx => (h5 i x hx).mono hR⟩
theorem ManAt.new {st st' : Heap} (hk : New st st') {cs : List Value} {m : ManD} (h : ManAt st cs m) : ManAt st' cs m := h.mono (fun _ _ _ _ h => h.new hk)
def headOK (m : ManD) : Prop := 0 ≤ m.seq ∧ m.seq ≤ 1099511627776 ∧ nameOKM m.log ∧ nameOKM m.next ∧ 0 ≤ m.now ∧ m.now < 1099511627776 ∧ m.blocks.length ≤ 900 ∧ m.tombs.length ≤ 64
instance (m : ManD) : Decidable (headOK m) := by unfold headOK; infer_instance
section
variable {W0 : World} {st : Heap}
end
end Go.Proofs.YtflbapmjdfnhhaaGreat
set_option linter.unusedVariables false
set_option linter.unusedSimpArgs false
set_option maxRecDepth 100000
set_option maxHeartbeats 8000000
namespace Go.Proofs.YtflbapmjdfnhhaaGreat
open Go.RowKit (Below)
section
variable {W0 : World} {st : Heap}
end
end Go.Proofs.YtflbapmjdfnhhaaGreat
set_option linter.unusedVariables false
set_option linter.unusedSimpArgs false
set_option maxRecDepth 100000
set_option maxHeartbeats 8000000
namespace Go.Proofs.YtflbapmjdfnhhaaGreat
open Go.RowKit (Below)
section
variable {W0 : World} {st : Heap}
end
end Go.Proofs.YtflbapmjdfnhhaaGreat
set_option linter.unusedVariables false
set_option linter.unusedSimpArgs false
set_option maxRecDepth 100000
set_option maxHeartbeats 8000000
namespace Go.Proofs.YtflbapmjdfnhhaaGreat
open Go.RowKit (Below)
/-! ### Bit by bit -/
end Go.Proofs.YtflbapmjdfnhhaaGreat
set_option linter.unusedVariables false
set_option linter.unusedSimpArgs false
set_option maxRecDepth 100000
set_option maxHeartbeats 8000000
namespace Go.Proofs.YtflbapmjdfnhhaaGreat
open Go.RowKit (Below)
section
variable {W0 : World} {st : Heap}
end
end Go.Proofs.YtflbapmjdfnhhaaGreat
