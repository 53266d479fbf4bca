/- Results that lie in cells. Plain theorems, over any program. -/
import Derived.Test.YtahgfnbkkfpcnaaGreatC07
import Derived.Test.YtahgfnbkkfpcnaaGreatC11
set_option linter.unusedVariables false
set_option linter.unusedSimpArgs false
namespace Go.Proofs.YtahgfnbkkfpcnaaGreat
section
variable {P : Program} {R : Ending → Heap → Prop} {E : Env} {st : Heap}
theorem z5i {t : TypeId} {v : Value} {K : Value → Heap → Prop} (h : loadY (z09 P t) v K st) : ∃ a x, v = .pointer (some a) ∧ ldV P t st a = some x ∧ K x st := by
 unfold loadY at h
 split at h
 ·rename_i n a hi
  obtain ⟨u, hu, h⟩ := optK_iff.1 (optS_iff.1 h)
  exact ⟨a, u, rfl, by unfold ldV; rw [hi]; exact hu, h⟩
 ·rename_i n a hi
  obtain ⟨u, hu, h⟩ := optK_iff.1 (optS_iff.1 h)
  exact ⟨a, u, rfl, by unfold ldV; rw [hi]; exact hu, h⟩
 ·exact h.elim
theorem z6k {a : Addr} {K : Addr → Heap → Prop} {Kp : Value → Heap → Prop} : wpS P (asAddr (.pointer (some a))) K Kp st = K a st := by
 simp [asAddr, z07]
theorem z84 {α β : Type} {f : α → β} {m : Sem α} {K : β → Heap → Prop} {Kp : Value → Heap → Prop} : wpS P (f <$> m) K Kp st = wpS P m (fun v st => K (f v) st) Kp st := by
 have : f <$> m = m >>= fun a => pure (f a) := rfl
 rw [this, wpS_bind]
 simp [z07]
theorem z29 {a : Nat} {t : TypeId} (h : loadY (z09 P t) (E a) (fun v _ => R (.returned v) st) st) : RetI P #[.cell a t] R .ret E st := by
 obtain ⟨ad, x, hv, hl, hk⟩ := z5i h
 simp [RetI, resS, wpS_bind, hv, z6k, z07]
 refine z58 hl ?_
 simpa using hk
theorem z0l {a u : Nat} {t : TypeId} (h : loadY (z09 P t) (E a) (fun v _ => R (.returned (.tuple #[v, E u])) st) st) : RetI P #[.cell a t, .tmp u] R .ret E st := by
 obtain ⟨ad, x, hv, hl, hk⟩ := z5i h
 simp [RetI, resS, wpS_bind, hv, z6k, z07]
 rw [z84]
 refine z58 hl ?_
 simpa using hk
theorem zad {a u w : Nat} {t : TypeId} (h : loadY (z09 P t) (E a) (fun v _ => R (.returned (.tuple #[v, E u, E w])) st) st) : RetI P #[.cell a t, .tmp u, .tmp w] R .ret E st := by
 obtain ⟨ad, x, hv, hl, hk⟩ := z5i h
 simp [RetI, resS, wpS_bind, hv, z6k, z07]
 rw [z84]
 refine z58 hl ?_
 simpa using hk
theorem z8k {a b : Nat} {t u : TypeId} (h : loadY (z09 P t) (E a) (fun v _ => loadY (z09 P u) (E b) (fun w _ => R (.returned (.tuple #[v, w])) st) st) st) : RetI P #[.cell a t, .cell b u] R .ret E st := by
 obtain ⟨ad, x, hv, hl, hk⟩ := z5i h
 obtain ⟨ad', x', hv', hl', hk'⟩ := z5i hk
 simp [RetI, resS, wpS_bind, hv, hv', z6k, z07]
 refine z58 hl ?_
 rw [z84]
 refine z58 hl' ?_
 simpa using hk'
end
set_option maxRecDepth 100000
set_option maxHeartbeats 4000000
open Go.RowKit (Below)
def sizeC (n b : Nat) (bad : Bool) (r : Nat) : HObj := .cells true [Val.i n, Val.i b, .bool bad] 3 (.own r 0 65)
theorem z2e {b k : Nat} {bad : Bool} (h : b ≤ 4096) : (textS (b, bad) k).1 ≤ 4096 := by unfold textS; split <;> simp <;> omega
section
variable {W0 : World} {st : Heap}
theorem z4y {op : Int} {name value : ByteArray} {vb kb : Option Addr} {vc kc nk : Nat} {vals : List ByteArray} (one many kids : Bool) (ho : (one, many, kids) = (false, false, false) ∨ (one, many, kids) = (true, false, false) ∨ (one, many, kids) = (false, true, false) ∨ (one, many, kids) = (false, false, true)) :
  z00 Tryz.prog W0 200 #[.agg #[Val.i op, .string name, .string value, .slice vb vals.length vc, .slice kb nk kc], .bool one, .bool many, .bool kids] st fun e st' => e = .returned (.bool (bareM name value vals nk one many kids)) ∧ New st st' := by
 unfold bareM
 generalize vals.length = nv
 refine enter (args := [_, _, _, _]) Tryz.func200 rfl ?_
 refine IW_cut (fun E' st' => ∃ tb, New st st' ∧ E' 1 = .bool one ∧ E' 2 = .bool many ∧ E' 3 = .bool kids ∧ E' 4 = ptr tb ∧ st' tb = some (.cells true [Val.i op, .string name, .string value, .slice vb nv vc, .slice kb nk kc] 5 (.ty 0))) ?_ ?_
 ·simp [go_sem]
  unfold NewP
  intro tb htb
  refine ⟨.ty 0, ?_⟩
  simp [go_sem]
  exact (New.refl _).add htb
 rintro E1 st1 ⟨tb, hn, e1, e2, e3, e4, ht⟩
 by_cases hF : value = ⟨#[]⟩ <;> by_cases hD : name = ⟨#[]⟩ <;> by_cases hV : nv = 0 <;> by_cases hK : nk = 0
 all_goals
  rcases ho with h | h | h | h
  all_goals
   injection h with h1 h2
   injection h2 with h2 h3
   subst h1; subst h2; subst h3
   simp [go_sem, e1, e2, e3, e4, ht, hF, hD, hV, hK]
   try exact hn
theorem z1r {s : ByteArray} {r n b : Nat} {bad : Bool} (hr : st r = some (sizeC n b bad r)) (hb : b ≤ 4096) (hs : s.size < 2 ^ 60) : z00 Tryz.prog W0 201 #[ptr r, .string s] st fun e st' =>
  e = .returned (.tuple #[]) ∧ st' r = some (sizeC n (textS (b, bad) s.size).1 (textS (b, bad) s.size).2 r) ∧ But1 r st st' := by
 refine enter (args := [_, _]) Tryz.func201 rfl ?_
 unfold sizeC at hr ⊢
 have hw : IntKind.i64.wrap (4096 - (b : Int)) = 4096 - (b : Int) := z03 (by omega) (by omega)
 have hw2 : IntKind.i64.wrap ((b : Int) + s.size) = ((b + s.size : Nat) : Int) := by rw [z03 (by omega) (by omega)]; omega
 unfold textS
 by_cases h : 4096 < b + s.size
 ·have q : (4096 - (b : Int) < s.size) = True := eq_true (by omega)
  simp [Tryz.f201, go_sem, hr, hw, q, h]
  exact But1.put (But1.refl _ _)
 ·have q : (4096 - (b : Int) < s.size) = False := eq_false (by omega)
  simp [Tryz.f201, go_sem, hr, hw, hw2, q, h]
  exact But1.put (But1.refl _ _)
end
end Go.Proofs.YtahgfnbkkfpcnaaGreat
