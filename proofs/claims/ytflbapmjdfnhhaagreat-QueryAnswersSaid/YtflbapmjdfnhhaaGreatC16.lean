/- Sorting what has at most one element: nothing is done. -/
import Derived.Test.YtflbapmjdfnhhaaGreatCTab
import Derived.Test.YtflbapmjdfnhhaaGreatC09
import Derived.Test.YtflbapmjdfnhhaaGreatC15
import Derived.Test.YtflbapmjdfnhhaaGreatC14
set_option linter.unusedVariables false
set_option linter.unusedSimpArgs false
set_option maxRecDepth 100000
namespace Go.Proofs.YtflbapmjdfnhhaaGreat
open Go.RowKit (Below)
section
variable {W0 : World} {st : Heap}
theorem Len64_small {n : Int} (h0 : 0 ≤ n) (h1 : n ≤ 1) : ICalls Tryz.prog W0 137 #[.int .u64 n] st fun e st' => (∃ k, e = .returned (.int .i64 k)) ∧ st' = st := by
  refine enter (args := [_]) Tryz.func137 rfl ?_
  have hn : n = 0 ∨ n = 1 := by omega
  rcases hn with rfl | rfl
  · simp [Tryz.f137, go_sem]
    decide
  · simp [Tryz.f137, go_sem]
    decide
theorem Len_small {n : Int} (h0 : 0 ≤ n) (h1 : n ≤ 1) : ICalls Tryz.prog W0 120 #[.int .u64 n] st fun e st' => (∃ k, e = .returned (.int .i64 k)) ∧ st' = st := by
  refine enter (args := [_]) Tryz.func120 rfl ?_
  simp [Tryz.f120, go_sem]
  refine (Len64_small h0 h1).mono ?_
  rintro e st' ⟨⟨k, rfl⟩, rfl⟩
  simp [go_sem]
end
end Go.Proofs.YtflbapmjdfnhhaaGreat
set_option linter.unusedVariables false
set_option linter.unusedSimpArgs false
set_option maxRecDepth 100000
namespace Go.Proofs.YtflbapmjdfnhhaaGreat
open Go.RowKit (Below)

def VFS.put (S : VFS) (c : Ctl) (k : Nat) (b : Bs) : VFS := { S with c := c, files := S.files.modify k (·.app b) }
def VFS.lenOf (S : VFS) (k : Nat) : Nat := ((S.files[k]?).map (fun F => F.now.length)).getD 0
def VFS.append (S : VFS) (n : ByteArray) (b : Bs) : Int × VFS :=
  if okName n = false then (if S.c.call.1 = 0 then 1 else S.c.call.1, S.ctl S.c.call.2)
  else match aget S.now n with
    | none => (if S.c.call.1 = 0 then 3 else S.c.call.1, S.ctl S.c.call.2)
    | some k =>
      if S.c.call.1 = 0 then
        if b.length + S.lenOf k ≤ 1073741824 then (0, S.put S.c.call.2 k b) else (2, S.ctl S.c.call.2)
      else (S.c.call.1, if S.c.off = false ∧ b.length / 2 + S.lenOf k ≤ 1073741824 then S.put S.c.call.2 k (b.take (b.length / 2)) else S.ctl S.c.call.2)
section
variable {W0 : World} {st : Heap}
end
end Go.Proofs.YtflbapmjdfnhhaaGreat
set_option linter.unusedVariables false
set_option linter.unusedSimpArgs false
set_option maxRecDepth 100000
namespace Go.Proofs.YtflbapmjdfnhhaaGreat
open Go.RowKit (Below)

theorem unitsAt.get {st : Heap} {g : Tg} : ∀ {us : List VUnit} {cs : List Value} {j : Nat} {u : VUnit}, unitsAt st g us cs → us[j]? = some u → ∃ v, (cs.drop (j * 3)).take 3 = [.bool u.cut, Val.i u.size, v] ∧ j * 3 + 3 ≤ cs.length ∧ Reg st g 1 v (bytesV u.b) u.b.length
  | u :: us, a :: b :: c :: cs, 0, x, h, hx => by
    injection hx with hx; subst hx
    exact ⟨c, by simp [h.1, h.2.1], by simp, h.2.2.1⟩
  | u :: us, a :: b :: c :: cs, j + 1, x, h, hx => by
    obtain ⟨v, h1, h2, h3⟩ := unitsAt.get (j := j) h.2.2.2 (by simpa using hx)
    refine ⟨v, ?_, by simp; omega, h3⟩
    rw [show (j + 1) * 3 = j * 3 + 1 + 1 + 1 by omega]
    simpa using h1
section
variable {W0 : World} {st : Heap}
end
end Go.Proofs.YtflbapmjdfnhhaaGreat
set_option linter.unusedVariables false
set_option linter.unusedSimpArgs false
set_option maxRecDepth 100000
namespace Go.Proofs.YtflbapmjdfnhhaaGreat
open Go.RowKit (Below)

def Ent (st : Heap) (r : Nat) (z : Int) (f : Value → KV) : Prop := ∃ (ents : Array MapEntry) (clock : Nat) (es : KV) (j : Nat) (e : MapEntry), st r = some (.other (.map ents clock)) ∧ MapAt ents clock es ∧ ents[j]? = some e ∧ (e.born : Int) = z ∧ ∀ v, es.set j (e.key, v) = f v
theorem Ent.keep {st st' : Heap} {r : Nat} {z : Int} {f : Value → KV} (h : Ent st r z f) (hs : st' r = st r) : Ent st' r z f := by
  obtain ⟨ents, clock, es, j, e, h1, h2⟩ := h
  exact ⟨ents, clock, es, j, e, hs.trans h1, h2⟩
section
variable {W0 : World} {st : Heap} {K : Value → Heap → Prop}
end
section
variable {W0 : World} {st : Heap}
end
end Go.Proofs.YtflbapmjdfnhhaaGreat
set_option linter.unusedVariables false
set_option linter.unusedSimpArgs false
set_option maxRecDepth 100000
namespace Go.Proofs.YtflbapmjdfnhhaaGreat
open Go.RowKit (Below)

theorem Iter.of {st st' : Heap} {m b : Nat} {es L : KV} (h : Iter st m b es L) (hs : ∀ k o, st k = some (.other o) → st' k = some (.other o)) : Iter st' m b es L := by
  obtain ⟨ents, clock, seen, Ls, h1, h2, h3, h4⟩ := h
  exact ⟨ents, clock, seen, Ls, h1, hs _ _ h2, hs _ _ h3, h4⟩
theorem Ext.other {g : Tg} {st st' : Heap} (h : Ext g st st') (k : Nat) (o : Obj) (hk : st k = some (.other o)) : st' k = some (.other o) := h.keep k _ hk (by simp [HObj.tag])
section
variable {W0 : World} {st : Heap}
end
end Go.Proofs.YtflbapmjdfnhhaaGreat
set_option linter.unusedVariables false
set_option linter.unusedSimpArgs false
set_option maxRecDepth 100000
set_option maxHeartbeats 1000000
namespace Go.Proofs.YtflbapmjdfnhhaaGreat
open Go.RowKit (Below)

section
variable {W0 : World} {st : Heap}
end
end Go.Proofs.YtflbapmjdfnhhaaGreat
set_option linter.unusedVariables false
set_option linter.unusedSimpArgs false
set_option maxRecDepth 100000
set_option maxHeartbeats 1000000
namespace Go.Proofs.YtflbapmjdfnhhaaGreat
open Go.RowKit (Below)

section
variable {W0 : World} {st : Heap}
end
end Go.Proofs.YtflbapmjdfnhhaaGreat
set_option linter.unusedVariables false
set_option linter.unusedSimpArgs false
set_option maxRecDepth 100000
set_option maxHeartbeats 1000000
namespace Go.Proofs.YtflbapmjdfnhhaaGreat
open Go.RowKit (Below)

section
variable {W0 : World} {st : Heap}
end
end Go.Proofs.YtflbapmjdfnhhaaGreat
set_option linter.unusedVariables false
set_option linter.unusedSimpArgs false
set_option maxRecDepth 100000
set_option maxHeartbeats 1000000
namespace Go.Proofs.YtflbapmjdfnhhaaGreat
open Go.RowKit (Below)

section
variable {W0 : World} {st : Heap}
end
end Go.Proofs.YtflbapmjdfnhhaaGreat
set_option linter.unusedVariables false
set_option linter.unusedSimpArgs false
set_option maxRecDepth 100000
set_option maxHeartbeats 1000000
namespace Go.Proofs.YtflbapmjdfnhhaaGreat
open Go.RowKit (Below)

theorem Reg.drop {st : Heap} {g : Tg} {len k cap : Nat} {base : Option Addr} {xs : List Value} (h : Reg st g 1 (.slice base len cap) xs len) (hk : k ≤ len) :
    Reg st g 1 (.slice (if cap = k then base else base.map (·.add k)) (len - k) (cap - k)) (xs.drop k) (len - k) := by
  obtain ⟨hl1, base', cap', hv, hc, hr⟩ := h
  injection hv with q1 q2 q3; subst q1; subst q3
  refine ⟨by simp; omega, _, _, rfl, by omega, ?_⟩
  by_cases hn0 : len - k = 0
  · exact .inl hn0
  · rcases hr with hr | ⟨blk, off, rw_, ys, m, rfl, hs, hp, hoff⟩
    · omega
    · right
      rw [if_neg (by omega)]
      obtain ⟨t, ht⟩ := hp
      refine ⟨blk, off + k, rw_, ys, m, by simp [add_mk], hs, ?_, ?_⟩
      · rw [← List.drop_drop, ← ht, List.drop_append_of_le_length (by omega)]
        exact List.prefix_append _ _
      · have := congrArg List.length ht
        simp at this
        omega
section
variable {W0 : World} {st : Heap}
end
end Go.Proofs.YtflbapmjdfnhhaaGreat
set_option linter.unusedVariables false
set_option linter.unusedSimpArgs false
set_option maxRecDepth 100000
set_option maxHeartbeats 2000000
namespace Go.Proofs.YtflbapmjdfnhhaaGreat
open Go.RowKit (Below)
section
variable {W0 : World} {st : Heap}
mutual
/-- Small enough to be written. -/
def SmallM : Mat → Prop
  | .mk op name value vals kids => 0 ≤ op ∧ op ≤ 7 ∧ name.size ≤ 32 ∧ value.size ≤ 64 ∧ vals.length ≤ 16 ∧ (∀ v ∈ vals, v.size ≤ 64) ∧ kids.length ≤ 64 ∧ SmallsM kids
def SmallsM : List Mat → Prop
  | [] => True
  | k :: ks => SmallM k ∧ SmallsM ks
end
theorem Fresh.old {st st1 : Heap} {v : Value} (h : Fresh st1 v) (hk : New st st1) : Fresh st v := fun b off n c e => hk.none (h b off n c e)
theorem SmallsM.get : ∀ {ms : List Mat} {i : Nat} {m : Mat}, SmallsM ms → ms[i]? = some m → SmallM m
  | [], i, m, h, hi => by simp at hi
  | x :: ms, 0, m, h, hi => by
    unfold SmallsM at h
    injection hi with hi; subst hi; exact h.1
  | x :: ms, i + 1, m, h, hi => by
    unfold SmallsM at h
    exact SmallsM.get h.2 (by simpa using hi)
end
end Go.Proofs.YtflbapmjdfnhhaaGreat
set_option linter.unusedVariables false
set_option linter.unusedSimpArgs false
set_option maxRecDepth 100000
set_option maxHeartbeats 2000000
namespace Go.Proofs.YtflbapmjdfnhhaaGreat
open Go.RowKit (Below)
section
variable {W0 : World} {st : Heap}
end
end Go.Proofs.YtflbapmjdfnhhaaGreat
