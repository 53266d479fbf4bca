/- Sorting what has at most one element: nothing is done. -/
import Derived.Test.YtadgciaclhjjkaaGreatCTab
import Derived.Test.YtadgciaclhjjkaaGreatC08
import Derived.Test.YtadgciaclhjjkaaGreatC13
import Derived.Test.YtadgciaclhjjkaaGreatC12
set_option linter.unusedVariables false
set_option linter.unusedSimpArgs false
set_option maxRecDepth 100000
namespace Go.Proofs.YtadgciaclhjjkaaGreat
open Go.RowKit (Below)
section
variable {W0 : World} {st : Heap}
theorem Len64_small {n : Int} (h0 : 0 ≤ n) (h1 : n ≤ 1) : ICalls Tryz.prog W0 205 #[.int .u64 n] st fun e st' => (∃ k, e = .returned (.int .i64 k)) ∧ st' = st := by
  refine enter (args := [_]) Tryz.func205 rfl ?_
  have hn : n = 0 ∨ n = 1 := by omega
  rcases hn with rfl | rfl
  · simp [Tryz.f205, go_sem]
    decide
  · simp [Tryz.f205, go_sem]
    decide
theorem Len_small {n : Int} (h0 : 0 ≤ n) (h1 : n ≤ 1) : ICalls Tryz.prog W0 155 #[.int .u64 n] st fun e st' => (∃ k, e = .returned (.int .i64 k)) ∧ st' = st := by
  refine enter (args := [_]) Tryz.func155 rfl ?_
  simp [Tryz.f155, go_sem]
  refine (Len64_small h0 h1).mono ?_
  rintro e st' ⟨⟨k, rfl⟩, rfl⟩
  simp [go_sem]
theorem insertionCmp_small {v fv : Value} {n : Int} (h : n ≤ 1) : ICalls Tryz.prog W0 207 #[v, .int .i64 0, .int .i64 n, fv] st fun e st' => e = .returned (.tuple #[]) ∧ st' = st := by
  refine enter (args := [_, _, _, _]) Tryz.func207 rfl ?_
  simp [Tryz.f207, go_sem]
  refine ⟨fun E st' => st' = st ∧ E 8 = .int .i64 1 ∧ E 2 = .int .i64 n, fun _ _ => 0, ⟨st, .rfl' st, rfl, by simp [go_sem]; decide, by simp [go_sem]⟩, ?_⟩
  rintro E st' ⟨rfl, h8, h2⟩
  have hn : ¬ 1 < n := by omega
  simp [go_sem, h8, h2, hn]
theorem pdqCmp_small {v fv : Value} {n k : Int} (h0 : 0 ≤ n) (h : n ≤ 1) : ICalls Tryz.prog W0 160 #[v, .int .i64 0, .int .i64 n, .int .i64 k, fv] st fun e st' => e = .returned (.tuple #[]) ∧ st' = st := by
  refine enter (args := [_, _, _, _, _]) Tryz.func160 rfl ?_
  simp [Tryz.f160, go_sem]
  refine ⟨fun E st' => st' = st ∧ E 0 = v ∧ E 1 = .int .i64 0 ∧ E 2 = .int .i64 n ∧ E 4 = fv, fun _ _ => 0, ⟨st, .rfl' st, rfl, by simp [go_sem], by simp [go_sem], by simp [go_sem], by simp [go_sem]⟩, ?_⟩
  rintro E st' ⟨rfl, e0, e1, e2, e4⟩
  have hw : IntKind.i64.wrap (n - 0) = n := by rw [wrap_id (by omega) (by omega)]; omega
  have hw' : IntKind.i64.wrap n = n := wrap_id (by omega) (by omega)
  have hn : n ≤ 12 := by omega
  simp [go_sem, e0, e1, e2, e4, hw, hw', hn]
  refine (insertionCmp_small h).mono ?_
  rintro e st' ⟨rfl, rfl⟩
  simp [go_sem]
theorem SortFunc_small {b : Option Addr} {n c : Nat} {fv : Value} (h : n ≤ 1) : ICalls Tryz.prog W0 99 #[.slice b n c, fv] st fun e st' => e = .returned (.tuple #[]) ∧ st' = st := by
  refine enter (args := [_, _]) Tryz.func99 rfl ?_
  have hw : IntKind.u64.wrap (n : Int) = n := by rw [IntKind.wrap_u64]; omega
  simp [Tryz.f99, go_sem, hw]
  refine (Len_small (by omega) (by omega)).mono ?_
  rintro e st' ⟨⟨k, rfl⟩, rfl⟩
  simp [go_sem]
  refine (pdqCmp_small (by omega) (by omega)).mono ?_
  rintro e st' ⟨rfl, rfl⟩
  simp [go_sem]
theorem insertionOrd_small {v : Value} {n : Int} (h : n ≤ 1) : ICalls Tryz.prog W0 195 #[v, .int .i64 0, .int .i64 n] st fun e st' => e = .returned (.tuple #[]) ∧ st' = st := by
  refine enter (args := [_, _, _]) Tryz.func195 rfl ?_
  simp [Tryz.f195, go_sem]
  refine ⟨fun E st' => st' = st ∧ E 6 = .int .i64 1 ∧ E 2 = .int .i64 n, fun _ _ => 0, ⟨st, .rfl' st, rfl, by simp [go_sem]; decide, by simp [go_sem]⟩, ?_⟩
  rintro E st' ⟨rfl, h8, h2⟩
  have hn : ¬ 1 < n := by omega
  simp [go_sem, h8, h2, hn]
theorem pdqOrd_small {v : Value} {n k : Int} (h0 : 0 ≤ n) (h : n ≤ 1) : ICalls Tryz.prog W0 154 #[v, .int .i64 0, .int .i64 n, .int .i64 k] st fun e st' => e = .returned (.tuple #[]) ∧ st' = st := by
  refine enter (args := [_, _, _, _]) Tryz.func154 rfl ?_
  simp [Tryz.f154, go_sem]
  refine ⟨fun E st' => st' = st ∧ E 0 = v ∧ E 1 = .int .i64 0 ∧ E 2 = .int .i64 n, fun _ _ => 0, ⟨st, .rfl' st, rfl, by simp [go_sem], by simp [go_sem], by simp [go_sem]⟩, ?_⟩
  rintro E st' ⟨rfl, e0, e1, e2⟩
  have hw : IntKind.i64.wrap (n - 0) = n := by rw [wrap_id (by omega) (by omega)]; omega
  have hw' : IntKind.i64.wrap n = n := wrap_id (by omega) (by omega)
  have hn : n ≤ 12 := by omega
  simp [go_sem, e0, e1, e2, hw, hw', hn]
  refine (insertionOrd_small h).mono ?_
  rintro e st' ⟨rfl, rfl⟩
  simp [go_sem]
theorem Sort_small {b : Option Addr} {n c : Nat} (h : n ≤ 1) : ICalls Tryz.prog W0 91 #[.slice b n c] st fun e st' => e = .returned (.tuple #[]) ∧ st' = st := by
  refine enter (args := [_]) Tryz.func91 rfl ?_
  have hw : IntKind.u64.wrap (n : Int) = n := by rw [IntKind.wrap_u64]; omega
  simp [Tryz.f91, go_sem, hw]
  refine (Len_small (by omega) (by omega)).mono ?_
  rintro e st' ⟨⟨k, rfl⟩, rfl⟩
  simp [go_sem]
  refine (pdqOrd_small (by omega) (by omega)).mono ?_
  rintro e st' ⟨rfl, rfl⟩
  simp [go_sem]
end
end Go.Proofs.YtadgciaclhjjkaaGreat
set_option linter.unusedVariables false
set_option linter.unusedSimpArgs false
set_option maxRecDepth 100000
namespace Go.Proofs.YtadgciaclhjjkaaGreat
open Go.RowKit (Below)

def VFS.put (S : VFS) (c : Ctl) (k : Nat) (b : Bs) : VFS := { S with c := c, files := S.files.modify k (·.app b) }
def VFS.lenOf (S : VFS) (k : Nat) : Nat := ((S.files[k]?).map (fun F => F.now.length)).getD 0
def VFS.append (S : VFS) (n : ByteArray) (b : Bs) : Int × VFS :=
  if okName n = false then (if S.c.call.1 = 0 then 1 else S.c.call.1, S.ctl S.c.call.2)
  else match aget S.now n with
    | none => (if S.c.call.1 = 0 then 3 else S.c.call.1, S.ctl S.c.call.2)
    | some k =>
      if S.c.call.1 = 0 then
        if b.length + S.lenOf k ≤ 1073741824 then (0, S.put S.c.call.2 k b) else (2, S.ctl S.c.call.2)
      else (S.c.call.1, if S.c.off = false ∧ b.length / 2 + S.lenOf k ≤ 1073741824 then S.put S.c.call.2 k (b.take (b.length / 2)) else S.ctl S.c.call.2)
section
variable {W0 : World} {st : Heap}
/-- A file's bytes are put, within its file system. -/
theorem put_spec {f k : Nat} {S : VFS} {F : VFile} {sm nm : Nat} {tv : Value} {ad : Nat → Nat} {b : Bs} {bv : Value} (h1 : st f = some (.cells true (fsC sm nm tv S.files.length S.c) 9 (.own f 0 0))) (h2 : st sm = some (.map (.own f 0 5) (encM ad S.sure))) (h3 : st nm = some (.map (.own f 0 6) (encM ad S.now)))
    (h4 : Vec st (.own f 0 7) 4 tv (S.turns.flatMap (encT ad)) S.turns.length) (h5 : ∀ (i : Nat) (F : VFile), S.files[i]? = some F → FileAt st f i (ad i) F) (h6 : S.ok) (hk : S.files[k]? = some F)
    (hb : srcCells 1 st bv = some (b.length, bytesV b)) (hs1 : F.now.length + b.length < 2 ^ 40) (hs2 : F.pend.length < 2 ^ 40) :
    ICalls Tryz.prog W0 81 #[ptr (ad k), bv] st fun e st' => e = .returned (.tuple #[]) ∧ FSAt st' f (S.put S.c k b) ∧ Keep (Out f) st st' := by
  refine (fileAppend_spec (h5 k F hk) hb hs1 hs2).mono ?_
  rintro e st' ⟨rfl, hF, hkp⟩
  refine ⟨rfl, ⟨sm, nm, tv, ad, ?_, hkp.getM h2 (by intro r _ _; simp; omega), hkp.getM h3 (by intro r _ _; simp; omega), h4.keep hkp (by intro r _ _; simp; omega), ?_, ?_⟩, hkp.imp fun g h r _ _ => h k r⟩
  · have := hkp.get h1 (by intro r _ _; simp; omega)
    simpa [VFS.put] using this
  · intro i G hi
    simp only [VFS.put] at hi
    rw [List.getElem?_modify] at hi
    by_cases hik : k = i
    · subst hik
      rw [hk] at hi
      simp at hi
      subst hi
      exact hF
    · cases hj : S.files[i]? with
      | none => rw [hj] at hi; cases hi
      | some G' =>
        rw [hj] at hi
        simp [hik] at hi
        subst hi
        exact (h5 i G' hj).keep hkp (by intro r _ _ r' _ _; simp; omega)
  · obtain ⟨o1, o2, o3⟩ := h6
    exact ⟨by simpa [VFS.put] using o1, by simpa [VFS.put] using o2, by simpa [VFS.put] using o3⟩
theorem Append_spec {f : Nat} {S : VFS} {n : ByteArray} {b : Bs} {bv : Value} {g : Tg} (h : FSAt st f S) (hs : S.small) (hb : Reg st g 1 bv (bytesV b) b.length) (hg : Out f g) (hbl : b.length < 2 ^ 40) :
    ICalls Tryz.prog W0 90 #[ptr f, .string n, bv] st fun e st' => e = .returned (Val.i (S.append n b).1) ∧ FSAt st' f (S.append n b).2 ∧ Keep (Out f) st st' := by
  obtain ⟨sm, nm, tv, ad, h1, h2, h3, h4, h5, h6⟩ := h
  refine enter (args := [_, _, _]) Tryz.func90 rfl ?_
  obtain ⟨base, cap, rfl⟩ := hb.slice
  simp [Tryz.f90, go_sem, h1, fsC]
  refine call_spec h1 ?_
  obtain ⟨k0, hfs, h1, h2, h3, h4, h5⟩ := FSAt.ctl' h1 h2 h3 h4 h5 h6 S.c.call.2
  generalize hst1 : upd st f _ = st1 at *
  have k0' : Keep (Out f) st st1 := k0.imp fun g h => h 0 0
  have hb1 := hb.keep k0' hg
  simp [go_sem]
  refine ICalls.mono (find_spec (n := n) h1 h3) ?_
  rintro e st2 ⟨rfl, rfl⟩
  have hw : IntKind.i64.wrap ((b.length : Int) / 2) = (b.length : Int) / 2 := wrap_id (by omega) (by omega)
  have hn : ((b.length : Int) / 2).toNat = b.length / 2 := by omega
  have hcap := hb1.cap
  have hcap2 : b.length / 2 ≤ cap := by omega
  have h0 : (0 : Int) ≤ (b.length : Int) / 2 := by omega
  unfold VFS.append
  cases hk : okName n with
  | false =>
    by_cases hc : S.c.call.1 = 0
    · simp [go_sem, hc]
      first | exact ⟨hfs, k0'⟩ | exact ⟨Nat.le_refl _, hfs, k0'⟩
    · cases ho : S.c.off
      · simp [go_sem, hc, hw, hn, h0, hcap2, ho]
        first | exact ⟨hfs, k0'⟩ | exact ⟨Nat.le_refl _, hfs, k0'⟩
      · simp [go_sem, hc, hw, hn, h0, hcap2, ho]
        first | exact ⟨hfs, k0'⟩ | exact ⟨Nat.le_refl _, hfs, k0'⟩
  | true =>
    cases hg : aget S.now n with
    | none =>
      by_cases hc : S.c.call.1 = 0
      · simp [go_sem, hc]
        first | exact ⟨hfs, k0'⟩ | exact ⟨Nat.le_refl _, hfs, k0'⟩
      · cases ho : S.c.off
        · simp [go_sem, hc, hw, hn, h0, hcap2, ho]
          first | exact ⟨hfs, k0'⟩ | exact ⟨Nat.le_refl _, hfs, k0'⟩
        · simp [go_sem, hc, hw, hn, h0, hcap2, ho]
          first | exact ⟨hfs, k0'⟩ | exact ⟨Nat.le_refl _, hfs, k0'⟩
    | some k =>
      have hkl : k < S.files.length := by
        unfold aget at hg
        obtain ⟨p, h7, h8⟩ := Option.map_eq_some_iff.1 hg
        obtain ⟨e, h9, h10⟩ := afind_mem h7
        rw [← h8, ← h10]; exact h6.2.1 e h9
      obtain ⟨F, hF⟩ : ∃ F, S.files[k]? = some F := ⟨_, List.getElem?_eq_getElem hkl⟩
      have hlen : S.lenOf k = F.now.length := by simp [VFS.lenOf, hF]
      obtain ⟨s1, s2, s3⟩ := hs
      obtain ⟨q1, q2, q3⟩ := s3 F (List.mem_of_getElem? hF)
      obtain ⟨sv, pv, nv, us, b1, b2, b3, b4, b5⟩ := h5 k F hF
      obtain ⟨nb, nc, rfl⟩ := b5.slice
      have hw2 : IntKind.i64.wrap (1073741824 - (F.now.length : Int)) = 1073741824 - (F.now.length : Int) := wrap_id (by omega) (by omega)
      by_cases hc : S.c.call.1 = 0
      · by_cases hfit : b.length + F.now.length ≤ 1073741824
        · have hfit' : ¬ (1073741824 - (F.now.length : Int) < b.length) := by omega
          simp [go_sem, hc, hlen, hfit, hfit', b1, hw2]
          refine ICalls.mono (put_spec (S := S.ctl S.c.call.2) h1 h2 h3 h4 h5 h6 hF hb1.src (by omega) q1) ?_
          rintro e st3 ⟨rfl, c1, c2⟩
          simp [go_sem]
          exact ⟨c1, k0'.trans c2⟩
        · have hfit' : 1073741824 - (F.now.length : Int) < b.length := by omega
          simp [go_sem, hc, hlen, hfit, hfit', b1, hw2]
          first | exact ⟨hfs, k0'⟩ | exact ⟨Nat.le_refl _, hfs, k0'⟩
      · cases ho : S.c.off
        · by_cases hfit : b.length / 2 + F.now.length ≤ 1073741824
          · have hfit' : (b.length : Int) / 2 ≤ 1073741824 - (F.now.length : Int) := by omega
            simp [go_sem, hc, hw, hn, h0, hcap2, ho, hlen, hfit, hfit', b1, hw2]
            have hb2 := (hb1.take (m := b.length / 2) (by omega)).src
            have e1 : (b.take (b.length / 2)).length = b.length / 2 := by rw [List.length_take]; omega
            have e2 : bytesV (b.take (b.length / 2)) = (bytesV b).take (b.length / 2) := by simp [bytesV, List.map_take]
            have hP := put_spec (W0 := W0) (b := b.take (b.length / 2)) (bv := .slice base (b.length / 2) cap) (S := S.ctl S.c.call.2) h1 h2 h3 h4 h5 h6 hF (by rw [e1, e2]; exact hb2) (by omega) q1
            refine ICalls.mono hP ?_
            rintro e st3 ⟨rfl, c1, c2⟩
            simp [go_sem]
            exact ⟨c1, k0'.trans c2⟩
          · have hfit' : ¬ ((b.length : Int) / 2 ≤ 1073741824 - (F.now.length : Int)) := by omega
            simp [go_sem, hc, hw, hn, h0, hcap2, ho, hlen, hfit, hfit', b1, hw2]
            first | exact ⟨hfs, k0'⟩ | exact ⟨Nat.le_refl _, hfs, k0'⟩
        · simp [go_sem, hc, hw, hn, h0, hcap2, ho]
          first | exact ⟨hfs, k0'⟩ | exact ⟨Nat.le_refl _, hfs, k0'⟩
end
end Go.Proofs.YtadgciaclhjjkaaGreat
set_option linter.unusedVariables false
set_option linter.unusedSimpArgs false
set_option maxRecDepth 100000
namespace Go.Proofs.YtadgciaclhjjkaaGreat
open Go.RowKit (Below)

section
variable {W0 : World} {st : Heap}
end
end Go.Proofs.YtadgciaclhjjkaaGreat
set_option linter.unusedVariables false
set_option linter.unusedSimpArgs false
set_option maxRecDepth 100000
namespace Go.Proofs.YtadgciaclhjjkaaGreat
open Go.RowKit (Below)

section
variable {W0 : World} {st : Heap} {K : Value → Heap → Prop}
end
section
variable {W0 : World} {st : Heap}
end
end Go.Proofs.YtadgciaclhjjkaaGreat
set_option linter.unusedVariables false
set_option linter.unusedSimpArgs false
set_option maxRecDepth 100000
namespace Go.Proofs.YtadgciaclhjjkaaGreat
open Go.RowKit (Below)

/-- All but one block, and what has one mark. -/
def But (nm : Nat) (g : Tg) (st st' : Heap) : Prop := ∀ k o, st k = some o → k ≠ nm → o.tag ≠ some g → st' k = some o
theorem Iter.of {st st' : Heap} {m b : Nat} {es L : KV} (h : Iter st m b es L) (hs : ∀ k o, st k = some (.other o) → st' k = some (.other o)) : Iter st' m b es L := by
  obtain ⟨ents, clock, seen, Ls, h1, h2, h3, h4⟩ := h
  exact ⟨ents, clock, seen, Ls, h1, hs _ _ h2, hs _ _ h3, h4⟩
theorem Ext.other {g : Tg} {st st' : Heap} (h : Ext g st st') (k : Nat) (o : Obj) (hk : st k = some (.other o)) : st' k = some (.other o) := h.keep k _ hk (by simp [HObj.tag])
section
variable {W0 : World} {st : Heap}
end
end Go.Proofs.YtadgciaclhjjkaaGreat
set_option linter.unusedVariables false
set_option linter.unusedSimpArgs false
set_option maxRecDepth 100000
set_option maxHeartbeats 1000000
namespace Go.Proofs.YtadgciaclhjjkaaGreat
open Go.RowKit (Below)

theorem flatMap_get {ad : Nat → Nat} : ∀ {ts : List VTurn} {j : Nat} {t : VTurn}, ts[j]? = some t → ((ts.flatMap (encT ad)).drop (j * 4)).take 4 = encT ad t ∧ j * 4 + 4 ≤ (ts.flatMap (encT ad)).length
  | t :: ts, 0, x, h => by
    injection h with h; subst h
    simp [encT]
  | t :: ts, j + 1, x, h => by
    obtain ⟨h1, h2⟩ := flatMap_get (ad := ad) (ts := ts) (j := j) (by simpa using h)
    rw [show (j + 1) * 4 = j * 4 + 1 + 1 + 1 + 1 by omega]
    constructor
    · simpa [encT] using h1
    · simp only [List.flatMap_cons, List.length_append, encT, List.length_cons, List.length_nil] at h2 ⊢
      omega
section
variable {W0 : World} {st : Heap}
end
end Go.Proofs.YtadgciaclhjjkaaGreat
set_option linter.unusedVariables false
set_option linter.unusedSimpArgs false
set_option maxRecDepth 100000
set_option maxHeartbeats 1000000
namespace Go.Proofs.YtadgciaclhjjkaaGreat
open Go.RowKit (Below)

theorem mapM_byteOf : ∀ bs : List UInt8, (bytesV bs).mapM byteOf = some bs
  | [] => rfl
  | b :: bs => by
    have h := mapM_byteOf bs
    unfold bytesV at h ⊢
    simp only [List.map_cons, List.mapM_cons, h]
    have hb : byteOf (.int .u8 b.toNat) = some b := by simp [byteOf]
    rw [hb]
    rfl
theorem textOf_reg {st : Heap} {g : Tg} {base : Option Addr} {cap : Nat} {bs : List UInt8} {n : Nat} (h : Reg st g 1 (.slice base n cap) (bytesV bs) n) : textOf st (.slice base n cap) = some ⟨bs.toArray⟩ := by
  have hlen : bs.length = n := by have := h.1; rw [bytesV_length] at this; omega
  have hs := h.src
  cases base with
  | none =>
    simp only [srcCells] at hs
    split at hs
    · rename_i h0
      subst h0
      have : bs = [] := List.eq_nil_of_length_eq_zero hlen
      subst this; rfl
    · cases hs
  | some a =>
    simp only [srcCells] at hs
    simp only [textOf]
    split
    · rename_i h0
      have : bs = [] := List.eq_nil_of_length_eq_zero (by omega)
      subst this; rfl
    · rename_i h0
      rw [if_neg h0] at hs
      obtain ⟨l, h1, h2⟩ := Option.map_eq_some_iff.1 hs
      rw [Nat.mul_one] at h1
      injection h2 with h2 h3
      subst h3
      rw [h1]
      simp [mapM_byteOf]
section
variable {W0 : World} {st : Heap}
end
end Go.Proofs.YtadgciaclhjjkaaGreat
set_option linter.unusedVariables false
set_option linter.unusedSimpArgs false
set_option maxRecDepth 100000
set_option maxHeartbeats 1000000
namespace Go.Proofs.YtadgciaclhjjkaaGreat
open Go.RowKit (Below)

theorem unzz_bits (u : Nat) (h : u < 2 ^ 64) : bits .xor .i64 (IntKind.i64.wrap ((u / 2 : Nat) : Int)) (IntKind.i64.wrap (0 - IntKind.i64.wrap ((u % 2 : Nat) : Int))) = unzz u := by
  have w1 : IntKind.i64.wrap ((u / 2 : Nat) : Int) = ((u / 2 : Nat) : Int) := wrap_id (by omega) (by omega)
  have w2 : IntKind.i64.wrap ((u % 2 : Nat) : Int) = ((u % 2 : Nat) : Int) := wrap_id (by omega) (by omega)
  unfold unzz
  by_cases h2 : u % 2 = 0
  · rw [w1, w2, h2, if_pos rfl, show IntKind.i64.wrap (0 - ((0 : Nat) : Int)) = 0 by rw [wrap_id] <;> omega, xor_izero _ (by omega) (by omega)]
  · have h3 : u % 2 = 1 := by omega
    rw [w1, w2, h3, if_neg (by omega), show IntKind.i64.wrap (0 - ((1 : Nat) : Int)) = -1 by rw [wrap_id] <;> omega, xor_iones _ (by omega) (by omega)]
def vgetTextM (b : Bs) (at_ most : Int) : Option (Bs × Nat) :=
  match vgetM b at_ with
  | none => none
  | some (n, a) => if most < 0 ∨ most < n ∨ b.length - a < n then none else some ((b.drop a).take n, a + n)
def vgetTextV : Option (Bs × Nat) → Value
  | some (s, a) => .tuple #[.string ⟨s.toArray⟩, Val.i a, .bool true]
  | none => .tuple #[.string ⟨#[]⟩, Val.i 0, .bool false]
section
variable {W0 : World} {st : Heap}
theorem vGetInt_spec {bv : Value} {b : Bs} {g0 : Tg} {at_ : Int} (h : Reg st g0 1 bv (bytesV b) b.length) (hl : b.length < 2 ^ 60) :
    ICalls Tryz.prog W0 59 #[bv, Val.i at_] st fun e st' => e = .returned (vgetIntV (vgetIntM b at_)) ∧ st' = st := by
  refine enter (args := [_, _]) Tryz.func59 rfl ?_
  simp [Tryz.f59, go_sem]
  refine (vGet_spec h hl).mono ?_
  rintro e st' ⟨rfl, rfl⟩
  unfold vgetIntM
  cases hg : vgetM b at_ with
  | none =>
    have w0 : IntKind.i64.wrap 0 = 0 := by decide
    have a0 : bits .and .u64 0 1 = 0 := by decide
    have f0 : Int.fdiv 0 2 = 0 := by decide
    have x0 : bits .xor .i64 0 0 = 0 := by decide
    simp [go_sem, vgetV, vgetIntV, w0, a0, f0, x0]
  | some r =>
    obtain ⟨u, a⟩ := r
    have hb := vgetM_bound hg
    simp only at hb
    have hfd : ((u : Int).fdiv 2) = ((u / 2 : Nat) : Int) := by rw [Int.fdiv_eq_ediv_of_nonneg _ (by omega)]; omega
    have hand : bits .and .u64 (u : Int) 1 = ((u % 2 : Nat) : Int) := by rw [bits_and1 _ (by omega) (by omega)]; omega
    have hz := unzz_bits u hb.1
    simp only [Int.zero_sub] at hz
    generalize hA : ((u / 2 : Nat) : Int) = A at *
    generalize hB : ((u % 2 : Nat) : Int) = B at *
    simp [go_sem, vgetV, vgetIntV, hfd, hand, hz]
theorem vPutText_spec {bv : Value} {b : Bs} {g0 : Tg} (g : Tg) {s : ByteArray} (h : Reg st g0 1 bv (bytesV b) b.length) (hs : s.size < 2 ^ 40) (hl : b.length < 2 ^ 40) :
    ICalls Tryz.prog W0 121 #[bv, .string s] st fun e st' => ∃ v, e = .returned v ∧ Vec st' g 1 v (bytesV (b ++ (vputM s.size ++ s.data.toList))) (b ++ (vputM s.size ++ s.data.toList)).length ∧ Fresh st v ∧ New st st' := by
  refine enter (args := [_, _]) Tryz.func121 rfl ?_
  have hw : IntKind.u64.wrap (s.size : Int) = s.size := wraps_u64 _ (by omega) (by omega)
  have hne : (40 : Nat) ≠ 9 := by decide
  simp [Tryz.f121, go_sem, hw]
  refine (vPut_spec g h (show s.size < 2 ^ 64 by omega) hl).mono ?_
  rintro e st1 ⟨v, rfl, hv, hf, hk⟩
  have hpl := vputM_len s.size (by omega)
  simp [go_sem]
  rw [b_append2 _ _ _ _ hne Tryz.underlying9]
  rw [si40]
  have hss : s.data.toList.length = s.size := by simp
  refine AppI_new (m := s.size) (ys := bytesV s.data.toList) si40 hv hf hk (by simp [srcCells, bytesV]) (bytesV_one _) (by rw [List.length_append]; omega) ?_
  intro nb nc st2 hv2 hf2 hk2 _
  simp [go_sem]
  refine ⟨?_, ?_, hk2⟩
  · have e1 : (b ++ vputM s.size).length + s.size = b.length + ((vputM s.size).length + s.size) := by simp; omega
    simp only [bytesV_append, List.append_assoc] at hv2 ⊢
    simpa [Nat.add_assoc] using hv2
  · simpa using hf2
theorem vGetText_spec {bv : Value} {b : Bs} {g0 : Tg} {at_ most : Int} (h : Reg st g0 1 bv (bytesV b) b.length) (hl : b.length < 2 ^ 60) (hm : most < 2 ^ 63) :
    ICalls Tryz.prog W0 178 #[bv, Val.i at_, Val.i most] st fun e st' => e = .returned (vgetTextV (vgetTextM b at_ most)) ∧ st' = st := by
  obtain ⟨base, cap, rfl⟩ := h.slice
  refine enter (args := [_, _, _]) Tryz.func178 rfl ?_
  simp [Tryz.f178, go_sem]
  refine (vGet_spec h hl).mono ?_
  rintro e st' ⟨rfl, rfl⟩
  unfold vgetTextM
  cases hg : vgetM b at_ with
  | none =>
    have q : (false = true) = False := by simp
    simp (config := {maxSteps := 1000000}) [go_sem, vgetV, vgetTextV]
  | some r =>
    obtain ⟨n, a⟩ := r
    have hb := vgetM_bound hg
    simp only at hb
    by_cases h1 : most < 0
    · simp [go_sem, vgetV, vgetTextV, h1]
    · have hwm : IntKind.u64.wrap most = most := wraps_u64 _ (by omega) (by omega)
      by_cases h2 : most < n
      · simp [go_sem, vgetV, vgetTextV, h1, hwm, h2]
      · have hwl : IntKind.i64.wrap ((b.length : Int) - a) = (b.length : Int) - a := wrap_id (by omega) (by omega)
        have hwl2 : IntKind.u64.wrap ((b.length : Int) - a) = (b.length : Int) - a := wraps_u64 _ (by omega) (by omega)
        by_cases h3 : b.length - a < n
        · have h3' : (b.length : Int) - a < n := by omega
          simp [go_sem, vgetV, vgetTextV, h1, hwm, h2, hwl, hwl2, h3, h3']
        · have h3' : ¬ (b.length : Int) - a < n := by omega
          have hwn : IntKind.i64.wrap (n : Int) = n := wrap_id (by omega) (by omega)
          have hwe : IntKind.i64.wrap ((a : Int) + n) = ((a + n : Nat) : Int) := by rw [wrap_id (by omega) (by omega)]; omega
          have hcap := h.cap
          have c1 : a + n ≤ cap := by omega
          have c2 : a ≤ a + n := by omega
          have htx : textOf st' (.slice (if cap = a then base else base.map (·.add a)) n (cap - a)) = some ⟨((b.drop a).take n).toArray⟩ := by
            refine textOf_reg (g := g0) ?_
            obtain ⟨hl1, base', cap', hv, hc, hr⟩ := h
            injection hv with q1 q2 q3; subst q1; subst q3
            refine ⟨by simp [bytesV]; omega, _, _, rfl, by omega, ?_⟩
            by_cases hn0 : n = 0
            · exact .inl hn0
            · rcases hr with hr | ⟨blk, off, rw_, ys, m, rfl, hs, hp, hoff⟩
              · omega
              · right
                rw [if_neg (by omega)]
                refine ⟨blk, off + a, rw_, ys, m, by simp [add_mk], hs, ?_, ?_⟩
                · obtain ⟨t, ht⟩ := hp
                  rw [show bytesV ((b.drop a).take n) = ((bytesV b).drop a).take n by simp [bytesV, List.map_take, List.map_drop], ← List.drop_drop, ← ht]
                  rw [List.drop_append_of_le_length (by rw [bytesV_length]; omega)]
                  exact (List.take_prefix _ _).trans (List.prefix_append _ _)
                · obtain ⟨t, ht⟩ := hp
                  have := congrArg List.length ht
                  simp [bytesV] at this
                  omega
          have e1 : a + n - a = n := by omega
          have b0 : (0 : Int) ≤ (a : Int) + n := by omega
          have b1 : ((a : Int) + n).toNat = a + n := by omega
          simp [go_sem, vgetV, vgetTextV, h1, hwm, h2, hwl, hwl2, h3, h3', hwn, hwe, c1, b0, b1, htx]
end
end Go.Proofs.YtadgciaclhjjkaaGreat
set_option linter.unusedVariables false
set_option linter.unusedSimpArgs false
set_option maxRecDepth 100000
set_option maxHeartbeats 1000000
namespace Go.Proofs.YtadgciaclhjjkaaGreat
open Go.RowKit (Below)

theorem xor_lt32 {a b : Nat} (ha : a < 2 ^ 32) (hb : b < 2 ^ 32) : a ^^^ b < 2 ^ 32 := Nat.xor_lt_two_pow ha hb
theorem bits_xor32 (a b : Nat) (ha : a < 2 ^ 32) (hb : b < 2 ^ 32) : bits .xor .u32 (a : Int) (b : Int) = ((a ^^^ b : Nat) : Int) := by
  have h1 : (BitVec.ofNat 32 a ^^^ BitVec.ofNat 32 b).toNat = a ^^^ b := by
    rw [BitVec.toNat_xor, BitVec.toNat_ofNat, BitVec.toNat_ofNat, Nat.mod_eq_of_lt ha, Nat.mod_eq_of_lt hb]
  unfold bits
  simp only [BitVec.ofInt_natCast]
  show IntKind.u32.wrap ((BitVec.ofNat 32 a ^^^ BitVec.ofNat 32 b).toNat : Int) = _
  rw [h1]
  have := xor_lt32 ha hb
  exact wraps_u32 _ (by omega) (by omega)
theorem bits_and15 (a : Nat) (h : a < 2 ^ 32) : bits .and .u32 (a : Int) 15 = ((a % 16 : Nat) : Int) := by
  have := bits_mask .u32 32 (by decide) wraps_u32 4 (by decide) (a : Int) (by omega) (by omega)
  simpa using this
def crcTab : List Nat := [0, 274646895, 549293790, 820201905, 1098587580, 1361435347, 1640403810, 1905808397, 2197175160, 2460548119, 2722870694, 2987750089, 3280807620, 3553878443, 3811616794, 4084100981]
def crcNib (r : Nat) : Nat := (r / 16) ^^^ crcTab.getD (r % 16) 0
def crcNibs : Nat → Nat → Nat
  | 0, q => q
  | m + 1, q => crcNibs m (crcNib q)
def crcByte (r : Nat) (x : UInt8) : Nat := crcNib (crcNib (r ^^^ x.toNat))
def crcM (b : Bs) : Nat := b.foldl crcByte 4294967295 ^^^ 4294967295
theorem bits_max32 (r : Nat) (h : r < 2 ^ 32) (m : Int) (hm : m = ((4294967295 : Nat) : Int)) : bits .xor .u32 m (r : Int) = ((4294967295 ^^^ r : Nat) : Int) := by
  subst hm
  exact bits_xor32 4294967295 r (by decide) h
theorem crcTab_lt (i : Nat) : crcTab.getD i 0 < 2 ^ 32 := by
  by_cases h : i < 16
  · have : ∀ j : Fin 16, crcTab.getD j.val 0 < 2 ^ 32 := by decide
    exact this ⟨i, h⟩
  · have : crcTab.getD i 0 = 0 := by
      rw [List.getD_eq_getElem?_getD, List.getElem?_eq_none (by simp [crcTab]; omega)]; rfl
    rw [this]; decide
theorem crcNib_lt {r : Nat} (h : r < 2 ^ 32) : crcNib r < 2 ^ 32 := xor_lt32 (by omega) (crcTab_lt _)
theorem crcByte_lt {r : Nat} (h : r < 2 ^ 32) (x : UInt8) : crcByte r x < 2 ^ 32 := crcNib_lt (crcNib_lt (xor_lt32 h (by have := x.toNat_lt; omega)))
theorem crc_lt : ∀ (b : Bs) (r : Nat), r < 2 ^ 32 → b.foldl crcByte r < 2 ^ 32
  | [], r, h => h
  | x :: b, r, h => crc_lt b _ (crcByte_lt h x)
theorem crcM_lt (b : Bs) : crcM b < 2 ^ 32 := xor_lt32 (crc_lt b _ (by decide)) (by decide)
section
variable {W0 : World} {st : Heap}
theorem sumMore_spec {bv : Value} {b : Bs} {g0 : Tg} (h : Reg st g0 1 bv (bytesV b) b.length) (hl : b.length < 2 ^ 60) :
    ICalls Tryz.prog W0 194 #[.int .u32 0, bv] st fun e st' => e = .returned (.int .u32 (crcM b)) ∧ New st st' := by
  obtain ⟨base, cap, rfl⟩ := h.slice
  refine enter (args := [_, _]) Tryz.func194 rfl ?_
  have hx0 : bits .xor .u32 4294967295 0 = 4294967295 := by decide
  have hmax : IntKind.u32.max = 4294967295 := by decide
  have hsg : IntKind.u32.signed = false := by decide
  simp [Tryz.f194, go_sem, hmax, hsg, hx0]
  unfold NewP
  intro tb htb
  refine ⟨.ty 0, ?_⟩
  simp [go_sem, hmax, hsg, hx0]
  have k1 : ∀ o, New st (upd st tb o) := fun o => (New.refl _).add htb
  refine ⟨fun E st' => New st st' ∧ st' tb = some (.cells true (crcTab.map fun n : Nat => Value.int .u32 (n : Int)) 16 (.ty 0)) ∧ E 5 = ptr tb ∧ E 12 = .slice base b.length cap ∧ E 13 = Val.i b.length ∧ ∃ (i r : Nat), E 14 = Val.i i ∧ E 6 = .int .u32 r ∧ i ≤ b.length ∧ r < 2 ^ 32 ∧ (b.drop i).foldl crcByte r = b.foldl crcByte 4294967295,
    fun E _ => match E 14 with | .int _ i => b.length - i.toNat | _ => 0, ⟨_, .rfl' _, k1 _, by rw [upd_same]; rfl, by simp [go_sem], by simp [go_sem], by simp [go_sem], 0, 4294967295, by simp [go_sem], by simp [go_sem], by omega, by decide, by simp⟩, ?_⟩
  rintro E st' ⟨hk, ht, e5, e12, e13, i, r, e14, e6, hi, hr, hrec⟩
  by_cases hlt : i < b.length
  · obtain ⟨x, hx⟩ : ∃ x, b[i]? = some x := ⟨_, List.getElem?_eq_getElem hlt⟩
    obtain ⟨blk, off, rfl, hg⟩ := src_get (h.new hk).src (by omega)
    have hg := hg i (by omega)
    have hgx : (bytesV b)[i]? = some (.int .u8 x.toNat) := by simp [bytesV, hx]
    rw [hgx] at hg
    have hx8 := x.toNat_lt
    have hdrop : b.drop i = x :: b.drop (i + 1) := by
      rw [List.drop_eq_getElem_cons hlt]
      congr 1
      rw [List.getElem?_eq_getElem hlt] at hx
      injection hx
    rw [hdrop] at hrec
    simp only [List.foldl_cons] at hrec
    have hwx : IntKind.u32.wrap (x.toNat : Int) = x.toNat := wraps_u32 _ (by omega) (by omega)
    have hxr := bits_xor32 r x.toNat hr (by omega)
    have hwi : IntKind.i64.wrap ((i : Int) + 1) = ((i + 1 : Nat) : Int) := by rw [wrap_id (by omega) (by omega)]; omega
    simp [go_sem, e5, e12, e13, e14, e6, hlt, hg, hwx, hxr]
    refine ⟨fun E st' => New st st' ∧ st' tb = some (.cells true (crcTab.map fun n : Nat => Value.int .u32 (n : Int)) 16 (.ty 0)) ∧ E 5 = ptr tb ∧ E 12 = .slice (some ⟨blk, off, none⟩) b.length cap ∧ E 13 = Val.i b.length ∧ E 14 = Val.i i ∧ ∃ (k q : Nat), E 22 = Val.i k ∧ E 6 = .int .u32 q ∧ k ≤ 2 ∧ q < 2 ^ 32 ∧ crcNibs (2 - k) q = crcByte r x,
      fun E _ => match E 22 with | .int _ k => 2 - k.toNat | _ => 0, ⟨st', .rfl' _, hk, ht, by simp [go_sem, e5], by simp [go_sem, e12], by simp [go_sem, e13], by simp [go_sem, e14], 0, r ^^^ x.toNat, by simp [go_sem], by simp [go_sem], by omega, xor_lt32 hr (by omega), rfl⟩, ?_⟩
    clear e5 e12 e13 e14 e6 hk ht
    rintro E st2 ⟨hk, ht, e5, e12, e13, e14, k, q, e22, e6, hk2, hq, hrep⟩
    by_cases hk3 : k < 2
    · have hk3' : (k : Int) < 2 := by omega
      obtain ⟨m, hm⟩ : ∃ m, 2 - k = m + 1 := ⟨1 - k, by omega⟩
      rw [hm] at hrep
      have hfd : ((q : Int).fdiv 16) = ((q / 16 : Nat) : Int) := by rw [Int.fdiv_eq_ediv_of_nonneg _ (by omega)]; omega
      have hand := bits_and15 q hq
      have hwk : IntKind.i64.wrap ((k : Int) + 1) = ((k + 1 : Nat) : Int) := by rw [wrap_id (by omega) (by omega)]; omega
      have htab : crcTab[q % 16]? = some (crcTab.getD (q % 16) 0) := by
        rw [List.getD_eq_getElem?_getD, List.getElem?_eq_getElem (by simp [crcTab]; omega)]; rfl
      have hxor := bits_xor32 (q / 16) (crcTab.getD (q % 16) 0) (by omega) (crcTab_lt _)
      generalize hT : crcTab.getD (q % 16) 0 = T at *
      generalize hA : q / 16 = A at *
      have hB : q % 16 < 16 := Nat.mod_lt _ (by decide)
      generalize hBB : q % 16 = B at *
      have hB' : (B : Int) < 16 := by omega
      have hnib : crcNib q = A ^^^ T := by unfold crcNib; rw [hA, hBB, hT]
      simp [go_sem, e5, e12, e13, e14, e6, e22, hk3', hfd, hand, hwk, htab, hxor, ht, hB']
      refine ⟨st2, .rfl' _, ⟨hk, ht, k + 1, by omega, A ^^^ T, by omega, by omega, by rw [← hnib]; exact crcNib_lt hq, ?_⟩, by omega⟩
      rw [← hrep, show 2 - (k + 1) = m by omega, ← hnib]
      rfl
    · have : k = 2 := by omega
      subst this
      simp [go_sem, e5, e12, e13, e14, e6, e22, hwi]
      refine ⟨st2, .rfl' _, ⟨hk, ht, i + 1, by omega, q, by omega, by omega, by omega, ?_⟩, by omega⟩
      rw [← hrec, ← hrep]
      rfl
  · have : i = b.length := by omega
    subst this
    have hxe : bits .xor .u32 4294967295 (r : Int) = ((4294967295 ^^^ r : Nat) : Int) := bits_max32 r hr _ rfl
    simp at hrec
    simp [go_sem, e5, e12, e13, e14, e6, hlt, hmax, hsg, hxe]
    refine ⟨?_, hk⟩
    unfold crcM
    rw [← hrec, Nat.xor_comm]
end
end Go.Proofs.YtadgciaclhjjkaaGreat
set_option linter.unusedVariables false
set_option linter.unusedSimpArgs false
set_option maxRecDepth 100000
set_option maxHeartbeats 1000000
namespace Go.Proofs.YtadgciaclhjjkaaGreat
open Go.RowKit (Below)

def le4 (c : Nat) : Bs := [UInt8.ofNat (c % 256), UInt8.ofNat (c / 256 % 256), UInt8.ofNat (c / 65536 % 256), UInt8.ofNat (c / 16777216 % 256)]
def le4R : Bs → Nat
  | [x, y, z, w] => x.toNat + 256 * y.toNat + 65536 * z.toNat + 16777216 * w.toNat
  | _ => 0
def frameM (body : Bs) : Bs := vputM body.length ++ (le4 (crcM body) ++ body)
def frameGetM (b : Bs) (at_ : Int) : Except Int (Bs × Nat) :=
  if at_ < 0 ∨ b.length < at_ then .error 1
  else if at_ = b.length then .error 3
  else match vgetM b at_ with
    | none => .error 4
    | some (n, a) => if n < 1 ∨ 1048576 < n ∨ b.length - a < n + 4 then .error 4
      else if crcM ((b.drop (a + 4)).take n) ≠ le4R ((b.drop a).take 4) then .error 4 else .ok ((b.drop (a + 4)).take n, a + 4 + n)
theorem bits_join32 (i : Nat) (x y : Int) (hx₀ : 0 ≤ x) (hx : x < 2 ^ i) (hy₀ : 0 ≤ y) (hy : y % 2 ^ i = 0) (hx₁ : x < 2 ^ 32) (hy₁ : y < 2 ^ 32) : bits .or .u32 x y = x + y := by
  have h := bits_join .u32 32 (by decide) wraps_u32 i y x hy₀ hy hy₁ hx₀ hx hx₁
  have hc : bits .or .u32 x y = bits .or .u32 y x := by
    unfold bits
    simp only [BitVec.or_comm]
  rw [hc, h]; omega
theorem Reg.drop {st : Heap} {g : Tg} {len k cap : Nat} {base : Option Addr} {xs : List Value} (h : Reg st g 1 (.slice base len cap) xs len) (hk : k ≤ len) :
    Reg st g 1 (.slice (if cap = k then base else base.map (·.add k)) (len - k) (cap - k)) (xs.drop k) (len - k) := by
  obtain ⟨hl1, base', cap', hv, hc, hr⟩ := h
  injection hv with q1 q2 q3; subst q1; subst q3
  refine ⟨by simp; omega, _, _, rfl, by omega, ?_⟩
  by_cases hn0 : len - k = 0
  · exact .inl hn0
  · rcases hr with hr | ⟨blk, off, rw_, ys, m, rfl, hs, hp, hoff⟩
    · omega
    · right
      rw [if_neg (by omega)]
      obtain ⟨t, ht⟩ := hp
      refine ⟨blk, off + k, rw_, ys, m, by simp [add_mk], hs, ?_, ?_⟩
      · rw [← List.drop_drop, ← ht, List.drop_append_of_le_length (by omega)]
        exact List.prefix_append _ _
      · have := congrArg List.length ht
        simp at this
        omega
section
variable {W0 : World} {st : Heap}
theorem sumOf_spec {bv : Value} {b : Bs} {g0 : Tg} (h : Reg st g0 1 bv (bytesV b) b.length) (hl : b.length < 2 ^ 60) :
    ICalls Tryz.prog W0 153 #[bv] st fun e st' => e = .returned (.int .u32 (crcM b)) ∧ New st st' := by
  refine enter (args := [_]) Tryz.func153 rfl ?_
  simp [Tryz.f153, go_sem]
  refine (sumMore_spec h hl).mono ?_
  rintro e st1 ⟨rfl, hk⟩
  simp [go_sem]
  exact hk
/-- What frame.Put leaves. -/
def FramePutR (st : Heap) (g : Tg) (bv : Value) (b body : Bs) (e : Ending) (st' : Heap) : Prop := New st st' ∧ if body.length < 1 ∨ 1048576 < body.length then e = .returned (.tuple #[bv, Val.i 1])
      else ∃ v, e = .returned (.tuple #[v, Val.i 0]) ∧ Vec st' g 1 v (bytesV (b ++ frameM body)) (b ++ frameM body).length ∧ Fresh st v
/-- What frame.Get leaves. -/
def FrameGetR (st : Heap) (g : Tg) (r : Except Int (Bs × Nat)) (e : Ending) (st' : Heap) : Prop := New st st' ∧ match r with
      | .error k => e = .returned (.tuple #[.slice none 0 0, Val.i 0, Val.i k])
      | .ok (body, end_) => ∃ v, e = .returned (.tuple #[v, Val.i end_, Val.i 0]) ∧ Vec st' g 1 v (bytesV body) body.length
theorem framePut_spec {bv yv : Value} {b body : Bs} {g0 g1 : Tg} (g : Tg) (h : Reg st g0 1 bv (bytesV b) b.length) (hy : Reg st g1 1 yv (bytesV body) body.length) (hl : b.length < 2 ^ 39) (hly : body.length < 2 ^ 60) :
    ICalls Tryz.prog W0 89 #[bv, yv] st (FramePutR st g bv b body) := by
  obtain ⟨ybase, ycap, rfl⟩ := hy.slice
  refine enter (args := [_, _]) Tryz.func89 rfl ?_
  by_cases h1 : body.length < 1
  · have h1' : ((body.length : Int) < 1) = True := eq_true (by omega)
    simp [Tryz.f89, go_sem, h1']
    exact ⟨New.refl _, by rw [if_pos (.inl h1)]⟩
  by_cases h2 : 1048576 < body.length
  · have h1' : ((body.length : Int) < 1) = False := eq_false (by omega)
    have h2' : ((1048576 : Int) < body.length) = True := eq_true (by omega)
    simp [Tryz.f89, go_sem, h1', h2']
    exact ⟨New.refl _, by rw [if_pos (.inr h2)]⟩
  have h1' : ((body.length : Int) < 1) = False := eq_false (by omega)
  have h2' : ((1048576 : Int) < body.length) = False := eq_false (by omega)
  have hw : IntKind.u64.wrap (body.length : Int) = body.length := wraps_u64 _ (by omega) (by omega)
  have hc := crcM_lt body
  simp [Tryz.f89, go_sem, h1', h2']
  refine (sumOf_spec hy hly).mono ?_
  rintro e st1 ⟨rfl, hk1⟩
  generalize hcc : crcM body = c at *
  simp [go_sem, hw]
  refine (vPut_spec g (h.new hk1) (show body.length < 2 ^ 64 by omega) (by omega)).mono ?_
  rintro e st2 ⟨v, rfl, hv, hf, hk2⟩
  rw [List.length_append] at hv
  have hpl := vputM_len body.length (by omega)
  have w0 : IntKind.u8.wrap (c : Int) = ((UInt8.ofNat (c % 256)).toNat : Int) := by rw [ofNat_u8 _ (by omega), IntKind.wrap_u8]; omega
  have f1 : IntKind.u8.wrap ((c : Int).fdiv 256) = ((UInt8.ofNat (c / 256 % 256)).toNat : Int) := by rw [ofNat_u8 _ (by omega), IntKind.wrap_u8, Int.fdiv_eq_ediv_of_nonneg _ (by omega)]; omega
  have f2 : IntKind.u8.wrap ((c : Int).fdiv 65536) = ((UInt8.ofNat (c / 65536 % 256)).toNat : Int) := by rw [ofNat_u8 _ (by omega), IntKind.wrap_u8, Int.fdiv_eq_ediv_of_nonneg _ (by omega)]; omega
  have f3 : IntKind.u8.wrap ((c : Int).fdiv 16777216) = ((UInt8.ofNat (c / 16777216 % 256)).toNat : Int) := by rw [ofNat_u8 _ (by omega), IntKind.wrap_u8, Int.fdiv_eq_ediv_of_nonneg _ (by omega)]; omega
  generalize hB0 : UInt8.ofNat (c % 256) = B0 at *
  generalize hB1 : UInt8.ofNat (c / 256 % 256) = B1 at *
  generalize hB2 : UInt8.ofNat (c / 65536 % 256) = B2 at *
  generalize hB3 : UInt8.ofNat (c / 16777216 % 256) = B3 at *
  have hle : le4 c = [B0, B1, B2, B3] := by unfold le4; rw [hB0, hB1, hB2, hB3]
  simp [go_sem, w0, f1, f2, f3]
  unfold NewS
  intro b3 hb3
  refine ⟨.ty 0, ?_⟩
  simp [go_sem]
  have k3 : New st2 (upd st2 b3 (.cells true [.int .u8 B0.toNat, .int .u8 B1.toNat, .int .u8 B2.toNat, .int .u8 B3.toNat] 4 (.ty 0))) := (New.refl _).add hb3
  have hk12 := hk1.trans hk2
  have hf' : Fresh st v := fun b off n c e => hk1.none (hf b off n c e)
  refine AppI_new (m := 4) (ys := bytesV (le4 c)) si40 (hv.new' k3) hf' (hk12.trans k3) ?_ (bytesV_one _) (by omega) ?_
  · rw [hle]; simp [srcCells, lkN_mk, upd_same, cellsOf, bytesV]
  intro nb nc st4 hv4 hf4 hk4 _
  simp [go_sem]
  refine AppI_new (m := body.length) (ys := bytesV body) si40 hv4 hf4 hk4 (hy.new hk4).src (bytesV_one _) (by omega) ?_
  intro nb2 nc2 st5 hv5 hf5 hk5 _
  simp [go_sem]
  refine ⟨hk5, ?_⟩
  rw [if_neg (by omega)]
  refine ⟨_, rfl, ?_, ?_⟩
  · have : frameM body = vputM body.length ++ (le4 c ++ body) := by unfold frameM; rw [hcc]
    rw [this]
    have hl4 : (le4 c).length = 4 := by rw [hle]; rfl
    have e1 : (b ++ (vputM body.length ++ (le4 c ++ body))).length = b.length + (vputM body.length).length + 4 + body.length := by simp [hl4]; omega
    have e2 : bytesV (b ++ (vputM body.length ++ (le4 c ++ body))) = bytesV (b ++ vputM body.length) ++ bytesV (le4 c) ++ bytesV body := by simp [bytesV_append]
    rw [e1, e2]
    simpa using hv5
  · simpa using hf5
theorem frameGet_spec {bv : Value} {b : Bs} {g0 : Tg} (g : Tg) {at_ : Int} (h : Reg st g0 1 bv (bytesV b) b.length) (hl : b.length < 2 ^ 40) :
    ICalls Tryz.prog W0 148 #[bv, Val.i at_] st (FrameGetR st g (frameGetM b at_)) := by
  obtain ⟨base, cap, rfl⟩ := h.slice
  have hcap := h.cap
  refine enter (args := [_, _]) Tryz.func148 rfl ?_
  generalize hres : frameGetM b at_ = res
  unfold frameGetM at hres
  by_cases h1 : at_ < 0
  · rw [if_pos (.inl h1)] at hres
    subst hres
    have q1 : (at_ < 0) = True := eq_true h1
    simp [Tryz.f148, go_sem, q1]
    exact ⟨New.refl _, rfl⟩
  by_cases h2 : (b.length : Int) < at_
  · rw [if_pos (.inr h2)] at hres
    subst hres
    have q1 : (at_ < 0) = False := eq_false h1
    have q2 : ((b.length : Int) < at_) = True := eq_true h2
    simp [Tryz.f148, go_sem, q1, q2]
    exact ⟨New.refl _, rfl⟩
  rw [if_neg (by omega)] at hres
  have q1 : (at_ < 0) = False := eq_false h1
  have q2 : ((b.length : Int) < at_) = False := eq_false h2
  by_cases h3 : at_ = b.length
  · rw [if_pos h3] at hres
    subst hres
    subst h3
    simp [Tryz.f148, go_sem, q1]
    exact ⟨New.refl _, rfl⟩
  rw [if_neg h3] at hres
  have q3 : (at_ = (b.length : Int)) = False := eq_false h3
  simp [Tryz.f148, go_sem, q1, q2, q3]
  refine (vGet_spec h (by omega)).mono ?_
  rintro e st1 ⟨rfl, rfl⟩
  cases hg : vgetM b at_ with
  | none =>
    rw [hg] at hres
    subst hres
    simp [go_sem, vgetV]
    exact ⟨New.refl _, rfl⟩
  | some r =>
    obtain ⟨n, a⟩ := r
    have hb := vgetM_bound hg
    simp only at hb
    rw [hg] at hres
    simp only at hres
    have hw1 : IntKind.i64.wrap ((b.length : Int) - a) = (b.length : Int) - a := wrap_id (by omega) (by omega)
    have hw2 : IntKind.u64.wrap ((b.length : Int) - a) = (b.length : Int) - a := wraps_u64 _ (by omega) (by omega)
    by_cases hn1 : n < 1
    · have p1 : ((n : Int) < 1) = True := eq_true (by omega)
      rw [if_pos (.inl hn1)] at hres
      subst hres
      simp [go_sem, vgetV, p1]
      exact ⟨New.refl _, rfl⟩
    have p1 : ((n : Int) < 1) = False := eq_false (by omega)
    by_cases hn2 : 1048576 < n
    · have p2 : ((1048576 : Int) < n) = True := eq_true (by omega)
      rw [if_pos (.inr (.inl hn2))] at hres
      subst hres
      simp [go_sem, vgetV, p1, p2]
      exact ⟨New.refl _, rfl⟩
    have p2 : ((1048576 : Int) < n) = False := eq_false (by omega)
    have hwn : IntKind.u64.wrap ((n : Int) + 4) = (n : Int) + 4 := wraps_u64 _ (by omega) (by omega)
    by_cases hn3 : b.length - a < n + 4
    · have p3 : ((b.length : Int) - a < (n : Int) + 4) = True := eq_true (by omega)
      rw [if_pos (.inr (.inr hn3))] at hres
      subst hres
      simp [go_sem, vgetV, p1, p2, hw1, hw2, hwn, p3]
      exact ⟨New.refl _, rfl⟩
    have p3 : ((b.length : Int) - a < (n : Int) + 4) = False := eq_false (by omega)
    rw [if_neg (by omega)] at hres
    obtain ⟨blk, off, rfl, hat⟩ := src_get h.src (by omega)
    have byte : ∀ k, a + k < b.length → ∃ x : UInt8, b[a + k]? = some x ∧ (cellsOf (st1 blk))[off + (a + k)]? = some (.int .u8 x.toNat) := fun k hk => by
      have h1 := hat (a + k) (by omega)
      have h2 : b[a + k]? = some b[a + k] := List.getElem?_eq_getElem hk
      refine ⟨_, h2, ?_⟩
      rw [h1]
      simp [bytesV, h2]
    obtain ⟨x0, hx0, hc0⟩ := byte 0 (by omega)
    obtain ⟨x1, hx1, hc1⟩ := byte 1 (by omega)
    obtain ⟨x2, hx2, hc2⟩ := byte 2 (by omega)
    obtain ⟨x3, hx3, hc3⟩ := byte 3 (by omega)
    have ht4 : (b.drop a).take 4 = [x0, x1, x2, x3] := by
      apply List.ext_getElem?
      intro i
      rw [List.getElem?_take, List.getElem?_drop]
      match i with
      | 0 => simpa using hx0
      | 1 => simpa using hx1
      | 2 => simpa using hx2
      | 3 => simpa using hx3
      | i + 4 => rw [if_neg (by omega)]; rfl
    rw [ht4] at hres
    have l0 := x0.toNat_lt
    have l1 := x1.toNat_lt
    have l2 := x2.toNat_lt
    have l3 := x3.toNat_lt
    have a1 : IntKind.i64.wrap ((a : Int) + 1) = ((a + 1 : Nat) : Int) := by rw [wrap_id (by omega) (by omega)]; omega
    have a2 : IntKind.i64.wrap ((a : Int) + 2) = ((a + 2 : Nat) : Int) := by rw [wrap_id (by omega) (by omega)]; omega
    have a3 : IntKind.i64.wrap ((a : Int) + 3) = ((a + 3 : Nat) : Int) := by rw [wrap_id (by omega) (by omega)]; omega
    have a4 : IntKind.i64.wrap ((a : Int) + 4) = ((a + 4 : Nat) : Int) := by rw [wrap_id (by omega) (by omega)]; omega
    obtain ⟨S, hS⟩ : ∃ S, le4R [x0, x1, x2, x3] = S := ⟨_, rfl⟩
    rw [hS] at hres
    simp only [le4R] at hS
    obtain ⟨y0, hy0⟩ : ∃ y, x0.toNat = y := ⟨_, rfl⟩
    obtain ⟨y1, hy1⟩ : ∃ y, x1.toNat = y := ⟨_, rfl⟩
    obtain ⟨y2, hy2⟩ : ∃ y, x2.toNat = y := ⟨_, rfl⟩
    obtain ⟨y3, hy3⟩ : ∃ y, x3.toNat = y := ⟨_, rfl⟩
    rw [hy0, hy1, hy2, hy3] at hS
    rw [hy0] at hc0 l0
    rw [hy1] at hc1 l1
    rw [hy2] at hc2 l2
    rw [hy3] at hc3 l3
    have u0 : IntKind.u32.wrap (y0 : Int) = y0 := wraps_u32 _ (by omega) (by omega)
    have u1 : IntKind.u32.wrap (y1 : Int) = y1 := wraps_u32 _ (by omega) (by omega)
    have u2 : IntKind.u32.wrap (y2 : Int) = y2 := wraps_u32 _ (by omega) (by omega)
    have u3 : IntKind.u32.wrap (y3 : Int) = y3 := wraps_u32 _ (by omega) (by omega)
    have v1 : IntKind.u32.wrap ((y1 : Int) * 256) = (y1 : Int) * 256 := wraps_u32 _ (by omega) (by omega)
    have v2 : IntKind.u32.wrap ((y2 : Int) * 65536) = (y2 : Int) * 65536 := wraps_u32 _ (by omega) (by omega)
    have v3 : IntKind.u32.wrap ((y3 : Int) * 16777216) = (y3 : Int) * 16777216 := wraps_u32 _ (by omega) (by omega)
    have o1 : bits .or .u32 (y0 : Int) ((y1 : Int) * 256) = (y0 : Int) + (y1 : Int) * 256 := bits_join32 8 _ _ (by omega) (by omega) (by omega) (by omega) (by omega) (by omega)
    have o2 : bits .or .u32 ((y0 : Int) + (y1 : Int) * 256) ((y2 : Int) * 65536) = (y0 : Int) + (y1 : Int) * 256 + (y2 : Int) * 65536 := bits_join32 16 _ _ (by omega) (by omega) (by omega) (by omega) (by omega) (by omega)
    have o3 : bits .or .u32 ((y0 : Int) + (y1 : Int) * 256 + (y2 : Int) * 65536) ((y3 : Int) * 16777216) = (y0 : Int) + (y1 : Int) * 256 + (y2 : Int) * 65536 + (y3 : Int) * 16777216 := bits_join32 24 _ _ (by omega) (by omega) (by omega) (by omega) (by omega) (by omega)
    have hwi : IntKind.i64.wrap (n : Int) = n := wrap_id (by omega) (by omega)
    have hwe : IntKind.i64.wrap ((a : Int) + 4 + n) = (a : Int) + 4 + n := wrap_id (by omega) (by omega)
    simp [go_sem, vgetV, p1, p2, hw1, hw2, hwn, p3]
    refine draw [0, 1, 2, 5, 6, 7, 8, 13, 14, 15, 16, 21, 22, 23, 24, 3, 4, 9, 10, 11, 12, 17, 18, 19, 20, 25, 26, 27, 28, 29] (by kernel_rfl) ?_
    have b0 : a < b.length := by omega
    have b1 : a + 1 < b.length := by omega
    have b2 : a + 2 < b.length := by omega
    have b3 : a + 3 < b.length := by omega
    have c0 : (0 : Int) ≤ (a : Int) + 1 := by omega
    have c1 : (a : Int) + 1 < b.length := by omega
    have c2 : ((a : Int) + 1).toNat = a + 1 := by omega
    have c3 : (0 : Int) ≤ (a : Int) + 2 := by omega
    have c4 : (a : Int) + 2 < b.length := by omega
    have c5 : ((a : Int) + 2).toNat = a + 2 := by omega
    have c6 : (0 : Int) ≤ (a : Int) + 3 := by omega
    have c7 : (a : Int) + 3 < b.length := by omega
    have c8 : ((a : Int) + 3).toNat = a + 3 := by omega
    have c9 : (0 : Int) ≤ (a : Int) + 4 := by omega
    have c10 : ((a : Int) + 4).toNat = a + 4 := by omega
    have c11 : (0 : Int) ≤ (a : Int) + 4 + n := by omega
    have c12 : ((a : Int) + 4 + n).toNat = a + 4 + n := by omega
    simp at hc0
    simp [go_sem, a1, a2, a3, a4, b0, b1, b2, b3, c0, c1, c2, c3, c4, c5, c6, c7, c8, c9, c10, c11, c12, hc0, hc1, hc2, hc3, u0, u1, u2, u3, v1, v2, v3, o1, o2, o3, hwi, hwe]
    refine ⟨by omega, ?_⟩
    have hbody : ((b.drop (a + 4)).take n).length = n := by simp; omega
    obtain ⟨body, hbd⟩ : ∃ body, (b.drop (a + 4)).take n = body := ⟨_, rfl⟩
    rw [hbd] at hres hbody
    have hsrc := ((h.drop (k := a + 4) (by omega)).take (m := n) (by omega)).src
    have hbv : ((bytesV b).drop (a + 4)).take n = bytesV body := by rw [← hbd]; simp [bytesV, List.map_take, List.map_drop]
    rw [hbv] at hsrc
    simp only [Option.map_some, add_mk] at hsrc
    refine AppI_newg g si40 (m := n) (ys := bytesV body) hsrc (by omega) ?_
    intro nb nc st4 hv4 hf4 hk4
    simp [go_sem]
    rw [← hbody] at hv4 ⊢
    refine (sumOf_spec hv4.reg (by omega)).mono ?_
    rintro e st5 ⟨rfl, hk5⟩
    have hSi : ((y0 : Int) + (y1 : Int) * 256 + (y2 : Int) * 65536 + (y3 : Int) * 16777216) = ((S : Nat) : Int) := by rw [← hS]; omega
    rw [hSi]
    by_cases hcrc : crcM body = S
    · rw [if_neg (by simpa using hcrc)] at hres
      subst hres
      have q : ((crcM body : Int) = (S : Int)) = True := eq_true (by omega)
      simp [go_sem, hSi, q]
      refine ⟨hk4.trans hk5, _, ?_, hv4.new' hk5⟩
      rw [show ((a + 4 + n : Nat) : Int) = (a : Int) + 4 + body.length by omega]
    · rw [if_pos (by simpa using hcrc)] at hres
      subst hres
      have q : ((crcM body : Int) = (S : Int)) = False := eq_false (by omega)
      simp [go_sem, hSi, q]
      exact ⟨hk4.trans hk5, rfl⟩
end
end Go.Proofs.YtadgciaclhjjkaaGreat
