/- Sorting what has at most one element: nothing is done. -/
import Derived.Test.YtahgfnbkkfpcnaaGreatCTab
import Derived.Test.YtahgfnbkkfpcnaaGreatC08
import Derived.Test.YtahgfnbkkfpcnaaGreatC16
import Derived.Test.YtahgfnbkkfpcnaaGreatC13
import Derived.Test.YtahgfnbkkfpcnaaGreatC14
import Derived.Test.YtahgfnbkkfpcnaaGreatC15
set_option linter.unusedVariables false
set_option linter.unusedSimpArgs false
set_option maxRecDepth 100000
namespace Go.Proofs.YtahgfnbkkfpcnaaGreat
open Go.RowKit (Below)
section
variable {W0 : World} {st : Heap}
theorem ze2 {n : Int} (h0 : 0 ≤ n) (h1 : n ≤ 1) : z00 Tryz.prog W0 242 #[.int .u64 n] st fun e st' => (∃ k, e = .returned (.int .i64 k)) ∧ st' = st := by
 refine enter (args := [_]) Tryz.func242 rfl ?_
 have hn : n = 0 ∨ n = 1 := by omega
 rcases hn with rfl | rfl
 ·simp [Tryz.f242, go_sem]
  decide
 ·simp [Tryz.f242, go_sem]
  decide
theorem zc8 {n : Int} (h0 : 0 ≤ n) (h1 : n ≤ 1) : z00 Tryz.prog W0 188 #[.int .u64 n] st fun e st' => (∃ k, e = .returned (.int .i64 k)) ∧ st' = st := by
 refine enter (args := [_]) Tryz.func188 rfl ?_
 simp [Tryz.f188, go_sem]
 refine (ze2 h0 h1).mono ?_
 rintro e st' ⟨⟨k, rfl⟩, rfl⟩
 simp [go_sem]
theorem zdx {v fv : Value} {n : Int} (h : n ≤ 1) : z00 Tryz.prog W0 248 #[v, .int .i64 0, .int .i64 n, fv] st fun e st' => e = .returned (.tuple #[]) ∧ st' = st := by
 refine enter (args := [_, _, _, _]) Tryz.func248 rfl ?_
 simp [Tryz.f248, go_sem]
 refine ⟨fun E st' => st' = st ∧ E 8 = .int .i64 1 ∧ E 2 = .int .i64 n, fun _ _ => 0, ⟨st, .rfl' st, rfl, by simp [go_sem]; decide, by simp [go_sem]⟩, ?_⟩
 rintro E st' ⟨rfl, h8, h2⟩
 have hn : ¬ 1 < n := by omega
 simp [go_sem, h8, h2, hn]
theorem zg5 {v fv : Value} {n k : Int} (h0 : 0 ≤ n) (h : n ≤ 1) : z00 Tryz.prog W0 197 #[v, .int .i64 0, .int .i64 n, .int .i64 k, fv] st fun e st' => e = .returned (.tuple #[]) ∧ st' = st := by
 refine enter (args := [_, _, _, _, _]) Tryz.func197 rfl ?_
 simp [Tryz.f197, go_sem]
 refine ⟨fun E st' => st' = st ∧ E 0 = v ∧ E 1 = .int .i64 0 ∧ E 2 = .int .i64 n ∧ E 4 = fv, fun _ _ => 0, ⟨st, .rfl' st, rfl, by simp [go_sem], by simp [go_sem], by simp [go_sem], by simp [go_sem]⟩, ?_⟩
 rintro E st' ⟨rfl, e0, e1, e2, e4⟩
 have hw : IntKind.i64.wrap (n - 0) = n := by rw [z03 (by omega) (by omega)]; omega
 have hw' : IntKind.i64.wrap n = n := z03 (by omega) (by omega)
 have hn : n ≤ 12 := by omega
 simp [go_sem, e0, e1, e2, e4, hw, hw', hn]
 refine (zdx h).mono ?_
 rintro e st' ⟨rfl, rfl⟩
 simp [go_sem]
theorem zk2 {b : Option Addr} {n c : Nat} {fv : Value} (h : n ≤ 1) : z00 Tryz.prog W0 129 #[.slice b n c, fv] st fun e st' => e = .returned (.tuple #[]) ∧ st' = st := by
 refine enter (args := [_, _]) Tryz.func129 rfl ?_
 have hw : IntKind.u64.wrap (n : Int) = n := by rw [IntKind.wrap_u64]; omega
 simp [Tryz.f129, go_sem, hw]
 refine (zc8 (by omega) (by omega)).mono ?_
 rintro e st' ⟨⟨k, rfl⟩, rfl⟩
 simp [go_sem]
 refine (zg5 (by omega) (by omega)).mono ?_
 rintro e st' ⟨rfl, rfl⟩
 simp [go_sem]
theorem zep {v : Value} {n : Int} (h : n ≤ 1) : z00 Tryz.prog W0 232 #[v, .int .i64 0, .int .i64 n] st fun e st' => e = .returned (.tuple #[]) ∧ st' = st := by
 refine enter (args := [_, _, _]) Tryz.func232 rfl ?_
 simp [Tryz.f232, go_sem]
 refine ⟨fun E st' => st' = st ∧ E 6 = .int .i64 1 ∧ E 2 = .int .i64 n, fun _ _ => 0, ⟨st, .rfl' st, rfl, by simp [go_sem]; decide, by simp [go_sem]⟩, ?_⟩
 rintro E st' ⟨rfl, h8, h2⟩
 have hn : ¬ 1 < n := by omega
 simp [go_sem, h8, h2, hn]
theorem zfl {v : Value} {n k : Int} (h0 : 0 ≤ n) (h : n ≤ 1) : z00 Tryz.prog W0 187 #[v, .int .i64 0, .int .i64 n, .int .i64 k] st fun e st' => e = .returned (.tuple #[]) ∧ st' = st := by
 refine enter (args := [_, _, _, _]) Tryz.func187 rfl ?_
 simp [Tryz.f187, go_sem]
 refine ⟨fun E st' => st' = st ∧ E 0 = v ∧ E 1 = .int .i64 0 ∧ E 2 = .int .i64 n, fun _ _ => 0, ⟨st, .rfl' st, rfl, by simp [go_sem], by simp [go_sem], by simp [go_sem]⟩, ?_⟩
 rintro E st' ⟨rfl, e0, e1, e2⟩
 have hw : IntKind.i64.wrap (n - 0) = n := by rw [z03 (by omega) (by omega)]; omega
 have hw' : IntKind.i64.wrap n = n := z03 (by omega) (by omega)
 have hn : n ≤ 12 := by omega
 simp [go_sem, e0, e1, e2, hw, hw', hn]
 refine (zep h).mono ?_
 rintro e st' ⟨rfl, rfl⟩
 simp [go_sem]
theorem zih {b : Option Addr} {n c : Nat} (h : n ≤ 1) : z00 Tryz.prog W0 119 #[.slice b n c] st fun e st' => e = .returned (.tuple #[]) ∧ st' = st := by
 refine enter (args := [_]) Tryz.func119 rfl ?_
 have hw : IntKind.u64.wrap (n : Int) = n := by rw [IntKind.wrap_u64]; omega
 simp [Tryz.f119, go_sem, hw]
 refine (zc8 (by omega) (by omega)).mono ?_
 rintro e st' ⟨⟨k, rfl⟩, rfl⟩
 simp [go_sem]
 refine (zfl (by omega) (by omega)).mono ?_
 rintro e st' ⟨rfl, rfl⟩
 simp [go_sem]
end
def VFS.put (S : VFS) (c : Ctl) (k : Nat) (b : Bs) : VFS := { S with c := c, files := S.files.modify k (·.app b) }
def VFS.lenOf (S : VFS) (k : Nat) : Nat := ((S.files[k]?).map (fun F => F.now.length)).getD 0
def VFS.append (S : VFS) (n : ByteArray) (b : Bs) : Int × VFS :=
 if z0a n = false then (if S.c.call.1 = 0 then 1 else S.c.call.1, S.ctl S.c.call.2)
 else match aget S.now n with
  | none => (if S.c.call.1 = 0 then 3 else S.c.call.1, S.ctl S.c.call.2)
  | some k =>
   if S.c.call.1 = 0 then
    if b.length + S.lenOf k ≤ 1073741824 then (0, S.put S.c.call.2 k b) else (2, S.ctl S.c.call.2)
   else (S.c.call.1, if S.c.off = false ∧ b.length / 2 + S.lenOf k ≤ 1073741824 then S.put S.c.call.2 k (b.take (b.length / 2)) else S.ctl S.c.call.2)
section
variable {W0 : World} {st : Heap}
theorem za4 {f k : Nat} {S : VFS} {F : VFile} {sm nm : Nat} {tv : Value} {ad : Nat → Nat} {b : Bs} {bv : Value} (h1 : st f = some (.cells true (fsC sm nm tv S.files.length S.c) 9 (.own f 0 0))) (h2 : st sm = some (.map (.own f 0 5) (encM ad S.sure))) (h3 : st nm = some (.map (.own f 0 6) (encM ad S.now)))
  (h4 : Vec st (.own f 0 7) 4 tv (S.turns.flatMap (encT ad)) S.turns.length) (h5 : ∀ (i : Nat) (F : VFile), S.files[i]? = some F → z1q st f i (ad i) F) (h6 : S.ok) (hk : S.files[k]? = some F)
  (hb : z06 1 st bv = some (b.length, bytesV b)) (hs1 : F.now.length + b.length < 2 ^ 40) (hs2 : F.pend.length < 2 ^ 40) :
  z00 Tryz.prog W0 94 #[ptr (ad k), bv] st fun e st' => e = .returned (.tuple #[]) ∧ FSAt st' f (S.put S.c k b) ∧ Keep (Out f) st st' := by
 refine (zc4 (h5 k F hk) hb hs1 hs2).mono ?_
 rintro e st' ⟨rfl, hF, hkp⟩
 refine ⟨rfl, ⟨sm, nm, tv, ad, ?_, hkp.getM h2 (by intro r _ _; simp; omega), hkp.getM h3 (by intro r _ _; simp; omega), h4.keep hkp (by intro r _ _; simp; omega), ?_, ?_⟩, hkp.imp fun g h r _ _ => h k r⟩
 ·have := hkp.get h1 (by intro r _ _; simp; omega)
  simpa [VFS.put] using this
 ·intro i G hi
  simp only [VFS.put] at hi
  rw [List.getElem?_modify] at hi
  by_cases hik : k = i
  ·subst hik
   rw [hk] at hi
   simp at hi
   subst hi
   exact hF
  ·cases hj : S.files[i]? with
   | none => rw [hj] at hi; cases hi
   | some G' =>
    rw [hj] at hi
    simp [hik] at hi
    subst hi
    exact (h5 i G' hj).keep hkp (by intro r _ _ r' _ _; simp; omega)
 ·obtain ⟨o1, o2, o3⟩ := h6
  exact ⟨by simpa [VFS.put] using o1, by simpa [VFS.put] using o2, by simpa [VFS.put] using o3⟩
theorem zgb {f : Nat} {S : VFS} {n : ByteArray} {b : Bs} {bv : Value} {g : Tg} (h : FSAt st f S) (hs : S.small) (hb : Reg st g 1 bv (bytesV b) b.length) (hg : Out f g) (hbl : b.length < 2 ^ 40) :
  z00 Tryz.prog W0 106 #[ptr f, .string n, bv] st fun e st' => e = .returned (Val.i (S.append n b).1) ∧ FSAt st' f (S.append n b).2 ∧ Keep (Out f) st st' := by
 obtain ⟨sm, nm, tv, ad, h1, h2, h3, h4, h5, h6⟩ := h
 refine enter (args := [_, _, _]) Tryz.func106 rfl ?_
 obtain ⟨base, cap, rfl⟩ := hb.slice
 simp [Tryz.f106, go_sem, h1, fsC]
 refine z5h h1 ?_
 obtain ⟨k0, hfs, h1, h2, h3, h4, h5⟩ := FSAt.ctl' h1 h2 h3 h4 h5 h6 S.c.call.2
 generalize hst1 : upd st f _ = st1 at *
 have k0' : Keep (Out f) st st1 := k0.imp fun g h => h 0 0
 have hb1 := hb.keep k0' hg
 simp [go_sem]
 refine z00.mono (z93 (n := n) h1 h3) ?_
 rintro e st2 ⟨rfl, rfl⟩
 have hw : IntKind.i64.wrap ((b.length : Int) / 2) = (b.length : Int) / 2 := z03 (by omega) (by omega)
 have hn : ((b.length : Int) / 2).toNat = b.length / 2 := by omega
 have hcap := hb1.cap
 have hcap2 : b.length / 2 ≤ cap := by omega
 have h0 : (0 : Int) ≤ (b.length : Int) / 2 := by omega
 unfold VFS.append
 cases hk : z0a n with
 | false =>
  by_cases hc : S.c.call.1 = 0
  ·simp [go_sem, hc]
   first | exact ⟨hfs, k0'⟩ | exact ⟨Nat.le_refl _, hfs, k0'⟩
  ·cases ho : S.c.off
   ·simp [go_sem, hc, hw, hn, h0, hcap2, ho]
    first | exact ⟨hfs, k0'⟩ | exact ⟨Nat.le_refl _, hfs, k0'⟩
   ·simp [go_sem, hc, hw, hn, h0, hcap2, ho]
    first | exact ⟨hfs, k0'⟩ | exact ⟨Nat.le_refl _, hfs, k0'⟩
 | true =>
  cases hg : aget S.now n with
  | none =>
   by_cases hc : S.c.call.1 = 0
   ·simp [go_sem, hc]
    first | exact ⟨hfs, k0'⟩ | exact ⟨Nat.le_refl _, hfs, k0'⟩
   ·cases ho : S.c.off
    ·simp [go_sem, hc, hw, hn, h0, hcap2, ho]
     first | exact ⟨hfs, k0'⟩ | exact ⟨Nat.le_refl _, hfs, k0'⟩
    ·simp [go_sem, hc, hw, hn, h0, hcap2, ho]
     first | exact ⟨hfs, k0'⟩ | exact ⟨Nat.le_refl _, hfs, k0'⟩
  | some k =>
   have hkl : k < S.files.length := by
    unfold aget at hg
    obtain ⟨p, h7, h8⟩ := Option.map_eq_some_iff.1 hg
    obtain ⟨e, h9, h10⟩ := z5z h7
    rw [← h8, ← h10]; exact h6.2.1 e h9
   obtain ⟨F, hF⟩ : ∃ F, S.files[k]? = some F := ⟨_, List.getElem?_eq_getElem hkl⟩
   have hlen : S.lenOf k = F.now.length := by simp [VFS.lenOf, hF]
   obtain ⟨s1, s2, s3⟩ := hs
   obtain ⟨q1, q2, q3⟩ := s3 F (List.mem_of_getElem? hF)
   obtain ⟨sv, pv, nv, us, b1, b2, b3, b4, b5⟩ := h5 k F hF
   obtain ⟨nb, nc, rfl⟩ := b5.slice
   have hw2 : IntKind.i64.wrap (1073741824 - (F.now.length : Int)) = 1073741824 - (F.now.length : Int) := z03 (by omega) (by omega)
   by_cases hc : S.c.call.1 = 0
   ·by_cases hfit : b.length + F.now.length ≤ 1073741824
    ·have hfit' : ¬ (1073741824 - (F.now.length : Int) < b.length) := by omega
     simp [go_sem, hc, hlen, hfit, hfit', b1, hw2]
     refine z00.mono (za4 (S := S.ctl S.c.call.2) h1 h2 h3 h4 h5 h6 hF hb1.src (by omega) q1) ?_
     rintro e st3 ⟨rfl, c1, c2⟩
     simp [go_sem]
     exact ⟨c1, k0'.trans c2⟩
    ·have hfit' : 1073741824 - (F.now.length : Int) < b.length := by omega
     simp [go_sem, hc, hlen, hfit, hfit', b1, hw2]
     first | exact ⟨hfs, k0'⟩ | exact ⟨Nat.le_refl _, hfs, k0'⟩
   ·cases ho : S.c.off
    ·by_cases hfit : b.length / 2 + F.now.length ≤ 1073741824
     ·have hfit' : (b.length : Int) / 2 ≤ 1073741824 - (F.now.length : Int) := by omega
      simp [go_sem, hc, hw, hn, h0, hcap2, ho, hlen, hfit, hfit', b1, hw2]
      have hb2 := (hb1.take (m := b.length / 2) (by omega)).src
      have e1 : (b.take (b.length / 2)).length = b.length / 2 := by rw [List.length_take]; omega
      have e2 : bytesV (b.take (b.length / 2)) = (bytesV b).take (b.length / 2) := by simp [bytesV, List.map_take]
      have hP := za4 (W0 := W0) (b := b.take (b.length / 2)) (bv := .slice base (b.length / 2) cap) (S := S.ctl S.c.call.2) h1 h2 h3 h4 h5 h6 hF (by rw [e1, e2]; exact hb2) (by omega) q1
      refine z00.mono hP ?_
      rintro e st3 ⟨rfl, c1, c2⟩
      simp [go_sem]
      exact ⟨c1, k0'.trans c2⟩
     ·have hfit' : ¬ ((b.length : Int) / 2 ≤ 1073741824 - (F.now.length : Int)) := by omega
      simp [go_sem, hc, hw, hn, h0, hcap2, ho, hlen, hfit, hfit', b1, hw2]
      first | exact ⟨hfs, k0'⟩ | exact ⟨Nat.le_refl _, hfs, k0'⟩
    ·simp [go_sem, hc, hw, hn, h0, hcap2, ho]
     first | exact ⟨hfs, k0'⟩ | exact ⟨Nat.le_refl _, hfs, k0'⟩
end
def withM : Bs → List VUnit → Int → Option Bs
 | b, [], _ => some b
 | b, p :: ps, u =>
  if u ≤ 0 then some b
  else if p.cut = true then (if p.size ≤ b.length then withM (b.take p.size) ps (u - 1) else none)
  else withM (b ++ p.b.take (min (p.b.length : Int) u).toNat) ps (u - min (p.b.length : Int) u)
section
variable {W0 : World} {st : Heap}
end
def Ent (st : Heap) (r : Nat) (z : Int) (f : Value → KV) : Prop := ∃ (ents : Array MapEntry) (clock : Nat) (es : KV) (j : Nat) (e : MapEntry), st r = some (.other (.map ents clock)) ∧ MapAt ents clock es ∧ ents[j]? = some e ∧ (e.born : Int) = z ∧ ∀ v, es.set j (e.key, v) = f v
def z47 (ad : Nat → Nat) (l : Dir) (k : ByteArray) (v : Value) : KV := match afind k l 0 with | some (j, _) => (encM ad l).set j (.string k, v) | none => encM ad l ++ [(.string k, v)]
theorem za2 (ad : Nat → Nat) (l : Dir) (k : ByteArray) (x : Nat) : z47 ad l k (ptr (ad x)) = encM ad (aset l k x) := by
 unfold z47 aset
 cases h : afind k l 0 with
 | none => simp [encM]
 | some p => simp [encM, List.map_set]
theorem zc9 {k : ByteArray} : ∀ {l : Dir} {i : Nat} {p : Nat × Nat}, afind k l i = some p → i ≤ p.1 ∧ p.1 < i + l.length
 | [], i, p, h => by cases h
 | e :: l, i, p, h => by
  unfold afind at h
  split at h
  ·injection h with h; subst h; exact ⟨Nat.le_refl _, by simp⟩
  ·have := zc9 h; simp only [List.length_cons]; omega
section
variable {W0 : World} {st : Heap} {K : Value → Heap → Prop}
theorem MapEntryI_enc {r : Nat} {g : Tg} {ad : Nat → Nat} {l : Dir} {k : ByteArray} (hr : st r = some (.map g (encM ad l))) (hk : ∀ old z st1, Ent st1 r z (z47 ad l k) → (∀ x, x ≠ r → st1 x = st x) → K (.tuple #[old, .int .i64 z]) st1) :
  z5f Tryz.prog 161 (.map (some r)) (.string k) K st := by
 unfold z5f z5n
 refine optK_iff.2 ⟨_, mi161, ?_⟩
 refine optK_iff.2 ⟨encM ad l, by rw [mapOf_mk, hr]; rfl, ?_⟩
 simp only
 rw [z1z]
 cases h : afind k l 0 with
 | none =>
  refine optK_iff.2 ⟨_, rfl, fun ents clock ha e he => ?_⟩
  simp only [Option.map_none] at ha he
  refine hk _ _ _ ⟨ents, clock, _, _, e, upd_same _ _ _, ha, he, rfl, ?_⟩ (fun x hx => upd_ne _ _ hx)
  intro v
  have hkey : e.key = .string k := by
   have h1 : (ents.toList.map fun x => (x.key, x.val))[(encM ad l).length]? = some (e.key, e.val) := by simp [he]
   rw [ha.kv] at h1
   simp at h1
   exact h1.1.symm
  unfold z47
  rw [h, hkey]
  simp
 | some p =>
  have hlt := (zc9 h).2
  simp only [Nat.zero_add] at hlt
  have hlt' : p.1 < (encM ad l).length := by simpa [encM] using hlt
  refine optK_iff.2 ⟨_, rfl, fun ents clock ha e he => ?_⟩
  simp only [Option.map_some] at ha he
  refine hk _ _ _ ⟨ents, clock, _, _, e, upd_same _ _ _, ha, he, rfl, ?_⟩ (fun x hx => upd_ne _ _ hx)
  intro v
  have hkey : e.key = .string k := by
   have h1 : (ents.toList.map fun x => (x.key, x.val))[p.1]? = some (e.key, e.val) := by simp [he]
   rw [ha.kv] at h1
   rw [List.getElem?_set_self hlt'] at h1
   injection h1 with h1
   exact (Prod.mk.inj h1).1.symm
  unfold z47
  rw [h, hkey, List.set_set]
theorem EntryStoreI_ent {r : Nat} {z : Int} {f : Value → KV} {v : Value} {kk : IntKind} (g : Tg) (h : Ent st r z f) (hk : K undef (upd st r (.map g (f v)))) : z5u (.map (some r)) (.int kk z) v K st := by
 obtain ⟨ents, clock, es, j, e, h1, h2, h3, h4, h5⟩ := h
 unfold z5u z62
 exact ⟨ents, clock, g, es, j, e, h1, h2, h3, h4, by rw [h5]; exact hk⟩
end
def VFS.lay (S : VFS) (n : ByteArray) (b : Bs) : VFS := { S with sure := aset S.sure n S.files.length, now := aset S.now n S.files.length, files := S.files ++ [⟨S.files.length, b, [], b⟩] }
section
variable {W0 : World} {st : Heap}
theorem lay_spec {f : Nat} {S : VFS} {n : ByteArray} {b : Bs} {bv : Value} (h : FSAt st f S) (hs : S.small) (hv : Vec st (.own f S.files.length 3) 1 bv (bytesV b) b.length) :
  z00 Tryz.prog W0 93 #[ptr f, .string n, bv] st fun e st' => e = .returned (.tuple #[]) ∧ FSAt st' f (S.lay n b) ∧ Keep (Out f) st st' := by
 obtain ⟨sm, nm, tv, ad, h1, h2, h3, h4, h5, h6⟩ := h
 refine enter (args := [_, _, _]) Tryz.func93 rfl ?_
 obtain ⟨bb, bc, rfl⟩ := hv.slice
 have hcap := hv.reg.cap
 simp [Tryz.f93, go_sem]
 refine draw [0, 1, 2, 4, 5, 6, 8, 3, 7, 9, 10, 11, 12, 13] (by kernel_rfl) ?_
 simp [go_sem, h1, fsC, hcap]
 unfold NewP
 intro a ha
 refine ⟨.own f S.files.length 1, ?_⟩
 have hfa := ne_of_new h1 ha
 have hlen1 : ((S.files ++ [(⟨S.files.length, b, [], b⟩ : VFile)]).length : Int) = S.files.length + 1 := by simp
 have hfl := hs.2.1
 have hw : IntKind.i64.wrap ((S.files.length : Int) + 1) = S.files.length + 1 := z03 (by omega) (by omega)
 have k1 : Keep (fun _ => True) st (upd st a (.cells true [Val.i S.files.length, .slice bb b.length bc, .slice none 0 0, .slice bb b.length b.length] 4 (.own f S.files.length 1))) := Keep.rfl'.new ha
 have ha' := upd_same st a (.cells true [Val.i S.files.length, .slice bb b.length bc, .slice none 0 0, .slice bb b.length b.length] 4 (.own f S.files.length 1))
 simp [go_sem, h1, fsC, hcap, hfa, hw]
 generalize hst3 : upd st a _ = st3 at *
 have c1 := k1.get h1 trivial
 have k4 : Keep (fun g => g ≠ .own f 0 0) st3 (upd st3 f (.cells true (fsC sm nm tv (S.files.length + 1) S.c) 9 (.own f 0 0))) := Keep.rfl'.old c1 (by simp [HObj.tag])
 have d1 := upd_same st3 f (.cells true (fsC sm nm tv (S.files.length + 1) S.c) 9 (.own f 0 0))
 refine draw [0, 1, 2, 4, 5, 6, 7, 9, 10, 11, 3, 8, 12, 13, 14, 15, 16, 17] (by kernel_rfl) ?_
 simp [go_sem, fsC]
 unfold fsC at k4 d1
 generalize hst4 : upd st3 f _ = st4 at *
 obtain ⟨ad', had⟩ : ∃ ad' : Nat → Nat, ad' = fun i => if i = S.files.length then a else ad i := ⟨_, rfl⟩
 have ead : ∀ i, i < S.files.length → ad i = ad' i := fun i hi => by rw [had]; simp [Nat.ne_of_lt hi]
 have eat : ad' S.files.length = a := by rw [had]; simp
 have e1 := z55 (l := S.now) fun p hp => ead p.2 (h6.2.1 p hp)
 have e2 := z55 (l := S.sure) fun p hp => ead p.2 (h6.1 p hp)
 have e3 := z97 (l := S.turns) fun t ht i hi => ead i (h6.2.2 t ht i hi)
 rw [e1] at h3
 rw [e2] at h2
 rw [e3] at h4
 have d2 := k4.getM (k1.getM h2 trivial) (by simp)
 have d3 := k4.getM (k1.getM h3 trivial) (by simp)
 have hsn : sm ≠ nm := z66 d2 d3 (by simp [HObj.tag])
 have hsf : f ≠ sm := by rintro rfl; rw [d1] at d2; cases d2
 have hnf : f ≠ nm := by rintro rfl; rw [d1] at d3; cases d3
 refine MapEntryI_enc d2 ?_
 intro old z st5 hE ho
 simp [go_sem]
 refine EntryStoreI_ent (.own f 0 5) hE ?_
 simp [go_sem]
 have hq1 := za2 ad' S.sure n S.files.length
 rw [eat] at hq1
 rw [show z47 ad' S.sure n (.pointer (some ⟨a, 0, none⟩)) = _ from hq1]
 have k5 : Keep (fun g => g ≠ .own f 0 5) st4 (upd st5 sm (.map (.own f 0 5) (encM ad' (aset S.sure n S.files.length)))) := by
  intro k o g hk ht hp
  have : k ≠ sm := by rintro rfl; rw [d2] at hk; injection hk with hk; subst hk; injection ht with ht; exact hp ht.symm
  rw [upd_ne _ _ this, ho k this]
  exact hk
 have d4 := upd_same st5 sm (.map (.own f 0 5) (encM ad' (aset S.sure n S.files.length)))
 generalize hst6 : upd st5 sm _ = st6 at *
 have d3' := k5.getM d3 (by simp)
 refine MapEntryI_enc d3' ?_
 intro old z st7 hE ho
 simp [go_sem]
 refine EntryStoreI_ent (.own f 0 6) hE ?_
 simp [go_sem]
 have hq2 := za2 ad' S.now n S.files.length
 rw [eat] at hq2
 rw [show z47 ad' S.now n (.pointer (some ⟨a, 0, none⟩)) = _ from hq2]
 have k6 : Keep (fun g => g ≠ .own f 0 6) st6 (upd st7 nm (.map (.own f 0 6) (encM ad' (aset S.now n S.files.length)))) := by
  intro k o g hk ht hp
  have : k ≠ nm := by rintro rfl; rw [d3'] at hk; injection hk with hk; subst hk; injection ht with ht; exact hp ht.symm
  rw [upd_ne _ _ this, ho k this]
  exact hk
 have d5 := upd_same st7 nm (.map (.own f 0 6) (encM ad' (aset S.now n S.files.length)))
 generalize hst8 : upd st7 nm _ = st8 at *
 refine ⟨⟨sm, nm, tv, ad', ?_, k6.getM d4 (by simp), d5, ?_, ?_, ?_⟩, ?_⟩
 ·have := k6.get (k5.get d1 (by simp)) (by simp)
  rw [show (((S.lay n b).files.length : Nat) : Int) = S.files.length + 1 from hlen1]
  exact this
 ·exact (((h4.keep k1 trivial).keep k4 (by simp)).keep k5 (by simp)).keep k6 (by simp)
 ·intro i F hi
  simp only [VFS.lay] at hi
  by_cases hlt : i < S.files.length
  ·rw [List.getElem?_append_left hlt] at hi
   rw [← ead i hlt]
   exact ((((h5 i F hi).keep k1 (fun _ _ _ => trivial)).keep k4 (by intro r h1 h2; simp; omega)).keep k5 (by intro r h1 h2; simp; omega)).keep k6 (by intro r h1 h2; simp; omega)
  ·rw [List.getElem?_append_right (by omega)] at hi
   have hi0 : i - S.files.length = 0 := by
    rcases Nat.eq_zero_or_pos (i - S.files.length) with h | h
    ·exact h
    ·rw [List.getElem?_eq_none (by simp; omega)] at hi; cases hi
   rw [hi0] at hi
   injection hi with hi
   have hii : i = S.files.length := by omega
   subst hi
   subst hii
   have hvv := (((hv.keep k1 trivial).keep k4 (by simp)).keep k5 (by simp)).keep k6 (by simp)
   refine ⟨.slice bb b.length bc, .slice none 0 0, .slice bb b.length b.length, [], ?_, hvv.reg, trivial, Vec.nil, ?_⟩
   ·rw [eat]
    exact k6.get (k5.get (k4.get ha' (by simp)) (by simp)) (by simp)
   ·obtain ⟨z1, z2, z3, z4, z5, z6⟩ := hvv
    injection z4 with y1 y2 y3; subst y1; subst y3
    refine ⟨z1, bb, b.length, rfl, Nat.le_refl _, ?_⟩
    rcases z6 with ⟨b9, n9, w1, w2, w3⟩ | ⟨w1, w2⟩
    ·exact .inl ⟨b9, n9, w1, w2, Nat.le_trans (Nat.mul_le_mul_right _ z5) w3⟩
    ·exact .inr ⟨w1, by omega⟩
 ·refine ⟨?_, ?_, ?_⟩
  ·intro p hp
   simp only [VFS.lay, List.length_append, List.length_singleton] at hp ⊢
   rcases aset_mem hp with hp | hp
   ·have := h6.1 p hp; omega
   ·omega
  ·intro p hp
   simp only [VFS.lay, List.length_append, List.length_singleton] at hp ⊢
   rcases aset_mem hp with hp | hp
   ·have := h6.2.1 p hp; omega
   ·omega
  ·intro t ht i hi
   simp only [VFS.lay, List.length_append, List.length_singleton] at ht ⊢
   have := h6.2.2 t ht i hi; omega
 ·exact (((k1.imp fun _ _ => trivial).trans (k4.imp fun g h => h 0 0)).trans (k5.imp fun g h => h 0 5)).trans (k6.imp fun g h => h 0 6)
end
def But (nm : Nat) (g : Tg) (st st' : Heap) : Prop := ∀ k o, st k = some o → k ≠ nm → o.tag ≠ some g → st' k = some o
theorem Iter.of {st st' : Heap} {m b : Nat} {es L : KV} (h : Iter st m b es L) (hs : ∀ k o, st k = some (.other o) → st' k = some (.other o)) : Iter st' m b es L := by
 obtain ⟨ents, clock, seen, Ls, h1, h2, h3, h4⟩ := h
 exact ⟨ents, clock, seen, Ls, h1, hs _ _ h2, hs _ _ h3, h4⟩
theorem Ext.other {g : Tg} {st st' : Heap} (h : Ext g st st') (k : Nat) (o : Obj) (hk : st k = some (.other o)) : st' k = some (.other o) := h.keep k _ hk (by simp [HObj.tag])
section
variable {W0 : World} {st : Heap}
end
set_option maxHeartbeats 1000000
def crashM : List VTurn → Nat → Int → Dir → Option Dir
 | [], _, _, d => some d
 | t :: ts, i, ops, d => if (i : Int) < ops then (t.does d).bind (crashM ts (i + 1) ops) else crashM ts (i + 1) ops d
theorem z9y {ad : Nat → Nat} : ∀ {ts : List VTurn} {j : Nat} {t : VTurn}, ts[j]? = some t → ((ts.flatMap (encT ad)).drop (j * 4)).take 4 = encT ad t ∧ j * 4 + 4 ≤ (ts.flatMap (encT ad)).length
 | t :: ts, 0, x, h => by
  injection h with h; subst h
  simp [encT]
 | t :: ts, j + 1, x, h => by
  obtain ⟨h1, h2⟩ := z9y (ad := ad) (ts := ts) (j := j) (by simpa using h)
  rw [show (j + 1) * 4 = j * 4 + 1 + 1 + 1 + 1 by omega]
  constructor
  ·simpa [encT] using h1
  ·simp only [List.flatMap_cons, List.length_append, encT, List.length_cons, List.length_nil] at h2 ⊢
   omega
section
variable {W0 : World} {st : Heap}
end
theorem zaw : ∀ bs : List UInt8, (bytesV bs).mapM z4t = some bs
 | [] => rfl
 | b :: bs => by
  have h := zaw bs
  unfold bytesV at h ⊢
  simp only [List.map_cons, List.mapM_cons, h]
  have hb : z4t (.int .u8 b.toNat) = some b := by simp [z4t]
  rw [hb]
  rfl
theorem z5x {st : Heap} {g : Tg} {base : Option Addr} {cap : Nat} {bs : List UInt8} {n : Nat} (h : Reg st g 1 (.slice base n cap) (bytesV bs) n) : z2k st (.slice base n cap) = some ⟨bs.toArray⟩ := by
 have hlen : bs.length = n := by have := h.1; rw [z6h] at this; omega
 have hs := h.src
 cases base with
 | none =>
  simp only [z06] at hs
  split at hs
  ·rename_i h0
   subst h0
   have : bs = [] := List.eq_nil_of_length_eq_zero hlen
   subst this; rfl
  ·cases hs
 | some a =>
  simp only [z06] at hs
  simp only [z2k]
  split
  ·rename_i h0
   have : bs = [] := List.eq_nil_of_length_eq_zero (by omega)
   subst this; rfl
  ·rename_i h0
   rw [if_neg h0] at hs
   obtain ⟨l, h1, h2⟩ := Option.map_eq_some_iff.1 hs
   rw [Nat.mul_one] at h1
   injection h2 with h2 h3
   subst h3
   rw [h1]
   simp [zaw]
section
variable {W0 : World} {st : Heap}
end
set_option maxHeartbeats 4000000
structure MetaD where
 id : Int
 level : Int
 day : Int
 lo : Int
 hi : Int
 done : Int
 rows : Int
def MetaD.ints (x : MetaD) : List Int := [x.id, x.level, x.day, x.lo, x.hi, x.done, x.rows]
def MetaD.cells (x : MetaD) : List Value := [Val.i x.id, Val.i x.level, Val.i x.day, Val.i x.lo, Val.i x.hi, Val.i x.done, Val.i x.rows]
def z0m (n : Int) : Prop := 0 ≤ n ∧ n ≤ 99999999
instance (n : Int) : Decidable (z0m n) := by unfold z0m; infer_instance
def z0b (x : MetaD) : Prop := z0m x.id ∧ (0 ≤ x.level ∧ x.level ≤ 3) ∧ 0 ≤ x.day ∧ x.day ≤ 127258290 ∧ 1 ≤ x.lo ∧ x.lo ≤ x.hi ∧ x.hi ≤ x.done ∧ x.done ≤ 1099511627776 ∧ 1 ≤ x.rows
instance (x : MetaD) : Decidable (z0b x) := by unfold z0b; infer_instance
structure TombD where
 seq : Int
 m : Mat
 fro : Int
 to : Int
def z2i (st : Heap) (cs : List Value) (t : TombD) : Prop := ∃ ms, MatAt st ms t.m ∧ cs = Val.i t.seq :: (ms ++ [Val.i t.fro, Val.i t.to])
def z0r (fro to : Int) : Prop := 0 ≤ fro ∧ fro < to ∧ to ≤ 1099511634240 ∧ fro % 8640 = 0 ∧ to % 8640 = 0
instance (fro to : Int) : Decidable (z0r fro to) := by unfold z0r; infer_instance
def z1g (t : TombD) : Prop := (1 ≤ t.seq ∧ t.seq ≤ 1099511627776) ∧ z0r t.fro t.to ∧ z1n t.m = true
instance (t : TombD) : Decidable (z1g t) := by unfold z1g; infer_instance
theorem zje (bs : Bs) (j : Nat) (q : Int) (h0 : 0 ≤ q) (h1 : q < 256) : (bytesV bs).set j (.int .u8 q) = bytesV (bs.set j (UInt8.ofNat q.toNat)) := by
 unfold bytesV
 rw [List.map_set]
 have : (UInt8.ofNat q.toNat).toNat = q.toNat := by simp; omega
 rw [this, Int.toNat_of_nonneg h0]
section
variable {W0 : World} {st : Heap}
theorem zbf {s : ByteArray} {n : Int} (hs : s.size < 100) : z00 Tryz.prog W0 87 #[.string s, Val.i n] st fun e st' => (∃ r : ByteArray, e = .returned (.string r) ∧ (z0m n → r ≠ ⟨#[]⟩) ∧ (¬ z0m n → r = ⟨#[]⟩)) ∧ New st st' := by
 refine enter (args := [_, _]) Tryz.func87 rfl ?_
 by_cases h1 : n < 0
 ·have q1 := eq_true h1
  simp [Tryz.f87, go_sem, q1, z0m]
  first | exact New.refl _ | exact ⟨by omega, New.refl _⟩
 have q1 := eq_false h1
 by_cases h2 : 99999999 < n
 ·have q2 := eq_true h2
  simp [Tryz.f87, go_sem, q1, q2, z0m]
  first | exact New.refl _ | exact ⟨by omega, New.refl _⟩
 have q2 := eq_false h2
 have hok : z0m n := ⟨by omega, by omega⟩
 simp [Tryz.f87, go_sem, q1, q2, hok]
 have q3 : (s.size ≤ 9223372036854775799) = True := eq_true (by omega)
 simp [go_sem, q3]
 unfold NewB
 intro bb bc hbb hbc
 refine ⟨.own bb 0 83, ?_⟩
 obtain ⟨s8, hs8⟩ : ∃ s8, s ++ (⟨#[48, 48, 48, 48, 48, 48, 48, 48]⟩ : ByteArray) = s8 := ⟨_, rfl⟩
 have hsz : s8.size = s.size + 8 := by rw [← hs8]; simp; rfl
 rw [hs8] at hbc ⊢
 have hwl : IntKind.i64.wrap ((s8.size : Int) - 1) = ((s8.size - 1 : Nat) : Int) := by rw [z03 (by omega) (by omega)]; omega
 simp [go_sem, hwl]
 have hN0 : New st (upd st bb (.cells true (bytesV s8.data.toList) bc (.own bb 0 83))) := (New.refl _).add hbb
 refine ⟨fun E st' => New st st' ∧ E 5 = .slice (some ⟨bb, 0, none⟩) s8.size bc ∧ ∃ (t : Nat) (k : Int) (bs : Bs), t ≤ 8 ∧ 0 ≤ k ∧ k < 10 ^ t ∧ E 1 = Val.i k ∧ E 6 = Val.i ((s.size : Int) + t - 1) ∧ bs.length = s8.size ∧ st' bb = some (.cells true (bytesV bs) bc (.own bb 0 83)),
  fun E _ => match E 1 with | .int _ k => k.toNat | _ => 0, ⟨_, .rfl' _, hN0, by simp [go_sem], 8, n, s8.data.toList, by omega, by omega, by simp; omega, by simp [go_sem], by simp [go_sem]; omega, by simp, upd_same _ _ _⟩, ?_⟩
 rintro E st2 ⟨hk2, e5, t, k, bs, ht, hk0, hk1, e1, e6, hbl, hs2⟩
 by_cases hpos : 0 < k
 ·have hpos' := eq_true hpos
  obtain ⟨t, rfl⟩ : ∃ t', t = t' + 1 := by
   cases t with
   | zero => simp at hk1; omega
   | succ t => exact ⟨t, rfl⟩
  have hj : (s.size : Int) + ((t + 1 : Nat) : Int) - 1 = ((s.size + t : Nat) : Int) := by omega
  rw [hj] at e6
  obtain ⟨p, hp⟩ : ∃ p, s.size + t = p := ⟨_, rfl⟩
  rw [hp] at e6
  have hjl : p < bs.length := by omega
  have hjb : p < s8.size := by omega
  have hm : Int.tmod k 10 = k % 10 := Int.tmod_eq_emod_of_nonneg hk0
  have hq : Int.tdiv k 10 = k / 10 := Int.tdiv_eq_ediv_of_nonneg hk0
  have hpw : (10 : Int) ^ (t + 1) = 10 * 10 ^ t := by rw [Int.pow_succ]; omega
  have hk3 : k < 10000000000 := by
   have h10 : (10 : Int) ^ (t + 1) ≤ 10 ^ 8 := by
    have : t = 0 ∨ t = 1 ∨ t = 2 ∨ t = 3 ∨ t = 4 ∨ t = 5 ∨ t = 6 ∨ t = 7 := by omega
    rcases this with rfl | rfl | rfl | rfl | rfl | rfl | rfl | rfl <;> decide
   have : (10 : Int) ^ 8 = 100000000 := by decide
   omega
  have hw2 : IntKind.i64.wrap (k / 10) = k / 10 := z03 (by omega) (by omega)
  have hwj : IntKind.i64.wrap ((p : Int) - 1) = (s.size : Int) + t - 1 := by rw [z03 (by omega) (by omega)]; omega
  obtain ⟨b, hb⟩ : ∃ b : UInt8, bs[p]? = some b := ⟨_, List.getElem?_eq_getElem hjl⟩
  have hgb : (bytesV bs)[p]? = some (.int .u8 b.toNat) := by simp [bytesV, hb]
  have hgb2 : ∀ (h : p < (bytesV bs).length), (bytesV bs)[p] = .int .u8 b.toNat := fun h => by
   have := List.getElem?_eq_getElem h
   rw [hgb] at this
   exact (Option.some.inj this).symm
  have hlb : (bytesV bs).length = s8.size := by simp [bytesV, hbl]
  have hbcn : p < bc := by omega
  have hple : p ≤ s8.size := by omega
  simp [go_sem, e1, e5, e6, hpos', hs2, hm, hq, hw2, hgb, hgb2, hlb, hjb, hbcn, hwj, hple]
  generalize hq0 : IntKind.u8.wrap ((b.toNat : Int) + IntKind.u8.wrap (k % 10)) = q0
  have hqb : 0 ≤ q0 ∧ q0 < 256 := by
   rw [← hq0, IntKind.wrap_u8]
   omega
  rw [zje _ _ _ hqb.1 hqb.2]
  exact ⟨_, .rfl' _, ⟨hk2.put hbb, t, by omega, k / 10, by omega, by omega, rfl, rfl, _, by simp [hbl], upd_same _ _ _⟩, by omega⟩
 ·have hpos' := eq_false hpos
  have hV : Vec st2 (.own bb 0 83) 1 (.slice (some ⟨bb, 0, none⟩) s8.size bc) (bytesV bs) s8.size := Vec.new (by simp [bytesV, hbl]) hbc hs2 (by omega)
  have htx := z5x hV.reg
  simp [go_sem, e1, e5, e6, hpos', hs2, htx]
  refine ⟨?_, hk2⟩
  intro h
  rw [h] at hbl
  simp at hbl
  omega
theorem calRes_any {l : Int} : z00 Tryz.prog W0 227 #[Val.i l] st fun e st' => (∃ v : Int, e = .returned (Val.i v) ∧ (0 < v ↔ 0 ≤ l ∧ l ≤ 3)) ∧ New st st' := by
 refine enter (args := [_]) Tryz.func227 rfl ?_
 by_cases h1 : l < 0
 ·have q1 := eq_true h1
  simp [Tryz.f227, go_sem, q1]
  unfold NewP
  intro tb htb
  refine ⟨.ty 0, ?_⟩
  simp [go_sem, q1]
  exact ⟨by omega, (New.refl _).add htb⟩
 have q1 := eq_false h1
 by_cases h2 : 4 ≤ l
 ·have q2 := eq_true h2
  simp [Tryz.f227, go_sem, q1, q2]
  unfold NewP
  intro tb htb
  refine ⟨.ty 0, ?_⟩
  simp [go_sem, q1, q2]
  exact ⟨by omega, (New.refl _).add htb⟩
 have hi : l = 0 ∨ l = 1 ∨ l = 2 ∨ l = 3 := by omega
 rcases hi with rfl | rfl | rfl | rfl
 all_goals
  simp [Tryz.f227, go_sem]
  unfold NewP
  intro tb htb
  refine ⟨.ty 0, ?_⟩
  simp [go_sem]
  exact (New.refl _).add htb
theorem zit {n : Int} : z00 Tryz.prog W0 22 #[Val.i n] st fun e st' => (∃ r : ByteArray, e = .returned (.string r) ∧ (z0m n → r ≠ ⟨#[]⟩) ∧ (¬ z0m n → r = ⟨#[]⟩)) ∧ New st st' := by
 refine enter (args := [_]) Tryz.func22 rfl ?_
 simp [Tryz.f22, go_sem]
 refine (zbf (by decide)).mono ?_
 rintro e st' ⟨⟨r, rfl, h1, h2⟩, h3⟩
 simp [go_sem]
 exact ⟨⟨h1, h2⟩, h3⟩
theorem za0 {n : Int} : z00 Tryz.prog W0 175 #[Val.i n] st fun e st' => (∃ r : ByteArray, e = .returned (.string r) ∧ (z0m n → r ≠ ⟨#[]⟩) ∧ (¬ z0m n → r = ⟨#[]⟩)) ∧ New st st' := by
 refine enter (args := [_]) Tryz.func175 rfl ?_
 simp [Tryz.f175, go_sem]
 refine (zbf (by decide)).mono ?_
 rintro e st' ⟨⟨r, rfl, h1, h2⟩, h3⟩
 simp [go_sem]
 exact ⟨⟨h1, h2⟩, h3⟩
theorem zen {x : MetaD} : z00 Tryz.prog W0 176 #[.agg #[Val.i x.id, Val.i x.level, Val.i x.day, Val.i x.lo, Val.i x.hi, Val.i x.done, Val.i x.rows]] st fun e st' => e = .returned (.bool (decide (z0b x))) ∧ New st st' := by
 refine enter (args := [_]) Tryz.func176 rfl ?_
 refine IW_cut (fun E' st' => ∃ ta, New st st' ∧ E' 1 = ptr ta ∧ st' ta = some (.cells true [Val.i x.id, Val.i x.level, Val.i x.day, Val.i x.lo, Val.i x.hi, Val.i x.done, Val.i x.rows] 7 (.ty 0))) ?_ ?_
 ·simp [go_sem]
  unfold NewP
  intro tb htb
  refine ⟨.ty 0, ?_⟩
  simp [go_sem]
  exact (New.refl _).add htb
 rintro E1 st1 ⟨ta, hk1, e1, hta⟩
 simp [go_sem, e1, hta]
 refine za0.mono ?_
 rintro e st2 ⟨⟨r, rfl, hr1, hr2⟩, hk2⟩
 have hta := hk2 _ _ hta
 have hk3 := hk1.trans hk2
 by_cases hn : z0m x.id
 rotate_left
 ·have := hr2 hn
  subst this
  have hno : ¬ z0b x := fun h => hn h.1
  simp [go_sem, e1, hta, hno]
  exact hk3
 have q_n := eq_false (hr1 hn)
 simp [go_sem, e1, hta, q_n]
 refine calRes_any.mono ?_
 rintro e st4 ⟨⟨v, rfl, hv⟩, hk4⟩
 have hta := hk4 _ _ hta
 have hk3 := hk3.trans hk4
 by_cases c0 : 0 < v
 rotate_left
 ·have q_c0 := eq_false c0
  have hno : ¬ z0b x := fun h => by unfold z0b at h; omega
  simp [go_sem, e1, hta, hno, q_n, q_c0]
  exact hk3
 have q_c0 := eq_true c0
 by_cases c1 : 0 ≤ x.day
 rotate_left
 ·have q_c1 := eq_false c1
  have hno : ¬ z0b x := fun h => by unfold z0b at h; omega
  simp [go_sem, e1, hta, hno, q_n, q_c0, q_c1]
  exact hk3
 have q_c1 := eq_true c1
 by_cases c2 : x.day ≤ 127258290
 rotate_left
 ·have q_c2 := eq_false c2
  have hno : ¬ z0b x := fun h => by unfold z0b at h; omega
  simp [go_sem, e1, hta, hno, q_n, q_c0, q_c1, q_c2]
  exact hk3
 have q_c2 := eq_true c2
 by_cases c3 : 1 ≤ x.lo
 rotate_left
 ·have q_c3 := eq_false c3
  have hno : ¬ z0b x := fun h => by unfold z0b at h; omega
  simp [go_sem, e1, hta, hno, q_n, q_c0, q_c1, q_c2, q_c3]
  exact hk3
 have q_c3 := eq_true c3
 by_cases c4 : x.lo ≤ x.hi
 rotate_left
 ·have q_c4 := eq_false c4
  have hno : ¬ z0b x := fun h => by unfold z0b at h; omega
  simp [go_sem, e1, hta, hno, q_n, q_c0, q_c1, q_c2, q_c3, q_c4]
  exact hk3
 have q_c4 := eq_true c4
 by_cases c5 : x.hi ≤ x.done
 rotate_left
 ·have q_c5 := eq_false c5
  have hno : ¬ z0b x := fun h => by unfold z0b at h; omega
  simp [go_sem, e1, hta, hno, q_n, q_c0, q_c1, q_c2, q_c3, q_c4, q_c5]
  exact hk3
 have q_c5 := eq_true c5
 by_cases c6 : x.done ≤ 1099511627776
 rotate_left
 ·have q_c6 := eq_false c6
  have hno : ¬ z0b x := fun h => by unfold z0b at h; omega
  simp [go_sem, e1, hta, hno, q_n, q_c0, q_c1, q_c2, q_c3, q_c4, q_c5, q_c6]
  exact hk3
 have q_c6 := eq_true c6
 by_cases c7 : 1 ≤ x.rows
 rotate_left
 ·have q_c7 := eq_false c7
  have hno : ¬ z0b x := fun h => by unfold z0b at h; omega
  simp [go_sem, e1, hta, hno, q_n, q_c0, q_c1, q_c2, q_c3, q_c4, q_c5, q_c6, q_c7]
  exact hk3
 have q_c7 := eq_true c7
 have hyes : z0b x := ⟨by assumption, by omega, by omega, by omega, by omega, by omega, by omega, by omega, by omega⟩
 simp [go_sem, e1, hta, hyes, q_n, q_c0, q_c1, q_c2, q_c3, q_c4, q_c5, q_c6, q_c7]
 exact hk3
theorem zgx {fro to : Int} : z00 Tryz.prog W0 228 #[Val.i fro, Val.i to] st fun e st' => e = .returned (.bool (decide (z0r fro to))) ∧ st' = st := by
 refine enter (args := [_, _]) Tryz.func228 rfl ?_
 by_cases c0 : 0 ≤ fro
 rotate_left
 ·have q_c0 := eq_false c0
  have hno : ¬ z0r fro to := fun h => by unfold z0r at h; omega
  simp [Tryz.f228, go_sem, hno, q_c0]
 have q_c0 := eq_true c0
 by_cases c1 : fro < to
 rotate_left
 ·have q_c1 := eq_false c1
  have hno : ¬ z0r fro to := fun h => by unfold z0r at h; omega
  simp [Tryz.f228, go_sem, hno, q_c0, q_c1]
 have q_c1 := eq_true c1
 have m1 : Int.tmod fro 8640 = fro % 8640 := Int.tmod_eq_emod_of_nonneg c0
 have m2 : Int.tmod to 8640 = to % 8640 := Int.tmod_eq_emod_of_nonneg (by omega)
 by_cases c2 : to ≤ 1099511634240
 rotate_left
 ·have q_c2 := eq_false c2
  have hno : ¬ z0r fro to := fun h => by unfold z0r at h; omega
  simp [Tryz.f228, go_sem, hno, q_c0, q_c1, m1, m2, q_c2]
 have q_c2 := eq_true c2
 by_cases c3 : fro % 8640 = 0
 rotate_left
 ·have q_c3 := eq_false c3
  have hno : ¬ z0r fro to := fun h => by unfold z0r at h; omega
  simp [Tryz.f228, go_sem, hno, q_c0, q_c1, m1, m2, q_c2, q_c3]
 have q_c3 := eq_true c3
 by_cases c4 : to % 8640 = 0
 rotate_left
 ·have q_c4 := eq_false c4
  have hno : ¬ z0r fro to := fun h => by unfold z0r at h; omega
  simp [Tryz.f228, go_sem, hno, q_c0, q_c1, m1, m2, q_c2, q_c3, q_c4]
 have q_c4 := eq_true c4
 have hyes : z0r fro to := ⟨by omega, by omega, by omega, by omega, by omega⟩
 simp [Tryz.f228, go_sem, hyes, q_c0, q_c1, m1, m2, q_c2, q_c3, q_c4]
theorem zd8 {t : TombD} {cs : List Value} (h : z2i st cs t) : z00 Tryz.prog W0 177 #[.agg cs.toArray] st fun e st' => e = .returned (.bool (decide (z1g t))) ∧ New st st' := by
 obtain ⟨ms, hm, rfl⟩ := h
 obtain ⟨seq, m, fro, to⟩ := t
 match m with
 | .mk op name value vals kids =>
 have hm0 := hm
 unfold MatAt at hm
 obtain ⟨vv, kv, ks, rfl, hv, hk', hkids⟩ := hm
 obtain ⟨vb, vc, rfl⟩ := hv.slice
 obtain ⟨kb, kc, rfl⟩ := hk'.slice
 refine enter (args := [_]) Tryz.func177 rfl ?_
 refine IW_cut (fun E' st' => ∃ ta, New st st' ∧ E' 1 = ptr ta ∧ st' ta = some (.cells true [Val.i seq, Val.i op, .string name, .string value, .slice vb vals.length vc, .slice kb kids.length kc, Val.i fro, Val.i to] 8 (.ty 0))) ?_ ?_
 ·simp [go_sem]
  unfold NewP
  intro tb htb
  refine ⟨.ty 0, ?_⟩
  simp [go_sem]
  exact (New.refl _).add htb
 rintro E1 st1 ⟨ta, hk1, e1, hta⟩
 unfold z1g
 simp only
 by_cases c0 : 1 ≤ seq
 rotate_left
 ·have q0 := eq_false c0
  simp [go_sem, e1, hta, q0]
  exact hk1
 have q0 := eq_true c0
 by_cases c1 : seq ≤ 1099511627776
 rotate_left
 ·have q1 := eq_false c1
  simp [go_sem, e1, hta, q0, q1]
  exact hk1
 have q1 := eq_true c1
 simp [go_sem, e1, hta, q0, q1]
 refine zgx.mono ?_
 rintro e st2 ⟨rfl, rfl⟩
 by_cases c2 : z0r fro to
 rotate_left
 ·have q2 := eq_false c2
  simp [go_sem, e1, hta, q2]
  exact hk1
 have q2 := eq_true c2
 simp [go_sem, e1, hta, q2]
 refine (z95 _ (hm0.new hk1)).mono ?_
 rintro e st3 ⟨rfl, hk3⟩
 simp [go_sem, e1]
 exact hk1.trans hk3
end
end Go.Proofs.YtahgfnbkkfpcnaaGreat
