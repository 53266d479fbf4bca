/- Sorting what has at most one element: nothing is done. -/
import Derived.Test.YtgppogppdmbgmaaGreatCTab
import Derived.Test.YtgppogppdmbgmaaGreatC10
import Derived.Test.YtgppogppdmbgmaaGreatC18
set_option linter.unusedVariables false
set_option linter.unusedSimpArgs false
set_option maxRecDepth 100000
namespace Go.Proofs.YtgppogppdmbgmaaGreat
open Go.RowKit (Below)
section
variable {W0 : World} {st : Heap}
theorem Len64_small {n : Int} (h0 : 0 ≤ n) (h1 : n ≤ 1) : ICalls Tryz.prog W0 238 #[.int .u64 n] st fun e st' => (∃ k, e = .returned (.int .i64 k)) ∧ st' = st := by
  refine enter (args := [_]) Tryz.func238 rfl ?_
  have hn : n = 0 ∨ n = 1 := by omega
  rcases hn with rfl | rfl
  · simp [Tryz.f238, go_sem]
    decide
  · simp [Tryz.f238, go_sem]
    decide
theorem Len_small {n : Int} (h0 : 0 ≤ n) (h1 : n ≤ 1) : ICalls Tryz.prog W0 186 #[.int .u64 n] st fun e st' => (∃ k, e = .returned (.int .i64 k)) ∧ st' = st := by
  refine enter (args := [_]) Tryz.func186 rfl ?_
  simp [Tryz.f186, go_sem]
  refine (Len64_small h0 h1).mono ?_
  rintro e st' ⟨⟨k, rfl⟩, rfl⟩
  simp [go_sem]
theorem insertionCmp_small {v fv : Value} {n : Int} (h : n ≤ 1) : ICalls Tryz.prog W0 246 #[v, .int .i64 0, .int .i64 n, fv] st fun e st' => e = .returned (.tuple #[]) ∧ st' = st := by
  refine enter (args := [_, _, _, _]) Tryz.func246 rfl ?_
  simp [Tryz.f246, go_sem]
  refine ⟨fun E st' => st' = st ∧ E 8 = .int .i64 1 ∧ E 2 = .int .i64 n, fun _ _ => 0, ⟨st, .rfl' st, rfl, by simp [go_sem]; decide, by simp [go_sem]⟩, ?_⟩
  rintro E st' ⟨rfl, h8, h2⟩
  have hn : ¬ 1 < n := by omega
  simp [go_sem, h8, h2, hn]
theorem pdqCmp_small {v fv : Value} {n k : Int} (h0 : 0 ≤ n) (h : n ≤ 1) : ICalls Tryz.prog W0 196 #[v, .int .i64 0, .int .i64 n, .int .i64 k, fv] st fun e st' => e = .returned (.tuple #[]) ∧ st' = st := by
  refine enter (args := [_, _, _, _, _]) Tryz.func196 rfl ?_
  simp [Tryz.f196, go_sem]
  refine ⟨fun E st' => st' = st ∧ E 0 = v ∧ E 1 = .int .i64 0 ∧ E 2 = .int .i64 n ∧ E 4 = fv, fun _ _ => 0, ⟨st, .rfl' st, rfl, by simp [go_sem], by simp [go_sem], by simp [go_sem], by simp [go_sem]⟩, ?_⟩
  rintro E st' ⟨rfl, e0, e1, e2, e4⟩
  have hw : IntKind.i64.wrap (n - 0) = n := by rw [wrap_id (by omega) (by omega)]; omega
  have hw' : IntKind.i64.wrap n = n := wrap_id (by omega) (by omega)
  have hn : n ≤ 12 := by omega
  simp [go_sem, e0, e1, e2, e4, hw, hw', hn]
  refine (insertionCmp_small h).mono ?_
  rintro e st' ⟨rfl, rfl⟩
  simp [go_sem]
theorem SortFunc_small {b : Option Addr} {n c : Nat} {fv : Value} (h : n ≤ 1) : ICalls Tryz.prog W0 132 #[.slice b n c, fv] st fun e st' => e = .returned (.tuple #[]) ∧ st' = st := by
  refine enter (args := [_, _]) Tryz.func132 rfl ?_
  have hw : IntKind.u64.wrap (n : Int) = n := by rw [IntKind.wrap_u64]; omega
  simp [Tryz.f132, go_sem, hw]
  refine (Len_small (by omega) (by omega)).mono ?_
  rintro e st' ⟨⟨k, rfl⟩, rfl⟩
  simp [go_sem]
  refine (pdqCmp_small (by omega) (by omega)).mono ?_
  rintro e st' ⟨rfl, rfl⟩
  simp [go_sem]
theorem insertionOrd_small {v : Value} {n : Int} (h : n ≤ 1) : ICalls Tryz.prog W0 228 #[v, .int .i64 0, .int .i64 n] st fun e st' => e = .returned (.tuple #[]) ∧ st' = st := by
  refine enter (args := [_, _, _]) Tryz.func228 rfl ?_
  simp [Tryz.f228, go_sem]
  refine ⟨fun E st' => st' = st ∧ E 6 = .int .i64 1 ∧ E 2 = .int .i64 n, fun _ _ => 0, ⟨st, .rfl' st, rfl, by simp [go_sem]; decide, by simp [go_sem]⟩, ?_⟩
  rintro E st' ⟨rfl, h8, h2⟩
  have hn : ¬ 1 < n := by omega
  simp [go_sem, h8, h2, hn]
theorem pdqOrd_small {v : Value} {n k : Int} (h0 : 0 ≤ n) (h : n ≤ 1) : ICalls Tryz.prog W0 185 #[v, .int .i64 0, .int .i64 n, .int .i64 k] st fun e st' => e = .returned (.tuple #[]) ∧ st' = st := by
  refine enter (args := [_, _, _, _]) Tryz.func185 rfl ?_
  simp [Tryz.f185, go_sem]
  refine ⟨fun E st' => st' = st ∧ E 0 = v ∧ E 1 = .int .i64 0 ∧ E 2 = .int .i64 n, fun _ _ => 0, ⟨st, .rfl' st, rfl, by simp [go_sem], by simp [go_sem], by simp [go_sem]⟩, ?_⟩
  rintro E st' ⟨rfl, e0, e1, e2⟩
  have hw : IntKind.i64.wrap (n - 0) = n := by rw [wrap_id (by omega) (by omega)]; omega
  have hw' : IntKind.i64.wrap n = n := wrap_id (by omega) (by omega)
  have hn : n ≤ 12 := by omega
  simp [go_sem, e0, e1, e2, hw, hw', hn]
  refine (insertionOrd_small h).mono ?_
  rintro e st' ⟨rfl, rfl⟩
  simp [go_sem]
theorem Sort_small {b : Option Addr} {n c : Nat} (h : n ≤ 1) : ICalls Tryz.prog W0 121 #[.slice b n c] st fun e st' => e = .returned (.tuple #[]) ∧ st' = st := by
  refine enter (args := [_]) Tryz.func121 rfl ?_
  have hw : IntKind.u64.wrap (n : Int) = n := by rw [IntKind.wrap_u64]; omega
  simp [Tryz.f121, go_sem, hw]
  refine (Len_small (by omega) (by omega)).mono ?_
  rintro e st' ⟨⟨k, rfl⟩, rfl⟩
  simp [go_sem]
  refine (pdqOrd_small (by omega) (by omega)).mono ?_
  rintro e st' ⟨rfl, rfl⟩
  simp [go_sem]
end
end Go.Proofs.YtgppogppdmbgmaaGreat
set_option linter.unusedVariables false
set_option linter.unusedSimpArgs false
set_option maxRecDepth 100000
namespace Go.Proofs.YtgppogppdmbgmaaGreat
open Go.RowKit (Below)

def VFS.put (S : VFS) (c : Ctl) (k : Nat) (b : Bs) : VFS := { S with c := c, files := S.files.modify k (·.app b) }
def VFS.lenOf (S : VFS) (k : Nat) : Nat := ((S.files[k]?).map (fun F => F.now.length)).getD 0
def VFS.append (S : VFS) (n : ByteArray) (b : Bs) : Int × VFS :=
  if okName n = false then (if S.c.call.1 = 0 then 1 else S.c.call.1, S.ctl S.c.call.2)
  else match aget S.now n with
    | none => (if S.c.call.1 = 0 then 3 else S.c.call.1, S.ctl S.c.call.2)
    | some k =>
      if S.c.call.1 = 0 then
        if b.length + S.lenOf k ≤ 1073741824 then (0, S.put S.c.call.2 k b) else (2, S.ctl S.c.call.2)
      else (S.c.call.1, if S.c.off = false ∧ b.length / 2 + S.lenOf k ≤ 1073741824 then S.put S.c.call.2 k (b.take (b.length / 2)) else S.ctl S.c.call.2)
section
variable {W0 : World} {st : Heap}
/-- A file's bytes are put, within its file system. -/
theorem put_spec {f k : Nat} {S : VFS} {F : VFile} {sm nm : Nat} {tv : Value} {ad : Nat → Nat} {b : Bs} {bv : Value} (h1 : st f = some (.cells true (fsC sm nm tv S.files.length S.c) 9 (.own f 0 0))) (h2 : st sm = some (.map (.own f 0 5) (encM ad S.sure))) (h3 : st nm = some (.map (.own f 0 6) (encM ad S.now)))
    (h4 : Vec st (.own f 0 7) 4 tv (S.turns.flatMap (encT ad)) S.turns.length) (h5 : ∀ (i : Nat) (F : VFile), S.files[i]? = some F → FileAt st f i (ad i) F) (h6 : S.ok) (hk : S.files[k]? = some F)
    (hb : srcCells 1 st bv = some (b.length, bytesV b)) (hs1 : F.now.length + b.length < 2 ^ 40) (hs2 : F.pend.length < 2 ^ 40) :
    ICalls Tryz.prog W0 100 #[ptr (ad k), bv] st fun e st' => e = .returned (.tuple #[]) ∧ FSAt st' f (S.put S.c k b) ∧ Keep (Out f) st st' := by
  refine (fileAppend_spec (h5 k F hk) hb hs1 hs2).mono ?_
  rintro e st' ⟨rfl, hF, hkp⟩
  refine ⟨rfl, ⟨sm, nm, tv, ad, ?_, hkp.getM h2 (by intro r _ _; simp; omega), hkp.getM h3 (by intro r _ _; simp; omega), h4.keep hkp (by intro r _ _; simp; omega), ?_, ?_⟩, hkp.imp fun g h r _ _ => h k r⟩
  · have := hkp.get h1 (by intro r _ _; simp; omega)
    simpa [VFS.put] using this
  · intro i G hi
    simp only [VFS.put] at hi
    rw [List.getElem?_modify] at hi
    by_cases hik : k = i
    · subst hik
      rw [hk] at hi
      simp at hi
      subst hi
      exact hF
    · cases hj : S.files[i]? with
      | none => rw [hj] at hi; cases hi
      | some G' =>
        rw [hj] at hi
        simp [hik] at hi
        subst hi
        exact (h5 i G' hj).keep hkp (by intro r _ _ r' _ _; simp; omega)
  · obtain ⟨o1, o2, o3⟩ := h6
    exact ⟨by simpa [VFS.put] using o1, by simpa [VFS.put] using o2, by simpa [VFS.put] using o3⟩
theorem Append_spec {f : Nat} {S : VFS} {n : ByteArray} {b : Bs} {bv : Value} {g : Tg} (h : FSAt st f S) (hs : S.small) (hb : Reg st g 1 bv (bytesV b) b.length) (hg : Out f g) (hbl : b.length < 2 ^ 40) :
    ICalls Tryz.prog W0 108 #[ptr f, .string n, bv] st fun e st' => e = .returned (Val.i (S.append n b).1) ∧ FSAt st' f (S.append n b).2 ∧ Keep (Out f) st st' := by
  obtain ⟨sm, nm, tv, ad, h1, h2, h3, h4, h5, h6⟩ := h
  refine enter (args := [_, _, _]) Tryz.func108 rfl ?_
  obtain ⟨base, cap, rfl⟩ := hb.slice
  simp [Tryz.f108, go_sem, h1, fsC]
  refine call_spec h1 ?_
  obtain ⟨k0, hfs, h1, h2, h3, h4, h5⟩ := FSAt.ctl' h1 h2 h3 h4 h5 h6 S.c.call.2
  generalize hst1 : upd st f _ = st1 at *
  have k0' : Keep (Out f) st st1 := k0.imp fun g h => h 0 0
  have hb1 := hb.keep k0' hg
  simp [go_sem]
  refine ICalls.mono (find_spec (n := n) h1 h3) ?_
  rintro e st2 ⟨rfl, rfl⟩
  have hw : IntKind.i64.wrap ((b.length : Int) / 2) = (b.length : Int) / 2 := wrap_id (by omega) (by omega)
  have hn : ((b.length : Int) / 2).toNat = b.length / 2 := by omega
  have hcap := hb1.cap
  have hcap2 : b.length / 2 ≤ cap := by omega
  have h0 : (0 : Int) ≤ (b.length : Int) / 2 := by omega
  unfold VFS.append
  cases hk : okName n with
  | false =>
    by_cases hc : S.c.call.1 = 0
    · simp [go_sem, hc]
      first | exact ⟨hfs, k0'⟩ | exact ⟨Nat.le_refl _, hfs, k0'⟩
    · cases ho : S.c.off
      · simp [go_sem, hc, hw, hn, h0, hcap2, ho]
        first | exact ⟨hfs, k0'⟩ | exact ⟨Nat.le_refl _, hfs, k0'⟩
      · simp [go_sem, hc, hw, hn, h0, hcap2, ho]
        first | exact ⟨hfs, k0'⟩ | exact ⟨Nat.le_refl _, hfs, k0'⟩
  | true =>
    cases hg : aget S.now n with
    | none =>
      by_cases hc : S.c.call.1 = 0
      · simp [go_sem, hc]
        first | exact ⟨hfs, k0'⟩ | exact ⟨Nat.le_refl _, hfs, k0'⟩
      · cases ho : S.c.off
        · simp [go_sem, hc, hw, hn, h0, hcap2, ho]
          first | exact ⟨hfs, k0'⟩ | exact ⟨Nat.le_refl _, hfs, k0'⟩
        · simp [go_sem, hc, hw, hn, h0, hcap2, ho]
          first | exact ⟨hfs, k0'⟩ | exact ⟨Nat.le_refl _, hfs, k0'⟩
    | some k =>
      have hkl : k < S.files.length := by
        unfold aget at hg
        obtain ⟨p, h7, h8⟩ := Option.map_eq_some_iff.1 hg
        obtain ⟨e, h9, h10⟩ := afind_mem h7
        rw [← h8, ← h10]; exact h6.2.1 e h9
      obtain ⟨F, hF⟩ : ∃ F, S.files[k]? = some F := ⟨_, List.getElem?_eq_getElem hkl⟩
      have hlen : S.lenOf k = F.now.length := by simp [VFS.lenOf, hF]
      obtain ⟨s1, s2, s3⟩ := hs
      obtain ⟨q1, q2, q3⟩ := s3 F (List.mem_of_getElem? hF)
      obtain ⟨sv, pv, nv, us, b1, b2, b3, b4, b5⟩ := h5 k F hF
      obtain ⟨nb, nc, rfl⟩ := b5.slice
      have hw2 : IntKind.i64.wrap (1073741824 - (F.now.length : Int)) = 1073741824 - (F.now.length : Int) := wrap_id (by omega) (by omega)
      by_cases hc : S.c.call.1 = 0
      · by_cases hfit : b.length + F.now.length ≤ 1073741824
        · have hfit' : ¬ (1073741824 - (F.now.length : Int) < b.length) := by omega
          simp [go_sem, hc, hlen, hfit, hfit', b1, hw2]
          refine ICalls.mono (put_spec (S := S.ctl S.c.call.2) h1 h2 h3 h4 h5 h6 hF hb1.src (by omega) q1) ?_
          rintro e st3 ⟨rfl, c1, c2⟩
          simp [go_sem]
          exact ⟨c1, k0'.trans c2⟩
        · have hfit' : 1073741824 - (F.now.length : Int) < b.length := by omega
          simp [go_sem, hc, hlen, hfit, hfit', b1, hw2]
          first | exact ⟨hfs, k0'⟩ | exact ⟨Nat.le_refl _, hfs, k0'⟩
      · cases ho : S.c.off
        · by_cases hfit : b.length / 2 + F.now.length ≤ 1073741824
          · have hfit' : (b.length : Int) / 2 ≤ 1073741824 - (F.now.length : Int) := by omega
            simp [go_sem, hc, hw, hn, h0, hcap2, ho, hlen, hfit, hfit', b1, hw2]
            have hb2 := (hb1.take (m := b.length / 2) (by omega)).src
            have e1 : (b.take (b.length / 2)).length = b.length / 2 := by rw [List.length_take]; omega
            have e2 : bytesV (b.take (b.length / 2)) = (bytesV b).take (b.length / 2) := by simp [bytesV, List.map_take]
            have hP := put_spec (W0 := W0) (b := b.take (b.length / 2)) (bv := .slice base (b.length / 2) cap) (S := S.ctl S.c.call.2) h1 h2 h3 h4 h5 h6 hF (by rw [e1, e2]; exact hb2) (by omega) q1
            refine ICalls.mono hP ?_
            rintro e st3 ⟨rfl, c1, c2⟩
            simp [go_sem]
            exact ⟨c1, k0'.trans c2⟩
          · have hfit' : ¬ ((b.length : Int) / 2 ≤ 1073741824 - (F.now.length : Int)) := by omega
            simp [go_sem, hc, hw, hn, h0, hcap2, ho, hlen, hfit, hfit', b1, hw2]
            first | exact ⟨hfs, k0'⟩ | exact ⟨Nat.le_refl _, hfs, k0'⟩
        · simp [go_sem, hc, hw, hn, h0, hcap2, ho]
          first | exact ⟨hfs, k0'⟩ | exact ⟨Nat.le_refl _, hfs, k0'⟩
end
end Go.Proofs.YtgppogppdmbgmaaGreat
set_option linter.unusedVariables false
set_option linter.unusedSimpArgs false
set_option maxRecDepth 100000
namespace Go.Proofs.YtgppogppdmbgmaaGreat
open Go.RowKit (Below)

/-- Units done one by one; none: a cut that can't be. -/
def withM : Bs → List VUnit → Int → Option Bs
  | b, [], _ => some b
  | b, p :: ps, u =>
    if u ≤ 0 then some b
    else if p.cut = true then (if p.size ≤ b.length then withM (b.take p.size) ps (u - 1) else none)
    else withM (b ++ p.b.take (min (p.b.length : Int) u).toNat) ps (u - min (p.b.length : Int) u)
theorem unitsAt.get {st : Heap} {g : Tg} : ∀ {us : List VUnit} {cs : List Value} {j : Nat} {u : VUnit}, unitsAt st g us cs → us[j]? = some u → ∃ v, (cs.drop (j * 3)).take 3 = [.bool u.cut, Val.i u.size, v] ∧ j * 3 + 3 ≤ cs.length ∧ Reg st g 1 v (bytesV u.b) u.b.length
  | u :: us, a :: b :: c :: cs, 0, x, h, hx => by
    injection hx with hx; subst hx
    exact ⟨c, by simp [h.1, h.2.1], by simp, h.2.2.1⟩
  | u :: us, a :: b :: c :: cs, j + 1, x, h, hx => by
    obtain ⟨v, h1, h2, h3⟩ := unitsAt.get (j := j) h.2.2.2 (by simpa using hx)
    refine ⟨v, ?_, by simp; omega, h3⟩
    rw [show (j + 1) * 3 = j * 3 + 1 + 1 + 1 by omega]
    simpa using h1
section
variable {W0 : World} {st : Heap}
theorem with_spec {f i a : Nat} {F : VFile} {u : Int} {r : Bs} (g : Tg) (hg : Out f g) (h : FileAt st f i a F) (hr : withM F.sure F.pend u = some r) (hu0 : -2 ^ 63 ≤ u) (hu1 : u < 2 ^ 63) (hs1 : F.sure.length < 2 ^ 40) (hs2 : F.pend.length < 2 ^ 40) (hs3 : F.sure.length + (F.pend.map (·.b.length)).sum < 2 ^ 40) :
    ICalls Tryz.prog W0 134 #[ptr a, Val.i u] st fun e st' => ∃ v, e = .returned v ∧ Vec st' g 1 v (bytesV r) r.length ∧ Keep (fun t => t ≠ g) st st' := by
  obtain ⟨sv, pv, nv, us, h1, h2, h3, h4, h5⟩ := h
  obtain ⟨sb, sc, rfl⟩ := h2.slice
  obtain ⟨pb, pc, rfl⟩ := h4.slice
  refine enter (args := [_, _]) Tryz.func134 rfl ?_
  have hb1 : (F.sure.length : Int) ≤ 281474976710656 := by omega
  simp [Tryz.f134, go_sem, h1, hb1]
  unfold NewS
  intro b hb
  refine ⟨g, ?_⟩
  have k1 : ∀ o, Keep (fun t => t ≠ g) st (upd st b o) := fun o => Keep.rfl'.new hb
  have hab := ne_of_new h1 hb
  simp [go_sem, h1, hab]
  have hzl : (zerosL [Value.int IntKind.u8 0] F.sure.length).length = F.sure.length := by rw [zerosL_length]; simp
  refine CopyI_full (len := F.sure.length) si82 (upd_same _ _ _) (by rw [hzl]; simp) (by rw [hzl]; simp) (srcCells_le (.new _ hb) h2.src) (bytesV_one _) ?_
  rw [upd_upd, hzl]
  have k1 : Keep (fun t => t ≠ g) st (upd st b (.cells true (bytesV F.sure) F.sure.length g)) := Keep.rfl'.new hb
  have hv1 : Vec (upd st b (.cells true (bytesV F.sure) F.sure.length g)) g 1 (.slice (some ⟨b, 0, none⟩) F.sure.length F.sure.length) (bytesV F.sure) F.sure.length := Vec.new (by simp [bytesV]) (Nat.le_refl _) (upd_same _ _ _) (by simp)
  generalize hst1 : upd st b _ = st1 at *
  have h1' := k1.get h1 (by simpa using (Ne.symm (hg i 1)))
  simp [go_sem, h1']
  refine ⟨fun E st' => Keep (fun t => t ≠ g) st st' ∧ E 24 = .slice pb F.pend.length pc ∧ E 25 = Val.i F.pend.length ∧ ∃ j u bs v, j ≤ F.pend.length ∧ E 26 = Val.i j ∧ E 1 = Val.i u ∧ -2 ^ 63 ≤ u ∧ u < 2 ^ 63 ∧ E 5 = v ∧ Vec st' g 1 v (bytesV bs) bs.length ∧ withM bs (F.pend.drop j) u = some r ∧ bs.length + ((F.pend.drop j).map (·.b.length)).sum < 2 ^ 40,
    fun E _ => match E 26 with | .int _ j => F.pend.length - j.toNat | _ => 0, ⟨st1, .rfl' _, k1, by simp [go_sem], by simp [go_sem], 0, u, F.sure, _, Nat.zero_le _, by simp [go_sem], by simp [go_sem], hu0, hu1, by simp [go_sem], hv1, by simpa using hr, by simpa using hs3⟩, ?_⟩
  rintro E st' ⟨hk, e24, e25, j, u, bs, v, hj, e26, e1, hu0, hu1, e5, hv, hr, hbl⟩
  obtain ⟨vb, vc, rfl⟩ := hv.slice
  by_cases hlt : j < F.pend.length
  · have h4' := h4.keep hk (by simpa using (Ne.symm (hg i 2)))
    have h3' := unitsAt.keep hk (by simpa using (Ne.symm (hg i 4))) _ _ h3
    have hp : F.pend[j]? = some F.pend[j] := List.getElem?_eq_getElem hlt
    obtain ⟨w, hw1, hw2, hw3⟩ := unitsAt.get h3' hp
    obtain ⟨wb, wc, rfl⟩ := hw3.slice
    generalize hpj : F.pend[j] = p at *
    obtain ⟨hl, base, cap, hv', hc, hbase⟩ := h4'
    injection hv' with q1 q2 q3; subst q1; subst q3
    rcases hbase with ⟨b0, n0, rfl, hb0, hn0⟩ | ⟨rfl, hc0⟩
    · simp [go_sem, e24, e25, e26, hlt, hb0, hw1, hw2]
      unfold NewP
      intro b2 hb2
      refine ⟨.ty 0, ?_⟩
      have hdrop : F.pend.drop j = p :: F.pend.drop (j + 1) := by rw [List.drop_eq_getElem_cons hlt, hpj]
      rw [hdrop] at hr hbl
      simp only [List.map_cons, List.sum_cons] at hbl
      have hw : IntKind.i64.wrap ((j : Int) + 1) = j + 1 := wrap_id (by omega) (by omega)
      have k2 : ∀ o, Keep (fun _ => True) st' (upd st' b2 o) := fun o => Keep.rfl'.new hb2
      unfold withM at hr
      by_cases hu : u ≤ 0
      · rw [if_pos hu] at hr
        injection hr with hr
        subst hr
        simp [go_sem, e24, e25, e26, e1, e5, hu]
        exact ⟨hv.keep (k2 _) trivial, hk.trans ((k2 _).imp fun _ _ => trivial)⟩
      · rw [if_neg hu] at hr
        cases hcut : p.cut with
        | true =>
          rw [hcut, if_pos rfl] at hr
          by_cases hsz : p.size ≤ bs.length
          · rw [if_pos hsz] at hr
            have hvc := hv.reg.cap
            have hsc : p.size ≤ vc := by omega
            have hw2 : IntKind.i64.wrap (u - 1) = u - 1 := wrap_id (by omega) (by omega)
            simp [go_sem, e24, e25, e26, e1, e5, hu, hcut, hsc, hw, hw2]
            have kk := hk.trans ((k2 (.cells true [.bool true, Val.i p.size, .slice wb p.b.length wc] 3 (.ty 0))).imp fun _ _ => trivial)
            have hv2 := hv.keep (k2 (.cells true [.bool true, Val.i p.size, .slice wb p.b.length wc] 3 (.ty 0))) trivial
            generalize upd st' b2 _ = st2 at *
            have hsum : (bs.take p.size).length + ((F.pend.drop (j + 1)).map (·.b.length)).sum < 2 ^ 40 := by rw [List.length_take]; omega
            have hlen2 : (bs.take p.size).length = p.size := by rw [List.length_take]; omega
            obtain ⟨hvl, vb', vc', hveq, hvc', hvr⟩ := hv2
            injection hveq with z1 z2 z3; subst z1; subst z3
            rcases hvr with ⟨b4, n4, rfl, hb4, hn4⟩ | ⟨rfl, hz⟩
            · refine ⟨upd st2 b4 (.cells true ((bytesV bs).take p.size) n4 g), .cut hb4 (List.take_prefix _ _), ⟨kk.old hb4 (by simp [HObj.tag]), j + 1, hlt, by omega, by omega, by omega, bs.take p.size, ?_, hr, by simpa using hsum⟩, by omega⟩
              rw [hlen2]
              exact Vec.new (by rw [bytesV_length, hlen2]; simp) hsc (by rw [upd_same]; simp [bytesV, List.map_take]) hn4
            · refine ⟨st2, .rfl' _, ⟨kk, j + 1, hlt, by omega, by omega, by omega, bs.take p.size, ?_, hr, by simpa using hsum⟩, by omega⟩
              rw [hlen2]
              exact ⟨by rw [bytesV_length, hlen2]; simp, none, vc, rfl, hsc, .inr ⟨rfl, hz⟩⟩
          · rw [if_neg hsz] at hr; cases hr
        | false =>
          obtain ⟨m, hm1, hm2, hm3⟩ : ∃ m : Nat, (if u < (p.b.length : Int) then u else p.b.length) = (m : Int) ∧ min (p.b.length : Int) u = m ∧ m ≤ p.b.length := by
            refine ⟨(min (p.b.length : Int) u).toNat, ?_, ?_, ?_⟩
            · split <;> omega
            · omega
            · omega
          rw [hcut, if_neg (by simp), hm2] at hr
          simp only [Int.toNat_natCast] at hr
          have hmc : m ≤ wc := Nat.le_trans hm3 hw3.cap
          have hw2 : IntKind.i64.wrap (u - m) = u - m := wrap_id (by omega) (by omega)
          have kk := hk.trans ((k2 (.cells true [.bool false, Val.i p.size, .slice wb p.b.length wc] 3 (.ty 0))).imp fun _ _ => trivial)
          have hv2 := hv.keep (k2 (.cells true [.bool false, Val.i p.size, .slice wb p.b.length wc] 3 (.ty 0))) trivial
          have hw4 := ((hw3.take hm3).keep (k2 (.cells true [.bool false, Val.i p.size, .slice wb p.b.length wc] 3 (.ty 0))) trivial).src
          simp [go_sem, e24, e25, e26, e1, e5, hu, hcut, hw, hw2, hm1, hmc]
          generalize upd st' b2 _ = st2 at *
          refine AppI_vec (g := g) si82 hv2 hw4 (fun y hy => bytesV_one _ y (List.mem_of_mem_take hy)) (by omega) ?_
          intro s5 c5 st5 hv5 he5
          have hsum : (bs ++ p.b.take m).length + ((F.pend.drop (j + 1)).map (·.b.length)).sum < 2 ^ 40 := by rw [List.length_append, List.length_take]; omega
          have hlen2 : (bs ++ p.b.take m).length = bs.length + m := by rw [List.length_append, List.length_take]; omega
          simp [go_sem, e24, e25, e26, e1, e5, hu, hcut, hw, hw2, hm1, hmc]
          refine ⟨st5, .rfl' _, ⟨kk.trans (he5.toKeep (by simp)), j + 1, hlt, by omega, by omega, by omega, bs ++ p.b.take m, ?_, hr, by simpa using hsum⟩, by omega⟩
          rw [hlen2]
          have : bytesV (bs ++ p.b.take m) = bytesV bs ++ (bytesV p.b).take m := by simp [bytesV, List.map_take]
          rw [this]
          exact hv5
    · omega
  · have hje : j = F.pend.length := by omega
    subst hje
    rw [List.drop_length] at hr
    injection hr with hr
    subst hr
    simp [go_sem, e24, e25, e26, e5]
    exact ⟨hv, hk⟩
end
end Go.Proofs.YtgppogppdmbgmaaGreat
set_option linter.unusedVariables false
set_option linter.unusedSimpArgs false
set_option maxRecDepth 100000
namespace Go.Proofs.YtgppogppdmbgmaaGreat
open Go.RowKit (Below)

def Ent (st : Heap) (r : Nat) (z : Int) (f : Value → KV) : Prop := ∃ (ents : Array MapEntry) (clock : Nat) (es : KV) (j : Nat) (e : MapEntry), st r = some (.other (.map ents clock)) ∧ MapAt ents clock es ∧ ents[j]? = some e ∧ (e.born : Int) = z ∧ ∀ v, es.set j (e.key, v) = f v
theorem Ent.keep {st st' : Heap} {r : Nat} {z : Int} {f : Value → KV} (h : Ent st r z f) (hs : st' r = st r) : Ent st' r z f := by
  obtain ⟨ents, clock, es, j, e, h1, h2⟩ := h
  exact ⟨ents, clock, es, j, e, hs.trans h1, h2⟩
def encSet (ad : Nat → Nat) (l : Dir) (k : ByteArray) (v : Value) : KV := match afind k l 0 with | some (j, _) => (encM ad l).set j (.string k, v) | none => encM ad l ++ [(.string k, v)]
theorem encSet_ptr (ad : Nat → Nat) (l : Dir) (k : ByteArray) (x : Nat) : encSet ad l k (ptr (ad x)) = encM ad (aset l k x) := by
  unfold encSet aset
  cases h : afind k l 0 with
  | none => simp [encM]
  | some p => simp [encM, List.map_set]
theorem afind_lt {k : ByteArray} : ∀ {l : Dir} {i : Nat} {p : Nat × Nat}, afind k l i = some p → i ≤ p.1 ∧ p.1 < i + l.length
  | [], i, p, h => by cases h
  | e :: l, i, p, h => by
    unfold afind at h
    split at h
    · injection h with h; subst h; exact ⟨Nat.le_refl _, by simp⟩
    · have := afind_lt h; simp only [List.length_cons]; omega
section
variable {W0 : World} {st : Heap} {K : Value → Heap → Prop}
theorem MapEntryI_enc {r : Nat} {g : Tg} {ad : Nat → Nat} {l : Dir} {k : ByteArray} (hr : st r = some (.map g (encM ad l))) (hk : ∀ old z st1, Ent st1 r z (encSet ad l k) → (∀ x, x ≠ r → st1 x = st x) → K (.tuple #[old, .int .i64 z]) st1) :
    MapEntryI Tryz.prog 159 (.map (some r)) (.string k) K st := by
  unfold MapEntryI mapEntryX
  refine optK_iff.2 ⟨_, mi159, ?_⟩
  refine optK_iff.2 ⟨encM ad l, by rw [mapOf_mk, hr]; rfl, ?_⟩
  simp only
  rw [mfind_encM]
  cases h : afind k l 0 with
  | none =>
    refine optK_iff.2 ⟨_, rfl, fun ents clock ha e he => ?_⟩
    simp only [Option.map_none] at ha he
    refine hk _ _ _ ⟨ents, clock, _, _, e, upd_same _ _ _, ha, he, rfl, ?_⟩ (fun x hx => upd_ne _ _ hx)
    intro v
    have hkey : e.key = .string k := by
      have h1 : (ents.toList.map fun x => (x.key, x.val))[(encM ad l).length]? = some (e.key, e.val) := by simp [he]
      rw [ha.kv] at h1
      simp at h1
      exact h1.1.symm
    unfold encSet
    rw [h, hkey]
    simp
  | some p =>
    have hlt := (afind_lt h).2
    simp only [Nat.zero_add] at hlt
    have hlt' : p.1 < (encM ad l).length := by simpa [encM] using hlt
    refine optK_iff.2 ⟨_, rfl, fun ents clock ha e he => ?_⟩
    simp only [Option.map_some] at ha he
    refine hk _ _ _ ⟨ents, clock, _, _, e, upd_same _ _ _, ha, he, rfl, ?_⟩ (fun x hx => upd_ne _ _ hx)
    intro v
    have hkey : e.key = .string k := by
      have h1 : (ents.toList.map fun x => (x.key, x.val))[p.1]? = some (e.key, e.val) := by simp [he]
      rw [ha.kv] at h1
      rw [List.getElem?_set_self hlt'] at h1
      injection h1 with h1
      exact (Prod.mk.inj h1).1.symm
    unfold encSet
    rw [h, hkey, List.set_set]
theorem EntryStoreI_ent {r : Nat} {z : Int} {f : Value → KV} {v : Value} {kk : IntKind} (g : Tg) (h : Ent st r z f) (hk : K undef (upd st r (.map g (f v)))) : EntryStoreI (.map (some r)) (.int kk z) v K st := by
  obtain ⟨ents, clock, es, j, e, h1, h2, h3, h4, h5⟩ := h
  unfold EntryStoreI entryStoreX
  exact ⟨ents, clock, g, es, j, e, h1, h2, h3, h4, by rw [h5]; exact hk⟩
end
def VFS.lay (S : VFS) (n : ByteArray) (b : Bs) : VFS := { S with sure := aset S.sure n S.files.length, now := aset S.now n S.files.length, files := S.files ++ [⟨S.files.length, b, [], b⟩] }
section
variable {W0 : World} {st : Heap}
theorem lay_spec {f : Nat} {S : VFS} {n : ByteArray} {b : Bs} {bv : Value} (h : FSAt st f S) (hs : S.small) (hv : Vec st (.own f S.files.length 3) 1 bv (bytesV b) b.length) :
    ICalls Tryz.prog W0 99 #[ptr f, .string n, bv] st fun e st' => e = .returned (.tuple #[]) ∧ FSAt st' f (S.lay n b) ∧ Keep (Out f) st st' := by
  obtain ⟨sm, nm, tv, ad, h1, h2, h3, h4, h5, h6⟩ := h
  refine enter (args := [_, _, _]) Tryz.func99 rfl ?_
  obtain ⟨bb, bc, rfl⟩ := hv.slice
  have hcap := hv.reg.cap
  simp [Tryz.f99, go_sem]
  refine draw [0, 1, 2, 4, 5, 6, 8, 3, 7, 9, 10, 11, 12, 13] (by kernel_rfl) ?_
  simp [go_sem, h1, fsC, hcap]
  unfold NewP
  intro a ha
  refine ⟨.own f S.files.length 1, ?_⟩
  have hfa := ne_of_new h1 ha
  have hlen1 : ((S.files ++ [(⟨S.files.length, b, [], b⟩ : VFile)]).length : Int) = S.files.length + 1 := by simp
  have hfl := hs.2.1
  have hw : IntKind.i64.wrap ((S.files.length : Int) + 1) = S.files.length + 1 := wrap_id (by omega) (by omega)
  have k1 : Keep (fun _ => True) st (upd st a (.cells true [Val.i S.files.length, .slice bb b.length bc, .slice none 0 0, .slice bb b.length b.length] 4 (.own f S.files.length 1))) := Keep.rfl'.new ha
  have ha' := upd_same st a (.cells true [Val.i S.files.length, .slice bb b.length bc, .slice none 0 0, .slice bb b.length b.length] 4 (.own f S.files.length 1))
  simp [go_sem, h1, fsC, hcap, hfa, hw]
  generalize hst3 : upd st a _ = st3 at *
  have c1 := k1.get h1 trivial
  have k4 : Keep (fun g => g ≠ .own f 0 0) st3 (upd st3 f (.cells true (fsC sm nm tv (S.files.length + 1) S.c) 9 (.own f 0 0))) := Keep.rfl'.old c1 (by simp [HObj.tag])
  have d1 := upd_same st3 f (.cells true (fsC sm nm tv (S.files.length + 1) S.c) 9 (.own f 0 0))
  refine draw [0, 1, 2, 4, 5, 6, 7, 9, 10, 11, 3, 8, 12, 13, 14, 15, 16, 17] (by kernel_rfl) ?_
  simp [go_sem, fsC]
  unfold fsC at k4 d1
  generalize hst4 : upd st3 f _ = st4 at *
  obtain ⟨ad', had⟩ : ∃ ad' : Nat → Nat, ad' = fun i => if i = S.files.length then a else ad i := ⟨_, rfl⟩
  have ead : ∀ i, i < S.files.length → ad i = ad' i := fun i hi => by rw [had]; simp [Nat.ne_of_lt hi]
  have eat : ad' S.files.length = a := by rw [had]; simp
  have e1 := encM_congr (l := S.now) fun p hp => ead p.2 (h6.2.1 p hp)
  have e2 := encM_congr (l := S.sure) fun p hp => ead p.2 (h6.1 p hp)
  have e3 := encT_congr (l := S.turns) fun t ht i hi => ead i (h6.2.2 t ht i hi)
  rw [e1] at h3
  rw [e2] at h2
  rw [e3] at h4
  have d2 := k4.getM (k1.getM h2 trivial) (by simp)
  have d3 := k4.getM (k1.getM h3 trivial) (by simp)
  have hsn : sm ≠ nm := ne_of_tag d2 d3 (by simp [HObj.tag])
  have hsf : f ≠ sm := by rintro rfl; rw [d1] at d2; cases d2
  have hnf : f ≠ nm := by rintro rfl; rw [d1] at d3; cases d3
  refine MapEntryI_enc d2 ?_
  intro old z st5 hE ho
  simp [go_sem]
  refine EntryStoreI_ent (.own f 0 5) hE ?_
  simp [go_sem]
  have hq1 := encSet_ptr ad' S.sure n S.files.length
  rw [eat] at hq1
  rw [show encSet ad' S.sure n (.pointer (some ⟨a, 0, none⟩)) = _ from hq1]
  have k5 : Keep (fun g => g ≠ .own f 0 5) st4 (upd st5 sm (.map (.own f 0 5) (encM ad' (aset S.sure n S.files.length)))) := by
    intro k o g hk ht hp
    have : k ≠ sm := by rintro rfl; rw [d2] at hk; injection hk with hk; subst hk; injection ht with ht; exact hp ht.symm
    rw [upd_ne _ _ this, ho k this]
    exact hk
  have d4 := upd_same st5 sm (.map (.own f 0 5) (encM ad' (aset S.sure n S.files.length)))
  generalize hst6 : upd st5 sm _ = st6 at *
  have d3' := k5.getM d3 (by simp)
  refine MapEntryI_enc d3' ?_
  intro old z st7 hE ho
  simp [go_sem]
  refine EntryStoreI_ent (.own f 0 6) hE ?_
  simp [go_sem]
  have hq2 := encSet_ptr ad' S.now n S.files.length
  rw [eat] at hq2
  rw [show encSet ad' S.now n (.pointer (some ⟨a, 0, none⟩)) = _ from hq2]
  have k6 : Keep (fun g => g ≠ .own f 0 6) st6 (upd st7 nm (.map (.own f 0 6) (encM ad' (aset S.now n S.files.length)))) := by
    intro k o g hk ht hp
    have : k ≠ nm := by rintro rfl; rw [d3'] at hk; injection hk with hk; subst hk; injection ht with ht; exact hp ht.symm
    rw [upd_ne _ _ this, ho k this]
    exact hk
  have d5 := upd_same st7 nm (.map (.own f 0 6) (encM ad' (aset S.now n S.files.length)))
  generalize hst8 : upd st7 nm _ = st8 at *
  refine ⟨⟨sm, nm, tv, ad', ?_, k6.getM d4 (by simp), d5, ?_, ?_, ?_⟩, ?_⟩
  · have := k6.get (k5.get d1 (by simp)) (by simp)
    rw [show (((S.lay n b).files.length : Nat) : Int) = S.files.length + 1 from hlen1]
    exact this
  · exact (((h4.keep k1 trivial).keep k4 (by simp)).keep k5 (by simp)).keep k6 (by simp)
  · intro i F hi
    simp only [VFS.lay] at hi
    by_cases hlt : i < S.files.length
    · rw [List.getElem?_append_left hlt] at hi
      rw [← ead i hlt]
      exact ((((h5 i F hi).keep k1 (fun _ _ _ => trivial)).keep k4 (by intro r h1 h2; simp; omega)).keep k5 (by intro r h1 h2; simp; omega)).keep k6 (by intro r h1 h2; simp; omega)
    · rw [List.getElem?_append_right (by omega)] at hi
      have hi0 : i - S.files.length = 0 := by
        rcases Nat.eq_zero_or_pos (i - S.files.length) with h | h
        · exact h
        · rw [List.getElem?_eq_none (by simp; omega)] at hi; cases hi
      rw [hi0] at hi
      injection hi with hi
      have hii : i = S.files.length := by omega
      subst hi
      subst hii
      have hvv := (((hv.keep k1 trivial).keep k4 (by simp)).keep k5 (by simp)).keep k6 (by simp)
      refine ⟨.slice bb b.length bc, .slice none 0 0, .slice bb b.length b.length, [], ?_, hvv.reg, trivial, Vec.nil, ?_⟩
      · rw [eat]
        exact k6.get (k5.get (k4.get ha' (by simp)) (by simp)) (by simp)
      · obtain ⟨z1, z2, z3, z4, z5, z6⟩ := hvv
        injection z4 with y1 y2 y3; subst y1; subst y3
        refine ⟨z1, bb, b.length, rfl, Nat.le_refl _, ?_⟩
        rcases z6 with ⟨b9, n9, w1, w2, w3⟩ | ⟨w1, w2⟩
        · exact .inl ⟨b9, n9, w1, w2, Nat.le_trans (Nat.mul_le_mul_right _ z5) w3⟩
        · exact .inr ⟨w1, by omega⟩
  · refine ⟨?_, ?_, ?_⟩
    · intro p hp
      simp only [VFS.lay, List.length_append, List.length_singleton] at hp ⊢
      rcases aset_mem hp with hp | hp
      · have := h6.1 p hp; omega
      · omega
    · intro p hp
      simp only [VFS.lay, List.length_append, List.length_singleton] at hp ⊢
      rcases aset_mem hp with hp | hp
      · have := h6.2.1 p hp; omega
      · omega
    · intro t ht i hi
      simp only [VFS.lay, List.length_append, List.length_singleton] at ht ⊢
      have := h6.2.2 t ht i hi; omega
  · exact (((k1.imp fun _ _ => trivial).trans (k4.imp fun g h => h 0 0)).trans (k5.imp fun g h => h 0 5)).trans (k6.imp fun g h => h 0 6)
end
end Go.Proofs.YtgppogppdmbgmaaGreat
set_option linter.unusedVariables false
set_option linter.unusedSimpArgs false
set_option maxRecDepth 100000
namespace Go.Proofs.YtgppogppdmbgmaaGreat
open Go.RowKit (Below)

/-- All but one block, and what has one mark. -/
def But (nm : Nat) (g : Tg) (st st' : Heap) : Prop := ∀ k o, st k = some o → k ≠ nm → o.tag ≠ some g → st' k = some o
theorem Iter.of {st st' : Heap} {m b : Nat} {es L : KV} (h : Iter st m b es L) (hs : ∀ k o, st k = some (.other o) → st' k = some (.other o)) : Iter st' m b es L := by
  obtain ⟨ents, clock, seen, Ls, h1, h2, h3, h4⟩ := h
  exact ⟨ents, clock, seen, Ls, h1, hs _ _ h2, hs _ _ h3, h4⟩
theorem Ext.other {g : Tg} {st st' : Heap} (h : Ext g st st') (k : Nat) (o : Obj) (hk : st k = some (.other o)) : st' k = some (.other o) := h.keep k _ hk (by simp [HObj.tag])
section
variable {W0 : World} {st : Heap}
end
end Go.Proofs.YtgppogppdmbgmaaGreat
set_option linter.unusedVariables false
set_option linter.unusedSimpArgs false
set_option maxRecDepth 100000
set_option maxHeartbeats 1000000
namespace Go.Proofs.YtgppogppdmbgmaaGreat
open Go.RowKit (Below)

theorem FSAt.keep' {st st' : Heap} {f : Nat} {S : VFS} {p : Tg → Prop} (hk : Keep p st st') (p0 : p (.own f 0 0)) (p5 : p (.own f 0 5)) (p6 : p (.own f 0 6)) (p7 : p (.own f 0 7)) (hp : ∀ i r, i < S.files.length → 1 ≤ r → r ≤ 4 → p (.own f i r)) (h : FSAt st f S) : FSAt st' f S := by
  obtain ⟨sm, nm, tv, ad, h1, h2, h3, h4, h5, h6⟩ := h
  exact ⟨sm, nm, tv, ad, hk.get h1 p0, hk.getM h2 p5, hk.getM h3 p6, h4.keep hk p7, fun i F hi => (h5 i F hi).keep hk (fun r hr1 hr2 => hp i r (List.getElem?_eq_some_iff.1 hi).1 hr1 hr2), h6⟩
def crashM : List VTurn → Nat → Int → Dir → Option Dir
  | [], _, _, d => some d
  | t :: ts, i, ops, d => if (i : Int) < ops then (t.does d).bind (crashM ts (i + 1) ops) else crashM ts (i + 1) ops d
theorem flatMap_get {ad : Nat → Nat} : ∀ {ts : List VTurn} {j : Nat} {t : VTurn}, ts[j]? = some t → ((ts.flatMap (encT ad)).drop (j * 4)).take 4 = encT ad t ∧ j * 4 + 4 ≤ (ts.flatMap (encT ad)).length
  | t :: ts, 0, x, h => by
    injection h with h; subst h
    simp [encT]
  | t :: ts, j + 1, x, h => by
    obtain ⟨h1, h2⟩ := flatMap_get (ad := ad) (ts := ts) (j := j) (by simpa using h)
    rw [show (j + 1) * 4 = j * 4 + 1 + 1 + 1 + 1 by omega]
    constructor
    · simpa [encT] using h1
    · simp only [List.flatMap_cons, List.length_append, encT, List.length_cons, List.length_nil] at h2 ⊢
      omega
section
variable {W0 : World} {st : Heap}
end
end Go.Proofs.YtgppogppdmbgmaaGreat
set_option linter.unusedVariables false
set_option linter.unusedSimpArgs false
set_option maxRecDepth 100000
set_option maxHeartbeats 1000000
namespace Go.Proofs.YtgppogppdmbgmaaGreat
open Go.RowKit (Below)

theorem mapM_byteOf : ∀ bs : List UInt8, (bytesV bs).mapM byteOf = some bs
  | [] => rfl
  | b :: bs => by
    have h := mapM_byteOf bs
    unfold bytesV at h ⊢
    simp only [List.map_cons, List.mapM_cons, h]
    have hb : byteOf (.int .u8 b.toNat) = some b := by simp [byteOf]
    rw [hb]
    rfl
theorem textOf_reg {st : Heap} {g : Tg} {base : Option Addr} {cap : Nat} {bs : List UInt8} {n : Nat} (h : Reg st g 1 (.slice base n cap) (bytesV bs) n) : textOf st (.slice base n cap) = some ⟨bs.toArray⟩ := by
  have hlen : bs.length = n := by have := h.1; rw [bytesV_length] at this; omega
  have hs := h.src
  cases base with
  | none =>
    simp only [srcCells] at hs
    split at hs
    · rename_i h0
      subst h0
      have : bs = [] := List.eq_nil_of_length_eq_zero hlen
      subst this; rfl
    · cases hs
  | some a =>
    simp only [srcCells] at hs
    simp only [textOf]
    split
    · rename_i h0
      have : bs = [] := List.eq_nil_of_length_eq_zero (by omega)
      subst this; rfl
    · rename_i h0
      rw [if_neg h0] at hs
      obtain ⟨l, h1, h2⟩ := Option.map_eq_some_iff.1 hs
      rw [Nat.mul_one] at h1
      injection h2 with h2 h3
      subst h3
      rw [h1]
      simp [mapM_byteOf]
section
variable {W0 : World} {st : Heap}
end
end Go.Proofs.YtgppogppdmbgmaaGreat
