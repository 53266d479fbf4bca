/- The file system's method Append. -/
import Derived.Test.YtenencpnnjacdaaVfsE
set_option linter.unusedVariables false
set_option linter.unusedSimpArgs false
set_option maxRecDepth 100000
namespace Go.Proofs.Ytenencpnnjacdaa
open Go.RowKit (Below)

def VFS.put (S : VFS) (c : Ctl) (k : Nat) (b : Bs) : VFS := { S with c := c, files := S.files.modify k (·.app b) }
def VFS.lenOf (S : VFS) (k : Nat) : Nat := ((S.files[k]?).map (fun F => F.now.length)).getD 0
def VFS.append (S : VFS) (n : ByteArray) (b : Bs) : Int × VFS :=
  if okName n = false then (if S.c.call.1 = 0 then 1 else S.c.call.1, S.ctl S.c.call.2)
  else match aget S.now n with
    | none => (if S.c.call.1 = 0 then 3 else S.c.call.1, S.ctl S.c.call.2)
    | some k =>
      if S.c.call.1 = 0 then
        if b.length + S.lenOf k ≤ 1073741824 then (0, S.put S.c.call.2 k b) else (2, S.ctl S.c.call.2)
      else (S.c.call.1, if S.c.off = false ∧ b.length / 2 + S.lenOf k ≤ 1073741824 then S.put S.c.call.2 k (b.take (b.length / 2)) else S.ctl S.c.call.2)
section
variable {W0 : World} {st : Heap}
/-- A file's bytes are put, within its file system. -/
theorem put_spec {f k : Nat} {S : VFS} {F : VFile} {sm nm : Nat} {tv : Value} {ad : Nat → Nat} {b : Bs} {bv : Value} (h1 : st f = some (.cells true (fsC sm nm tv S.files.length S.c) 9 (.own f 0 0))) (h2 : st sm = some (.map (.own f 0 5) (encM ad S.sure))) (h3 : st nm = some (.map (.own f 0 6) (encM ad S.now)))
    (h4 : Vec st (.own f 0 7) 4 tv (S.turns.flatMap (encT ad)) S.turns.length) (h5 : ∀ (i : Nat) (F : VFile), S.files[i]? = some F → FileAt st f i (ad i) F) (h6 : S.ok) (hk : S.files[k]? = some F)
    (hb : srcCells 1 st bv = some (b.length, bytesV b)) (hs1 : F.now.length + b.length < 2 ^ 40) (hs2 : F.pend.length < 2 ^ 40) :
    ICalls Try.prog W0 74 #[ptr (ad k), bv] st fun e st' => e = .returned (.tuple #[]) ∧ FSAt st' f (S.put S.c k b) ∧ Keep (Out f) st st' := by
  refine (fileAppend_spec (h5 k F hk) hb hs1 hs2).mono ?_
  rintro e st' ⟨rfl, hF, hkp⟩
  refine ⟨rfl, ⟨sm, nm, tv, ad, ?_, hkp.getM h2 (by intro r _ _; simp; omega), hkp.getM h3 (by intro r _ _; simp; omega), h4.keep hkp (by intro r _ _; simp; omega), ?_, ?_⟩, hkp.imp fun g h r _ _ => h k r⟩
  · have := hkp.get h1 (by intro r _ _; simp; omega)
    simpa [VFS.put] using this
  · intro i G hi
    simp only [VFS.put] at hi
    rw [List.getElem?_modify] at hi
    by_cases hik : k = i
    · subst hik
      rw [hk] at hi
      simp at hi
      subst hi
      exact hF
    · cases hj : S.files[i]? with
      | none => rw [hj] at hi; cases hi
      | some G' =>
        rw [hj] at hi
        simp [hik] at hi
        subst hi
        exact (h5 i G' hj).keep hkp (by intro r _ _ r' _ _; simp; omega)
  · obtain ⟨o1, o2, o3⟩ := h6
    exact ⟨by simpa [VFS.put] using o1, by simpa [VFS.put] using o2, by simpa [VFS.put] using o3⟩
theorem Append_spec {f : Nat} {S : VFS} {n : ByteArray} {b : Bs} {bv : Value} {g : Tg} (h : FSAt st f S) (hs : S.small) (hb : Reg st g 1 bv (bytesV b) b.length) (hg : Out f g) (hbl : b.length < 2 ^ 40) :
    ICalls Try.prog W0 29 #[ptr f, .string n, bv] st fun e st' => e = .returned (Val.i (S.append n b).1) ∧ FSAt st' f (S.append n b).2 ∧ Keep (Out f) st st' := by
  obtain ⟨sm, nm, tv, ad, h1, h2, h3, h4, h5, h6⟩ := h
  refine enter (args := [_, _, _]) Try.func29 rfl ?_
  obtain ⟨base, cap, rfl⟩ := hb.slice
  simp [Try.f29, go_sem, h1, fsC]
  refine call_spec h1 ?_
  obtain ⟨k0, hfs, h1, h2, h3, h4, h5⟩ := FSAt.ctl' h1 h2 h3 h4 h5 h6 S.c.call.2
  generalize hst1 : upd st f _ = st1 at *
  have k0' : Keep (Out f) st st1 := k0.imp fun g h => h 0 0
  have hb1 := hb.keep k0' hg
  simp [go_sem]
  refine ICalls.mono (find_spec (n := n) h1 h3) ?_
  rintro e st2 ⟨rfl, rfl⟩
  have hw : IntKind.i64.wrap ((b.length : Int) / 2) = (b.length : Int) / 2 := wrap_id (by omega) (by omega)
  have hn : ((b.length : Int) / 2).toNat = b.length / 2 := by omega
  have hcap := hb1.cap
  have hcap2 : b.length / 2 ≤ cap := by omega
  have h0 : (0 : Int) ≤ (b.length : Int) / 2 := by omega
  unfold VFS.append
  cases hk : okName n with
  | false =>
    by_cases hc : S.c.call.1 = 0
    · simp [go_sem, hc]
      first | exact ⟨hfs, k0'⟩ | exact ⟨Nat.le_refl _, hfs, k0'⟩
    · cases ho : S.c.off
      · simp [go_sem, hc, hw, hn, h0, hcap2, ho]
        first | exact ⟨hfs, k0'⟩ | exact ⟨Nat.le_refl _, hfs, k0'⟩
      · simp [go_sem, hc, hw, hn, h0, hcap2, ho]
        first | exact ⟨hfs, k0'⟩ | exact ⟨Nat.le_refl _, hfs, k0'⟩
  | true =>
    cases hg : aget S.now n with
    | none =>
      by_cases hc : S.c.call.1 = 0
      · simp [go_sem, hc]
        first | exact ⟨hfs, k0'⟩ | exact ⟨Nat.le_refl _, hfs, k0'⟩
      · cases ho : S.c.off
        · simp [go_sem, hc, hw, hn, h0, hcap2, ho]
          first | exact ⟨hfs, k0'⟩ | exact ⟨Nat.le_refl _, hfs, k0'⟩
        · simp [go_sem, hc, hw, hn, h0, hcap2, ho]
          first | exact ⟨hfs, k0'⟩ | exact ⟨Nat.le_refl _, hfs, k0'⟩
    | some k =>
      have hkl : k < S.files.length := by
        unfold aget at hg
        obtain ⟨p, h7, h8⟩ := Option.map_eq_some_iff.1 hg
        obtain ⟨e, h9, h10⟩ := afind_mem h7
        rw [← h8, ← h10]; exact h6.2.1 e h9
      obtain ⟨F, hF⟩ : ∃ F, S.files[k]? = some F := ⟨_, List.getElem?_eq_getElem hkl⟩
      have hlen : S.lenOf k = F.now.length := by simp [VFS.lenOf, hF]
      obtain ⟨s1, s2, s3⟩ := hs
      obtain ⟨q1, q2, q3⟩ := s3 F (List.mem_of_getElem? hF)
      obtain ⟨sv, pv, nv, us, b1, b2, b3, b4, b5⟩ := h5 k F hF
      obtain ⟨nb, nc, rfl⟩ := b5.slice
      have hw2 : IntKind.i64.wrap (1073741824 - (F.now.length : Int)) = 1073741824 - (F.now.length : Int) := wrap_id (by omega) (by omega)
      by_cases hc : S.c.call.1 = 0
      · by_cases hfit : b.length + F.now.length ≤ 1073741824
        · have hfit' : ¬ (1073741824 - (F.now.length : Int) < b.length) := by omega
          simp [go_sem, hc, hlen, hfit, hfit', b1, hw2]
          refine ICalls.mono (put_spec (S := S.ctl S.c.call.2) h1 h2 h3 h4 h5 h6 hF hb1.src (by omega) q1) ?_
          rintro e st3 ⟨rfl, c1, c2⟩
          simp [go_sem]
          exact ⟨c1, k0'.trans c2⟩
        · have hfit' : 1073741824 - (F.now.length : Int) < b.length := by omega
          simp [go_sem, hc, hlen, hfit, hfit', b1, hw2]
          first | exact ⟨hfs, k0'⟩ | exact ⟨Nat.le_refl _, hfs, k0'⟩
      · cases ho : S.c.off
        · by_cases hfit : b.length / 2 + F.now.length ≤ 1073741824
          · have hfit' : (b.length : Int) / 2 ≤ 1073741824 - (F.now.length : Int) := by omega
            simp [go_sem, hc, hw, hn, h0, hcap2, ho, hlen, hfit, hfit', b1, hw2]
            have hb2 := (hb1.take (m := b.length / 2) (by omega)).src
            have e1 : (b.take (b.length / 2)).length = b.length / 2 := by rw [List.length_take]; omega
            have e2 : bytesV (b.take (b.length / 2)) = (bytesV b).take (b.length / 2) := by simp [bytesV, List.map_take]
            have hP := put_spec (W0 := W0) (b := b.take (b.length / 2)) (bv := .slice base (b.length / 2) cap) (S := S.ctl S.c.call.2) h1 h2 h3 h4 h5 h6 hF (by rw [e1, e2]; exact hb2) (by omega) q1
            refine ICalls.mono hP ?_
            rintro e st3 ⟨rfl, c1, c2⟩
            simp [go_sem]
            exact ⟨c1, k0'.trans c2⟩
          · have hfit' : ¬ ((b.length : Int) / 2 ≤ 1073741824 - (F.now.length : Int)) := by omega
            simp [go_sem, hc, hw, hn, h0, hcap2, ho, hlen, hfit, hfit', b1, hw2]
            first | exact ⟨hfs, k0'⟩ | exact ⟨Nat.le_refl _, hfs, k0'⟩
        · simp [go_sem, hc, hw, hn, h0, hcap2, ho]
          first | exact ⟨hfs, k0'⟩ | exact ⟨Nat.le_refl _, hfs, k0'⟩
end
end Go.Proofs.Ytenencpnnjacdaa
