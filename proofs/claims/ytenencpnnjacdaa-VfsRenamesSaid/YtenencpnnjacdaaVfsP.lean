/- The file system's method Cut. -/
import Derived.Test.YtenencpnnjacdaaVfsO
set_option linter.unusedVariables false
set_option linter.unusedSimpArgs false
set_option maxRecDepth 100000
set_option maxHeartbeats 1000000
namespace Go.Proofs.Ytenencpnnjacdaa
open Go.RowKit (Below)

def VFile.cutTo (F : VFile) (s : Nat) : VFile := { F with pend := F.pend ++ [⟨true, s, []⟩], now := F.now.take s }
def VFS.cutF (S : VFS) (n : ByteArray) (s : Int) : Int × VFS :=
  if S.c.call.1 ≠ 0 then (S.c.call.1, S.ctl S.c.call.2)
  else if okName n = false then (1, S.ctl S.c.call.2)
  else match aget S.now n with
    | none => (3, S.ctl S.c.call.2)
    | some k => if s < 0 ∨ (S.lenOf k : Int) < s then (1, S.ctl S.c.call.2) else (0, { S.ctl S.c.call.2 with files := S.files.modify k (·.cutTo s.toNat) })
section
variable {W0 : World} {st : Heap}
theorem fileCut_spec {f i a s : Nat} {F : VFile} (h : FileAt st f i a F) (hsz : s ≤ F.now.length) (hs1 : F.now.length < 2 ^ 40) (hs2 : F.pend.length < 2 ^ 40) :
    ICalls Try.prog W0 82 #[ptr a, Val.i s] st fun e st' => e = .returned (.tuple #[]) ∧ FileAt st' f i a (F.cutTo s) ∧ Keep (fun g => ∀ r, 1 ≤ r → r ≤ 4 → g ≠ .own f i r) st st' := by
  obtain ⟨sv, pv, nv, us, h1, h2, h3, h4, h5⟩ := h
  obtain ⟨nb, nc, rfl⟩ := h5.slice
  have hncap := h5.reg.cap
  refine enter (args := [_, _]) Try.func82 rfl ?_
  simp [Try.f82, go_sem, h1]
  unfold NewS
  intro b1 hb1
  refine ⟨.ty 0, ?_⟩
  simp [go_sem]
  have k2 : Keep (fun _ => True) st (upd st b1 (.cells true [.bool true, Val.i s, .slice none 0 0] 3 (.ty 0))) := Keep.rfl'.new hb1
  refine AppI_vec (g := .own f i 2) (m := 1) (ys := [.bool true, Val.i s, .slice none 0 0]) si118 (h4.keep k2 trivial) ?_ (by simp [Value.oneCell']) (by omega) ?_
  · simp [srcCells, lkN_mk, upd_same, cellsOf]
  intro s2 c2 st2 hv2 he2
  have k3 : Keep (fun g => g ≠ .own f i 2) st st2 := (Keep.imp (fun _ _ => trivial) k2).trans (he2.toKeep (by simp))
  have h1'' := k3.get h1 (by simp)
  have h2'' := h2.keep k3 (by simp)
  have h3'' := unitsAt.keep k3 (by simp) _ _ h3
  have h5'' := h5.keep k3 (by simp)
  simp [go_sem, h1'']
  have k4 : Keep (fun g => g ≠ .own f i 1) st2 (upd st2 a (.cells true [Val.i F.born, sv, .slice s2 (F.pend.length + 1) c2, .slice nb F.now.length nc] 4 (.own f i 1))) := Keep.rfl'.old h1'' (by simp [HObj.tag])
  have ha4 := upd_same st2 a (.cells true [Val.i F.born, sv, .slice s2 (F.pend.length + 1) c2, .slice nb F.now.length nc] 4 (.own f i 1))
  generalize hst4 : upd st2 a _ = st4 at *
  unfold NewS
  intro b2 hb2
  refine ⟨.own f i 3, ?_⟩
  have hab := ne_of_new ha4 hb2
  have hsc : s ≤ nc := by omega
  simp [go_sem, hab, ha4, hsc]
  have k5 : Keep (fun _ => True) st4 (upd st4 b2 (.cells true [] 0 (.own f i 3))) := Keep.rfl'.new hb2
  have hsrc := (((h5''.keep k4 (by simp)).keep k5 trivial).reg.take hsz).src
  refine AppI_vec (g := .own f i 3) si29 (Vec.new (xs := []) rfl (Nat.le_refl 0) (upd_same _ _ _) (Nat.zero_le _)) hsrc (fun y hy => bytesV_one _ y (List.mem_of_mem_take hy)) (by omega) ?_
  intro s3 c3 st3 hv3 he3
  simp only [List.nil_append, Nat.zero_add] at hv3 ⊢
  have k6 : Keep (fun g => g ≠ .own f i 3) _ st3 := he3.toKeep (by simp)
  have ha5 := k5.get ha4 trivial
  have ha6 := k6.get ha5 (by simp)
  simp [go_sem, ha6]
  have k7 : Keep (fun g => g ≠ .own f i 1) st3 (upd st3 a (.cells true [Val.i F.born, sv, .slice s2 (F.pend.length + 1) c2, .slice s3 s c3] 4 (.own f i 1))) := Keep.rfl'.old ha6 (by simp [HObj.tag])
  have hlen : (F.now.take s).length = s := by rw [List.length_take]; omega
  have hbv : bytesV (F.now.take s) = (bytesV F.now).take s := by simp [bytesV, List.map_take]
  refine ⟨⟨sv, _, _, us ++ [.bool true, Val.i s, .slice none 0 0], upd_same _ _ _, ?_, ?_, ?_, ?_⟩, ?_⟩
  · exact ((((h2''.keep k4 (by simp)).keep k5 trivial).of_ext he3.grow).keep k7 (by simp))
  · exact unitsAt.append _ _ _ _ (unitsAt.keep k7 (by simp) _ _ (unitsAt.keep k6 (by simp) _ _ (unitsAt.keep k5 trivial _ _ (unitsAt.keep k4 (by simp) _ _ h3'')))) ⟨rfl, rfl, Reg.nil, trivial⟩
  · simpa [VFile.cutTo] using ((((hv2.keep k4 (by simp)).keep k5 trivial).keep k6 (by simp)).keep k7 (by simp))
  · show Vec _ _ 1 _ (bytesV (F.now.take s)) (F.now.take s).length
    rw [hlen, hbv]
    exact hv3.keep k7 (by simp)
  · exact ((((k3.imp (fun g h => h 2 (by omega) (by omega))).trans (k4.imp (fun g h => h 1 (by omega) (by omega)))).trans (k5.imp fun _ _ => trivial)).trans (k6.imp (fun g h => h 3 (by omega) (by omega)))).trans (k7.imp (fun g h => h 1 (by omega) (by omega)))
theorem Cut_spec {f : Nat} {S : VFS} {n : ByteArray} {s : Int} (h : FSAt st f S) (hs : S.small) : ICalls Try.prog W0 38 #[ptr f, .string n, Val.i s] st fun e st' => e = .returned (Val.i (S.cutF n s).1) ∧ FSAt st' f (S.cutF n s).2 ∧ Keep (Out f) st st' := by
  obtain ⟨sm, nm, tv, ad, h1, h2, h3, h4, h5, h6⟩ := h
  refine enter (args := [_, _, _]) Try.func38 rfl ?_
  simp [Try.f38, go_sem]
  refine call_spec h1 ?_
  obtain ⟨k0, hfs, h1, h2, h3, h4, h5⟩ := FSAt.ctl' h1 h2 h3 h4 h5 h6 S.c.call.2
  generalize hst1 : upd st f _ = st1 at *
  have k0' : Keep (Out f) st st1 := k0.imp fun g h => h 0 0
  unfold VFS.cutF
  simp [go_sem]
  by_cases hc : S.c.call.1 = 0
  · simp [hc, go_sem]
    refine ICalls.mono (find_spec (n := n) h1 h3) ?_
    rintro e st2 ⟨rfl, rfl⟩
    cases hk : okName n with
    | false => simp [go_sem]; exact ⟨hfs, k0'⟩
    | true =>
      cases hg : aget S.now n with
      | none => simp [go_sem]; exact ⟨hfs, k0'⟩
      | some k =>
        have hkl := aget_lt h6 hg
        obtain ⟨F, hF⟩ : ∃ F, S.files[k]? = some F := ⟨_, List.getElem?_eq_getElem hkl⟩
        have hlen : S.lenOf k = F.now.length := by simp [VFS.lenOf, hF]
        obtain ⟨q1, q2, q3⟩ := hs.2.2 F (List.mem_of_getElem? hF)
        obtain ⟨sv, pv, nv, us, b1, b2, b3, b4, b5⟩ := h5 k F hF
        obtain ⟨nb, nc, rfl⟩ := b5.slice
        by_cases hneg : s < 0
        · simp [go_sem, hneg]; exact ⟨hfs, k0'⟩
        · by_cases hbig : (F.now.length : Int) < s
          · simp [go_sem, hneg, hbig, hlen, b1]; exact ⟨hfs, k0'⟩
          · simp [go_sem, hneg, hbig, hlen, b1]
            have hfc := fileCut_spec (W0 := W0) (s := s.toNat) (h5 k F hF) (by omega) q2 q1
            rw [show ((s.toNat : Nat) : Int) = s by omega] at hfc
            refine hfc.mono ?_
            rintro e st3 ⟨rfl, hF3, k3⟩
            simp [go_sem]
            exact ⟨FSAt.file (S := S.ctl S.c.call.2) h1 h2 h3 h4 h5 h6 hF k3 hF3, k0'.trans (k3.imp fun g h r _ _ => h k r)⟩
  · simp [hc, go_sem]
    exact ⟨hfs, k0'⟩
end
end Go.Proofs.Ytenencpnnjacdaa
