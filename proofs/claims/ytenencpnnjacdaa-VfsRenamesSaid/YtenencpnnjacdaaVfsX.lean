/- The law VfsRenames. -/
import Derived.Test.YtenencpnnjacdaaVfsV
set_option linter.unusedVariables false
set_option linter.unusedSimpArgs false
set_option maxRecDepth 100000
set_option maxHeartbeats 1000000
namespace Go.Proofs.Ytenencpnnjacdaa
open Go.RowKit (Below)

abbrev nNew : ByteArray := ⟨#[110, 101, 119]⟩
abbrev nOld : ByteArray := ⟨#[111, 108, 100]⟩
def SR1 (data old : Bs) : VFS := ⟨[(nNew, 0), (nOld, 1)], [(nNew, 0), (nOld, 1)], [], [⟨0, data, [], data⟩, ⟨1, old, [], old⟩], ⟨0, false, 0, 0, false⟩⟩
def SR2 (data old : Bs) : VFS := ⟨[(nNew, 0), (nOld, 1)], [(nOld, 0)], [⟨1, nNew, nOld, none⟩], [⟨0, data, [], data⟩, ⟨1, old, [], old⟩], ⟨1, false, 0, 0, false⟩⟩
def SR3 (data old : Bs) : VFS := ⟨[(nOld, 0)], [(nOld, 0)], [], [⟨0, data, [], data⟩, ⟨1, old, [], old⟩], ⟨2, false, 0, 0, false⟩⟩
def SRX (sync : Bool) (data old : Bs) : VFS := if sync = true then SR3 data old else SR2 data old
theorem laid_R (data old : Bs) : fillM (laysM .new [nNew, nOld]) ([nNew, nOld].zip [data, old]) = some (SR1 data old) := by rfl
theorem laysOK_R : laysOK .new [nNew, nOld] = true := by rfl
theorem rename_R (data old : Bs) : (SR1 data old).rename nNew nOld = (0, SR2 data old) := by rfl
theorem syncM_R (data old : Bs) : syncM (SR2 data old).turns (SR2 data old).sure = some [(nOld, 0)] := by rfl
def LR (one : Bool) (data old : Bs) : VFS := if one = true then VFS.new.lay nOld data else (VFS.new.lay nNew data).lay nOld old
theorem crash_R (sync : Bool) (ops : Int) (data old : Bs) : crashM (SRX sync data old).turns 0 ops (SRX sync data old).sure = some (if sync = true ∨ 1 ≤ ops then [(nOld, 0)] else [(nNew, 0), (nOld, 1)]) := by
  cases sync with
  | true => rfl
  | false =>
    by_cases h : 0 < ops
    · have h1 : (1 : Int) ≤ ops := by omega
      have h2 : ((0 : Nat) : Int) < ops := by simpa using h
      simp only [SRX, SR2, crashM, h2, if_true, Bool.false_eq_true, if_false, h1, or_true]
      rfl
    · have h1 : ¬ (1 : Int) ≤ ops := by omega
      have h2 : ¬ ((0 : Nat) : Int) < ops := by simpa using h
      simp only [SRX, SR2, crashM, h2, if_true, Bool.false_eq_true, if_false, h1, or_false]
section
variable {W0 : World} {st : Heap}
theorem renames_spec {ops : Int} {sync : Bool} {dv mv : Value} {data old : Bs} (hp : Reg st (.ty 0) 1 dv (bytesV data) data.length) (hq : Reg st (.ty 0) 1 mv (bytesV old) old.length) :
    ICalls Try.prog W0 11 #[dv, mv, .bool sync, Val.i ops] st fun e st' => e = .returned (.bool true) := by
  obtain ⟨db, dc, rfl⟩ := hp.slice
  obtain ⟨mb, mc, rfl⟩ := hq.slice
  have hfree : Free (.ty 0) := by intro g x r; simp
  refine enter (args := [_, _, _, _]) Try.func11 rfl ?_
  simp [Try.f11, go_sem]
  refine awake_spec.mono ?_
  rintro e st1 ⟨rfl, k1⟩
  have again : ∀ {st : Heap}, ICalls Try.prog W0 25 #[] st fun e st' => e = .returned (.bool true) := awake_spec.mono fun e st' h => h.1
  by_cases hd : (1000 : Int) < data.length
  · simp [go_sem, hd]
    refine again.mono ?_
    rintro e st2 rfl
    simp [go_sem]
  by_cases hm : (1000 : Int) < old.length
  · simp [go_sem, hd, hm]
    refine again.mono ?_
    rintro e st2 rfl
    simp [go_sem]
  simp [go_sem, hd, hm]
  unfold NewS
  intro b1 hb1
  refine ⟨.ty 1, ?_⟩
  simp [go_sem]
  have k2 : Keep (fun _ => True) st1 (upd st1 b1 (.cells true [.string nNew, .string nOld] 2 (.ty 1))) := Keep.rfl'.new hb1
  have hnm : Reg (upd st1 b1 (.cells true [.string nNew, .string nOld] 2 (.ty 1))) (.ty 1) 1 (.slice (some ⟨b1, 0, none⟩) 2 2) ([nNew, nOld].map .string) 2 := (Vec.new (by simp) (Nat.le_refl _) (upd_same _ _ _) (by simp)).reg
  generalize upd st1 b1 _ = st2 at *
  have K2 : Keep Free st st2 := k1.trans (k2.imp fun _ _ => trivial)
  refine (Bytes_spec (hp.keep K2 hfree) (by omega)).mono ?_
  rintro e st3 ⟨b3, c3, rfl, hv3, k3⟩
  simp [go_sem]
  have K3 : Keep Free st st3 := K2.trans (k3.imp fun _ _ => trivial)
  refine (Bytes_spec (hq.keep K3 hfree) (by omega)).mono ?_
  rintro e st3' ⟨b3', c3', rfl, hv3', k3'⟩
  simp [go_sem]
  have K3' : Keep Free st st3' := K3.trans (k3'.imp fun _ _ => trivial)
  unfold NewS
  intro b4 hb4
  refine ⟨.ty 2, ?_⟩
  simp [go_sem]
  have k4 : Keep (fun _ => True) st3' (upd st3' b4 (.cells true [.slice b3 data.length c3, .slice b3' old.length c3'] 2 (.ty 2))) := Keep.rfl'.new hb4
  have hdt : Reg (upd st3' b4 (.cells true [.slice b3 data.length c3, .slice b3' old.length c3'] 2 (.ty 2))) (.ty 2) 1 (.slice (some ⟨b4, 0, none⟩) 2 2) [.slice b3 data.length c3, .slice b3' old.length c3'] 2 := (Vec.new (by simp) (Nat.le_refl _) (upd_same _ _ _) (by simp)).reg
  have hnm4 := ((hnm.keep k3 trivial).keep k3' trivial).keep k4 trivial
  have hv4 := ((hv3.keep k3' trivial).keep k4 trivial).reg
  have hv4' := (hv3'.keep k4 trivial).reg
  generalize upd st3' b4 _ = st4 at *
  have K4 : Keep Free st st4 := K3'.trans (k4.imp fun _ _ => trivial)
  refine (Laid_spec (names := [nNew, nOld]) (datas := [data, old]) (vs := [.slice b3 data.length c3, .slice b3' old.length c3']) (S' := SR1 data old) (gb := .ty 0) rfl rfl hnm4 hdt ?_ (by intro g x r; simp) (by intro g x r; simp) hfree (by simp) laysOK_R (laid_R data old)).mono ?_
  · intro k b v hb hv
    match k, hb, hv with
    | 0, hb, hv =>
      simp at hb hv
      subst hb; subst hv
      exact ⟨hv4, by omega⟩
    | 1, hb, hv =>
      simp at hb hv
      subst hb; subst hv
      exact ⟨hv4', by omega⟩
    | k + 2, hb, hv => simp at hb
  rintro e st5 ⟨f, rfl, hf, hF5, k5⟩
  simp [go_sem]
  have hsm1 : (SR1 data old).small := ⟨by simp [SR1], by simp [SR1], by simp [SR1]; omega⟩
  have hsm2 : (SR2 data old).small := ⟨by simp [SR2], by simp [SR2], by simp [SR2]; omega⟩
  have hsm3 : (SR3 data old).small := ⟨by simp [SR3], by simp [SR3], by simp [SR3]; omega⟩
  refine (Rename_spec (n := nNew) (m := nOld) hF5 hsm1).mono ?_
  rw [rename_R]
  rintro e st6 ⟨rfl, hF6, k6⟩
  have K6 : Keep Free st st6 := (K4.trans (k5.imp fun t h x r => h f x r)).trans (k6.imp fun t h x r => h f x r)
  simp [go_sem]
  have go : ∀ (st7 : Heap), FSAt st7 f (SRX sync data old) → Keep Free st st7 → FSAt st7 f (SRX sync data old) ∧ Keep Free st st7 := fun _ a b => ⟨a, b⟩
  cases sync
  all_goals simp [go_sem]
  case' true =>
    refine (SyncDir_spec (d := [(nOld, 0)]) hF6 hsm2 (syncM_R data old)).mono ?_
    rintro e st7 ⟨rfl, hF7, k7⟩
    rw [show (SR2 data old).c.call.1 = 0 from rfl] at hF7
    rw [show (SR2 data old).c.call.1 = 0 from rfl]
    replace hF7 : FSAt st7 f (SRX true data old) := hF7
    have K7 : Keep Free st st7 := K6.trans (k7.imp fun t h x r => h f x r)
    simp [go_sem]
  case' false =>
    have hF7 : FSAt st6 f (SRX false data old) := hF6
    have K7 := K6
  all_goals
    refine (Read_spec (n := nOld) hF7 (by simp [SRX, SR2, SR3]; omega)).mono ?_
    rintro e st8 ⟨k8, hread⟩
    rw [show aget (SRX _ data old).now nOld = some 0 from rfl] at hread
    obtain ⟨F, rb, rc, hFe, rfl, hv8⟩ := hread
    have hFF : F = ⟨0, data, [], data⟩ := by simp [SRX, SR2, SR3] at hFe; exact hFe.symm
    subst hFF
    have hF8 := hF7.keep k8 (fun _ _ => trivial)
    simp [go_sem]
    refine (Read_spec (n := nNew) hF8 (by simp [SRX, SR2, SR3]; omega)).mono ?_
    rintro e st9 ⟨k9, hread⟩
    rw [show aget (SRX _ data old).now nNew = none from rfl] at hread
    replace hread : e = .returned (.tuple #[.slice none 0 0, Val.i 3]) := hread
    subst hread
    have hF9 := hF8.keep k9 (fun _ _ => trivial)
    have K9 : Keep Free st st9 := (K7.trans (k8.imp fun _ _ => trivial)).trans (k9.imp fun _ _ => trivial)
    have t1 := textOf_reg (hv8.keep k9 trivial).reg
    have t2 := textOf_reg (hp.keep K9 hfree)
    simp [go_sem, t1, t2, strEq]
  · have hlf : leftM (SRX false data old).files [] 0 (if false = true ∨ 1 ≤ ops then [(nOld, 0)] else [(nNew, 0), (nOld, 1)]) .new = some (LR (decide (1 ≤ ops)) data old) := by
      by_cases h1 : 1 ≤ ops <;> simp [h1, leftM, SRX, SR2, withM, LR]
    refine (CrashN_spec (ops := ops) (picks := []) (gp := .ty 0) (sd := if false = true ∨ 1 ≤ ops then [(nOld, 0)] else [(nNew, 0), (nOld, 1)]) hF9 hsm2 (by simp [SRX, SR2, Names]) ?_ (crash_R false ops data old) (by split <;> simp) (List.Perm.refl _) (by split <;> simp) hlf ?_ Reg.nil (by intro g x r; simp) (by simp)).mono ?_
    · intro i F hi
      match i, hi with
      | 0, hi => simp [SRX, SR2] at hi; rw [← hi]
      | 1, hi => simp [SRX, SR2] at hi; rw [← hi]
      | i + 2, hi => simp [SRX, SR2] at hi
    · simp [SRX, SR2]; omega
    rintro e st12 ⟨f2, rfl, hne, hF12, hG12, k12⟩
    have K12 : Keep Free st st12 := K9.trans (k12.imp fun t h => ⟨h f, h f2⟩)
    simp [go_sem]
    by_cases h1 : 1 ≤ ops
    all_goals
      simp only [h1, decide_true, decide_false, LR, if_true, if_false, Bool.false_eq_true] at hG12
      refine (Read_spec (n := nOld) hG12 (by simp [VFS.lay, VFS.new]; omega)).mono ?_
      rintro e st13 ⟨k13, hread⟩
    · rw [show aget (VFS.new.lay nOld data).now nOld = some 0 from rfl] at hread
      obtain ⟨F, rb, rc, hFe, rfl, hv13⟩ := hread
      have hFF : F = ⟨0, data, [], data⟩ := by simp [VFS.lay, VFS.new] at hFe; exact hFe.symm
      subst hFF
      have K13 : Keep Free st st13 := K12.trans (k13.imp fun _ _ => trivial)
      have t1 := textOf_reg hv13.reg
      have t2 := textOf_reg (hp.keep K13 hfree)
      simp [go_sem, t1, t2, strEq, h1]
      refine (List_spec (hG12.keep k13 (fun _ _ => trivial)) (by simp [VFS.lay, VFS.new, aset, afind])).mono ?_
      rintro e st14 ⟨⟨lb, lc, rfl⟩, -, -⟩
      simp [go_sem, VFS.lay, VFS.new, aset, afind]
    · rw [show aget ((VFS.new.lay nNew data).lay nOld old).now nOld = some 1 from rfl] at hread
      obtain ⟨F, rb, rc, hFe, rfl, hv13⟩ := hread
      have hFF : F = ⟨1, old, [], old⟩ := by simp [VFS.lay, VFS.new] at hFe; exact hFe.symm
      subst hFF
      have K13 : Keep Free st st13 := K12.trans (k13.imp fun _ _ => trivial)
      have t1 := textOf_reg hv13.reg
      have t2 := textOf_reg (hq.keep K13 hfree)
      simp [go_sem, t1, t2, strEq, h1]
      have hnow : ((VFS.new.lay nNew data).lay nOld old).now = [(nNew, 0), (nOld, 1)] := by rfl
      refine (ListN_spec (hG12.keep k13 (fun _ _ => trivial)) (by rw [hnow]; simp) (by rw [hnow]; simp [Names])).mono ?_
      rintro e st14 ⟨lb, lc, ns, rfl, -⟩
      rw [hnow]
      simp [go_sem]
  · have hlf : leftM (SRX true data old).files [] 0 [(nOld, 0)] .new = some (LR true data old) := by
      simp [leftM, SRX, SR3, withM, LR]
    refine (CrashN_spec (ops := ops) (picks := []) (gp := .ty 0) (sd := [(nOld, 0)]) hF9 hsm3 (by simp [SRX, SR3, Names]) ?_ (crash_R true ops data old) (by simp) (List.Perm.refl _) (by simp) hlf ?_ Reg.nil (by intro g x r; simp) (by simp)).mono ?_
    · intro i F hi
      match i, hi with
      | 0, hi => simp [SRX, SR3] at hi; rw [← hi]
      | 1, hi => simp [SRX, SR3] at hi; rw [← hi]
      | i + 2, hi => simp [SRX, SR3] at hi
    · simp [SRX, SR3]; omega
    rintro e st12 ⟨f2, rfl, hne, hF12, hG12, k12⟩
    have K12 : Keep Free st st12 := K9.trans (k12.imp fun t h => ⟨h f, h f2⟩)
    simp [go_sem]
    simp only [LR, if_true] at hG12
    refine (Read_spec (n := nOld) hG12 (by simp [VFS.lay, VFS.new]; omega)).mono ?_
    rintro e st13 ⟨k13, hread⟩
    rw [show aget (VFS.new.lay nOld data).now nOld = some 0 from rfl] at hread
    obtain ⟨F, rb, rc, hFe, rfl, hv13⟩ := hread
    have hFF : F = ⟨0, data, [], data⟩ := by simp [VFS.lay, VFS.new] at hFe; exact hFe.symm
    subst hFF
    have K13 : Keep Free st st13 := K12.trans (k13.imp fun _ _ => trivial)
    have t1 := textOf_reg hv13.reg
    have t2 := textOf_reg (hp.keep K13 hfree)
    simp [go_sem, t1, t2, strEq]
    refine (List_spec (hG12.keep k13 (fun _ _ => trivial)) (by simp [VFS.lay, VFS.new, aset, afind])).mono ?_
    rintro e st14 ⟨⟨lb, lc, rfl⟩, -, -⟩
    simp [go_sem, VFS.lay, VFS.new, aset, afind]
end
end Go.Proofs.Ytenencpnnjacdaa
