/- The law VfsCreates. -/
import Derived.Test.YtenencpnnjacdaaVfsQ
import Derived.Test.YtenencpnnjacdaaVfsL
set_option linter.unusedVariables false
set_option linter.unusedSimpArgs false
set_option maxRecDepth 100000
set_option maxHeartbeats 1000000
namespace Go.Proofs.Ytenencpnnjacdaa
open Go.RowKit (Below)

def SC1 (data : Bs) : VFS := ⟨[(nA, 0)], [(nA, 0)], [], [⟨0, data, [], data⟩], ⟨0, false, 0, 0, false⟩⟩
abbrev TC : VTurn := ⟨0, nA, ⟨#[]⟩, some 1⟩
def SC2 (data : Bs) : VFS := ⟨[(nA, 0)], [(nA, 1)], [TC], [⟨0, data, [], data⟩, ⟨1, [], [], []⟩], ⟨1, false, 0, 0, false⟩⟩
def SC3 (data more : Bs) : VFS := ⟨[(nA, 0)], [(nA, 1)], [TC], [⟨0, data, [], data⟩, ⟨1, [], [⟨false, 0, more⟩], more⟩], ⟨2, false, 0, 0, false⟩⟩
def SC4 (data more : Bs) : VFS := ⟨[(nA, 0)], [(nA, 1)], [TC], [⟨0, data, [], data⟩, ⟨1, more, [], more⟩], ⟨3, false, 0, 0, false⟩⟩
theorem laid_A (data : Bs) : fillM (laysM .new [nA]) ([nA].zip [data]) = some (SC1 data) := by rfl
theorem laysOK_A : laysOK .new [nA] = true := by rfl
theorem create_C (data : Bs) : (SC1 data).create nA = (0, SC2 data) := by rfl
theorem append_C (data more : Bs) (h : more.length ≤ 1000) : (SC2 data).append nA more = (0, SC3 data more) := by
  have h1 : (SC2 data).c.call = (0, ⟨2, false, 0, 0, false⟩) := by rfl
  have h2 : aget (SC2 data).now nA = some 1 := by rfl
  have h3 : okName nA = true := by rfl
  have h4 : (SC2 data).lenOf 1 = 0 := by rfl
  unfold VFS.append
  rw [h3, h2, h1]
  simp only [h4]
  rw [if_neg (by decide), if_pos trivial, if_pos (by omega)]
  rfl
theorem sync_C (data more : Bs) : (SC3 data more).syncF nA = (0, SC4 data more) := by rfl
section
variable {W0 : World} {st : Heap}
theorem creates_spec {ops : Int} {dv mv : Value} {data more : Bs} (hp : Reg st (.ty 0) 1 dv (bytesV data) data.length) (hq : Reg st (.ty 0) 1 mv (bytesV more) more.length) :
    ICalls Try.prog W0 9 #[dv, mv, Val.i ops] st fun e st' => e = .returned (.bool true) := by
  obtain ⟨db, dc, rfl⟩ := hp.slice
  obtain ⟨mb, mc, rfl⟩ := hq.slice
  have hfree : Free (.ty 0) := by intro g x r; simp
  refine enter (args := [_, _, _]) Try.func9 rfl ?_
  simp [Try.f9, go_sem]
  refine awake_spec.mono ?_
  rintro e st1 ⟨rfl, k1⟩
  have again : ∀ {st : Heap}, ICalls Try.prog W0 25 #[] st fun e st' => e = .returned (.bool true) := awake_spec.mono fun e st' h => h.1
  by_cases hd : (1000 : Int) < data.length
  · simp [go_sem, hd]
    refine again.mono ?_
    rintro e st2 rfl
    simp [go_sem]
  · by_cases hm : (1000 : Int) < more.length
    · simp [go_sem, hd, hm]
      refine again.mono ?_
      rintro e st2 rfl
      simp [go_sem]
    · simp [go_sem, hd, hm]
      unfold NewS
      intro b1 hb1
      refine ⟨.ty 1, ?_⟩
      simp [go_sem]
      have k2 : Keep (fun _ => True) st1 (upd st1 b1 (.cells true [.string nA] 1 (.ty 1))) := Keep.rfl'.new hb1
      have hnm : Reg (upd st1 b1 (.cells true [.string nA] 1 (.ty 1))) (.ty 1) 1 (.slice (some ⟨b1, 0, none⟩) 1 1) ([nA].map .string) 1 := (Vec.new (by simp) (Nat.le_refl _) (upd_same _ _ _) (by simp)).reg
      generalize upd st1 b1 _ = st2 at *
      have K2 : Keep Free st st2 := k1.trans (k2.imp fun _ _ => trivial)
      refine (Bytes_spec (hp.keep K2 hfree) (by omega)).mono ?_
      rintro e st3 ⟨b3, c3, rfl, hv3, k3⟩
      simp [go_sem]
      unfold NewS
      intro b4 hb4
      refine ⟨.ty 2, ?_⟩
      simp [go_sem]
      have k4 : Keep (fun _ => True) st3 (upd st3 b4 (.cells true [.slice b3 data.length c3] 1 (.ty 2))) := Keep.rfl'.new hb4
      have hdt : Reg (upd st3 b4 (.cells true [.slice b3 data.length c3] 1 (.ty 2))) (.ty 2) 1 (.slice (some ⟨b4, 0, none⟩) 1 1) [.slice b3 data.length c3] 1 := (Vec.new (by simp) (Nat.le_refl _) (upd_same _ _ _) (by simp)).reg
      have hnm4 := (hnm.keep k3 trivial).keep k4 trivial
      have hv4 := (hv3.keep k4 trivial).reg
      generalize upd st3 b4 _ = st4 at *
      have K4 : Keep Free st st4 := (K2.trans (k3.imp fun _ _ => trivial)).trans (k4.imp fun _ _ => trivial)
      refine (Laid_spec (names := [nA]) (datas := [data]) (vs := [.slice b3 data.length c3]) (S' := SC1 data) (gb := .ty 0) rfl rfl hnm4 hdt ?_ (by intro g x r; simp) (by intro g x r; simp) hfree (by simp) laysOK_A (laid_A data)).mono ?_
      · intro k b v hb hv
        cases k with
        | zero =>
          simp at hb hv
          subst hb; subst hv
          exact ⟨hv4, by omega⟩
        | succ k => simp at hb
      rintro e st5 ⟨f, rfl, hf, hF5, k5⟩
      simp [go_sem]
      have hsm1 : (SC1 data).small := ⟨by simp [SC1], by simp [SC1], by simp [SC1]; omega⟩
      refine (Create_spec (n := nA) hF5 hsm1).mono ?_
      rw [create_C]
      rintro e st6 ⟨rfl, hF6, k6⟩
      simp [go_sem]
      refine (Read_spec (n := nA) hF6 (by simp [SC2]; omega)).mono ?_
      rintro e st7 ⟨k7, hread⟩
      rw [show aget (SC2 data).now nA = some 1 from rfl] at hread
      obtain ⟨F, rb, rc, hFe, rfl, hv7⟩ := hread
      have hFF : F = ⟨1, [], [], []⟩ := by simp [SC2] at hFe; exact hFe.symm
      subst hFF
      simp [go_sem]
      have hF7 := hF6.keep k7 (fun _ _ => trivial)
      have K7 : Keep Free st st7 := ((K4.trans (k5.imp fun t h x r => h f x r)).trans (k6.imp fun t h x r => h f x r)).trans (k7.imp fun _ _ => trivial)
      refine (Bytes_spec (hq.keep K7 hfree) (by omega)).mono ?_
      rintro e st8 ⟨b8, c8, rfl, hv8, k8⟩
      simp [go_sem]
      have hsm2 : (SC2 data).small := ⟨by simp [SC2], by simp [SC2], by simp [SC2]; omega⟩
      refine (Append_spec (n := nA) (b := more) (hF7.keep k8 (fun _ _ => trivial)) hsm2 hv8.reg (by intro x r; simp) (by omega)).mono ?_
      rw [append_C _ _ (by omega)]
      rintro e st9 ⟨rfl, hF9, k9⟩
      simp [go_sem]
      refine (Sync_spec (n := nA) hF9).mono ?_
      rw [sync_C]
      rintro e st10 ⟨rfl, hF10, k10⟩
      simp [go_sem]
      have hsm4 : (SC4 data more).small := ⟨by simp [SC4], by simp [SC4], by simp [SC4]; omega⟩
      have K10 : Keep Free st st10 := ((K7.trans (k8.imp fun _ _ => trivial)).trans (k9.imp fun t h x r => h f x r)).trans (k10.imp fun t h x r => h f x r)
      by_cases ho : 0 < ops
      · have hcr : crashM (SC4 data more).turns 0 ops (SC4 data more).sure = some [(nA, 1)] := by
          simp only [SC4, crashM]
          rw [if_pos (by simpa using ho)]
          rfl
        refine (Crash_spec (ops := ops) (picks := []) (gp := .ty 0) (n := nA) (i := 1) (F := ⟨1, more, [], more⟩) (r := more) hF10 hsm4 (by simp [SC4]) hcr (.inr ⟨rfl, rfl, rfl, by simp; omega⟩) Reg.nil (by intro g x r; simp) (by simp [pick0]) (by simp)).mono ?_
        rintro e st11 ⟨f2, rfl, hne, hF11, hG11, k11⟩
        simp [go_sem]
        refine (Read_spec (n := nA) hG11 (by simp [VFS.lay, VFS.new]; omega)).mono ?_
        rintro e st12 ⟨k12, hread⟩
        rw [show (if [(nA, 1)] = [] then VFS.new else VFS.new.lay nA more) = VFS.new.lay nA more from rfl, show aget (VFS.new.lay nA more).now nA = some 0 from rfl] at hread
        obtain ⟨F, rb2, rc2, hFe, rfl, hv12⟩ := hread
        have hFF : F = ⟨0, more, [], more⟩ := by simp [VFS.lay, VFS.new] at hFe; exact hFe.symm
        subst hFF
        have K12 : Keep Free st st12 := (K10.trans (k11.imp fun t h => ⟨h f, h f2⟩)).trans (k12.imp fun _ _ => trivial)
        have t1 := textOf_reg hv12.reg
        have t2 := textOf_reg (hq.keep K12 hfree)
        have ho' : (1 : Int) ≤ ops := by omega
        simp [go_sem, t1, t2, ho', strEq]
      · have hcr : crashM (SC4 data more).turns 0 ops (SC4 data more).sure = some [(nA, 0)] := by
          simp only [SC4, crashM]
          rw [if_neg (by simpa using ho)]
        refine (Crash_spec (ops := ops) (picks := []) (gp := .ty 0) (n := nA) (i := 0) (F := ⟨0, data, [], data⟩) (r := data) hF10 hsm4 (by simp [SC4]) hcr (.inr ⟨rfl, rfl, rfl, by simp; omega⟩) Reg.nil (by intro g x r; simp) (by simp [pick0]) (by simp)).mono ?_
        rintro e st11 ⟨f2, rfl, hne, hF11, hG11, k11⟩
        simp [go_sem]
        refine (Read_spec (n := nA) hG11 (by simp [VFS.lay, VFS.new]; omega)).mono ?_
        rintro e st12 ⟨k12, hread⟩
        rw [show (if [(nA, 0)] = [] then VFS.new else VFS.new.lay nA data) = VFS.new.lay nA data from rfl, show aget (VFS.new.lay nA data).now nA = some 0 from rfl] at hread
        obtain ⟨F, rb2, rc2, hFe, rfl, hv12⟩ := hread
        have hFF : F = ⟨0, data, [], data⟩ := by simp [VFS.lay, VFS.new] at hFe; exact hFe.symm
        subst hFF
        have K12 : Keep Free st st12 := (K10.trans (k11.imp fun t h => ⟨h f, h f2⟩)).trans (k12.imp fun _ _ => trivial)
        have t1 := textOf_reg hv12.reg
        have t2 := textOf_reg (hp.keep K12 hfree)
        have ho' : ¬ (1 : Int) ≤ ops := by omega
        simp [go_sem, t1, t2, ho', strEq]
end
end Go.Proofs.Ytenencpnnjacdaa
