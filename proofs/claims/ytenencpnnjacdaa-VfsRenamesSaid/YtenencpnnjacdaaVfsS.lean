/- The law VfsCuts. -/
import Derived.Test.YtenencpnnjacdaaVfsR
set_option linter.unusedVariables false
set_option linter.unusedSimpArgs false
set_option maxRecDepth 100000
set_option maxHeartbeats 1000000
namespace Go.Proofs.Ytenencpnnjacdaa
open Go.RowKit (Below)

theorem ba_append (a b : List UInt8) : (⟨a.toArray⟩ : ByteArray) ++ ⟨b.toArray⟩ = ⟨(a ++ b).toArray⟩ := by
  apply ByteArray.ext
  simp [ByteArray.data_append]
def SU (data : Bs) (calls : Int) (pend : List VUnit) (now : Bs) : VFS := ⟨[(nA, 0)], [(nA, 0)], [], [⟨0, data, pend, now⟩], ⟨calls, false, 0, 0, false⟩⟩
theorem SU_1 (data : Bs) : SC1 data = SU data 0 [] data := rfl
theorem cut_U {data now : Bs} {calls : Nat} {pend : List VUnit} {k : Nat} (hc : calls < 100) (hk : k ≤ now.length) : (SU data calls pend now).cutF nA k = (0, SU data (calls + 1 : Nat) (pend ++ [⟨true, k, []⟩]) (now.take k)) := by
  have w : W ((calls : Int) + 1) = ((calls + 1 : Nat) : Int) := by unfold W; rw [wrap_id (by omega) (by omega)]; omega
  have h1 : (SU data calls pend now).c.call = (0, ⟨((calls + 1 : Nat) : Int), false, 0, 0, false⟩) := by simp [SU, Ctl.call, w]
  have h2 : aget (SU data calls pend now).now nA = some 0 := by rfl
  have h3 : okName nA = true := by rfl
  have h4 : (SU data calls pend now).lenOf 0 = now.length := by rfl
  unfold VFS.cutF
  rw [h3, h2, h1]
  simp only [h4]
  rw [if_neg (by simp), if_neg (by decide), if_neg (by omega)]
  simp [SU, VFS.ctl, VFile.cutTo, List.modify]
theorem cut_U1 {data now : Bs} {calls : Nat} {pend : List VUnit} {k : Int} (hc : calls < 100) (hk : (now.length : Int) < k) : (SU data calls pend now).cutF nA k = (1, SU data (calls + 1 : Nat) pend now) := by
  have w : W ((calls : Int) + 1) = ((calls + 1 : Nat) : Int) := by unfold W; rw [wrap_id (by omega) (by omega)]; omega
  have h1 : (SU data calls pend now).c.call = (0, ⟨((calls + 1 : Nat) : Int), false, 0, 0, false⟩) := by simp [SU, Ctl.call, w]
  have h2 : aget (SU data calls pend now).now nA = some 0 := by rfl
  have h3 : okName nA = true := by rfl
  have h4 : (SU data calls pend now).lenOf 0 = now.length := by rfl
  unfold VFS.cutF
  rw [h3, h2, h1]
  simp only [h4]
  rw [if_neg (by simp), if_neg (by decide), if_pos (by omega)]
  simp [SU, VFS.ctl]
theorem append_U {data now b : Bs} {calls : Nat} {pend : List VUnit} (hc : calls < 100) (hl : now.length + b.length ≤ 1000000) : (SU data calls pend now).append nA b = (0, SU data (calls + 1 : Nat) (pend ++ [⟨false, 0, b⟩]) (now ++ b)) := by
  have w : W ((calls : Int) + 1) = ((calls + 1 : Nat) : Int) := by unfold W; rw [wrap_id (by omega) (by omega)]; omega
  have h1 : (SU data calls pend now).c.call = (0, ⟨((calls + 1 : Nat) : Int), false, 0, 0, false⟩) := by simp [SU, Ctl.call, w]
  have h2 : aget (SU data calls pend now).now nA = some 0 := by rfl
  have h3 : okName nA = true := by rfl
  have h4 : (SU data calls pend now).lenOf 0 = now.length := by rfl
  unfold VFS.append
  rw [h3, h2, h1]
  simp only [h4]
  rw [if_neg (by decide), if_pos trivial, if_pos (by omega)]
  simp [SU, VFS.put, VFile.app, List.modify]
section
variable {W0 : World} {st : Heap}
theorem cuts_spec {at_ units : Int} {dv mv : Value} {data more : Bs} (hp : Reg st (.ty 0) 1 dv (bytesV data) data.length) (hq : Reg st (.ty 0) 1 mv (bytesV more) more.length) :
    ICalls Try.prog W0 10 #[dv, Val.i at_, mv, Val.i units] st fun e st' => e = .returned (.bool true) := by
  obtain ⟨db, dc, rfl⟩ := hp.slice
  obtain ⟨mb, mc, rfl⟩ := hq.slice
  have hfree : Free (.ty 0) := by intro g x r; simp
  refine enter (args := [_, _, _, _]) Try.func10 rfl ?_
  simp [Try.f10, go_sem]
  refine awake_spec.mono ?_
  rintro e st1 ⟨rfl, k1⟩
  have again : ∀ {st : Heap}, ICalls Try.prog W0 25 #[] st fun e st' => e = .returned (.bool true) := awake_spec.mono fun e st' h => h.1
  by_cases hd : (1000 : Int) < data.length
  · simp [go_sem, hd]
    refine again.mono ?_
    rintro e st2 rfl
    simp [go_sem]
  · by_cases hm : (1000 : Int) < more.length
    · simp [go_sem, hd, hm]
      refine again.mono ?_
      rintro e st2 rfl
      simp [go_sem]
    · simp [go_sem, hd, hm]
      unfold NewS
      intro b1 hb1
      refine ⟨.ty 1, ?_⟩
      simp [go_sem]
      have k2 : Keep (fun _ => True) st1 (upd st1 b1 (.cells true [.string nA] 1 (.ty 1))) := Keep.rfl'.new hb1
      have hnm : Reg (upd st1 b1 (.cells true [.string nA] 1 (.ty 1))) (.ty 1) 1 (.slice (some ⟨b1, 0, none⟩) 1 1) ([nA].map .string) 1 := (Vec.new (by simp) (Nat.le_refl _) (upd_same _ _ _) (by simp)).reg
      generalize upd st1 b1 _ = st2 at *
      have K2 : Keep Free st st2 := k1.trans (k2.imp fun _ _ => trivial)
      refine (Bytes_spec (hp.keep K2 hfree) (by omega)).mono ?_
      rintro e st3 ⟨b3, c3, rfl, hv3, k3⟩
      simp [go_sem]
      unfold NewS
      intro b4 hb4
      refine ⟨.ty 2, ?_⟩
      simp [go_sem]
      have k4 : Keep (fun _ => True) st3 (upd st3 b4 (.cells true [.slice b3 data.length c3] 1 (.ty 2))) := Keep.rfl'.new hb4
      have hdt : Reg (upd st3 b4 (.cells true [.slice b3 data.length c3] 1 (.ty 2))) (.ty 2) 1 (.slice (some ⟨b4, 0, none⟩) 1 1) [.slice b3 data.length c3] 1 := (Vec.new (by simp) (Nat.le_refl _) (upd_same _ _ _) (by simp)).reg
      have hnm4 := (hnm.keep k3 trivial).keep k4 trivial
      have hv4 := (hv3.keep k4 trivial).reg
      generalize upd st3 b4 _ = st4 at *
      have K4 : Keep Free st st4 := (K2.trans (k3.imp fun _ _ => trivial)).trans (k4.imp fun _ _ => trivial)
      refine (Laid_spec (names := [nA]) (datas := [data]) (vs := [.slice b3 data.length c3]) (S' := SC1 data) (gb := .ty 0) rfl rfl hnm4 hdt ?_ (by intro g x r; simp) (by intro g x r; simp) hfree (by simp) laysOK_A (laid_A data)).mono ?_
      · intro k b v hb hv
        cases k with
        | zero =>
          simp at hb hv
          subst hb; subst hv
          exact ⟨hv4, by omega⟩
        | succ k => simp at hb
      rintro e st5 ⟨f, rfl, hf, hF5, k5⟩
      have hwl : IntKind.i64.wrap ((data.length : Int) + 1) = data.length + 1 := wrap_id (by omega) (by omega)
      simp [go_sem, hwl]
      refine (Place_spec (by omega) (by omega)).mono ?_
      rintro e st6 ⟨⟨k, hk, rfl⟩, rfl⟩
      simp [go_sem]
      have hkl : k ≤ data.length := by omega
      rw [SU_1] at hF5
      have hsm : ∀ c p nw, p.length < 100 → nw.length < 5000 → (SU data c p nw).small := fun c p nw h1 h2 => ⟨by simp [SU], by simp [SU], by simp [SU]; omega⟩
      refine (Cut_spec (n := nA) (s := k) hF5 (hsm _ _ _ (by simp) (by omega))).mono ?_
      rw [show SU data 0 [] data = SU data (0 : Nat) [] data from rfl, cut_U (by omega) hkl]
      rintro e st7 ⟨rfl, hF7, k7⟩
      simp [go_sem]
      have K7 : Keep Free st st7 := (K4.trans (k5.imp fun t h x r => h f x r)).trans (k7.imp fun t h x r => h f x r)
      refine (Bytes_spec (hq.keep K7 hfree) (by omega)).mono ?_
      rintro e st8 ⟨b8, c8, rfl, hv8, k8⟩
      simp [go_sem]
      have hkt : (data.take k).length = k := by rw [List.length_take]; omega
      refine (Append_spec (n := nA) (b := more) (hF7.keep k8 (fun _ _ => trivial)) (hsm _ _ _ (by simp) (by omega)) hv8.reg (by intro x r; simp) (by omega)).mono ?_
      rw [append_U (by omega) (by omega)]
      rintro e st9 ⟨rfl, hF9, k9⟩
      have hw2 : IntKind.i64.wrap ((data.length : Int) + more.length) = data.length + more.length := wrap_id (by omega) (by omega)
      have hw3 : IntKind.i64.wrap ((data.length : Int) + more.length + 1) = data.length + more.length + 1 := wrap_id (by omega) (by omega)
      simp [go_sem, hw2, hw3]
      have hlen9 : (data.take k ++ more).length = k + more.length := by rw [List.length_append, hkt]
      refine (Cut_spec (n := nA) (s := data.length + more.length + 1) hF9 (hsm _ _ _ (by simp) (by omega))).mono ?_
      rw [cut_U1 (by omega) (by omega)]
      rintro e st10 ⟨rfl, hF10, k10⟩
      simp [go_sem]
      refine (Read_spec (n := nA) hF10 (by simp [SU]; omega)).mono ?_
      rintro e st11 ⟨k11, hread⟩
      rw [show aget (SU data ((0 + 1 + 1 + 1 : Nat) : Int) ([] ++ [⟨true, k, []⟩] ++ [⟨false, 0, more⟩]) (data.take k ++ more)).now nA = some 0 from rfl] at hread
      obtain ⟨F, rb, rc, hFe, rfl, hv11⟩ := hread
      have hFF : F = ⟨0, data, [⟨true, k, []⟩, ⟨false, 0, more⟩], data.take k ++ more⟩ := by simp [SU] at hFe; exact hFe.symm
      subst hFF
      simp only at hv11 ⊢
      rw [hlen9] at hv11 ⊢
      have K11 : Keep Free st st11 := (((K7.trans (k8.imp fun _ _ => trivial)).trans (k9.imp fun t h x r => h f x r)).trans (k10.imp fun t h x r => h f x r)).trans (k11.imp fun _ _ => trivial)
      have t1 := textOf_reg hv11.reg
      have hpk := (hp.keep K11 hfree).take hkl
      have t2 := textOf_reg (bs := data.take k) (n := k) (by rw [show bytesV (data.take k) = (bytesV data).take k from by simp [bytesV, List.map_take]]; exact hpk)
      have t3 := textOf_reg (hq.keep K11 hfree)
      have hkc : k ≤ dc := Nat.le_trans hkl hp.cap
      simp [go_sem]
      refine draw [0, 2, 3, 4, 6, 1, 5, 7, 8, 9] (by kernel_rfl) ?_
      have hwm : IntKind.i64.wrap ((more.length : Int) + 2) = more.length + 2 := wrap_id (by omega) (by omega)
      have hsl : min k data.length + more.length ≤ 9223372036854775807 := by omega
      simp [go_sem, t1, t2, t3, hkc, strEq, hwm, hsl, ba_append]
      refine (Place_spec (by omega) (by omega)).mono ?_
      rintro e st12 ⟨⟨u, hu, rfl⟩, rfl⟩
      simp [go_sem]
      unfold NewS
      intro b13 hb13
      refine ⟨.ty 2, ?_⟩
      simp [go_sem]
      have k13 : Keep (fun _ => True) st12 (upd st12 b13 (.cells true [Val.i u] 1 (.ty 2))) := Keep.rfl'.new hb13
      have hr13 : Reg (upd st12 b13 (.cells true [Val.i u] 1 (.ty 2))) (.ty 2) 1 (.slice (some ⟨b13, 0, none⟩) 1 1) ([(u : Int)].map Val.i) 1 := (Vec.new (by simp) (Nat.le_refl _) (upd_same _ _ _) (by simp)).reg
      generalize upd st12 b13 _ = st13 at *
      have K13 := K11.trans (k13.imp (q := Free) fun _ _ => trivial)
      have hF13 := (hF10.keep k11 (fun _ _ => trivial)).keep k13 (fun _ _ => trivial)
      have hfin : ∃ r : Bs, withM data [⟨true, k, []⟩, ⟨false, 0, more⟩] u = some r ∧ (u = 0 → r = data) ∧ (u ≠ 0 → r = data.take k ++ more.take (u - 1)) := by
        unfold withM
        by_cases hu0 : u = 0
        · subst hu0
          exact ⟨data, by simp, fun _ => rfl, fun h => absurd rfl h⟩
        · rw [if_neg (by omega), if_pos rfl, if_pos hkl]
          refine ⟨data.take k ++ more.take (u - 1), ?_, fun h => absurd h hu0, fun _ => rfl⟩
          unfold withM
          by_cases hu1 : u = 1
          · subst hu1; simp
          · rw [if_neg (by omega), if_neg (by simp)]
            have : (min (more.length : Int) ((u : Int) - 1)).toNat = u - 1 := by omega
            simp only [withM]
            rw [this]
      obtain ⟨r, hw, hr0, hr1⟩ := hfin
      have hrl : r.length ≤ 5000 := by
        by_cases hu0 : u = 0
        · rw [hr0 hu0]; omega
        · rw [hr1 hu0]; simp; omega
      refine (Crash_spec (ops := 0) (picks := [(u : Int)]) (n := nA) (i := 0) (F := ⟨0, data, [⟨true, k, []⟩, ⟨false, 0, more⟩], data.take k ++ more⟩) (r := r) (d := [(nA, 0)]) hF13 (hsm _ _ _ (by simp) (by omega)) (by simp [SU]) (by rfl) (.inr ⟨rfl, rfl, by simpa [pick0] using hw, by simp; omega⟩) hr13 (by intro g x r; simp) (by simp [pick0]; omega) (by simp)).mono ?_
      rintro e st14 ⟨f2, rfl, hne, hF14, hG14, k14⟩
      simp [go_sem]
      refine (Read_spec (n := nA) hG14 (by simp [VFS.lay, VFS.new]; omega)).mono ?_
      rintro e st15 ⟨k15, hread⟩
      rw [show (if [(nA, 0)] = [] then VFS.new else VFS.new.lay nA r) = VFS.new.lay nA r from rfl, show aget (VFS.new.lay nA r).now nA = some 0 from rfl] at hread
      obtain ⟨F, rb2, rc2, hFe, rfl, hv15⟩ := hread
      have hFF : F = ⟨0, r, [], r⟩ := by simp [VFS.lay, VFS.new] at hFe; exact hFe.symm
      subst hFF
      simp only at hv15 ⊢
      have K15 : Keep Free st st15 := (K13.trans (k14.imp fun t h => ⟨h f, h f2⟩)).trans (k15.imp fun _ _ => trivial)
      have t4 := textOf_reg hv15.reg
      by_cases hu0 : u = 0
      · subst hu0
        have hr := hr0 rfl
        subst hr
        have t5 := textOf_reg (hp.keep K15 hfree)
        simp [go_sem, t4, t5, strEq]
      · have hr := hr1 hu0
        have hu1 : ¬ (u : Int) = 0 := by omega
        have hpk2 := (hp.keep K15 hfree).take hkl
        have t5 := textOf_reg (bs := data.take k) (n := k) (by rw [show bytesV (data.take k) = (bytesV data).take k from by simp [bytesV, List.map_take]]; exact hpk2)
        have hqk := (hq.keep K15 hfree).take (m := u - 1) (by omega)
        have t6 := textOf_reg (bs := more.take (u - 1)) (n := u - 1) (by rw [show bytesV (more.take (u - 1)) = (bytesV more).take (u - 1) from by simp [bytesV, List.map_take]]; exact hqk)
        have hmc : u - 1 ≤ mc := Nat.le_trans (by omega) hq.cap
        have hwu : IntKind.i64.wrap ((u : Int) - 1) = ((u - 1 : Nat) : Int) := by rw [wrap_id (by omega) (by omega)]; omega
        simp [go_sem, hu0, hu1]
        refine draw [0, 2, 3, 4, 6, 7, 8, 9, 1, 5, 10, 11, 12, 13] (by kernel_rfl) ?_
        have hsl2 : min k data.length + min (u - 1) more.length ≤ 9223372036854775807 := by omega
        simp [go_sem, t4, t5, t6, hkc, hmc, hwu, strEq, hsl2, ba_append]
        exact hr
end
end Go.Proofs.Ytenencpnnjacdaa
