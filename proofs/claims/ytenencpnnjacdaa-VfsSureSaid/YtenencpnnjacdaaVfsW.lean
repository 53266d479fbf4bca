/- The law VfsSure. -/
import Derived.Test.YtenencpnnjacdaaVfsV
set_option linter.unusedVariables false
set_option linter.unusedSimpArgs false
set_option maxRecDepth 100000
set_option maxHeartbeats 1000000
namespace Go.Proofs.Ytenencpnnjacdaa
open Go.RowKit (Below)

abbrev nB : ByteArray := ⟨#[98]⟩
abbrev TB : VTurn := ⟨0, nB, ⟨#[]⟩, some 1⟩
def SS2 (data : Bs) : VFS := ⟨[], [(nA, 0)], [TA], [⟨0, [], [⟨false, 0, data⟩], data⟩], ⟨2, false, 0, 0, false⟩⟩
def SS3 (data : Bs) : VFS := ⟨[], [(nA, 0)], [TA], [⟨0, data, [], data⟩], ⟨3, false, 0, 0, false⟩⟩
def SS4 (data : Bs) : VFS := ⟨[(nA, 0)], [(nA, 0)], [], [⟨0, data, [], data⟩], ⟨4, false, 0, 0, false⟩⟩
def SS5 (data more : Bs) : VFS := ⟨[(nA, 0)], [(nA, 0)], [], [⟨0, data, [⟨false, 0, more⟩], data ++ more⟩], ⟨5, false, 0, 0, false⟩⟩
def SS6 (data more : Bs) : VFS := ⟨[(nA, 0)], [(nA, 0), (nB, 1)], [TB], [⟨0, data, [⟨false, 0, more⟩], data ++ more⟩, ⟨1, [], [], []⟩], ⟨6, false, 0, 0, false⟩⟩
theorem append_S1 (data : Bs) (h : data.length ≤ 2000) : SA1.append nA data = (0, SS2 data) := by
  have h1 : SA1.c.call = (0, ⟨2, false, 0, 0, false⟩) := by rfl
  have h2 : aget SA1.now nA = some 0 := by rfl
  have h3 : okName nA = true := by rfl
  have h4 : SA1.lenOf 0 = 0 := by rfl
  unfold VFS.append
  rw [h3, h2, h1]
  simp only [h4]
  rw [if_neg (by decide), if_pos trivial, if_pos (by omega)]
  rfl
theorem sync_S (data : Bs) : (SS2 data).syncF nA = (0, SS3 data) := by rfl
theorem append_S4 (data more : Bs) (h : data.length + more.length ≤ 4000) : (SS4 data).append nA more = (0, SS5 data more) := by
  have h1 : (SS4 data).c.call = (0, ⟨5, false, 0, 0, false⟩) := by rfl
  have h2 : aget (SS4 data).now nA = some 0 := by rfl
  have h3 : okName nA = true := by rfl
  have h4 : (SS4 data).lenOf 0 = data.length := by rfl
  unfold VFS.append
  rw [h3, h2, h1]
  simp only [h4]
  rw [if_neg (by decide), if_pos trivial, if_pos (by omega)]
  rfl
theorem create_S5 (data more : Bs) : (SS5 data more).create nB = (0, SS6 data more) := by rfl
/-- How many of the bytes that are not certain come through. -/
def cameM (picks : List Int) (n : Nat) : Nat := (max 0 (min (picks.headD 0) n)).toNat
theorem pickAt_0 (picks : List Int) : pickAt picks 0 = picks.headD 0 := by
  cases picks with
  | nil => rfl
  | cons x l => simp [pickAt]
theorem with_S (data more : Bs) (picks : List Int) : withM data [⟨false, 0, more⟩] (pickAt picks 0) = some (data ++ more.take (cameM picks more.length)) := by
  rw [pickAt_0]
  unfold cameM
  generalize picks.headD 0 = p
  by_cases h : p ≤ 0
  · have : (max 0 (min p (more.length : Int))).toNat = 0 := by omega
    simp [withM, h, this]
  · have : (max 0 (min p (more.length : Int))).toNat = (min (more.length : Int) p).toNat := by omega
    simp only [withM]
    rw [if_neg h, if_neg (by simp), this]
theorem with_nil (u : Int) : withM [] [] u = some [] := by rfl
def LS (r : Bs) (two : Bool) : VFS := if two = true then (VFS.new.lay nA r).lay nB [] else VFS.new.lay nA r
section
variable {W0 : World} {st : Heap}
theorem Ints_spec {v : Value} {zs : List Int} {g : Tg} (h : Reg st g 1 v (zs.map Val.i) zs.length) (hl : zs.length * 8 ≤ 140737488355328) : ICalls Try.prog W0 35 #[v] st fun e st' => ∃ b c, e = .returned (.slice b zs.length c) ∧ Vec st' (.ty 0) 1 (.slice b zs.length c) (zs.map Val.i) zs.length ∧ Keep (fun _ => True) st st' := by
  refine enter (args := [_]) Try.func35 rfl ?_
  simp [Try.f35, go_sem]
  refine AppI_fresh (.ty 0) si50 h.src (by omega) ?_
  intro b c st1 hv he
  simp [go_sem]
  exact ⟨b, c, ⟨rfl, rfl⟩, hv, he⟩
theorem sure_spec {ops : Int} {dv mv pv : Value} {data more : Bs} {picks : List Int} (hp : Reg st (.ty 0) 1 dv (bytesV data) data.length) (hq : Reg st (.ty 0) 1 mv (bytesV more) more.length) (hr : Reg st (.ty 0) 1 pv (picks.map Val.i) picks.length) (hpb : ∀ x ∈ picks, -2 ^ 63 ≤ x ∧ x < 2 ^ 63) (hpl : picks.length * 8 ≤ 140737488355328) :
    ICalls Try.prog W0 8 #[dv, mv, Val.i ops, pv] st fun e st' => e = .returned (.bool true) := by
  obtain ⟨db, dc, rfl⟩ := hp.slice
  obtain ⟨mb, mc, rfl⟩ := hq.slice
  obtain ⟨pb, pc, rfl⟩ := hr.slice
  have hfree : Free (.ty 0) := by intro g x r; simp
  refine enter (args := [_, _, _, _]) Try.func8 rfl ?_
  simp [Try.f8, go_sem]
  refine awake_spec.mono ?_
  rintro e st1 ⟨rfl, k1⟩
  have again : ∀ {st : Heap}, ICalls Try.prog W0 25 #[] st fun e st' => e = .returned (.bool true) := awake_spec.mono fun e st' h => h.1
  by_cases hd : (2000 : Int) < data.length
  · simp [go_sem, hd]
    refine again.mono ?_
    rintro e st2 rfl
    simp [go_sem]
  · by_cases hm : (2000 : Int) < more.length
    · simp [go_sem, hd, hm]
      refine again.mono ?_
      rintro e st2 rfl
      simp [go_sem]
    · simp [go_sem, hd, hm]
      refine New_spec.mono ?_
      rintro e st2 ⟨f, rfl, hf, hF2, k2⟩
      simp [go_sem]
      refine (Create_spec (n := nA) hF2 ⟨by simp [VFS.new], by simp [VFS.new], by simp [VFS.new]⟩).mono ?_
      rw [create_A]
      rintro e st3 ⟨rfl, hF3, k3⟩
      simp [go_sem]
      have K3 : Keep Free st st3 := (k1.trans (k2.imp fun _ _ => trivial)).trans (k3.imp fun t h x r => h f x r)
      refine (Bytes_spec (hp.keep K3 hfree) (by omega)).mono ?_
      rintro e st4 ⟨b4, c4, rfl, hv4, k4⟩
      simp [go_sem]
      refine (Append_spec (n := nA) (b := data) (hF3.keep k4 (fun _ _ => trivial)) ⟨by simp, by simp, by simp⟩ hv4.reg (by intro x r; simp) (by omega)).mono ?_
      rw [append_S1 _ (by omega)]
      rintro e st5 ⟨rfl, hF5, k5⟩
      simp [go_sem]
      refine (Sync_spec (n := nA) hF5).mono ?_
      rw [sync_S]
      rintro e st6 ⟨rfl, hF6, k6⟩
      simp [go_sem]
      refine (SyncDir_spec (d := [(nA, 0)]) hF6 ⟨by simp [SS3], by simp [SS3], by simp [SS3]; omega⟩ (by rfl)).mono ?_
      rintro e st7 ⟨rfl, hF7, k7⟩
      rw [show (SS3 data).c.call.1 = 0 from rfl] at hF7
      rw [show (SS3 data).c.call.1 = 0 from rfl]
      have hF7 : FSAt st7 f (SS4 data) := hF7
      simp [go_sem]
      have K7 : Keep Free st st7 := (((K3.trans (k4.imp fun _ _ => trivial)).trans (k5.imp fun t h x r => h f x r)).trans (k6.imp fun t h x r => h f x r)).trans (k7.imp fun t h x r => h f x r)
      refine (Bytes_spec (hq.keep K7 hfree) (by omega)).mono ?_
      rintro e st8 ⟨b8, c8, rfl, hv8, k8⟩
      simp [go_sem]
      refine (Append_spec (n := nA) (b := more) (hF7.keep k8 (fun _ _ => trivial)) ⟨by simp [SS4], by simp [SS4], by simp [SS4]; omega⟩ hv8.reg (by intro x r; simp) (by omega)).mono ?_
      rw [append_S4 _ _ (by omega)]
      rintro e st9 ⟨rfl, hF9, k9⟩
      simp [go_sem]
      refine (Create_spec (n := nB) hF9 ⟨by simp [SS5], by simp [SS5], by simp [SS5]; omega⟩).mono ?_
      rw [create_S5]
      rintro e st10 ⟨rfl, hF10, k10⟩
      simp [go_sem]
      have K10 : Keep Free st st10 := ((K7.trans (k8.imp fun _ _ => trivial)).trans (k9.imp fun t h x r => h f x r)).trans (k10.imp fun t h x r => h f x r)
      refine (Ints_spec (hr.keep K10 hfree) hpl).mono ?_
      rintro e st11 ⟨b11, c11, rfl, hv11, k11⟩
      simp [go_sem]
      have hlenr : (data ++ more.take (cameM picks more.length)).length ≤ 4000 := by simp; omega
      have hcr : crashM (SS6 data more).turns 0 ops (SS6 data more).sure = some (if 0 < ops then [(nA, 0), (nB, 1)] else [(nA, 0)]) := by
        simp only [SS6, crashM]
        by_cases h0 : 0 < ops
        · rw [if_pos (by simpa using h0), if_pos h0]; rfl
        · rw [if_neg (by simpa using h0), if_neg h0]
      have hsm6 : (SS6 data more).small := ⟨by simp [SS6], by simp [SS6], by simp [SS6]; omega⟩
      have hlf : leftM (SS6 data more).files picks 0 (if 0 < ops then [(nA, 0), (nB, 1)] else [(nA, 0)]) .new = some (LS (data ++ more.take (cameM picks more.length)) (decide (0 < ops))) := by
        by_cases h0 : 0 < ops
        · simp [h0, leftM, SS6, with_S, with_nil, LS]
        · simp [h0, leftM, SS6, with_S, with_nil, LS]
      refine (CrashN_spec (ops := ops) (picks := picks) (gp := .ty 0) (sd := if 0 < ops then [(nA, 0), (nB, 1)] else [(nA, 0)]) (hF10.keep k11 (fun _ _ => trivial)) hsm6 (by simp [SS6, Names]) ?_ hcr (by split <;> simp) (List.Perm.refl _) (by split <;> simp) hlf ?_ hv11.reg (by intro g x r; simp) hpb).mono ?_
      · intro i F hi
        match i, hi with
        | 0, hi => simp [SS6] at hi; rw [← hi]
        | 1, hi => simp [SS6] at hi; rw [← hi]
        | i + 2, hi => simp [SS6] at hi
      · simp [SS6]; omega
      rintro e st12 ⟨f2, rfl, hne, hF12, hG12, k12⟩
      have K12 : Keep Free st st12 := (K10.trans (k11.imp fun _ _ => trivial)).trans (k12.imp fun t h => ⟨h f, h f2⟩)
      have hff : f ≠ f2 := by
        rintro rfl
        obtain ⟨sm, nm, tv, ad, h1, _⟩ := hF10.keep k11 (fun _ _ => trivial)
        exact hne _ _ _ _ h1
      simp [go_sem]
      generalize hrr : data ++ more.take (cameM picks more.length) = r at *
      refine (Read_spec (n := nA) hG12 ?_).mono ?_
      · simp only [LS]; split <;> simp [VFS.lay, VFS.new] <;> omega
      rintro e st13 ⟨k13, hread⟩
      have hget : aget (LS r (decide (0 < ops))).now nA = some 0 := by simp only [LS]; split <;> rfl
      rw [hget] at hread
      obtain ⟨F, rb, rc, hFe, rfl, hv13⟩ := hread
      have hFF : F = ⟨0, r, [], r⟩ := by
        simp only [LS] at hFe
        split at hFe
        · simp [VFS.lay, VFS.new] at hFe; exact hFe.symm
        · simp [VFS.lay, VFS.new] at hFe; exact hFe.symm
      subst hFF
      have hsmG : (LS r (decide (0 < ops))).small := by
        simp only [LS]
        split <;> exact ⟨by simp [VFS.lay, VFS.new], by simp [VFS.lay, VFS.new], by simp [VFS.lay, VFS.new]; omega⟩
      have hGn : (LS r (decide (0 < ops))).now.length = 1 + (if 0 < ops then 1 else 0) := by
        simp only [LS]
        by_cases h0 : 0 < ops <;> simp [h0, VFS.lay, VFS.new, aset, afind, ba_beq]
      have hGnames : Names (LS r (decide (0 < ops))).now := by
        simp only [LS]
        by_cases h0 : 0 < ops <;> simp [h0, VFS.lay, VFS.new, aset, afind, ba_beq, Names]
      have hGc : (LS r (decide (0 < ops))).c.calls = 0 := by
        simp only [LS]
        split <;> rfl
      have K13 : Keep Free st st13 := K12.trans (k13.imp fun _ _ => trivial)
      have hG13 := hG12.keep k13 (fun _ _ => trivial)
      have hF13 := hF12.keep k13 (fun _ _ => trivial)
      have hcm : cameM picks more.length ≤ more.length := by unfold cameM; omega
      have hcm2 : cameM picks more.length ≤ mc := Nat.le_trans hcm hq.cap
      have hrt : textOf st13 (.slice rb r.length rc) = some ⟨r.toArray⟩ := textOf_reg hv13.reg
      have hdt := textOf_reg (hp.keep K13 hfree)
      have hmt := textOf_reg (hq.keep K13 hfree)
      have hmk := (hq.keep K13 hfree).take hcm
      have hmt2 := textOf_reg (bs := more.take (cameM picks more.length)) (n := cameM picks more.length) (by rw [show bytesV (more.take (cameM picks more.length)) = (bytesV more).take (cameM picks more.length) from by simp [bytesV, List.map_take]]; exact hmk)
      have hlen13 : min (1 : Int) (max 0 ops) = if 0 < ops then 1 else 0 := by split <;> omega
      obtain ⟨n, hn⟩ : ∃ n, cameM picks more.length = n := ⟨_, rfl⟩
      rw [hn] at hmt2 hcm hcm2 hrr
      have hstep : (0 < picks.length → ∃ x, picks[0]? = some x ∧ (if (0 : Int) < (if (more.length : Int) < x then (more.length : Int) else x) then (if (more.length : Int) < x then (more.length : Int) else x) else 0) = n) ∧ (picks.length = 0 → n = 0) := by
        unfold cameM at hn
        cases picks with
        | nil => simp at hn ⊢; omega
        | cons x xs =>
          refine ⟨fun _ => ⟨x, rfl, ?_⟩, fun h => by simp at h⟩
          simp only [List.headD_cons] at hn
          split <;> (try split) <;> omega
      have tail : ∀ (R : Prop), R → R := fun _ h => h
      by_cases hpos : 0 < picks.length
      · obtain ⟨x, hx, hxn⟩ := hstep.1 hpos
        obtain ⟨qb, qoff, rfl, hqg⟩ := src_get (hr.keep K13 hfree).src hpos
        have hqg0 := hqg 0 (by omega)
        simp [hx] at hqg0
        simp [go_sem, hpos, hqg0, hxn]
        refine (Read_spec (n := nA) hF13 (by simp [SS6]; omega)).mono ?_
        rintro e st14 ⟨k14, hread⟩
        rw [show aget (SS6 data more).now nA = some 0 from rfl] at hread
        obtain ⟨F, sb, sc, hFe, rfl, hv14⟩ := hread
        have hFF : F = ⟨0, data, [⟨false, 0, more⟩], data ++ more⟩ := by simp [SS6] at hFe; exact hFe.symm
        subst hFF
        simp only [List.length_append] at hv14 ⊢
        have K14 : Keep Free st st14 := K13.trans (k14.imp fun _ _ => trivial)
        have hrt := textOf_reg (hv13.reg.keep k14 trivial)
        have hdt := textOf_reg (hp.keep K14 hfree)
        have hmt := textOf_reg (hq.keep K14 hfree)
        have hmt2 := textOf_reg (bs := more.take n) (n := n) (by rw [show bytesV (more.take n) = (bytesV more).take n from by simp [bytesV, List.map_take]]; exact (hq.keep K14 hfree).take hcm)
        have hct := textOf_reg (bs := data ++ more) (n := data.length + more.length) (by simpa using hv14.reg)
        have hsl : data.length + min n more.length ≤ 9223372036854775807 := by omega
        have hsl2 : data.length + more.length ≤ 9223372036854775807 := by omega
        have hba : (⟨data.toArray⟩ : ByteArray) ++ ⟨(more.take n).toArray⟩ = ⟨r.toArray⟩ := by rw [ba_append, hrr]
        simp [go_sem]
        refine draw [0, 1, 2, 3, 5, 7, 8, 9, 4, 6, 10, 11, 12, 13, 14, 15, 18, 19, 20, 21, 16, 17, 22, 23, 24, 25, 26, 27, 28, 29, 30, 31, 32, 33, 34, 36, 38, 35, 37, 39, 40, 41, 42, 43, 44, 45, 46, 47, 48, 49] (by kernel_rfl) ?_
        simp (config := {maxSteps := 3000000}) [go_sem, hrt, hdt, hmt, hmt2, hct, hcm2, hsl, hsl2, strEq, ba_append, hrr]
        refine (ListN_spec (hG13.keep k14 (fun _ _ => trivial)) (by rw [hGn]; split <;> omega) hGnames).mono ?_
        rintro e st15 ⟨lb, lc, ns, rfl, -, -, -, hG15, k15⟩
        have hF15 := (hF13.keep k14 (fun _ _ => trivial)).keep k15 (by intro x r x' r'; simp; intro h; exact absurd h hff)
        have hv15 := hv14.keep k15 (by intro x r; simp)
        have K15 : Keep Free st st15 := K14.trans (k15.imp fun t h x r => h f2 x r)
        have hdt' := textOf_reg (hp.keep K15 hfree)
        have hmt' := textOf_reg (hq.keep K15 hfree)
        have hct' := textOf_reg (bs := data ++ more) (n := data.length + more.length) (by simpa using hv15.reg)
        have hlen15 : (((LS r (decide (0 < ops))).now.length : Nat) : Int) = 1 + (if (if (0 : Int) < ops then ops else 0) < 1 then (if (0 : Int) < ops then ops else 0) else 1) := by rw [hGn]; split <;> split <;> omega
        have hw15 : IntKind.i64.wrap (1 + (if (if (0 : Int) < ops then ops else 0) < 1 then (if (0 : Int) < ops then ops else 0) else 1)) = (((LS r (decide (0 < ops))).now.length : Nat) : Int) := by rw [← hlen15]; exact wrap_id (by omega) (by rw [hGn]; split <;> omega)
        simp [go_sem, hw15]
        refine (Calls_spec hG15).mono ?_
        rintro e st16 ⟨rfl, rfl⟩
        simp [go_sem, hGc, hdt', hmt', hct', hsl2, ba_append, strEq]
        refine (ListN_spec hF15 (by simp [SS6]) (by simp [SS6, Names])).mono ?_
        rintro e st17 ⟨lb2, lc2, ns2, rfl, -, -, -, hF17, k17⟩
        simp [go_sem, SS6]
      · have hn0 := hstep.2 (by omega)
        rw [hn0] at hrr hcm hcm2
        simp [go_sem, hpos]
        refine (Read_spec (n := nA) hF13 (by simp [SS6]; omega)).mono ?_
        rintro e st14 ⟨k14, hread⟩
        rw [show aget (SS6 data more).now nA = some 0 from rfl] at hread
        obtain ⟨F, sb, sc, hFe, rfl, hv14⟩ := hread
        have hFF : F = ⟨0, data, [⟨false, 0, more⟩], data ++ more⟩ := by simp [SS6] at hFe; exact hFe.symm
        subst hFF
        simp only [List.length_append] at hv14 ⊢
        have K14 : Keep Free st st14 := K13.trans (k14.imp fun _ _ => trivial)
        have hrt := textOf_reg (hv13.reg.keep k14 trivial)
        have hdt := textOf_reg (hp.keep K14 hfree)
        have hmt := textOf_reg (hq.keep K14 hfree)
        have hmt2 := textOf_reg (bs := more.take 0) (n := 0) (by rw [show bytesV (more.take 0) = (bytesV more).take 0 from by simp [bytesV, List.map_take]]; exact (hq.keep K14 hfree).take hcm)
        have hct := textOf_reg (bs := data ++ more) (n := data.length + more.length) (by simpa using hv14.reg)
        have hba0 : (⟨data.toArray⟩ : ByteArray) ++ ⟨#[]⟩ = ⟨r.toArray⟩ := by rw [show (⟨#[]⟩ : ByteArray) = ⟨([] : List UInt8).toArray⟩ from rfl, ba_append, List.append_nil, show data = r from by simpa using hrr]
        have hsl3 : data.length ≤ 9223372036854775807 := by omega
        have hsl : data.length + min 0 more.length ≤ 9223372036854775807 := by omega
        have hsl2 : data.length + more.length ≤ 9223372036854775807 := by omega
        have hba : (⟨data.toArray⟩ : ByteArray) ++ ⟨(more.take 0).toArray⟩ = ⟨r.toArray⟩ := by rw [ba_append, hrr]
        simp [go_sem]
        refine draw [0, 1, 2, 3, 5, 7, 8, 9, 4, 6, 10, 11, 12, 13, 14, 15, 18, 19, 20, 21, 16, 17, 22, 23, 24, 25, 26, 27, 28, 29, 30, 31, 32, 33, 34, 36, 38, 35, 37, 39, 40, 41, 42, 43, 44, 45, 46, 47, 48, 49] (by kernel_rfl) ?_
        simp (config := {maxSteps := 3000000}) [go_sem, hrt, hdt, hmt, hmt2, hct, hcm2, hsl, hsl2, strEq, ba_append, hba0, hsl3]
        refine (ListN_spec (hG13.keep k14 (fun _ _ => trivial)) (by rw [hGn]; split <;> omega) hGnames).mono ?_
        rintro e st15 ⟨lb, lc, ns, rfl, -, -, -, hG15, k15⟩
        have hF15 := (hF13.keep k14 (fun _ _ => trivial)).keep k15 (by intro x r x' r'; simp; intro h; exact absurd h hff)
        have hv15 := hv14.keep k15 (by intro x r; simp)
        have K15 : Keep Free st st15 := K14.trans (k15.imp fun t h x r => h f2 x r)
        have hdt' := textOf_reg (hp.keep K15 hfree)
        have hmt' := textOf_reg (hq.keep K15 hfree)
        have hct' := textOf_reg (bs := data ++ more) (n := data.length + more.length) (by simpa using hv15.reg)
        have hlen15 : (((LS r (decide (0 < ops))).now.length : Nat) : Int) = 1 + (if (if (0 : Int) < ops then ops else 0) < 1 then (if (0 : Int) < ops then ops else 0) else 1) := by rw [hGn]; split <;> split <;> omega
        have hw15 : IntKind.i64.wrap (1 + (if (if (0 : Int) < ops then ops else 0) < 1 then (if (0 : Int) < ops then ops else 0) else 1)) = (((LS r (decide (0 < ops))).now.length : Nat) : Int) := by rw [← hlen15]; exact wrap_id (by omega) (by rw [hGn]; split <;> omega)
        simp [go_sem, hw15]
        refine (Calls_spec hG15).mono ?_
        rintro e st16 ⟨rfl, rfl⟩
        simp [go_sem, hGc, hdt', hmt', hct', hsl2, ba_append, strEq]
        refine (ListN_spec hF15 (by simp [SS6]) (by simp [SS6, Names])).mono ?_
        rintro e st17 ⟨lb2, lc2, ns2, rfl, -, -, -, hF17, k17⟩
        simp [go_sem, SS6]
end
end Go.Proofs.Ytenencpnnjacdaa
