/- The law VfsPower, walked. -/
import Derived.Test.YtmgbknkjgfdllaaPowE
set_option linter.unusedVariables false
set_option linter.unusedSimpArgs false
set_option maxRecDepth 100000
set_option maxHeartbeats 40000000
namespace Go.Proofs.Ytmgbknkjgfdllaa
open Go.RowKit (Below)
section
variable {W0 : World} {st : Heap}
theorem power_spec {sv mv : Value} {after : Int} {script more : List OpD} (hsv : OpsAt st sv script) (hmv : OpsAt st mv more) (hsl : script.length < 2 ^ 50) (hml : more.length < 2 ^ 50) :
    ICalls Try.prog W0 7 #[sv, Val.i after, mv] st fun e st' => e = .returned (.bool true) := by
  refine enter (args := [_, _, _]) Try.func7 rfl ?_
  have sl : ∃ b c, sv = .slice b script.length c := by obtain ⟨ys, h, _⟩ := hsv; obtain ⟨b, c, h⟩ := h.slice; exact ⟨b, c, h⟩
  have ml : ∃ b c, mv = .slice b more.length c := by obtain ⟨ys, h, _⟩ := hmv; obtain ⟨b, c, h⟩ := h.slice; exact ⟨b, c, h⟩
  obtain ⟨sb, sc, hsv0⟩ := sl
  obtain ⟨mb0, mc0, hmv0⟩ := ml
  refine IW_cut (fun E' st' => st' = st ∧ E' 0 = sv ∧ E' 1 = Val.i after ∧ E' 2 = mv) ?_ ?_
  · simp [go_sem]
  rintro E1 st1 ⟨rfl, e0, e1, e2⟩
  refine IW_cut' (fun E' st' => Keep Free st1 st' ∧ E' 0 = sv ∧ E' 1 = Val.i after ∧ E' 2 = mv) ?_ ?_
  · simp [go_sem, e0, e1, e2]
    refine awake_spec.mono ?_
    rintro e st2 ⟨rfl, hk2⟩
    simp [go_sem, e0, e1, e2]
    exact hk2
  clear e0 e1 e2
  rintro E2 st2 ⟨hk2, e0, e1, e2⟩
  refine IW_cut (fun E' st' => ∃ f, FSAt st' f .new ∧ Keep Free st1 st' ∧ E' 0 = sv ∧ E' 1 = Val.i after ∧ E' 2 = mv ∧ E' 7 = ptr f) ?_ ?_
  · simp [go_sem, e0, e1, e2]
    refine New_spec.mono ?_
    rintro e st3 ⟨f, rfl, hfn, hf, hk3⟩
    simp [go_sem, e0, e1, e2]
    exact ⟨hf, hk2.trans (hk3.imp fun _ _ => trivial)⟩
  clear e0 e1 e2
  rintro E3 st3 ⟨f, hf3, hk3, e0, e1, e2, e7⟩
  have toF : Free (.ty 0) := by intro g x r; simp
  have outF : ∀ {g : Tg}, Free g → Out f g := fun h x r => h f x r
  refine IW_cut (fun E' st' => ∃ S, FSAt st' f S ∧ PowI S 30 ∧ Keep Free st1 st' ∧ E' 0 = sv ∧ E' 1 = Val.i after ∧ E' 2 = mv ∧ E' 7 = ptr f) ?_ ?_
  · simp [go_sem]
    refine ⟨fun E st' => E 0 = sv ∧ E 1 = Val.i after ∧ E 2 = mv ∧ E 7 = ptr f ∧ Keep Free st1 st' ∧ ∃ (i : Nat) (S : VFS), E 8 = Val.i i ∧ i ≤ 30 ∧ FSAt st' f S ∧ PowI S i,
      fun E _ => match E 8 with | .int _ i => 30 - i.toNat | _ => 0, ⟨st3, .rfl' _, by simp [go_sem, e0], by simp [go_sem, e1], by simp [go_sem, e2], by simp [go_sem, e7], hk3, 0, .new, by simp [go_sem], by omega, hf3, ?_⟩, ?_⟩
    · exact ⟨by simp [VFS.new], by simp [VFS.new], by simp [VFS.new], by simp [VFS.new, Names], by simp [VFS.new, Names], by simp [VFS.new], ⟨[], rfl, by simp [VFS.new]⟩, rfl, rfl⟩
    clear hf3 hk3 e0 e1 e2 e7
    rintro E st4 ⟨e0, e1, e2, e7, hk4, i, S, e8, hi, hf4, hI⟩
    by_cases hlt : i < script.length
    · have hlt' : ((i : Int) < script.length) = True := eq_true (by omega)
      by_cases h30 : i < 30
      · have h30' : ((i : Int) < 30) = True := eq_true (by omega)
        have hwi : IntKind.i64.wrap ((i : Int) + 1) = ((i + 1 : Nat) : Int) := by rw [wrap_id (by omega) (by omega)]; omega
        obtain ⟨mb, off, cap, rw_, zs, m, dv, pb, pl, pc, hv, hs, hlen, hcell, hg0, hg1, hg4, hdat⟩ := (hsv.keep hk4 toF).get hlt
        obtain ⟨db, dc, rfl⟩ := hdat.slice
        simp [go_sem, e0, e1, e2, e7, e8, hv, hlt', hlt, h30', hs, hg0]
        refine (Place_det (by omega) (by omega)).mono ?_
        rintro e st5 ⟨rfl, rfl⟩
        have hskip : PowI S (i + 1) := hI.le (by omega)
        by_cases hm : placeM script[i].kind 10 < 8
        · have qm := eq_true hm
          by_cases hdl : script[i].data.length ≤ 500
          · have qd : ((script[i].data.length : Int) ≤ 500) = True := eq_true (by omega)
            simp [go_sem, e0, e1, e2, e7, e8, hv, hlt', hlt, h30', hs, hg0, hg4, qm, qd, hlen, hcell]
            unfold NewP
            intro w hw
            refine ⟨.own w 0 80, ?_⟩
            have hwm : w ≠ mb := Ne.symm (ne_of_new hs hw)
            have hmw := Ne.symm hwm
            simp [go_sem, e0, e1, e2, e7, e8, hv, hlt', hlt, hs, hg0, hg4, hlen, hcell, hwm, hmw]
            have hN : New st5 (upd st5 w (refC 0 w)) := (New.refl _).add hw
            refine (do_spec (k := i) (hf4.keep (hN.to fun _ => True) (by simp)) hI (by omega) (upd_same _ _ _) (hdat.new hN) toF hdl hm).mono ?_
            rintro e st6 ⟨⟨v, rfl⟩, ⟨S', hf6, hI6⟩, hk6⟩
            simp [go_sem, e0, e1, e2, e7, e8, hv, hwi]
            exact ⟨_, .rfl' _, ⟨hk4.trans ((hN.to _).trans (hk6.imp fun g h => ⟨fun x r => h f x r, fun x r => h w x r⟩)), i + 1, by omega, by omega, S', hf6, hI6⟩, by omega⟩
          · have qd : ((script[i].data.length : Int) ≤ 500) = False := eq_false (by omega)
            simp [go_sem, e0, e1, e2, e7, e8, hv, hlt', hlt, h30', hs, hg0, hg4, qm, qd, hwi]
            exact ⟨_, .rfl' _, ⟨hk4, i + 1, by omega, by omega, S, hf4, hskip⟩, by omega⟩
        · have qm := eq_false hm
          simp [go_sem, e0, e1, e2, e7, e8, hv, hlt', hlt, h30', hs, hg0, qm, hwi]
          exact ⟨_, .rfl' _, ⟨hk4, i + 1, by omega, by omega, S, hf4, hskip⟩, by omega⟩
      · have h30' : ((i : Int) < 30) = False := eq_false (by omega)
        simp [go_sem, e0, e1, e2, e7, e8, hsv0, hlt', hlt, h30']
        exact ⟨S, hf4, hI.le (by omega), hk4⟩
    · have hlt' : ((i : Int) < script.length) = False := eq_false (by omega)
      simp [go_sem, e0, e1, e2, e7, e8, hsv0, hlt', hlt]
      exact ⟨S, hf4, hI.le (by omega), hk4⟩
  clear hf3 hk3 e0 e1 e2 e7
  rintro E4 st4 ⟨S, hf4, hI, hk4, e0, e1, e2, e7⟩
  refine IW_cut (fun E' st' => ∃ n : Nat, n ≤ 3 ∧ st' = st4 ∧ E' 0 = sv ∧ E' 2 = mv ∧ E' 7 = ptr f ∧ E' 10 = Val.i n) ?_ ?_
  · simp [go_sem, e0, e1, e2, e7]
    refine (Place_spec (by omega) (by omega)).mono ?_
    rintro e st5 ⟨⟨n, hn, rfl⟩, rfl⟩
    simp [go_sem, e0, e2, e7]
    exact ⟨n, by omega, rfl⟩
  clear e0 e1 e2 e7
  rintro E5 st5 ⟨n, hn, rfl, e0, e2, e7, e10⟩
  have hJ := hI.toJ (by omega)
  refine IW_cut' (fun E' st' => ∃ S', FSAt st' f S' ∧ PowJ S' ∧ S'.c.off = false ∧ S'.c.armed = true ∧ S'.c.kind = 0 ∧ S'.c.after = n ∧ Keep Free st1 st' ∧ E' 2 = mv ∧ E' 7 = ptr f ∧ E' 10 = Val.i n) ?_ ?_
  · simp [go_sem, e0, e2, e7, e10]
    refine (Arm_spec hf4).mono ?_
    rintro e st6 ⟨rfl, hf6, hk6⟩
    have ha : S.arm 0 n = (0, S.ctl { S.c with armed := true, kind := 0, after := n }) := by
      unfold VFS.arm
      rw [if_neg (by simp)]
    rw [ha] at hf6 ⊢
    simp [go_sem, e0, e2, e7, e10]
    exact ⟨_, hf6, hJ, hI.off, rfl, rfl, rfl, hk4.trans (hk6.imp fun g h => outF h)⟩
  clear hf4 hk4 e0 e2 e7 e10 hI hJ
  rintro E6 st6 ⟨S6, hf6, hJ6, o6, a6, k6, f6, hk6, e2, e7, e10⟩
  refine IW_cut' (fun E' st' => ∃ S', FSAt st' f S' ∧ PowJ S' ∧ S'.c.off = true ∧ Keep Free st1 st' ∧ E' 2 = mv ∧ E' 7 = ptr f) ?_ ?_
  · simp [go_sem]
    refine ⟨fun E st' => E 2 = mv ∧ E 7 = ptr f ∧ E 10 = Val.i n ∧ Keep Free st1 st' ∧ ∃ (i : Nat) (S' : VFS), E 11 = Val.i i ∧ i ≤ n + 1 ∧ FSAt st' f S' ∧ PowJ S' ∧ (i ≤ n → S'.c.off = false ∧ S'.c.armed = true ∧ S'.c.kind = 0 ∧ S'.c.after = ((n - i : Nat) : Int)) ∧ (n < i → S'.c.off = true),
      fun E _ => match E 11 with | .int _ i => n + 1 - i.toNat | _ => 0, ⟨st6, .rfl' _, by simp [go_sem, e2], by simp [go_sem, e7], by simp [go_sem, e10], hk6, 0, S6, by simp [go_sem], by omega, hf6, hJ6, fun _ => ⟨o6, a6, k6, by simpa using f6⟩, fun h => by omega⟩, ?_⟩
    clear hf6 hJ6 o6 a6 k6 f6 hk6 e2 e7 e10
    rintro E st7 ⟨e2, e7, e10, hk7, i, S7, e11, hi, hf7, hJ7, hle, hgt⟩
    have hwi : IntKind.i64.wrap ((i : Int) + 1) = ((i + 1 : Nat) : Int) := by rw [wrap_id (by omega) (by omega)]; omega
    by_cases hlt : i ≤ n
    · have hlt' : ((i : Int) ≤ n) = True := eq_true (by omega)
      obtain ⟨o7, a7, k7, f7⟩ := hle hlt
      have hJ7' := hJ7
      obtain ⟨hs7, hn7, hl7, d7, hd7⟩ := hJ7'
      simp [go_sem, e2, e7, e10, e11, hlt', hlt]
      refine (SyncDir_spec hf7 hs7 hd7).mono ?_
      rintro e st8 ⟨rfl, hf8, hk8⟩
      by_cases hin : i < n
      · have hin' : ((i : Int) < n) = True := eq_true (by omega)
        have hne : ((i : Int) = n) = False := eq_false (by omega)
        have hne2 : (i = n) = False := eq_false (by omega)
        have hc : S7.c.call = (0, { S7.c with calls := W (S7.c.calls + 1), after := W (S7.c.after - 1) }) := by
          unfold Ctl.call
          rw [if_neg (by rw [o7]; simp), if_neg (by rw [a7]; simp), if_pos (by rw [f7]; omega)]
        rw [hc] at hf8 ⊢
        simp only [if_true] at hf8
        have hw : W (S7.c.after - 1) = ((n - (i + 1) : Nat) : Int) := by
          rw [f7]
          unfold W
          rw [wrap_id (by omega) (by omega)]
          omega
        simp [go_sem, e2, e7, e10, e11, hlt', hlt, hin', hin, hne, hne2, hwi]
        refine ⟨_, .rfl' _, ⟨hk7.trans (hk8.imp fun g h => outF h), i + 1, by omega, by omega, _, hf8, ⟨⟨by simp, hs7.2⟩, hn7, hl7, d7, rfl⟩, fun h => ⟨o7, a7, k7, hw⟩, fun h => by omega⟩, by omega⟩
      · have hin' : ((i : Int) < n) = False := eq_false (by omega)
        have heq : i = n := by omega
        have hc : S7.c.call = (15, { S7.c with calls := W (S7.c.calls + 1), armed := false, off := true }) := by
          unfold Ctl.call
          rw [if_neg (by rw [o7]; simp), if_neg (by rw [a7]; simp), if_neg (by rw [f7]; omega), if_pos k7]
        rw [hc] at hf8 ⊢
        simp only [show ¬ ((15 : Int) = 0) by omega, if_false] at hf8
        subst heq
        simp [go_sem, e2, e7, e10, e11, hwi]
        exact ⟨_, .rfl' _, hk7.trans (hk8.imp fun g h => outF h), i + 1, by omega, by omega, _, hf8, ⟨hs7, hn7, hl7, d7, hd7⟩, fun h => by omega, fun h => rfl⟩
    · have hlt' : ((i : Int) ≤ n) = False := eq_false (by omega)
      simp [go_sem, e2, e7, e10, e11, hlt', hlt]
      exact ⟨S7, hf7, hJ7, hgt (by omega), hk7⟩
  clear hf6 hJ6 o6 a6 k6 f6 hk6 e2 e7 e10
  rintro E7 st7 ⟨S7, hf7, hJ7, o7, hk7, e2, e7⟩
  obtain ⟨hs7, hn7, hl7, -⟩ := hJ7
  refine IW_cut (fun E' st' => ∃ b c ns, E' 13 = .slice b S7.now.length c ∧ ns.Perm (S7.now.map (·.1)) ∧ SortedM ltT ns ∧ Vec st' (.ty 0) 1 (.slice b S7.now.length c) (ns.map .string) S7.now.length ∧ FSAt st' f S7 ∧ Keep Free st1 st' ∧ E' 2 = mv ∧ E' 7 = ptr f) ?_ ?_
  · simp [go_sem, e2, e7]
    refine (ListN_spec hf7 hl7 hn7).mono ?_
    rintro e st8 ⟨b, c, ns, rfl, hp, hso, hV, hf8, hk8⟩
    simp [go_sem, e2, e7]
    exact ⟨b, c, ⟨rfl, rfl⟩, ns, hp, hso, hV, hf8, hk7.trans (hk8.imp fun g h => outF h)⟩
  clear hf7 hk7 e2 e7
  rintro E8 stL ⟨lb, lc, ns, e13, hperm, hsort, hV, hfL, hkL, e2, e7⟩
  obtain ⟨now, hnow⟩ : ∃ now, S7.now = now := ⟨_, rfl⟩
  rw [hnow] at hperm hV e13 hn7 hl7
  have hmvL := hmv.keep hkL toF
  refine IW_cut' (fun E' st' => Gone stL f now st' ∧ E' 7 = ptr f ∧ E' 13 = .slice lb now.length lc) ?_ ?_
  · simp [go_sem]
    refine ⟨fun E st' => E 2 = mv ∧ E 7 = ptr f ∧ E 13 = .slice lb now.length lc ∧ Gone stL f now st' ∧ ∃ i : Nat, E 14 = Val.i i ∧ i ≤ 20,
      fun E _ => match E 14 with | .int _ i => 20 - i.toNat | _ => 0, ⟨stL, .rfl' _, by simp [go_sem, e2], by simp [go_sem, e7], by simp [go_sem, e13], ⟨⟨S7, hfL, hs7, hnow, o7⟩, Keep.rfl'⟩, 0, by simp [go_sem], by omega⟩, ?_⟩
    clear e2 e7 e13
    rintro E st9 ⟨e2, e7, e13, hGone, i, e14, hi⟩
    have hwi : IntKind.i64.wrap ((i : Int) + 1) = ((i + 1 : Nat) : Int) := by rw [wrap_id (by omega) (by omega)]; omega
    by_cases hlt : i < more.length
    · have hlt' : ((i : Int) < more.length) = True := eq_true (by omega)
      by_cases h20 : i < 20
      · have h20' : ((i : Int) < 20) = True := eq_true (by omega)
        obtain ⟨mb, moff, mcap, rw_, zs, m, dv, pb, pl, pc, hv, hmb, hlen, hcell, hg0, hg1, hg4, hdat⟩ := hmvL.get hlt
        have hmb9 := hGone.2.get hmb (by intro x r; simp)
        obtain ⟨db, dc, rfl⟩ := hdat.slice
        rw [hv] at e2
        simp [go_sem, e2, e7, e13, e14, hlt', hlt, h20', hmb9, hg0]
        refine (Place_det (by omega) (by omega)).mono ?_
        rintro e st10 ⟨rfl, rfl⟩
        by_cases hm : 8 ≤ placeM more[i].kind 10
        · have qm := eq_true hm
          simp [go_sem, e2, e7, e13, e14, hlt', hlt, hmb9, hg0, qm, hwi, hv]
          exact ⟨_, .rfl' _, ⟨hGone, i + 1, by omega, by omega⟩, by omega⟩
        have qm := eq_false hm
        by_cases hdl : 500 < more[i].data.length
        · have qd : ((500 : Int) < more[i].data.length) = True := eq_true (by omega)
          simp [go_sem, e2, e7, e13, e14, hlt', hlt, hmb9, hg0, hg4, qm, qd, hwi, hv]
          exact ⟨_, .rfl' _, ⟨hGone, i + 1, by omega, by omega⟩, by omega⟩
        have qd : ((500 : Int) < more[i].data.length) = False := eq_false (by omega)
        simp [go_sem, e2, e7, e13, e14, hlt', hlt, hmb9, hg0, hg4, qm, qd]
        refine drawG [0, 1, 2, 3, 4, 5, 6, 7, 8, 9, 10, 11, 12, 13, 14, 15, 16, 17, 18, 19, 20, 21, 22, 23, 24, 25, 26, 27, 28, 29, 30, 31, 32, 33, 34, 35, 36, 37, 38, 39, 40] (fun j v => match j with
          | 0 | 4 | 20 | 31 => v = ptr f
          | 1 | 16 | 27 | 38 => v = Val.i 15
          | 2 | 3 | 17 | 18 | 19 | 28 | 29 | 30 | 39 | 40 => v = .bool false
          | 5 | 11 | 21 | 32 => v = .slice (some ⟨mb, moff, none⟩) more.length mcap
          | 6 | 12 | 22 | 33 => v = Val.i i
          | 7 | 13 | 23 | 34 => v = .pointer (some ⟨mb, moff + i * 6, none⟩)
          | 8 | 24 | 35 => v = .pointer (some ⟨mb, moff + i * 6 + 1, none⟩)
          | 14 => v = .pointer (some ⟨mb, moff + i * 6 + 4, none⟩)
          | 9 | 25 | 36 => v = Val.i more[i].a
          | 10 | 26 | 37 => ∃ z, v = .string z
          | 15 => v = .slice db more[i].data.length dc
          | _ => True) (fun _ st' => Gone stL f now st') (by kernel_rfl) (by kernel_rfl) hGone ?_ ?_ ?_
        · intro j oo hi done E st5 hnd hG hdp hcl hd' hE
          have hG' := hG
          have hmb5 := hG.2.get hmb (by intro x r; simp)
          match j with
          | 0 =>
            have x0 := hE 7 (oldB_spec (by kernel_rfl))
            injection hi with hi; subst hi
            simp [wantedE, go_sem, x0, e7]
            exact hG
          | 1 =>
            injection hi with hi; subst hi
            have d0 := hd' { on := 0, ground := .data } (by simp) (by decide) _ _ rfl rfl
            simp only at d0
            obtain ⟨⟨S5, hf5, hs5, hn5, ho5⟩, hk5'⟩ := hG'
            simp [wantedE, go_sem, d0, hmb5, hg0, hg1, hg4, hlt]
            refine (Create_spec hf5 hs5).mono ?_
            rintro e st6 ⟨rfl, hf6, hk6⟩
            rw [off_create ho5] at hf6 ⊢
            simp [go_sem]
            exact hG.to hf6 hs5 hn5 (off_call ho5).2 hk6
          | 2 =>
            injection hi with hi; subst hi
            have d0 := hd' { on := 1, ground := .data } (by simp) (by decide) _ _ rfl rfl
            simp only at d0
            simp [wantedE, go_sem, d0, hmb5, hg0, hg1, hg4, hlt]
            exact hG
          | 3 =>
            injection hi with hi; subst hi
            have d0 := hd' { on := 2, ground := .data } (by simp) (by decide) _ _ rfl rfl
            simp only at d0
            simp [wantedE, go_sem, d0, hmb5, hg0, hg1, hg4, hlt]
            exact hG
          | 4 =>
            have x0 := hE 7 (oldB_spec (by kernel_rfl))
            injection hi with hi; subst hi
            have w0 := hd' { on := 3, ground := .guard } (by simp) (by decide) _ _ rfl rfl
            simp only at w0
            simp [wantedE, go_sem, w0, x0, e7]
            exact hG
          | 5 =>
            have x0 := hE 2 (oldB_spec (by kernel_rfl))
            injection hi with hi; subst hi
            have w0 := hd' { on := 3, ground := .guard } (by simp) (by decide) _ _ rfl rfl
            simp only at w0
            simp [wantedE, go_sem, w0, x0, e2]
            exact hG
          | 6 =>
            have x0 := hE 14 (oldB_spec (by kernel_rfl))
            injection hi with hi; subst hi
            have w0 := hd' { on := 3, ground := .guard } (by simp) (by decide) _ _ rfl rfl
            simp only at w0
            simp [wantedE, go_sem, w0, x0, e14]
            exact hG
          | 7 =>
            injection hi with hi; subst hi
            have w0 := hd' { on := 3, ground := .guard } (by simp) (by decide) _ _ rfl rfl
            simp only at w0
            have d0 := hd' { on := 5, ground := .data } (by simp) (by decide) _ _ rfl rfl
            have d1 := hd' { on := 6, ground := .data } (by simp) (by decide) _ _ rfl rfl
            simp only at d0 d1
            simp [wantedE, go_sem, w0, d0, d1, hmb5, hg0, hg1, hg4, hlt]
            exact hG
          | 8 =>
            injection hi with hi; subst hi
            have w0 := hd' { on := 3, ground := .guard } (by simp) (by decide) _ _ rfl rfl
            simp only at w0
            have d0 := hd' { on := 7, ground := .data } (by simp) (by decide) _ _ rfl rfl
            simp only at d0
            simp [wantedE, go_sem, w0, d0, hmb5, hg0, hg1, hg4, hlt]
            exact hG
          | 9 =>
            injection hi with hi; subst hi
            have w0 := hd' { on := 3, ground := .guard } (by simp) (by decide) _ _ rfl rfl
            simp only at w0
            have d0 := hd' { on := 8, ground := .data } (by simp) (by decide) _ _ rfl rfl
            simp only at d0
            simp [wantedE, go_sem, w0, d0, hmb5, hg0, hg1, hg4, hlt]
            exact hG
          | 10 =>
            injection hi with hi; subst hi
            have w0 := hd' { on := 3, ground := .guard } (by simp) (by decide) _ _ rfl rfl
            simp only at w0
            have d0 := hd' { on := 9, ground := .data } (by simp) (by decide) _ _ rfl rfl
            simp only at d0
            simp [wantedE, go_sem, w0, d0, hmb5, hg0, hg1, hg4, hlt]
            refine name_spec.mono ?_
            rintro e st6 ⟨⟨z, rfl, hz⟩, rfl⟩
            simp [go_sem]
            exact hG
          | 11 =>
            have x0 := hE 2 (oldB_spec (by kernel_rfl))
            injection hi with hi; subst hi
            have w0 := hd' { on := 3, ground := .guard } (by simp) (by decide) _ _ rfl rfl
            simp only at w0
            simp [wantedE, go_sem, w0, x0, e2]
            exact hG
          | 12 =>
            have x0 := hE 14 (oldB_spec (by kernel_rfl))
            injection hi with hi; subst hi
            have w0 := hd' { on := 3, ground := .guard } (by simp) (by decide) _ _ rfl rfl
            simp only at w0
            simp [wantedE, go_sem, w0, x0, e14]
            exact hG
          | 13 =>
            injection hi with hi; subst hi
            have w0 := hd' { on := 3, ground := .guard } (by simp) (by decide) _ _ rfl rfl
            simp only at w0
            have d0 := hd' { on := 11, ground := .data } (by simp) (by decide) _ _ rfl rfl
            have d1 := hd' { on := 12, ground := .data } (by simp) (by decide) _ _ rfl rfl
            simp only at d0 d1
            simp [wantedE, go_sem, w0, d0, d1, hmb5, hg0, hg1, hg4, hlt]
            exact hG
          | 14 =>
            injection hi with hi; subst hi
            have w0 := hd' { on := 3, ground := .guard } (by simp) (by decide) _ _ rfl rfl
            simp only at w0
            have d0 := hd' { on := 13, ground := .data } (by simp) (by decide) _ _ rfl rfl
            simp only at d0
            simp [wantedE, go_sem, w0, d0, hmb5, hg0, hg1, hg4, hlt]
            exact hG
          | 15 =>
            injection hi with hi; subst hi
            have w0 := hd' { on := 3, ground := .guard } (by simp) (by decide) _ _ rfl rfl
            simp only at w0
            have d0 := hd' { on := 14, ground := .data } (by simp) (by decide) _ _ rfl rfl
            simp only at d0
            simp [wantedE, go_sem, w0, d0, hmb5, hg0, hg1, hg4, hlt]
            exact hG
          | 16 =>
            injection hi with hi; subst hi
            have w0 := hd' { on := 3, ground := .guard } (by simp) (by decide) _ _ rfl rfl
            simp only at w0
            have d0 := hd' { on := 4, ground := .data } (by simp) (by decide) _ _ rfl rfl
            have d1 := hd' { on := 10, ground := .data } (by simp) (by decide) _ _ rfl rfl
            have d2 := hd' { on := 15, ground := .data } (by simp) (by decide) _ _ rfl rfl
            simp only at d0 d1 d2
            obtain ⟨⟨S5, hf5, hs5, hn5, ho5⟩, hk5'⟩ := hG'
            obtain ⟨z, d1⟩ := d1
            simp [wantedE, go_sem, w0, d0, d1, d2, hmb5, hg0, hg1, hg4, hlt]
            refine (Append_spec hf5 hs5 (hdat.keep hk5' (by intro x r; simp)) (by intro x r; simp) (by omega)).mono ?_
            rintro e st6 ⟨rfl, hf6, hk6⟩
            rw [off_append ho5] at hf6 ⊢
            simp [go_sem]
            exact hG.to hf6 hs5 hn5 (off_call ho5).2 hk6
          | 17 =>
            injection hi with hi; subst hi
            have w0 := hd' { on := 3, ground := .guard } (by simp) (by decide) _ _ rfl rfl
            simp only at w0
            have d0 := hd' { on := 16, ground := .data } (by simp) (by decide) _ _ rfl rfl
            simp only at d0
            simp [wantedE, go_sem, w0, d0, hmb5, hg0, hg1, hg4, hlt]
            exact hG
          | 18 =>
            injection hi with hi; subst hi
            have d0 := hd' { on := 3, ground := .data } (by simp) (by decide) _ _ rfl rfl
            have d1 := hd' { on := 17, ground := .data } (by simp) (by decide) _ _ rfl rfl
            simp only at d0 d1
            simp [wantedE, go_sem, d0, d1, hmb5, hg0, hg1, hg4, hlt]
            exact hG
          | 19 =>
            injection hi with hi; subst hi
            have d0 := hd' { on := 18, ground := .data } (by simp) (by decide) _ _ rfl rfl
            simp only at d0
            simp [wantedE, go_sem, d0, hmb5, hg0, hg1, hg4, hlt]
            exact hG
          | 20 =>
            have x0 := hE 7 (oldB_spec (by kernel_rfl))
            injection hi with hi; subst hi
            have w0 := hd' { on := 19, ground := .guard } (by simp) (by decide) _ _ rfl rfl
            simp only at w0
            simp [wantedE, go_sem, w0, x0, e7]
            exact hG
          | 21 =>
            have x0 := hE 2 (oldB_spec (by kernel_rfl))
            injection hi with hi; subst hi
            have w0 := hd' { on := 19, ground := .guard } (by simp) (by decide) _ _ rfl rfl
            simp only at w0
            simp [wantedE, go_sem, w0, x0, e2]
            exact hG
          | 22 =>
            have x0 := hE 14 (oldB_spec (by kernel_rfl))
            injection hi with hi; subst hi
            have w0 := hd' { on := 19, ground := .guard } (by simp) (by decide) _ _ rfl rfl
            simp only at w0
            simp [wantedE, go_sem, w0, x0, e14]
            exact hG
          | 23 =>
            injection hi with hi; subst hi
            have w0 := hd' { on := 19, ground := .guard } (by simp) (by decide) _ _ rfl rfl
            simp only at w0
            have d0 := hd' { on := 21, ground := .data } (by simp) (by decide) _ _ rfl rfl
            have d1 := hd' { on := 22, ground := .data } (by simp) (by decide) _ _ rfl rfl
            simp only at d0 d1
            simp [wantedE, go_sem, w0, d0, d1, hmb5, hg0, hg1, hg4, hlt]
            exact hG
          | 24 =>
            injection hi with hi; subst hi
            have w0 := hd' { on := 19, ground := .guard } (by simp) (by decide) _ _ rfl rfl
            simp only at w0
            have d0 := hd' { on := 23, ground := .data } (by simp) (by decide) _ _ rfl rfl
            simp only at d0
            simp [wantedE, go_sem, w0, d0, hmb5, hg0, hg1, hg4, hlt]
            exact hG
          | 25 =>
            injection hi with hi; subst hi
            have w0 := hd' { on := 19, ground := .guard } (by simp) (by decide) _ _ rfl rfl
            simp only at w0
            have d0 := hd' { on := 24, ground := .data } (by simp) (by decide) _ _ rfl rfl
            simp only at d0
            simp [wantedE, go_sem, w0, d0, hmb5, hg0, hg1, hg4, hlt]
            exact hG
          | 26 =>
            injection hi with hi; subst hi
            have w0 := hd' { on := 19, ground := .guard } (by simp) (by decide) _ _ rfl rfl
            simp only at w0
            have d0 := hd' { on := 25, ground := .data } (by simp) (by decide) _ _ rfl rfl
            simp only at d0
            simp [wantedE, go_sem, w0, d0, hmb5, hg0, hg1, hg4, hlt]
            refine name_spec.mono ?_
            rintro e st6 ⟨⟨z, rfl, hz⟩, rfl⟩
            simp [go_sem]
            exact hG
          | 27 =>
            injection hi with hi; subst hi
            have w0 := hd' { on := 19, ground := .guard } (by simp) (by decide) _ _ rfl rfl
            simp only at w0
            have d0 := hd' { on := 20, ground := .data } (by simp) (by decide) _ _ rfl rfl
            have d1 := hd' { on := 26, ground := .data } (by simp) (by decide) _ _ rfl rfl
            simp only at d0 d1
            obtain ⟨⟨S5, hf5, hs5, hn5, ho5⟩, hk5'⟩ := hG'
            obtain ⟨z, d1⟩ := d1
            simp [wantedE, go_sem, w0, d0, d1, hmb5, hg0, hg1, hg4, hlt]
            refine (Remove_spec hf5 hs5).mono ?_
            rintro e st6 ⟨rfl, hf6, hk6⟩
            rw [off_remove ho5] at hf6 ⊢
            simp [go_sem]
            exact hG.to hf6 hs5 hn5 (off_call ho5).2 hk6
          | 28 =>
            injection hi with hi; subst hi
            have w0 := hd' { on := 19, ground := .guard } (by simp) (by decide) _ _ rfl rfl
            simp only at w0
            have d0 := hd' { on := 27, ground := .data } (by simp) (by decide) _ _ rfl rfl
            simp only at d0
            simp [wantedE, go_sem, w0, d0, hmb5, hg0, hg1, hg4, hlt]
            exact hG
          | 29 =>
            injection hi with hi; subst hi
            have d0 := hd' { on := 19, ground := .data } (by simp) (by decide) _ _ rfl rfl
            have d1 := hd' { on := 28, ground := .data } (by simp) (by decide) _ _ rfl rfl
            simp only at d0 d1
            simp [wantedE, go_sem, d0, d1, hmb5, hg0, hg1, hg4, hlt]
            exact hG
          | 30 =>
            injection hi with hi; subst hi
            have d0 := hd' { on := 29, ground := .data } (by simp) (by decide) _ _ rfl rfl
            simp only at d0
            simp [wantedE, go_sem, d0, hmb5, hg0, hg1, hg4, hlt]
            exact hG
          | 31 =>
            have x0 := hE 7 (oldB_spec (by kernel_rfl))
            injection hi with hi; subst hi
            have w0 := hd' { on := 30, ground := .guard } (by simp) (by decide) _ _ rfl rfl
            simp only at w0
            simp [wantedE, go_sem, w0, x0, e7]
            exact hG
          | 32 =>
            have x0 := hE 2 (oldB_spec (by kernel_rfl))
            injection hi with hi; subst hi
            have w0 := hd' { on := 30, ground := .guard } (by simp) (by decide) _ _ rfl rfl
            simp only at w0
            simp [wantedE, go_sem, w0, x0, e2]
            exact hG
          | 33 =>
            have x0 := hE 14 (oldB_spec (by kernel_rfl))
            injection hi with hi; subst hi
            have w0 := hd' { on := 30, ground := .guard } (by simp) (by decide) _ _ rfl rfl
            simp only at w0
            simp [wantedE, go_sem, w0, x0, e14]
            exact hG
          | 34 =>
            injection hi with hi; subst hi
            have w0 := hd' { on := 30, ground := .guard } (by simp) (by decide) _ _ rfl rfl
            simp only at w0
            have d0 := hd' { on := 32, ground := .data } (by simp) (by decide) _ _ rfl rfl
            have d1 := hd' { on := 33, ground := .data } (by simp) (by decide) _ _ rfl rfl
            simp only at d0 d1
            simp [wantedE, go_sem, w0, d0, d1, hmb5, hg0, hg1, hg4, hlt]
            exact hG
          | 35 =>
            injection hi with hi; subst hi
            have w0 := hd' { on := 30, ground := .guard } (by simp) (by decide) _ _ rfl rfl
            simp only at w0
            have d0 := hd' { on := 34, ground := .data } (by simp) (by decide) _ _ rfl rfl
            simp only at d0
            simp [wantedE, go_sem, w0, d0, hmb5, hg0, hg1, hg4, hlt]
            exact hG
          | 36 =>
            injection hi with hi; subst hi
            have w0 := hd' { on := 30, ground := .guard } (by simp) (by decide) _ _ rfl rfl
            simp only at w0
            have d0 := hd' { on := 35, ground := .data } (by simp) (by decide) _ _ rfl rfl
            simp only at d0
            simp [wantedE, go_sem, w0, d0, hmb5, hg0, hg1, hg4, hlt]
            exact hG
          | 37 =>
            injection hi with hi; subst hi
            have w0 := hd' { on := 30, ground := .guard } (by simp) (by decide) _ _ rfl rfl
            simp only at w0
            have d0 := hd' { on := 36, ground := .data } (by simp) (by decide) _ _ rfl rfl
            simp only at d0
            simp [wantedE, go_sem, w0, d0, hmb5, hg0, hg1, hg4, hlt]
            refine name_spec.mono ?_
            rintro e st6 ⟨⟨z, rfl, hz⟩, rfl⟩
            simp [go_sem]
            exact hG
          | 38 =>
            injection hi with hi; subst hi
            have w0 := hd' { on := 30, ground := .guard } (by simp) (by decide) _ _ rfl rfl
            simp only at w0
            have d0 := hd' { on := 31, ground := .data } (by simp) (by decide) _ _ rfl rfl
            have d1 := hd' { on := 37, ground := .data } (by simp) (by decide) _ _ rfl rfl
            simp only at d0 d1
            obtain ⟨⟨S5, hf5, hs5, hn5, ho5⟩, hk5'⟩ := hG'
            obtain ⟨z, d1⟩ := d1
            simp [wantedE, go_sem, w0, d0, d1, hmb5, hg0, hg1, hg4, hlt]
            refine (Sync_spec hf5).mono ?_
            rintro e st6 ⟨rfl, hf6, hk6⟩
            rw [off_sync ho5] at hf6 ⊢
            simp [go_sem]
            exact hG.to hf6 hs5 hn5 (off_call ho5).2 hk6
          | 39 =>
            injection hi with hi; subst hi
            have w0 := hd' { on := 30, ground := .guard } (by simp) (by decide) _ _ rfl rfl
            simp only at w0
            have d0 := hd' { on := 38, ground := .data } (by simp) (by decide) _ _ rfl rfl
            simp only at d0
            simp [wantedE, go_sem, w0, d0, hmb5, hg0, hg1, hg4, hlt]
            exact hG
          | 40 =>
            injection hi with hi; subst hi
            have d0 := hd' { on := 30, ground := .data } (by simp) (by decide) _ _ rfl rfl
            have d1 := hd' { on := 39, ground := .data } (by simp) (by decide) _ _ rfl rfl
            simp only at d0 d1
            simp [wantedE, go_sem, d0, d1, hmb5, hg0, hg1, hg4, hlt]
            exact hG
          | j + 41 => simp at hi
        · intro done E st5 hall hG hd' hE
          have d40 := hd' 40 _ _ rfl rfl
          simp only at d40
          have x2 := hE 2 (noB_spec (by kernel_rfl))
          have x7 := hE 7 (noB_spec (by kernel_rfl))
          have x13 := hE 13 (noB_spec (by kernel_rfl))
          have x14 := hE 14 (noB_spec (by kernel_rfl))
          simp [go_sem, e2] at x2
          simp [go_sem, e7] at x7
          simp [go_sem, e13] at x13
          simp [go_sem, e14] at x14
          simp [go_sem, d40, x2, x7, x13, x14, hwi, hv]
          exact ⟨_, .rfl' _, ⟨hG, i + 1, by omega, by omega⟩, by omega⟩
        · intro j oj hj
          match j with
          | 0 | 1 | 2 | 3 | 4 | 5 | 6 | 7 | 8 | 9 | 10 | 11 | 12 | 13 | 14 | 15 | 16 | 17 | 18 | 19 | 20 | 21 | 22 | 23 | 24 | 25 | 26 | 27 | 28 | 29 | 30 | 31 | 32 | 33 | 34 | 35 | 36 | 37 | 38 | 39 | 40 => simp at hj; subst hj; decide
          | j + 41 => simp at hj
      · have h20' : ((i : Int) < 20) = False := eq_false (by omega)
        simp [go_sem, e2, e7, e13, e14, hmv0, hlt', hlt, h20']
        exact hGone
    · have hlt' : ((i : Int) < more.length) = False := eq_false (by omega)
      simp [go_sem, e2, e7, e13, e14, hmv0, hlt', hlt]
      exact hGone
  clear e2 e7 e13
  rintro E9 st9 ⟨⟨⟨S9, hf9, hs9, hn9, ho9⟩, hk9⟩, e7, e13⟩
  simp [go_sem, e7, e13]
  refine (ListN_spec hf9 (by rw [hn9]; exact hl7) (by rw [hn9]; exact hn7)).mono ?_
  rintro e st10 ⟨b, c, ns', rfl, hp', hso', hV', hf10, hk10⟩
  rw [hn9] at hp' hV'
  have hns : ns' = ns := SortedM.unique hso' hsort (hp'.trans hperm.symm) (fun a b _ _ h1 h2 => ltT_total a b h1 h2)
  subst hns
  have hlen : ns'.length = now.length := by rw [hp'.length_eq]; simp
  rw [hn9]
  simp [go_sem, e7, e13]
  rw [← hlen] at hV' hV ⊢
  refine (SameTexts_spec (xs := ns') (hV'.reg.toF toF) (((hV.keep hk9 (by intro x r; simp)).keep hk10 (by intro x r; simp)).reg.toF toF) (by omega)).mono ?_
  rintro e st11 ⟨rfl, rfl⟩
  simp [go_sem]
end
end Go.Proofs.Ytmgbknkjgfdllaa
