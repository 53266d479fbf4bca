/- A log whose power may go: what its methods do with it, and what is left: plain laws, and the walk's step. -/
import Derived.Test.YtadgciaclhjjkaaGreatC46
set_option linter.unusedVariables false
set_option linter.unusedSimpArgs false
set_option maxRecDepth 100000
set_option maxHeartbeats 4000000
namespace Go.Proofs.YtadgciaclhjjkaaGreat
open Go.RowKit (Below)
/-- Nothing fails but that the power goes. -/
structure Mort (c : Ctl) : Prop where
  off : c.off = false
  kind : c.armed = true → c.kind = 0
theorem Mort.next {c : Ctl} (h : Mort c) (h0 : c.call.1 = 0) : Mort c.call.2 := by
  obtain ⟨calls, armed, kind, after, off⟩ := c
  have h1 := h.off
  have h2 := h.kind
  simp only at h1 h2
  subst h1
  unfold Ctl.call at h0 ⊢
  cases armed with
  | false => exact ⟨rfl, by simp⟩
  | true =>
    have hk := h2 rfl
    subst hk
    by_cases ha : after > 0
    · simp [ha]; exact ⟨rfl, by simp⟩
    · simp [ha] at h0
theorem Mort.armed {c : Ctl} (h : Mort c) (after : Int) : Mort { c with armed := true, kind := 0, after := after } := ⟨h.off, fun _ => rfl⟩
theorem Quiet.mort {c : Ctl} (h : Quiet c) : Mort c := ⟨h.off, fun e => by rw [h.armed] at e; cases e⟩
/-- What the power can leave behind. -/
inductive Dead (fro : Int) (rss : List (List RcD)) (rs : List RcD) (r : RcD) : VFS → Prop
  | stand (c : Ctl) : Dead fro rss rs r (calm fro (filesL rss rs []) c)
  | born (c : Ctl) : Dead fro rss rs r (fresh fro (filesL rss rs []) c)
  | more (b : Bs) (c : Ctl) (h : b <+: recF r) : Dead fro rss rs r (loose fro (rss.map encL) (encL rs) [⟨false, 0, b⟩] (encL rs ++ b) c)
  | next (b : Bs) (c : Ctl) (h : b <+: recF r) : Dead fro rss rs r (loose fro (rss.map encL ++ [encL rs]) [] [⟨false, 0, b⟩] ([] ++ b) c)
section
variable {fro : Int} {gs : List Bs} {x : Bs} {c : Ctl}
theorem appE_mort {en w : Int} {b : Bs} (hm : Mort c) (h0 : 0 ≤ fro) (h1 : fro + gs.length < 100000000) (hl : b.length + x.length ≤ 1073741824) :
    (∃ c', Mort c' ∧ appE (calm fro (gs ++ [x]) c) ⟨fro + gs.length, en, w⟩ b = (0, calm fro (gs ++ [x ++ b]) c', ⟨fro + gs.length, en, w⟩)) ∨
    (∃ z c' b', z ≠ 0 ∧ b' <+: b ∧ appE (calm fro (gs ++ [x]) c) ⟨fro + gs.length, en, w⟩ b = (z, loose fro gs x [⟨false, 0, b'⟩] (x ++ b') c', ⟨fro + gs.length, en, w⟩)) := by
  by_cases hc : c.call.1 = 0
  · by_cases hc2 : c.call.2.call.1 = 0
    · exact .inl ⟨_, (hm.next hc).next hc2, appE_calm hc hc2 h0 h1 hl⟩
    · refine .inr ⟨c.call.2.call.1, c.call.2.call.2, b, hc2, List.prefix_refl _, ?_⟩
      unfold appE
      rw [append_calm hc h0 h1 hl]
      simp only
      rw [if_neg (by simp), syncF_bad _ _ (by simpa [loose] using hc2)]
      rfl
  · refine .inr ⟨c.call.1, c.call.2, b.take (b.length / 2), hc, List.take_prefix _ _, ?_⟩
    unfold appE
    rw [append_fail hc hm.off h0 h1 (by omega)]
    simp only
    rw [if_pos hc]
theorem turn_mort {en w : Int} (hm : Mort c) (h0 : 0 ≤ fro) (h1 : fro + gs.length + 1 < 100000000) (hmx : gs.length + 1 < 1024) :
    (∃ c', Mort c' ∧ turnM (calm fro (gs ++ [x]) c) ⟨fro + gs.length, en, w⟩ = (0, calm fro (gs ++ [x] ++ [[]]) c', ⟨fro + gs.length + 1, en, w⟩)) ∨
    (∃ z c', z ≠ 0 ∧ turnM (calm fro (gs ++ [x]) c) ⟨fro + gs.length, en, w⟩ = (z, calm fro (gs ++ [x]) c', ⟨fro + gs.length, en, w⟩)) ∨
    (∃ z c', z ≠ 0 ∧ turnM (calm fro (gs ++ [x]) c) ⟨fro + gs.length, en, w⟩ = (z, fresh fro (gs ++ [x]) c', ⟨fro + gs.length, en, w⟩)) := by
  by_cases hc : c.call.1 = 0
  · by_cases hc2 : c.call.2.call.1 = 0
    · exact .inl ⟨_, (hm.next hc).next hc2, turn_calm hc hc2 h0 h1 hmx⟩
    · refine .inr (.inr ⟨c.call.2.call.1, c.call.2.call.2, hc2, ?_⟩)
      have e1 := create_calm (gs := gs ++ [x]) hc h0 (by simp; omega) (by simp; omega)
      have en : fro + ((gs ++ [x]).length : Int) = fro + gs.length + 1 := by simp; omega
      rw [en] at e1
      unfold turnM
      simp only
      rw [if_neg (by unfold nameOKM; omega), e1]
      simp only
      rw [if_neg (by simp), syncT_bad _ (by simpa [fresh] using hc2)]
      simp only
      rw [if_pos (by simpa [fresh] using hc2)]
      rfl
  · refine .inr (.inl ⟨c.call.1, c.call.2, hc, ?_⟩)
    unfold turnM
    rw [if_neg (by unfold nameOKM; simp only; omega), create_bad _ _ (by simpa [calm] using hc)]
    simp only
    rw [if_pos (by simpa [calm] using hc)]
    rfl
theorem turnOK_mort {en w : Int} (h0 : 0 ≤ fro) (h1 : fro + gs.length + 1 < 100000000) (hm : gs.length + 1 < 1024) (hb : ∀ b ∈ gs ++ [x], b.length < 2 ^ 40) : TurnOK (calm fro (gs ++ [x]) c) ⟨fro + gs.length, en, w⟩ := by
  by_cases hc : c.call.1 = 0
  · exact turnOK_calm hc h0 h1 hm hb
  · have hs : (calm fro (gs ++ [x]) c).small := calm_small (by simp; omega) hb
    have e := create_bad (calm fro (gs ++ [x]) c) (nameT logB (fro + gs.length + 1)) (by simpa [calm] using hc)
    refine ⟨hs, ?_, ?_⟩
    · simp only; rw [e]; exact hs
    · simp only; rw [e]; exact ⟨_, rfl⟩
theorem appOK_mort {en w : Int} {r : RcD} (hmt : Mort c) (hr : RcGood r) (h0 : 0 ≤ fro) (h1 : fro + gs.length + 1 < 100000000) (hm : gs.length + 1 < 1024) (hb : ∀ b ∈ gs ++ [x], b.length < 2 ^ 40) : AppOK (calm fro (gs ++ [x]) c) ⟨fro + gs.length, en, w⟩ r := by
  have hfl := recF_len hr
  have hl := hr.len
  have hs : ∀ c, (calm fro (gs ++ [x]) c).small := fun c => calm_small (by simp; omega) hb
  refine ⟨fun F hF => ((hs c).2.2 F hF).2.1, ⟨by simp only; omega, by simp only; omega⟩, fun _ => turnOK_mort h0 h1 hm hb, ?_, by omega, by unfold recF at hfl; omega⟩
  unfold appT
  split
  · rcases turn_mort (x := x) (en := en) (w := w) hmt h0 h1 hm with ⟨c', _, e⟩ | ⟨z, c', _, e⟩ | ⟨z, c', _, e⟩
    · rw [e]
      refine calm_small (by simp; omega) fun b hbm => ?_
      rcases List.mem_append.1 hbm with h | h
      · exact hb b h
      · simp at h; subst h; simp
    · rw [e]; exact hs _
    · rw [e]; exact fresh_small (by simp; omega) hb
  · exact hs c
end
section
variable {fro : Int} {rss : List (List RcD)} {rs : List RcD} {k : Nat} {c : Ctl}
theorem appM_mort {en w : Int} {r : RcD} (hin : LogIn fro rss rs k) (hmt : Mort c) (hr : RcGood r) :
    (∃ c', Mort c' ∧ appM (calm fro (filesL rss rs []) c) ⟨fro + rss.length, en, w⟩ r = (0, calm fro (filesL (nextL rss rs r).1 (nextL rss rs r).2 []) c', ⟨fro + (nextL rss rs r).1.length, en, w⟩)) ∨
    (∃ z S L', z ≠ 0 ∧ Dead fro rss rs r S ∧ appM (calm fro (filesL rss rs []) c) ⟨fro + rss.length, en, w⟩ r = (z, S, L')) := by
  have hlo := hin.lo
  have hhi := hin.hi
  have hcnt := hin.cnt
  have hmost := hin.most
  have hp := hr.pos
  have hl := hr.len
  have hfl := recF_len hr
  have hx := hin.len (b := encL rs) (by unfold filesL; simp)
  rw [filesL_now]
  have hfull := full_calm (gs := rss.map encL) (x := encL rs) (c := c) (fro := fro) (en := en) (w := w) hlo (by simp; omega)
  rw [List.length_map] at hfull
  have hbad : ¬ ((recB r).length < 1 ∨ 1048576 < (recB r).length) := by omega
  by_cases hf : 4096 ≤ (encL rs).length
  · have hT : appT (calm fro (rss.map encL ++ [encL rs]) c) ⟨fro + rss.length, en, w⟩ = turnM (calm fro (rss.map encL ++ [encL rs]) c) ⟨fro + rss.length, en, w⟩ := by
      unfold appT
      rw [hfull, if_pos (by simpa using hf)]
    have hn : nextL rss rs r = (rss ++ [rs], [r]) := by unfold nextL; rw [if_pos hf]
    have ht := turn_mort (gs := rss.map encL) (x := encL rs) (c := c) (fro := fro) (en := en) (w := w) hmt hlo (by simp; omega) (by simp; omega)
    rw [List.length_map] at ht
    unfold appM
    rw [hT, hn]
    rcases ht with ⟨c1, hm1, e⟩ | ⟨z, c1, hz, e⟩ | ⟨z, c1, hz, e⟩
    · rw [e]
      simp only
      rw [if_neg (by simp), if_neg hbad]
      have ha := appE_mort (gs := rss.map encL ++ [encL rs]) (x := []) (c := c1) (fro := fro) (en := en) (w := w) (b := frameM (recB r)) hm1 hlo (by simp; omega) (by unfold recF at hfl; simp; omega)
      have e1 : fro + ((rss.map encL ++ [encL rs]).length : Int) = fro + rss.length + 1 := by simp; omega
      have e2 : fro + ((rss ++ [rs]).length : Int) = fro + rss.length + 1 := by simp; omega
      rw [e1] at ha
      rw [e2]
      rcases ha with ⟨c2, hm2, e3⟩ | ⟨z, c2, b', hz, hb', e3⟩
      · refine .inl ⟨c2, hm2, ?_⟩
        rw [e3]
        have e4 : filesL (rss ++ [rs]) [r] [] = rss.map encL ++ [encL rs] ++ [[] ++ frameM (recB r)] := by simp [filesL, encL, recF]
        rw [e4]
      · exact .inr ⟨z, _, _, hz, .next b' c2 hb', e3⟩
    · rw [e]
      simp only
      rw [if_pos hz]
      refine .inr ⟨z, _, _, hz, ?_, rfl⟩
      rw [← filesL_now]
      exact .stand c1
    · rw [e]
      simp only
      rw [if_pos hz]
      refine .inr ⟨z, _, _, hz, ?_, rfl⟩
      rw [← filesL_now]
      exact .born c1
  · have hT : appT (calm fro (rss.map encL ++ [encL rs]) c) ⟨fro + rss.length, en, w⟩ = (0, calm fro (rss.map encL ++ [encL rs]) c, ⟨fro + rss.length, en, w⟩) := by
      unfold appT
      rw [hfull, if_neg (by simpa using hf)]
    have hn : nextL rss rs r = (rss, rs ++ [r]) := by unfold nextL; rw [if_neg hf]
    unfold appM
    rw [hT, hn]
    simp only
    rw [if_neg (by simp), if_neg hbad]
    have ha := appE_mort (gs := rss.map encL) (x := encL rs) (c := c) (fro := fro) (en := en) (w := w) (b := frameM (recB r)) hmt hlo (by simp; omega) (by unfold recF at hfl; omega)
    rw [List.length_map] at ha
    rcases ha with ⟨c2, hm2, e3⟩ | ⟨z, c2, b', hz, hb', e3⟩
    · refine .inl ⟨c2, hm2, ?_⟩
      rw [e3]
      have e4 : filesL rss (rs ++ [r]) [] = rss.map encL ++ [encL rs ++ frameM (recB r)] := by simp [filesL, encL_snoc, recF]
      rw [e4]
    · exact .inr ⟨z, _, _, hz, .more b' c2 hb', e3⟩
/-- What is there behind a crash. -/
structure Left (S : VFS) (fro : Int) (all : List RcD) (r : RcD) (k : Nat) : Prop where
  small : S.small
  names : Names S.sure
  born : ∀ (i : Nat) (F : VFile), S.files[i]? = some F → F.born = i
  sum : ∀ F ∈ S.files, F.sure.length + (F.pend.map (·.b.length)).sum < 2 ^ 40
  left : ∀ (ops : Int) (picks : List Int), ∃ rss rs t, LogIn fro rss rs k ∧ rss.length ≤ 9 ∧ Torn t ∧ t.length ≤ 5000 ∧ (rss.flatten ++ rs = all ∨ rss.flatten ++ rs = all ++ [r]) ∧ crashM S.turns 0 ops S.sure = some (logD fro (rss.length + 1)) ∧ leftM S.files picks 0 (logD fro (rss.length + 1)) .new = some (calm fro (filesL rss rs t) c00)
theorem prefix_torn {r : RcD} (hr : RcGood r) {b : Bs} (h : b <+: recF r) (j : Nat) : b.take j = recF r ∨ Torn (b.take j) := by
  have hp : b.take j <+: recF r := (List.take_prefix _ _).trans h
  by_cases hl : (b.take j).length = (recF r).length
  · exact .inl (hp.eq_of_length hl)
  · have := hp.length_le
    exact .inr ⟨recB r, hr.len, hp, by unfold recF at this hl; omega⟩
theorem withM_one (x b : Bs) (p : Int) : ∃ j, withM x [⟨false, 0, b⟩] p = some (x ++ b.take j) := by
  by_cases hp : p ≤ 0
  · exact ⟨0, by unfold withM; rw [if_pos hp]; simp⟩
  · refine ⟨(min (b.length : Int) p).toNat, ?_⟩
    unfold withM
    rw [if_neg hp, if_neg (by simp)]
    rfl
theorem Dead.left {r : RcD} {S : VFS} (h : Dead fro rss rs r S) (hin : LogIn fro rss rs k) (hr : RcGood r) (hlr : (recB r).length ≤ 4000) (hk : k + 1 ≤ 500) (hhi : fro + (k + 1 : Nat) < 99999000) (h8 : rss.length ≤ 8) : Left S fro (rss.flatten ++ rs) r (k + 1) := by
  have hlo := hin.lo
  have hhi0 := hin.hi
  have hcnt := hin.cnt
  have hmost := hin.most
  have hfl := filesL_length rss rs []
  have hb40 : ∀ b ∈ filesL rss rs [], b.length < 2 ^ 40 := by rw [filesL_now]; exact hin.len40
  have hin1 : LogIn fro rss rs (k + 1) := hin.more (by omega) hk hhi
  have hrl := recF_len hr
  have hsl : ∀ F ∈ logFs (filesL rss rs []), F.sure.length + (F.pend.map (·.b.length)).sum < 2 ^ 40 := fun F hF => by
    obtain ⟨i, b, h1, rfl⟩ := logFs_mem hF
    have := hin.len (List.mem_of_getElem? h1)
    simp
    omega
  cases h with
  | stand c =>
    refine ⟨calm_small (by rw [hfl]; omega) hb40, logD_names hlo (by omega), fun i F hi => logFs_born i F hi, hsl, fun ops picks => ⟨rss, rs, [], hin1, by omega, Torn.nil, by simp, .inl rfl, ?_, ?_⟩⟩
    · rw [← hfl]; rfl
    · rw [← hfl]; exact crash_left hlo (by omega) fun i b hb => logFs_left i b hb
  | born c =>
    have hin2 : LogIn fro (rss ++ [rs]) [] (k + 1) := hin.turn hk hhi
    refine ⟨fresh_small (by rw [hfl]; omega) hb40, logD_names hlo (by omega), fun i F hi => logFs_born i F hi, fun F hF => ?_, fun ops picks => ?_⟩
    · obtain ⟨i, b, h1, rfl⟩ := logFs_mem hF
      have h2 := List.mem_of_getElem? h1
      have : b.length ≤ 2007000 := by
        rcases List.mem_append.1 h2 with h | h
        · exact hin.len h
        · simp at h; subst h; simp
      simp
      omega
    · by_cases hops : (0 : Int) < ops
      · refine ⟨rss ++ [rs], [], [], hin2, by simp; omega, Torn.nil, by simp, .inl (by simp), ?_, ?_⟩
        · have hn := logD_get (fro := fro) (j := (filesL rss rs []).length) (n := (filesL rss rs []).length) hlo (by omega)
          rw [if_neg (by omega)] at hn
          have e : (rss ++ [rs]).length + 1 = (filesL rss rs []).length + 1 := by rw [hfl]; simp
          rw [e, logD_succ]
          simp [fresh, crashM, VTurn.does, hops, aset_new hn]
        · have e : filesL (rss ++ [rs]) [] [] = filesL rss rs [] ++ [[]] := by simp [filesL, encL]
          have hl : (rss ++ [rs]).length + 1 = (filesL rss rs [] ++ [[]]).length := by simp only [List.length_append, List.length_cons, List.length_nil, hfl]
          rw [e, hl]
          exact crash_left hlo (by rw [← hl]; simp; omega) fun i b hb => logFs_left i b hb
      · refine ⟨rss, rs, [], hin1, by omega, Torn.nil, by simp, .inl rfl, ?_, ?_⟩
        · rw [← hfl]
          simp [fresh, crashM, hops]
        · rw [← hfl]
          refine crash_left hlo (by omega) fun i b hb => ?_
          obtain ⟨F, h1, h2⟩ := logFs_left (picks := picks) i b hb
          refine ⟨F, ?_, h2⟩
          show (logFs (filesL rss rs [] ++ [[]]))[i]? = some F
          rw [logFs_snoc, List.getElem?_append_left (by rw [logFs_length]; exact (List.getElem?_eq_some_iff.1 hb).1)]
          exact h1
  | more b c hb =>
    have hbl := hb.length_le
    have hxl := hin.len (b := encL rs) (by unfold filesL; simp)
    refine ⟨loose_small (by simp; omega) (fun y hy => hin.len40 y (List.mem_append_left _ hy)) (by omega) (by rw [List.length_append]; omega) (by simp), logD_names hlo (by simp; omega), fun i F hi => ?_, fun F hF => ?_, fun ops picks => ?_⟩
    · simp only [loose] at hi
      by_cases hlt : i < (logFs (rss.map encL)).length
      · rw [List.getElem?_append_left hlt] at hi
        exact logFs_born i F hi
      · rw [List.getElem?_append_right (by omega)] at hi
        have h1 := (List.getElem?_eq_some_iff.1 hi).1
        simp only [List.length_cons, List.length_nil] at h1
        have h2 : i - (logFs (rss.map encL)).length = 0 := by omega
        rw [h2] at hi
        simp at hi
        rw [← hi]
        rw [logFs_length] at hlt h1 h2
        simp only [List.length_map] at *
        omega
    · simp only [loose] at hF
      rcases List.mem_append.1 hF with h | h
      · obtain ⟨i, y, h1, rfl⟩ := logFs_mem h
        have := hin.len40 y (List.mem_append_left _ (List.mem_of_getElem? h1))
        simp
        omega
      · simp at h
        subst h
        simp
        omega
    · obtain ⟨j, hj⟩ := withM_one (encL rs) b (pickAt picks rss.length)
      have key : ∀ y : Bs, y = encL rs ++ b.take j → leftM (loose fro (rss.map encL) (encL rs) [⟨false, 0, b⟩] (encL rs ++ b) c).files picks 0 (logD fro (rss.length + 1)) .new = some (calm fro (rss.map encL ++ [y]) c00) := fun y hy => by
        have hl : rss.length + 1 = (rss.map encL ++ [y]).length := by simp
        rw [hl]
        refine crash_left hlo (by rw [← hl]; omega) fun i z hz => ?_
        simp only [loose]
        by_cases hlt : i < (rss.map encL).length
        · rw [List.getElem?_append_left hlt] at hz
          obtain ⟨F, h1, h2⟩ := logFs_left (picks := picks) i z hz
          exact ⟨F, by rw [List.getElem?_append_left (by rw [logFs_length]; exact hlt)]; exact h1, h2⟩
        · rw [List.getElem?_append_right (by omega)] at hz
          have h1 := (List.getElem?_eq_some_iff.1 hz).1
          simp only [List.length_cons, List.length_nil] at h1
          have h2 : i = rss.length := by simp only [List.length_map] at hlt h1; omega
          subst h2
          simp at hz
          subst hz
          refine ⟨⟨(rss.map encL).length, encL rs, [⟨false, 0, b⟩], encL rs ++ b⟩, by rw [List.getElem?_append_right (by rw [logFs_length]; simp)]; rw [logFs_length]; simp, ?_⟩
          rw [hy]
          exact hj
      have hcr : crashM (loose fro (rss.map encL) (encL rs) [⟨false, 0, b⟩] (encL rs ++ b) c).turns 0 ops (loose fro (rss.map encL) (encL rs) [⟨false, 0, b⟩] (encL rs ++ b) c).sure = some (logD fro (rss.length + 1)) := by simp [loose, crashM]
      rcases prefix_torn hr hb j with he | he
      · refine ⟨rss, rs ++ [r], [], ?_, by omega, Torn.nil, by simp, .inr (by simp), hcr, ?_⟩
        · refine ⟨hlo, hhi, hk, by omega, ?_, fun y hy => ?_⟩
          · have := hin.recs
            rw [List.length_append] at this ⊢
            rw [List.length_append]
            simp only [List.length_cons, List.length_nil]
            omega
          · rw [← List.append_assoc] at hy
            rcases List.mem_append.1 hy with hy | hy
            · exact hin.good y hy
            · simp at hy; subst hy; exact ⟨hr, hlr⟩
        · have e : filesL rss (rs ++ [r]) [] = rss.map encL ++ [encL rs ++ b.take j] := by rw [he]; simp [filesL, encL_snoc]
          rw [e]
          exact key _ rfl
      · exact ⟨rss, rs, b.take j, hin1, by omega, he, by rw [List.length_take]; omega, .inl rfl, hcr, key _ rfl⟩
  | next b c hb =>
    have hbl := hb.length_le
    have hxl := hin.len (b := encL rs) (by unfold filesL; simp)
    have hgl : (rss.map encL ++ [encL rs]).length = rss.length + 1 := by simp
    have hin2 : LogIn fro (rss ++ [rs]) [] (k + 1) := hin.turn hk hhi
    refine ⟨loose_small (by rw [hgl]; omega) hin.len40 (by simp) (by simp; omega) (by simp), logD_names hlo (by rw [hgl]; omega), fun i F hi => ?_, fun F hF => ?_, fun ops picks => ?_⟩
    · simp only [loose] at hi
      by_cases hlt : i < (logFs (rss.map encL ++ [encL rs])).length
      · rw [List.getElem?_append_left hlt] at hi
        exact logFs_born i F hi
      · rw [List.getElem?_append_right (by omega)] at hi
        have h1 := (List.getElem?_eq_some_iff.1 hi).1
        simp only [List.length_cons, List.length_nil] at h1
        have h2 : i - (logFs (rss.map encL ++ [encL rs])).length = 0 := by omega
        rw [h2] at hi
        simp at hi
        rw [← hi]
        rw [logFs_length] at hlt h1 h2
        rw [hgl] at hlt h1 h2
        simp only
        omega
    · simp only [loose] at hF
      rcases List.mem_append.1 hF with h | h
      · obtain ⟨i, y, h1, rfl⟩ := logFs_mem h
        have := hin.len40 y (List.mem_of_getElem? h1)
        simp
        omega
      · simp at h
        subst h
        simp
        omega
    · obtain ⟨j, hj⟩ := withM_one [] b (pickAt picks (rss.length + 1))
      have key : ∀ y : Bs, y = [] ++ b.take j → leftM (loose fro (rss.map encL ++ [encL rs]) [] [⟨false, 0, b⟩] ([] ++ b) c).files picks 0 (logD fro (rss.length + 1 + 1)) .new = some (calm fro (rss.map encL ++ [encL rs] ++ [y]) c00) := fun y hy => by
        have hl : rss.length + 1 + 1 = (rss.map encL ++ [encL rs] ++ [y]).length := by simp
        rw [hl]
        refine crash_left hlo (by rw [← hl]; omega) fun i z hz => ?_
        simp only [loose]
        by_cases hlt : i < (rss.map encL ++ [encL rs]).length
        · rw [List.getElem?_append_left hlt] at hz
          obtain ⟨F, h1, h2⟩ := logFs_left (picks := picks) i z hz
          exact ⟨F, by rw [List.getElem?_append_left (by rw [logFs_length]; exact hlt)]; exact h1, h2⟩
        · rw [List.getElem?_append_right (by omega)] at hz
          have h1 := (List.getElem?_eq_some_iff.1 hz).1
          simp only [List.length_cons, List.length_nil] at h1
          have h2 : i = rss.length + 1 := by rw [hgl] at hlt h1; omega
          subst h2
          rw [hgl, Nat.sub_self] at hz
          simp at hz
          subst hz
          refine ⟨⟨_, [], [⟨false, 0, b⟩], _⟩, by rw [List.getElem?_append_right (by rw [logFs_length, hgl]; omega)]; rw [logFs_length, hgl, Nat.sub_self]; rfl, ?_⟩
          rw [hy]
          exact hj
      have hcr : crashM (loose fro (rss.map encL ++ [encL rs]) [] [⟨false, 0, b⟩] ([] ++ b) c).turns 0 ops (loose fro (rss.map encL ++ [encL rs]) [] [⟨false, 0, b⟩] ([] ++ b) c).sure = some (logD fro (rss.length + 1 + 1)) := by simp [loose, crashM]
      have hl2 : (rss ++ [rs]).length = rss.length + 1 := by simp
      rcases prefix_torn hr hb j with he | he
      · refine ⟨rss ++ [rs], [r], [], ?_, by omega, Torn.nil, by simp, .inr (by simp), by rw [hl2]; exact hcr, ?_⟩
        · refine ⟨hlo, hhi, hk, by omega, ?_, fun y hy => ?_⟩
          · have := hin.recs
            simp only [List.length_append, List.flatten_append, List.flatten_cons, List.flatten_nil, List.append_nil, List.length_cons, List.length_nil] at this ⊢
            omega
          · have hy2 : y ∈ (rss.flatten ++ rs) ++ [r] := by simpa using hy
            rcases List.mem_append.1 hy2 with hy | hy
            · exact hin.good y hy
            · simp at hy; subst hy; exact ⟨hr, hlr⟩
        · have e : filesL (rss ++ [rs]) [r] [] = rss.map encL ++ [encL rs] ++ [[] ++ b.take j] := by rw [he]; simp [filesL, encL]
          rw [e, hl2]
          exact key _ rfl
      · have e : filesL (rss ++ [rs]) [] (b.take j) = rss.map encL ++ [encL rs] ++ [[] ++ b.take j] := by simp [filesL, encL]
        exact ⟨rss ++ [rs], [], b.take j, hin2, by omega, he, by rw [List.length_take]; omega, .inl (by simp), by rw [hl2]; exact hcr, by rw [e, hl2]; exact key _ rfl⟩
end
/-- A log in order, whose power may go. -/
structure LogM (s : Heap) (f lp : Nat) (fro : Int) (rss : List (List RcD)) (rs : List RcD) (k : Nat) : Prop where
  inn : LogIn fro rss rs k
  fs : ∃ c, Mort c ∧ FSAt s f (calm fro (filesL rss rs []) c)
  log : ∃ en, LogAt s lp f ⟨fro + rss.length, en, 0⟩
theorem LogM.new {s s' : Heap} {f lp : Nat} {fro : Int} {rss : List (List RcD)} {rs : List RcD} {k : Nat} (h : LogM s f lp fro rss rs k) (hk : New s s') : LogM s' f lp fro rss rs k := by
  obtain ⟨h1, ⟨c, h2, h3⟩, en, h4⟩ := h
  exact ⟨h1, ⟨c, h2, h3.keep (hk.to fun _ => True) (by simp)⟩, en, h4.new hk⟩
section
variable {W0 : World} {st : Heap} {f lp : Nat} {fro : Int} {rss : List (List RcD)} {rs : List RcD} {k : Nat}
theorem LogM.append (h : LogM st f lp fro rss rs k) {cs : List Value} {r : RcD} (hR : RcAt st cs r) (hr : RcGood r) (hl : (recB r).length ≤ 4000) (hk : k + 1 ≤ 500) (hhi : fro + (k + 1 : Nat) < 99999000) (h8 : rss.length ≤ 8) :
    ICalls Tryz.prog W0 34 #[ptr lp, .agg cs.toArray] st fun e st' => Keep (OutL f lp) st st' ∧ ((e = .returned (Val.i 0) ∧ LogM st' f lp fro (nextL rss rs r).1 (nextL rss rs r).2 (k + 1)) ∨ (∃ z S, z ≠ 0 ∧ e = .returned (Val.i z) ∧ FSAt st' f S ∧ Left S fro (rss.flatten ++ rs) r (k + 1))) := by
  obtain ⟨hin, ⟨c, hq, hF⟩, en, hL⟩ := h
  have hin' := hin.next hr hl hk hhi
  have hcnt := hin.cnt
  have hhi0 := hin.hi
  have hok := appOK_mort (gs := rss.map encL) (x := encL rs) (c := c) (fro := fro) (en := en) (w := 0) hq hr hin.lo (by simp; omega) (by simp; omega) hin.len40
  have hF2 := hF
  rw [filesL_now] at hF2
  rw [List.length_map] at hok
  refine (LogAppend_spec hF2 hL hR hr.fits hr.rc hok).mono ?_
  rw [← filesL_now]
  rintro e s' ⟨he, hF', hL', hk'⟩
  refine ⟨hk', ?_⟩
  rcases appM_mort (en := en) (w := 0) hin hq hr with ⟨c', hm', em⟩ | ⟨z, S, L', hz, hd, em⟩
  · rw [em] at he hF' hL'
    exact .inl ⟨he, hin', ⟨c', hm', hF'⟩, en, hL'⟩
  · rw [em] at he hF'
    exact .inr ⟨z, S, hz, he, hF', hd.left hin hr hl hk hhi h8⟩
theorem LogM.left (h : LogM st f lp fro rss rs k) (h8 : rss.length ≤ 9) (r : RcD) : ∃ S, FSAt st f S ∧ Left S fro (rss.flatten ++ rs) r k := by
  obtain ⟨hin, ⟨c, hq, hF⟩, en, hL⟩ := h
  have hlo := hin.lo
  have hhi := hin.hi
  have hcnt := hin.cnt
  have hmost := hin.most
  have hfl := filesL_length rss rs []
  refine ⟨_, hF, calm_small (by rw [hfl]; omega) (by rw [filesL_now]; exact hin.len40), logD_names hlo (by omega), fun i F hi => logFs_born i F hi, fun F hF => ?_, fun ops picks => ⟨rss, rs, [], hin, by omega, Torn.nil, by simp, .inl rfl, ?_, ?_⟩⟩
  · obtain ⟨i, b, h1, rfl⟩ := logFs_mem hF
    have := hin.len (List.mem_of_getElem? h1)
    simp
    omega
  · rw [← hfl]; rfl
  · rw [← hfl]; exact crash_left hlo (by omega) fun i b hb => logFs_left i b hb
theorem Left.crash {S : VFS} {all : List RcD} {r : RcD} {ops : Int} {picks : List Int} {pv : Value} {gp : Tg} (h : Left S fro all r k) (hF : FSAt st f S) (hp : Reg st gp 1 pv (picks.map Val.i) picks.length) (hgp : ∀ g, Out g gp) (hpb : ∀ x ∈ picks, -2 ^ 63 ≤ x ∧ x < 2 ^ 63) :
    ICalls Tryz.prog W0 43 #[ptr f, Val.i ops, pv] st fun e st' => ∃ f2 rss rs t, e = .returned (ptr f2) ∧ LogIn fro rss rs k ∧ rss.length ≤ 9 ∧ Torn t ∧ t.length ≤ 5000 ∧ (rss.flatten ++ rs = all ∨ rss.flatten ++ rs = all ++ [r]) ∧ FSAt st' f2 (calm fro (filesL rss rs t) c00) ∧ Keep (fun t => Out f t ∧ Out f2 t) st st' := by
  obtain ⟨rss, rs, t, hin, h9, ht, htl, hall, hcr, hlf⟩ := h.left ops picks
  refine (CrashN_spec (d := logD fro (rss.length + 1)) (sd := logD fro (rss.length + 1)) hF h.small h.names h.born hcr (by rw [logD_length]; omega) (List.Perm.refl _) (logD_sorted _ _) hlf h.sum hp hgp hpb).mono ?_
  rintro e s' ⟨f2, rfl, h1, h2, h3, h4⟩
  exact ⟨f2, rss, rs, t, rfl, hin, h9, ht, htl, hall, h3, h4⟩
end
end Go.Proofs.YtadgciaclhjjkaaGreat
set_option linter.unusedVariables false
set_option linter.unusedSimpArgs false
set_option maxRecDepth 100000
set_option maxHeartbeats 4000000
namespace Go.Proofs.YtadgciaclhjjkaaGreat
open Go.RowKit (Below)
def wideL (n : Nat) : List Nat := (List.range n).map fun i => i * 1000003
theorem wideL_length (n : Nat) : (wideL n).length = n := by simp [wideL]
theorem wideL_succ (n : Nat) : wideL (n + 1) = wideL n ++ [n * 1000003] := by simp [wideL, List.range_succ]
theorem wideL_lt {n : Nat} (hn : n ≤ 1000) : ∀ x ∈ wideL n, x < 2 ^ 64 := fun x hx => by
  simp [wideL] at hx
  obtain ⟨i, hi, rfl⟩ := hx
  omega
def wideR (sq a : Int) (l : List Lab) : RcD := ⟨sq, 1, ⟨l, a, ⟨(skX a).hist, wideL 300, (skX a).g⟩⟩, zeroT⟩
theorem wide_ok : checkK (wideL 300) = true := by decide +kernel
theorem wideR_good {sq a : Int} {l : List Lab} (hs : I64 sq) (ha : I64 a) (hG : GoodL l) : RcGood (wideR sq a l) ∧ (recB (wideR sq a l)).length ≤ 3100 := by
  obtain ⟨h1, h2⟩ := skX_ok a
  have hl := wideL_length 300
  have ok : SkOK ⟨(skX a).hist, wideL 300, (skX a).g⟩ := ⟨h1.hist, h1.hlen, wideL_lt (by omega), by simp only; rw [hl]; omega, h1.g⟩
  have hc : checkS ⟨(skX a).hist, wideL 300, (skX a).g⟩ = true := by
    unfold checkS at h2 ⊢
    simp only [Bool.and_eq_true] at h2 ⊢
    exact ⟨h2.1, wide_ok, h2.2.2⟩
  have z : I64 0 := ⟨by omega, by omega⟩
  have hlen : (recB (wideR sq a l)).length ≤ 3100 := by
    have q1 := intB_len hs.1 hs.2
    have q2 := intB_len ha.1 ha.2
    have q3 := labs_tiny hG
    have hb : ((bkN (a % 1000).toNat : Nat) : Int) < 7424 := by have := bkN_le (a % 1000).toNat; omega
    have q4 := form_one hb
    have q5 := (riseT_len (wideL 300) 0 (wideL_lt (by omega))).2
    have q6 : (vputM 300).length ≤ 2 := vput2 (by omega)
    have q7 : (gauB ⟨1, 0, 0, 0⟩).length ≤ 18 := by
      have e : gauB ⟨1, 0, 0, 0⟩ = vputM 0 ++ (vputM 1 ++ (leB 8 0 ++ leB 8 0)) := rfl
      rw [e]
      simp only [List.length_append, leB_len, vput1 (show (1 : Nat) < 128 by omega), vput1 (show (0 : Nat) < 128 by omega)]
      omega
    have e : recB (wideR sq a l) = intB sq ++ (vputM 1 ++ (labsB l ++ (intB a ++ (formB [((bkN (a % 1000).toNat : Nat), 1)] ++ ((vputM (wideL 300).length ++ riseT 0 (wideL 300)) ++ gauB ⟨1, 0, 0, 0⟩))))) := by
      unfold recB wideR
      rw [if_pos rfl]
      rfl
    rw [e]
    simp only [List.length_append, vput1 (show (1 : Nat) < 128 by omega), hl]
    rw [hl] at q5
    omega
  refine ⟨⟨⟨hs, ⟨by simp [wideR], by simp [wideR]⟩, ⟨ok, ha, by have := hG.len; simp only [wideR]; omega, hG.sizes⟩, z, z, z⟩, ?_, recB_pos _ hs, by omega⟩, hlen⟩
  unfold rcM wideR
  simp [hG.ck, hc]
section
variable {W0 : World} {st : Heap}
theorem IntsK_spec {v : Value} {zs : List Int} {g : Tg} (h : Reg st g 1 v (zs.map Val.i) zs.length) (hl : zs.length * 8 ≤ 140737488355328) : ICalls Tryz.prog W0 44 #[v] st fun e st' => ∃ b c, e = .returned (.slice b zs.length c) ∧ Vec st' (.ty 0) 1 (.slice b zs.length c) (zs.map Val.i) zs.length ∧ Keep (fun _ => True) st st' := by
  refine enter (args := [_]) Tryz.func44 rfl ?_
  simp [Tryz.f44, go_sem]
  refine AppI_fresh (.ty 0) si58 h.src (by omega) ?_
  intro b c st1 hv he
  simp [go_sem]
  exact ⟨b, c, ⟨rfl, rfl⟩, hv, he⟩
theorem wide_spec : ICalls Tryz.prog W0 42 #[Val.i 300] st fun e st' => ∃ v, e = .returned v ∧ Vec st' (.ty 1) 1 v (cellsU (wideL 300)) 300 ∧ New st st' := by
  refine enter (args := [_]) Tryz.func42 rfl ?_
  simp [Tryz.f42, go_sem]
  refine ⟨fun E s => E 0 = Val.i 300 ∧ New st s ∧ ∃ (i : Nat), i ≤ 300 ∧ E 4 = Val.i i ∧ Vec s (.ty 1) 1 (E 3) (cellsU (wideL i)) i ∧ Fresh st (E 3),
    fun E _ => match E 4 with | .int _ j => 300 - j.toNat | _ => 0, ⟨st, .rfl' _, by simp [go_sem], New.refl _, 0, by omega, by simp [go_sem], by simp [go_sem]; exact Vec.nil, by simp [go_sem]; exact Fresh.none⟩, ?_⟩
  rintro E s ⟨e0, hN, i, hi, e4, hV, hFr⟩
  obtain ⟨v, hv⟩ : ∃ v, E 3 = v := ⟨_, rfl⟩
  rw [hv] at hV hFr
  by_cases hlt : i < 300
  · have q : ((i : Int) < 300) = True := eq_true (by omega)
    have hwi : IntKind.i64.wrap ((i : Int) + 1) = (i : Int) + 1 := wrap_id (by omega) (by omega)
    have hw1 : IntKind.u64.wrap (i : Int) = (i : Int) := wraps_u64 _ (by omega) (by omega)
    obtain ⟨z, hz⟩ : ∃ z : Nat, i * 1000003 = z := ⟨_, rfl⟩
    have hz' : (i : Int) * 1000003 = (z : Int) := by omega
    have hw2 : IntKind.u64.wrap (z : Int) = (z : Int) := wraps_u64 _ (by omega) (by omega)
    simp [go_sem, e0, e4, hv, q, hlt, hw1, hz', hw2]
    unfold NewS
    intro b hb
    refine ⟨.ty 2, ?_⟩
    have k1 := (New.refl s).add (b := b) (o := .cells true [.int .u64 (z : Int)] 1 (.ty 2)) hb
    have gb := upd_same s b (.cells true [.int .u64 (z : Int)] 1 (.ty 2))
    simp [go_sem]
    generalize upd s b (.cells true [.int .u64 (z : Int)] 1 (.ty 2)) = s1 at *
    obtain ⟨vb, vc, rfl⟩ := hV.slice
    refine AppI_new (st0 := st) (g := .ty 1) (m := 1) (ys := [.int .u64 (z : Int)]) si24 (hV.new' k1) hFr (hN.trans k1) (by simp [srcCells, lkN_mk, gb, cellsOf]) (by simp [Value.oneCell']) (by omega) ?_
    intro vb7 vc7 s7 hV7 hF7 hN7 hE7
    simp [go_sem, e4, hwi]
    refine ⟨_, .rfl' _, ⟨e0, hN7, i + 1, by omega, by simp, ?_, hF7⟩, by omega⟩
    have e : cellsU (wideL (i + 1)) = cellsU (wideL i) ++ [.int .u64 (z : Int)] := by rw [wideL_succ, hz]; simp [cellsU]
    rw [e]
    exact hV7
  · have hq : i = 300 := by omega
    subst hq
    simp [go_sem, e0, e4, hv]
    exact ⟨hV, hN⟩
end
end Go.Proofs.YtadgciaclhjjkaaGreat
set_option linter.unusedVariables false
set_option linter.unusedSimpArgs false
set_option maxRecDepth 100000
set_option maxHeartbeats 4000000
namespace Go.Proofs.YtadgciaclhjjkaaGreat
open Go.RowKit (Below)
/-- The records that WalKeeps writes. -/
def KepR (l : List RcD) : Prop := ∀ (i : Nat) r, l[i]? = some r → r.seq = (i : Int) + 1 ∧ r.kind = 1 ∧ r.row.at_ = i
theorem KepR.snoc {l : List RcD} (h : KepR l) {r : RcD} (h1 : r.seq = (l.length : Int) + 1) (h2 : r.kind = 1) (h3 : r.row.at_ = l.length) : KepR (l ++ [r]) := fun i x hi => by
  by_cases hlt : i < l.length
  · rw [List.getElem?_append_left hlt] at hi
    exact h i x hi
  · have hi2 : i = l.length := by
      have := (List.getElem?_eq_some_iff.1 hi).1
      simp at this
      omega
    subst hi2
    simp at hi
    subst hi
    exact ⟨h1, h2, h3⟩
theorem KepR.left {l m : List RcD} (h : KepR (l ++ m)) : KepR l := fun i x hi => by
  have hlt := (List.getElem?_eq_some_iff.1 hi).1
  exact h i x (by rw [List.getElem?_append_left hlt]; exact hi)
theorem plainR_parts {r : RcD} (h : r.kind = 1) : (plainR r).seq = r.seq ∧ (plainR r).kind = 1 ∧ (plainR r).row.at_ = r.row.at_ := by
  unfold plainR
  rw [if_pos h]
  exact ⟨rfl, rfl, rfl⟩
theorem RcsAt.cells {st : Heap} {cs : List Value} {rs : List RcD} (h : RcsAt st cs rs) {i : Nat} {r : RcD} (hi : rs[i]? = some r) : i * 18 + 18 ≤ cs.length ∧ cs[i * 18]? = some (Val.i r.seq) ∧ cs[i * 18 + 1]? = some (Val.i r.kind) ∧ cs[i * 18 + 3]? = some (Val.i r.row.at_) := by
  have h1 := h.1
  have hlt := (List.getElem?_eq_some_iff.1 hi).1
  obtain ⟨lb, hb, hc, kb, kc, kl, lc, hl, ll, rest, he, hr⟩ := (h.2 i r hi).parts
  have hle : i * 18 + 18 ≤ cs.length := by
    have : (i + 1) * 18 ≤ rs.length * 18 := Nat.mul_le_mul_right _ hlt
    omega
  have g : ∀ j, j < 18 → cs[i * 18 + j]? = ((cs.drop (i * 18)).take 18)[j]? := fun j hj => by rw [List.getElem?_take, if_pos hj, List.getElem?_drop]
  refine ⟨hle, ?_, ?_, ?_⟩
  · have := g 0 (by omega); rw [Nat.add_zero] at this; rw [this, he]; rfl
  · rw [g 1 (by omega), he]; rfl
  · rw [g 3 (by omega), he]; rfl
theorem encL_append (a b : List RcD) : encL (a ++ b) = encL a ++ encL b := by unfold encL; rw [List.flatMap_append]
theorem full_len : ∀ {rss : List (List RcD)}, (∀ l ∈ rss, 4096 ≤ (encL l).length) → 4096 * rss.length ≤ (encL rss.flatten).length
  | [], _ => by simp [encL]
  | l :: rss, h => by
    have h1 := h l (by simp)
    have h2 := full_len (rss := rss) fun x hx => h x (by simp [hx])
    rw [List.flatten_cons, encL_append, List.length_append, List.length_cons]
    omega
/-- How many bytes so many records are at most. -/
def maxB (i : Nat) : Nat := 94 * i + 3114 * ((i + 4) / 5)
def KepI (s : Heap) (f lp m : Nat) (x y : Value) : Prop := ∃ (i : Nat) (rss : List (List RcD)) (rs : List RcD), i ≤ m ∧ x = Val.i i ∧ y = Val.i i ∧ LogM s f lp 1 rss rs i ∧ KepR (rss.flatten ++ rs) ∧ (rss.flatten ++ rs).length = i ∧ (∀ l ∈ rss, 4096 ≤ (encL l).length) ∧ (encL (rss.flatten ++ rs)).length ≤ maxB i
def KepP (s : Heap) (f : Nat) (x : Value) : Prop := ∃ S all r, FSAt s f S ∧ Left S 1 all r 31 ∧ KepR (all ++ [r]) ∧ all.length ≤ 30 ∧ x = Val.i all.length
theorem Left.more {S : VFS} {fro : Int} {all : List RcD} {r : RcD} {k j : Nat} (h : Left S fro all r k) (hj : k ≤ j) (h5 : j ≤ 500) (hhi : fro + j < 99999000) : Left S fro all r j := ⟨h.small, h.names, h.born, h.sum, fun ops picks => by
  obtain ⟨rss, rs, t, h1, h2⟩ := h.left ops picks
  exact ⟨rss, rs, t, h1.more hj h5 hhi, h2⟩⟩
section
variable {W0 : World} {st : Heap}
theorem walKeeps_walk {n after ops : Int} {pb : Option Addr} {pc : Nat} {picks : List Int} (hp : Reg st (.ty 0) 1 (.slice pb picks.length pc) (picks.map Val.i) picks.length) (hpb : ∀ x ∈ picks, -2 ^ 63 ≤ x ∧ x < 2 ^ 63) (hpl : picks.length * 8 ≤ 140737488355328) : ICalls Tryz.prog W0 8 #[Val.i n, Val.i after, Val.i ops, .slice pb picks.length pc] st fun e st' => e = .returned (.bool true) := by
  have awk : ∀ {st : Heap}, ICalls Tryz.prog W0 20 #[] st fun e st' => e = .returned (.bool true) := awake17_spec.mono fun e st' h => h.1
  refine enter (args := [_, _, _, _]) Tryz.func8 rfl ?_
  iterate 7 refine IW_assoc ?_
  refine IW_cut (fun E' s => ∃ f, E' 2 = Val.i ops ∧ E' 3 = .slice pb picks.length pc ∧ E' 9 = ptr f ∧ Keep Free st s ∧ KepP s f (E' 13)) ?_ ?_
  · simp [Tryz.f8, go_sem]
    refine New_spec.mono ?_
    rintro e st1 ⟨f, rfl, hfn, hf1, hk1⟩
    have K1 : Keep Free st st1 := hk1.imp fun _ _ => trivial
    simp [go_sem]
    rw [new_calm 1] at hf1
    refine (open_new hf1 (by omega) (by omega)).mono ?_
    rintro e st2 ⟨hN2, lp, b2, n2, rfl, hlp, hL2⟩
    have K2 := K1.trans (hN2.to _)
    have hf2 := hf1.keep (hN2.to fun _ => True) (by simp)
    simp [go_sem]
    refine (ready_new Quiet.new hf2 hL2 (by omega) (by omega)).mono ?_
    rintro e st3 ⟨rfl, hS3, hk3⟩
    have K3 := K2.trans (hk3.imp of_freeL)
    simp [go_sem]
    refine (Place_spec (k := 60) (by omega) (by omega)).mono ?_
    rintro e st4 ⟨⟨a, ha, rfl⟩, rfl⟩
    simp [go_sem]
    obtain ⟨hin3, ⟨c3, hq3, hF3⟩, en3, hL3⟩ := hS3
    refine (Arm_spec hF3).mono ?_
    rintro e st5 ⟨rfl, hF5, hk5⟩
    have harm : (calm 1 (filesL [] [] []) c3).arm 0 a = (0, calm 1 (filesL [] [] []) { c3 with armed := true, kind := 0, after := a }) := by
      unfold VFS.arm
      rw [if_neg (by omega)]
      rfl
    rw [harm] at hF5 ⊢
    have hne : lp ≠ f := hL3.ne hF3
    have K5 := K3.trans (hk5.imp of_freeF)
    have hM5 : LogM st5 f lp 1 [] [] 0 := ⟨hin3, ⟨_, hq3.mort.armed a, hF5⟩, en3, hL3.keep hne hk5⟩
    simp [go_sem]
    refine (Place_spec (k := 30) (by omega) (by omega)).mono ?_
    rintro e st6 ⟨⟨m, hm, rfl⟩, rfl⟩
    have hm30 : m < 30 := by omega
    simp [go_sem]
    refine ⟨fun E s => E 0 = Val.i m ∧ E 2 = Val.i ops ∧ E 3 = .slice pb picks.length pc ∧ E 9 = ptr f ∧ E 10 = ptr lp ∧ Keep Free st s ∧ KepI s f lp m (E 14) (E 13),
      fun E _ => match E 14 with | .int _ j => m - j.toNat | _ => 0, ⟨st6, .rfl' _, by simp [go_sem], by simp [go_sem], by simp [go_sem], by simp [go_sem], by simp [go_sem], K5, 0, [], [], by omega, by simp [go_sem], by simp [go_sem], hM5, fun i r hi => by simp at hi, rfl, by simp, by simp [encL]⟩, ?_⟩
    clear hM5 K5 K3 K2 K1 hF5 hF3 hL3 hin3 hk5 hk3 hk1 hL2 hf2 hf1 harm
    rintro E s ⟨e0, e2, e3, e9, e10, K, i, rss, rs, him, e14, e13, hS, hO, hlen, hfu, hmx⟩
    have h5 : rss.length ≤ 5 := by
      have h1 := full_len hfu
      rw [encL_append, List.length_append] at hmx
      unfold maxB at hmx
      omega
    by_cases hlt : i < m
    · have q : ((i : Int) < m) = True := eq_true (by omega)
      have hwi : IntKind.i64.wrap ((i : Int) + 1) = (i : Int) + 1 := wrap_id (by omega) (by omega)
      have hr5 : Int.tmod (i : Int) 5 = ((i % 5 : Nat) : Int) := by rw [Int.tmod_eq_emod_of_nonneg (by omega)]; omega
      have hz1 : I64 ((i : Int) + 1) := ⟨by omega, by omega⟩
      have hz2 : I64 (i : Int) := ⟨by omega, by omega⟩
      simp [go_sem, e0, e2, e3, e9, e10, e14, q, hlt, hwi]
      refine rec_spec.mono ?_
      rintro e s2 ⟨hN2, cs, ls, rfl, hR, hG⟩
      have hR0 := hR
      obtain ⟨rs_, ts_, rfl, hRow, hTomb⟩ := hR0
      obtain ⟨lv, ss, rfl, hLab, hv, kv, rfl, hHist, hHash⟩ := hRow
      obtain ⟨a0, a1, a2, a3, a4, rfl, hm8⟩ := hTomb.eight
      obtain ⟨op, n_, v_, b_, l_, c_, b', l', c', rfl, rfl, rfl, rfl, rfl⟩ := hm8.forms
      have hful : ∀ (r : RcD), ∀ l ∈ (nextL rss rs r).1, 4096 ≤ (encL l).length := fun r l hl => by
        unfold nextL at hl
        split at hl
        · rename_i h
          rcases List.mem_append.1 hl with hl | hl
          · exact hfu l hl
          · simp at hl; subst hl; exact h
        · exact hfu l hl
      have hmax : ∀ (r : RcD), (recF r).length ≤ maxB (i + 1) - maxB i → (encL ((nextL rss rs r).1.flatten ++ (nextL rss rs r).2)).length ≤ maxB (i + 1) := fun r hr => by
        have hmono : maxB i ≤ maxB (i + 1) := by unfold maxB; omega
        rw [nextL_all, encL_snoc, List.length_append]
        omega
      simp [go_sem]
      unfold NewP
      intro t15 ht15
      refine ⟨.ty 3, ?_⟩
      obtain ⟨lb, lc, rfl⟩ := hLab.slice
      obtain ⟨hb, hc, rfl⟩ := hHist.slice
      obtain ⟨kb, kc, rfl⟩ := hHash.slice
      have g1 : (lawR ((i : Int) + 1) i ls).seq = (i : Int) + 1 := rfl
      have g2 : (lawR ((i : Int) + 1) i ls).kind = 1 := rfl
      have g3 : (lawR ((i : Int) + 1) i ls).row.at_ = i := rfl
      have g4 : (lawR ((i : Int) + 1) i ls).row.s.g = ⟨1, 0, 0, 0⟩ := rfl
      have g5 : (lawR ((i : Int) + 1) i ls).tomb = zeroT := rfl
      have g6 : (lawR ((i : Int) + 1) i ls).row.labels = ls := rfl
      have g7 : (lawR ((i : Int) + 1) i ls).row.s.hist = (skX i).hist := rfl
      have g8 : (lawR ((i : Int) + 1) i ls).row.s.hashes.length = 1 := rfl
      have g9 : (skX (i : Int)).hist.length = 1 := rfl
      rw [g1, g2, g3, g4, g5, g6, g7, g8, g9] at hR ⊢
      rw [g6] at hLab
      rw [g7, g9] at hHist
      rw [g5] at hm8
      simp only [zeroT] at hR ⊢
      obtain ⟨s3, hs3⟩ : ∃ s3, upd s2 t15 (HObj.cells true [Val.i ((i : Int) + 1), Val.i 1, .slice lb ls.length lc, Val.i i, .slice hb 1 hc, .slice kb 1 kc, Val.u 1, Val.u 0, Val.u 0, Val.u 0, Val.i 0, Val.i op, .string n_, .string v_, .slice b_ l_ c_, .slice b' l' c', Val.i 0, Val.i 0] 18 (.ty 3)) = s3 := ⟨_, rfl⟩
      have k3 : New s2 s3 := by rw [← hs3]; exact (New.refl s2).add ht15
      have g15 : s3 t15 = some (HObj.cells true [Val.i ((i : Int) + 1), Val.i 1, .slice lb ls.length lc, Val.i i, .slice hb 1 hc, .slice kb 1 kc, Val.u 1, Val.u 0, Val.u 0, Val.u 0, Val.i 0, Val.i op, .string n_, .string v_, .slice b_ l_ c_, .slice b' l' c', Val.i 0, Val.i 0] 18 (.ty 3)) := by rw [← hs3]; exact upd_same _ _ _
      by_cases h5m : i % 5 = 0
      · have q5 : (((i % 5 : Nat) : Int) = 0) = True := eq_true (by omega)
        have q5' : ((i : Int) % 5 = 0) = True := eq_true (by omega)
        simp [go_sem, e14, hr5, q5, q5', h5m]
        rw [hs3]
        refine wide_spec.mono ?_
        rintro e s4 ⟨wv, rfl, hW4, k4⟩
        obtain ⟨wb, wc, rfl⟩ := hW4.slice
        have g15' := k4 _ _ g15
        simp [go_sem, e10, g15']
        obtain ⟨s5, hs5⟩ : ∃ s5, upd s4 t15 (HObj.cells true [Val.i ((i : Int) + 1), Val.i 1, .slice lb ls.length lc, Val.i i, .slice hb 1 hc, .slice wb 300 wc, Val.u 1, Val.u 0, Val.u 0, Val.u 0, Val.i 0, Val.i op, .string n_, .string v_, .slice b_ l_ c_, .slice b' l' c', Val.i 0, Val.i 0] 18 (.ty 3)) = s5 := ⟨_, rfl⟩
        rw [hs5]
        have k24 := k3.trans k4
        have k5 : New s2 s5 := by rw [← hs5]; exact k24.put ht15
        have hN5 : New s s5 := hN2.trans k5
        have hneT : ∀ {sz len : Nat} {b : Option Addr} {c : Nat} {xs : List Value}, Vec s4 (.ty 1) sz (.slice b len c) xs len → Vec s5 (.ty 1) sz (.slice b len c) xs len := fun h => by
          rw [← hs5]
          exact h.keep (p := fun g => g = .ty 1) (keepP g15' (by simp)) rfl
        have hR5 : RcAt s5 [Val.i ((i : Int) + 1), Val.i 1, .slice lb ls.length lc, Val.i i, .slice hb 1 hc, .slice wb 300 wc, Val.u 1, Val.u 0, Val.u 0, Val.u 0, Val.i 0, Val.i op, .string n_, .string v_, .slice b_ l_ c_, .slice b' l' c', Val.i 0, Val.i 0] (wideR ((i : Int) + 1) i ls) :=
          ⟨_, _, rfl, ⟨.slice lb ls.length lc, _, rfl, hLab.new k5, .slice hb 1 hc, .slice wb 300 wc, rfl, hHist.new k5, ⟨.ty 1, Free.ty, hneT hW4 |>.reg⟩⟩, _, hm8.new k5, rfl⟩
        obtain ⟨hgw, hlw⟩ := wideR_good hz1 hz2 hG
        refine ((hS.new hN5).append hR5 hgw (by omega) (by omega) (by omega) (by omega)).mono ?_
        rintro e s9 ⟨hk9, ⟨rfl, hS9⟩ | ⟨z, S9, hz, rfl, hF9, hLf9⟩⟩
        · simp [go_sem, e0, e2, e3, e9, e10, e14, e13, hwi]
          refine ⟨_, .rfl' _, ⟨(K.trans (hN5.to _)).trans (hk9.imp of_freeL), i + 1, _, _, by omega, by simp, by simp, hS9, ?_, ?_, ?_, ?_⟩, by omega⟩
          · rw [nextL_all]
            exact hO.snoc (by rw [hlen]; rfl) rfl (by rw [hlen]; rfl)
          · rw [nextL_all, List.length_append, hlen]; rfl
          · exact hful _
          · exact hmax _ (by have := recF_len hgw; unfold maxB; omega)
        · simp [go_sem, e0, e2, e3, e9, e10, e14, e13, hwi, hz]
          exact ⟨(K.trans (hN5.to _)).trans (hk9.imp of_freeL), S9, _, _, hF9, hLf9.more (by omega) (by omega) (by omega), hO.snoc (by rw [hlen]; rfl) rfl (by rw [hlen]; rfl), by omega, by rw [hlen]⟩
      · have q5 : (((i % 5 : Nat) : Int) = 0) = False := eq_false (by omega)
        have q5' : ((i : Int) % 5 = 0) = False := eq_false (by omega)
        simp [go_sem, e14, hr5, q5, q5', h5m, e10]
        rw [hs3]
        have hN5 : New s s3 := hN2.trans k3
        have hgw := lawR_good hz1 hz2 hG
        have hlw := lawR_len hz1 hz2 hG
        refine ((hS.new hN5).append (hR.new k3) hgw (by omega) (by omega) (by omega) (by omega)).mono ?_
        rintro e s9 ⟨hk9, ⟨rfl, hS9⟩ | ⟨z, S9, hz, rfl, hF9, hLf9⟩⟩
        · simp [go_sem, e0, e2, e3, e9, e10, e14, e13, hwi]
          refine ⟨_, .rfl' _, ⟨(K.trans (hN5.to _)).trans (hk9.imp of_freeL), i + 1, _, _, by omega, by simp, by simp, hS9, ?_, ?_, ?_, ?_⟩, by omega⟩
          · rw [nextL_all]
            exact hO.snoc (by rw [hlen]; rfl) rfl (by rw [hlen]; rfl)
          · rw [nextL_all, List.length_append, hlen]; rfl
          · exact hful _
          · exact hmax _ (by have := recF_len hgw; unfold maxB; omega)
        · simp [go_sem, e0, e2, e3, e9, e10, e14, e13, hwi, hz]
          exact ⟨(K.trans (hN5.to _)).trans (hk9.imp of_freeL), S9, _, _, hF9, hLf9.more (by omega) (by omega) (by omega), hO.snoc (by rw [hlen]; rfl) rfl (by rw [hlen]; rfl), by omega, by rw [hlen]⟩
    · have hq : i = m := by omega
      subst hq
      simp [go_sem, e0, e2, e3, e9, e10, e14, e13]
      obtain ⟨S, hF, hLf⟩ := hS.left (by omega) (lawR ((i : Int) + 1) i [])
      exact ⟨K, S, _, _, hF, hLf.more (by omega) (by omega) (by omega), hO.snoc (by rw [hlen]; rfl) rfl (by rw [hlen]; rfl), by omega, by rw [hlen]⟩
  · rintro E s ⟨f, e2, e3, e9, K, S, all, r, hF, hLf, hO, hal, e13⟩
    simp [go_sem, e3, e9, e2]
    refine (IntsK_spec (hp.keep K Free.ty) hpl).mono ?_
    rintro e s1 ⟨ib, ic, rfl, hI, k1⟩
    simp [go_sem, e3, e9, e2]
    refine (hLf.crash (ops := ops) (hF.keep k1 (by simp)) hI.reg (fun g => out_tyF) hpb).mono ?_
    rintro e s2 ⟨f2, rss, rs, t, rfl, hin, h9, ht, htl, hall, hF2, hk2⟩
    simp [go_sem]
    refine (open_calm hF2 hin ht htl).mono ?_
    rintro e s3 ⟨hN3, lp3, v3, cs3, rfl, hlp3, hL3, hV3, hR3⟩
    have hF3 := hF2.keep (hN3.to fun _ => True) (by simp)
    have hOa : KepR (rss.flatten ++ rs) := by
      rcases hall with h | h
      · rw [h]; exact hO.left
      · rw [h]; exact hO
    have hla : all.length ≤ (rss.flatten ++ rs).length ∧ (rss.flatten ++ rs).length ≤ all.length + 1 := by
      rcases hall with h | h
      · rw [h]; omega
      · rw [h]; simp
    obtain ⟨L, hL⟩ : ∃ L, (rss.flatten ++ rs).length = L := ⟨_, rfl⟩
    rw [hL] at hla hV3
    obtain ⟨b3, n3, rfl⟩ := hV3.slice
    have q1 : ((L : Int) < (all.length : Int)) = False := eq_false (by omega)
    have hwa : IntKind.i64.wrap ((all.length : Int) + 1) = (all.length : Int) + 1 := wrap_id (by omega) (by omega)
    have q2 : ((all.length : Int) + 1 < (L : Int)) = False := eq_false (by omega)
    have q1' : ¬ L < all.length := by omega
    simp [go_sem, e13, q1, q1', q2, hwa]
    have hOp : ∀ (j : Nat) r, ((rss.flatten ++ rs).map plainR)[j]? = some r → r.seq = (j : Int) + 1 ∧ r.row.at_ = j := fun j r hj => by
      rw [List.getElem?_map] at hj
      cases hx : (rss.flatten ++ rs)[j]? with
      | none => rw [hx] at hj; cases hj
      | some x =>
        rw [hx] at hj
        simp at hj
        subst hj
        obtain ⟨h1, h2, h3⟩ := hOa j x hx
        obtain ⟨p1, p2, p3⟩ := plainR_parts h2
        exact ⟨p1.trans h1, p3.trans h3⟩
    refine ⟨fun E s => E 16 = ptr f2 ∧ E 17 = ptr lp3 ∧ E 18 = .slice b3 L n3 ∧ s = s3 ∧ ∃ j : Nat, j ≤ L ∧ E 19 = Val.i j,
      fun E _ => match E 19 with | .int _ j => L - j.toNat | _ => 0, ⟨s3, .rfl' _, by simp [go_sem], by simp [go_sem], by simp [go_sem], rfl, 0, by omega, by simp [go_sem]⟩, ?_⟩
    clear e2 e3 e9 e13 E
    rintro E s ⟨e16, e17, e18, rfl, j, hj, e19⟩
    by_cases hjl : j < L
    · have r1 : ((j : Int) < (L : Int)) = True := eq_true (by omega)
      have hwj : IntKind.i64.wrap ((j : Int) + 1) = (j : Int) + 1 := wrap_id (by omega) (by omega)
      obtain ⟨r, hr⟩ : ∃ r, ((rss.flatten ++ rs).map plainR)[j]? = some r := ⟨_, List.getElem?_eq_getElem (by rw [List.length_map]; omega)⟩
      obtain ⟨hr1, hr2⟩ := hOp j r hr
      obtain ⟨c0, c1, c2, c3⟩ := hR3.cells hr
      obtain ⟨blk, off, rfl, hg⟩ := src_get hV3.src (by omega)
      have g0 := hg (j * 18) (by omega)
      have g3 := hg (j * 18 + 3) (by omega)
      rw [c1, hr1] at g0
      rw [c3, hr2] at g3
      have g3' : (cellsOf (s blk))[off + j * 18 + 2 + 1]? = some (Val.i j) := by rw [show off + j * 18 + 2 + 1 = off + (j * 18 + 3) by omega]; exact g3
      clear hg
      simp [go_sem, e16, e17, e18, e19, r1, hjl, hwj, g0, g3']
      exact ⟨_, .rfl' _, ⟨rfl, j + 1, by omega, rfl⟩, by omega⟩
    · have hq : j = L := by omega
      subst hq
      have r1 : ((j : Int) < (j : Int)) = False := eq_false (by omega)
      simp [go_sem, e16, e17, e18, e19, r1]
      refine (ready_calm Quiet.new hF3 hL3 hin htl).mono ?_
      rintro e s4 ⟨rfl, hS4, hk4⟩
      simp [go_sem, e16, e17, e18]
      refine rec_spec.mono ?_
      rintro e s5 ⟨hN5, cs5, ls5, rfl, hR5, hG5⟩
      have z9 : I64 99 := ⟨by omega, by omega⟩
      have hlen5 := lawR_len z9 z9 hG5
      simp [go_sem]
      refine ((hS4.new hN5).append hR5 (lawR_good z9 z9 hG5) (by omega) (by omega) (by omega)).mono ?_
      rintro e s6 ⟨rfl, hS6, hk6⟩
      have hnl : (nextL rss rs (lawR 99 99 ls5)).1.length ≤ 10 := by unfold nextL; split <;> simp <;> omega
      simp [go_sem, e16, e17, e18]
      refine (crash_log (picks := []) (gp := .ty 1) (ops := 0) hS6 (by omega) Reg.nil (fun g => out_tyF) (by simp)).mono ?_
      rintro e s7 ⟨f7, rfl, hF7, hk7⟩
      simp [go_sem]
      refine (open_calm hF7 hS6.inn Torn.nil (by simp)).mono ?_
      rintro e s8 ⟨hN8, lp8, v8, cs8, rfl, hlp8, hL8, hV8, hR8⟩
      rw [nextL_all] at hV8 hR8
      have hl8 : (rss.flatten ++ rs ++ [lawR 99 99 ls5]).length = j + 1 := by rw [List.length_append, hL]; rfl
      rw [hl8] at hV8
      obtain ⟨b8, n8, rfl⟩ := hV8.slice
      have hget : ((rss.flatten ++ rs ++ [lawR 99 99 ls5]).map plainR)[j]? = some (lawR 99 99 ls5) := by
        rw [List.map_append, List.getElem?_append_right (by rw [List.length_map, hL]; omega), List.length_map, hL, Nat.sub_self]
        simp [lawR_plain]
      obtain ⟨c0, c1, c2, c3⟩ := hR8.cells hget
      obtain ⟨blk, off, rfl, hg⟩ := src_get hV8.src (by omega)
      have g0 := hg (j * 18) (by omega)
      rw [c1] at g0
      simp only [lawR] at g0
      clear hg
      have hwj : IntKind.i64.wrap ((j : Int) + 1) = (j : Int) + 1 := wrap_id (by omega) (by omega)
      simp [go_sem, e16, e17, e18, hwj, g0]
      refine ⟨by omega, awk.mono ?_⟩
      rintro e s9 rfl
      simp [go_sem]
end
end Go.Proofs.YtadgciaclhjjkaaGreat
