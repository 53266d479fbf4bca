/- Sorting at most twelve strings by their order. -/
import Derived.Test.YtadgciaclhjjkaaGreatC44
import Derived.Test.YtadgciaclhjjkaaGreatC45
set_option linter.unusedVariables false
set_option linter.unusedSimpArgs false
set_option maxRecDepth 100000
set_option maxHeartbeats 1000000
namespace Go.Proofs.YtadgciaclhjjkaaGreat
open Go.RowKit (Below)
section
variable {W0 : World} {st : Heap}
end
end Go.Proofs.YtadgciaclhjjkaaGreat
set_option linter.unusedVariables false
set_option linter.unusedSimpArgs false
set_option maxRecDepth 100000
set_option maxHeartbeats 1000000
namespace Go.Proofs.YtadgciaclhjjkaaGreat
open Go.RowKit (Below)

/-- Files, each certain. -/
structure Plain (S : VFS) (j : Nat) : Prop where
  turns : S.turns = []
  len : S.files.length = j
  files : ∀ F ∈ S.files, F.pend = [] ∧ F.now.length < 2 ^ 40 ∧ F.sure.length < 2 ^ 40
section
variable {W0 : World} {st : Heap}
end
end Go.Proofs.YtadgciaclhjjkaaGreat
set_option linter.unusedVariables false
set_option linter.unusedSimpArgs false
set_option maxRecDepth 100000
set_option maxHeartbeats 1000000
namespace Go.Proofs.YtadgciaclhjjkaaGreat
open Go.RowKit (Below)
def c00 : Ctl := ⟨0, false, 0, 0, false⟩
theorem new_calm (fro : Int) : VFS.new = calm fro [] c00 := rfl
theorem lay_calm {fro : Int} {gs : List Bs} {c : Ctl} {r : Bs} (h0 : 0 ≤ fro) (h1 : fro + gs.length < 100000000) : (calm fro gs c).lay (nameT logB (fro + gs.length)) r = calm fro (gs ++ [r]) c := by
  have hn := logD_get (fro := fro) (j := gs.length) (n := gs.length) h0 (by omega)
  rw [if_neg (by omega)] at hn
  unfold VFS.lay
  simp only [calm, aset_new hn, logFs_length, logFs_snoc, logD_succ, List.length_append, List.length_cons, List.length_nil, Nat.zero_add]
theorem calm_small {fro : Int} {fs : List Bs} {c : Ctl} (hn : fs.length < 2 ^ 40) (hb : ∀ b ∈ fs, b.length < 2 ^ 40) : (calm fro fs c).small := by
  refine ⟨by simp [calm], by simpa [calm, logFs_length] using hn, fun F hF => ?_⟩
  obtain ⟨i, b, h1, rfl⟩ := logFs_mem hF
  have := hb b (List.mem_of_getElem? h1)
  exact ⟨by simp, this, this⟩
end Go.Proofs.YtadgciaclhjjkaaGreat
set_option linter.unusedVariables false
set_option linter.unusedSimpArgs false
set_option maxRecDepth 100000
set_option maxHeartbeats 1000000
namespace Go.Proofs.YtadgciaclhjjkaaGreat
open Go.RowKit (Below)
structure Quiet (c : Ctl) : Prop where
  off : c.off = false
  armed : c.armed = false
theorem Quiet.new : Quiet c00 := ⟨rfl, rfl⟩
theorem Quiet.ok {c : Ctl} (h : Quiet c) : c.call.1 = 0 := by unfold Ctl.call; rw [h.off, h.armed]; simp
theorem Quiet.next {c : Ctl} (h : Quiet c) : Quiet c.call.2 := by
  have h1 := h.off
  have h2 := h.armed
  unfold Ctl.call
  rw [h.off, h.armed]
  exact ⟨by simp [h1], by simp [h2]⟩
section
variable {fro : Int} {gs : List Bs} {x : Bs} {c : Ctl}
theorem fresh_small (hn : gs.length < 2 ^ 39) (hb : ∀ b ∈ gs, b.length < 2 ^ 40) : (fresh fro gs c).small := by
  refine ⟨by simp [fresh], by simp [fresh, logFs_length]; omega, fun F hF => ?_⟩
  obtain ⟨i, b, h1, rfl⟩ := logFs_mem hF
  have h2 := List.mem_of_getElem? h1
  have : b.length < 2 ^ 40 := by
    rcases List.mem_append.1 h2 with h | h
    · exact hb b h
    · simp at h; subst h; simp
  exact ⟨by simp, this, this⟩
theorem readyOK_absent (hc : c.call.1 = 0) (hc2 : c.call.2.call.1 = 0) (h0 : 0 ≤ fro) (h1 : fro < 100000000) : ReadyOK (calm fro [] c) ⟨fro, 0, 3⟩ := by
  have e1 := create_calm (gs := []) hc h0 (by simpa using h1) (by simp)
  have e2 := syncF_fresh (gs := []) hc2 h0 (by simpa using h1)
  simp only [List.length_nil, Int.natCast_zero, Int.add_zero, List.nil_append] at e1 e2
  have ea : readyA (calm fro [] c) ⟨fro, 0, 3⟩ = (0, fresh fro [] c.call.2) := by unfold readyA; simp [e1]
  have hf : (fresh fro [] c.call.2.call.2).small := fresh_small (by simp) (by simp)
  refine ⟨calm_small (by simp) (by simp), ?_, ?_⟩
  · rw [ea]; simp only; rw [e2]; exact hf
  · rw [ea]; simp only; rw [e2]; exact ⟨_, fresh_sync⟩
theorem turnOK_calm {en w : Int} (hc : c.call.1 = 0) (h0 : 0 ≤ fro) (h1 : fro + gs.length + 1 < 100000000) (hm : gs.length + 1 < 1024) (hb : ∀ b ∈ gs ++ [x], b.length < 2 ^ 40) : TurnOK (calm fro (gs ++ [x]) c) ⟨fro + gs.length, en, w⟩ := by
  have e1 := create_calm (gs := gs ++ [x]) hc h0 (by simp; omega) (by simp; omega)
  have en : fro + ((gs ++ [x]).length : Int) = fro + gs.length + 1 := by simp; omega
  rw [en] at e1
  have hf : (fresh fro (gs ++ [x]) c.call.2).small := fresh_small (by simp; omega) hb
  refine ⟨calm_small (by simp; omega) hb, ?_, ?_⟩
  · simp only; rw [e1]; exact hf
  · simp only; rw [e1]; exact ⟨_, fresh_sync⟩
theorem full_calm {en w : Int} (h0 : 0 ≤ fro) (h1 : fro + gs.length < 100000000) : fullL (calm fro (gs ++ [x]) c) ⟨fro + gs.length, en, w⟩ = decide (4096 ≤ x.length) := by
  unfold fullL
  simp only
  rw [getL_calm h0 (by simp; omega)]
  simp
theorem appM_less {en w : Int} {r : RcD} (hr : RcGood r) (hc : c.call.1 = 0) (hc2 : c.call.2.call.1 = 0) (h0 : 0 ≤ fro) (h1 : fro + gs.length < 100000000) (hx : x.length < 4096) : appM (calm fro (gs ++ [x]) c) ⟨fro + gs.length, en, w⟩ r = (0, calm fro (gs ++ [x ++ recF r]) c.call.2.call.2, ⟨fro + gs.length, en, w⟩) := by
  have hT : appT (calm fro (gs ++ [x]) c) ⟨fro + gs.length, en, w⟩ = (0, calm fro (gs ++ [x]) c, ⟨fro + gs.length, en, w⟩) := by
    unfold appT
    rw [full_calm h0 h1, if_neg (by simp; omega)]
  have hp := hr.pos
  have hl := hr.len
  have hfl := recF_len hr
  unfold appM
  rw [hT]
  simp only
  rw [if_neg (by simp), if_neg (by omega)]
  exact appE_calm hc hc2 h0 h1 (by unfold recF at hfl; omega)
theorem appM_more {en w : Int} {r : RcD} (hr : RcGood r) (hc : c.call.1 = 0) (hc2 : c.call.2.call.1 = 0) (hc3 : c.call.2.call.2.call.1 = 0) (hc4 : c.call.2.call.2.call.2.call.1 = 0) (h0 : 0 ≤ fro) (h1 : fro + gs.length + 1 < 100000000) (hm : gs.length + 1 < 1024) (hx : 4096 ≤ x.length) :
    appM (calm fro (gs ++ [x]) c) ⟨fro + gs.length, en, w⟩ r = (0, calm fro (gs ++ [x] ++ [recF r]) c.call.2.call.2.call.2.call.2, ⟨fro + gs.length + 1, en, w⟩) := by
  have hT : appT (calm fro (gs ++ [x]) c) ⟨fro + gs.length, en, w⟩ = (0, calm fro (gs ++ [x] ++ [[]]) c.call.2.call.2, ⟨fro + gs.length + 1, en, w⟩) := by
    unfold appT
    rw [full_calm h0 (by omega), if_pos (by simp; omega)]
    exact turn_calm hc hc2 h0 h1 hm
  have hp := hr.pos
  have hl := hr.len
  have hfl := recF_len hr
  have he := appE_calm (gs := gs ++ [x]) (x := []) (fro := fro) (en := en) (w := w) (b := frameM (recB r)) hc3 hc4 h0 (by simp; omega) (by unfold recF at hfl; simp; omega)
  have en : fro + ((gs ++ [x]).length : Int) = fro + gs.length + 1 := by simp; omega
  rw [en] at he
  unfold appM
  rw [hT]
  simp only
  rw [if_neg (by simp), if_neg (by omega)]
  exact he
theorem appOK_calm {en w : Int} {r : RcD} (hr : RcGood r) (hc : c.call.1 = 0) (hc2 : c.call.2.call.1 = 0) (h0 : 0 ≤ fro) (h1 : fro + gs.length + 1 < 100000000) (hm : gs.length + 1 < 1024) (hb : ∀ b ∈ gs ++ [x], b.length < 2 ^ 40) : AppOK (calm fro (gs ++ [x]) c) ⟨fro + gs.length, en, w⟩ r := by
  have hfl := recF_len hr
  have hl := hr.len
  have hs : (calm fro (gs ++ [x]) c).small := calm_small (by simp; omega) hb
  refine ⟨fun F hF => (hs.2.2 F hF).2.1, ⟨by simp only; omega, by simp only; omega⟩, fun _ => turnOK_calm hc h0 h1 hm hb, ?_, by omega, by unfold recF at hfl; omega⟩
  unfold appT
  split
  · rw [turn_calm hc hc2 h0 h1 hm]
    refine calm_small (by simp; omega) fun b hbm => ?_
    rcases List.mem_append.1 hbm with h | h
    · exact hb b h
    · simp at h; subst h; simp
  · exact hs
end
/-! ### A log in order -/
structure LogIn (fro : Int) (rss : List (List RcD)) (rs : List RcD) (k : Nat) : Prop where
  lo : 0 ≤ fro
  hi : fro + k < 99999000
  most : k ≤ 500
  cnt : rss.length ≤ k
  recs : (rss.flatten ++ rs).length ≤ k
  good : ∀ r ∈ rss.flatten ++ rs, RcGood r ∧ (recB r).length ≤ 4000
theorem encL_len : ∀ {rs : List RcD}, (∀ r ∈ rs, RcGood r ∧ (recB r).length ≤ 4000) → (encL rs).length ≤ 4014 * rs.length
  | [], _ => by simp [encL]
  | r :: rs, h => by
    have h1 := h r (by simp)
    have h2 := recF_len h1.1
    have h3 := encL_len (rs := rs) fun x hx => h x (by simp [hx])
    have e : encL (r :: rs) = recF r ++ encL rs := rfl
    rw [e, List.length_append, List.length_cons]
    omega
theorem flatten_len_le {α : Type} {l : List α} : ∀ {L : List (List α)}, l ∈ L → l.length ≤ L.flatten.length
  | x :: L, h => by
    rw [List.flatten_cons, List.length_append]
    rcases List.mem_cons.1 h with rfl | h
    · omega
    · have := flatten_len_le h; omega
section
variable {fro : Int} {rss : List (List RcD)} {rs : List RcD} {k : Nat}
theorem LogIn.len (h : LogIn fro rss rs k) {b : Bs} (hb : b ∈ filesL rss rs []) : b.length ≤ 2007000 := by
  have hrec := h.recs
  have hk := h.most
  rw [List.length_append] at hrec
  unfold filesL at hb
  rcases List.mem_append.1 hb with hb | hb
  · obtain ⟨l, hl, rfl⟩ := List.mem_map.1 hb
    have h1 := encL_len (rs := l) fun r hr => h.good r (List.mem_append_left _ (List.mem_flatten.2 ⟨l, hl, hr⟩))
    have h2 := flatten_len_le hl
    omega
  · simp at hb
    subst hb
    have h1 := encL_len (rs := rs) fun r hr => h.good r (List.mem_append_right _ hr)
    omega
theorem LogIn.gss (h : LogIn fro rss rs k) : ∀ l ∈ rss, ∀ r ∈ l, RcGood r := fun l hl r hr => (h.good r (List.mem_append_left _ (List.mem_flatten.2 ⟨l, hl, hr⟩))).1
theorem LogIn.grs (h : LogIn fro rss rs k) : ∀ r ∈ rs, RcGood r := fun r hr => (h.good r (List.mem_append_right _ hr)).1
theorem LogIn.len40 (h : LogIn fro rss rs k) : ∀ b ∈ rss.map encL ++ [encL rs], b.length < 2 ^ 40 := fun b hb => by
  have := h.len (b := b) (by unfold filesL; rw [List.append_nil]; exact hb)
  omega
def nextL (rss : List (List RcD)) (rs : List RcD) (r : RcD) : List (List RcD) × List RcD := if 4096 ≤ (encL rs).length then (rss ++ [rs], [r]) else (rss, rs ++ [r])
theorem nextL_all (rss : List (List RcD)) (rs : List RcD) (r : RcD) : (nextL rss rs r).1.flatten ++ (nextL rss rs r).2 = (rss.flatten ++ rs) ++ [r] := by
  unfold nextL
  split <;> simp
theorem LogIn.next (h : LogIn fro rss rs k) {r : RcD} (hr : RcGood r) (hl : (recB r).length ≤ 4000) (hk : k + 1 ≤ 500) (hhi : fro + (k + 1 : Nat) < 99999000) : LogIn fro (nextL rss rs r).1 (nextL rss rs r).2 (k + 1) := by
  refine ⟨h.lo, hhi, hk, ?_, ?_, ?_⟩
  · have := h.cnt
    unfold nextL
    split
    · simp; omega
    · simp only; omega
  · rw [nextL_all, List.length_append]
    have := h.recs
    simp only [List.length_cons, List.length_nil]
    omega
  · rw [nextL_all]
    intro x hx
    rcases List.mem_append.1 hx with hx | hx
    · exact h.good x hx
    · simp at hx; subst hx; exact ⟨hr, hl⟩
theorem filesL_now (rss : List (List RcD)) (rs : List RcD) : filesL rss rs [] = rss.map encL ++ [encL rs] := by unfold filesL; rw [List.append_nil]
end
/-- A log in order, ready. -/
structure LogS (s : Heap) (f lp : Nat) (fro : Int) (rss : List (List RcD)) (rs : List RcD) (k : Nat) : Prop where
  inn : LogIn fro rss rs k
  fs : ∃ c, Quiet c ∧ FSAt s f (calm fro (filesL rss rs []) c)
  log : ∃ en, LogAt s lp f ⟨fro + rss.length, en, 0⟩
theorem LogS.new {s s' : Heap} {f lp : Nat} {fro : Int} {rss : List (List RcD)} {rs : List RcD} {k : Nat} (h : LogS s f lp fro rss rs k) (hk : New s s') : LogS s' f lp fro rss rs k := by
  obtain ⟨h1, ⟨c, h2, h3⟩, en, h4⟩ := h
  exact ⟨h1, ⟨c, h2, h3.keep (hk.to fun _ => True) (by simp)⟩, en, h4.new hk⟩
section
variable {W0 : World} {st : Heap} {f lp : Nat} {fro : Int} {rss : List (List RcD)} {rs : List RcD} {k : Nat}
theorem LogS.append (h : LogS st f lp fro rss rs k) {cs : List Value} {r : RcD} (hR : RcAt st cs r) (hr : RcGood r) (hl : (recB r).length ≤ 4000) (hk : k + 1 ≤ 500) (hhi : fro + (k + 1 : Nat) < 99999000) :
    ICalls Tryz.prog W0 34 #[ptr lp, .agg cs.toArray] st fun e st' => e = .returned (Val.i 0) ∧ LogS st' f lp fro (nextL rss rs r).1 (nextL rss rs r).2 (k + 1) ∧ Keep (OutL f lp) st st' := by
  obtain ⟨hin, ⟨c, hq, hF⟩, en, hL⟩ := h
  have hin' := hin.next hr hl hk hhi
  have hcnt := hin.cnt
  have hq1 := hq.next
  have hq2 := hq1.next
  have hq3 := hq2.next
  have hhi0 := hin.hi
  have hok := appOK_calm (gs := rss.map encL) (x := encL rs) (c := c) (fro := fro) (en := en) (w := 0) hr hq.ok hq1.ok hin.lo (by simp; omega) (by simp; omega) hin.len40
  rw [filesL_now] at hF
  rw [List.length_map] at hok
  refine (LogAppend_spec hF hL hR hr.fits hr.rc hok).mono ?_
  rintro e s' ⟨he, hF', hL', hk'⟩
  by_cases hx : 4096 ≤ (encL rs).length
  · have hm := appM_more (gs := rss.map encL) (x := encL rs) (c := c) (fro := fro) (en := en) (w := 0) hr hq.ok hq1.ok hq2.ok hq3.ok hin.lo (by simp; omega) (by simp; omega) hx
    rw [List.length_map] at hm
    rw [hm] at he hF' hL'
    have hn : nextL rss rs r = (rss ++ [rs], [r]) := by unfold nextL; rw [if_pos hx]
    rw [hn] at hin' ⊢
    refine ⟨he, ⟨hin', ⟨_, hq3.next, ?_⟩, en, ?_⟩, hk'⟩
    · have e : filesL (rss ++ [rs]) [r] [] = rss.map encL ++ [encL rs] ++ [recF r] := by simp [filesL, encL]
      simp only
      rw [e]
      exact hF'
    · simp only [List.length_append, List.length_cons, List.length_nil]
      have e : fro + ((rss.length + (0 + 1) : Nat) : Int) = fro + rss.length + 1 := by omega
      rw [e]
      exact hL'
  · have hm := appM_less (gs := rss.map encL) (x := encL rs) (c := c) (fro := fro) (en := en) (w := 0) hr hq.ok hq1.ok hin.lo (by simp; omega) (by omega)
    rw [List.length_map] at hm
    rw [hm] at he hF' hL'
    have hn : nextL rss rs r = (rss, rs ++ [r]) := by unfold nextL; rw [if_neg hx]
    rw [hn] at hin' ⊢
    refine ⟨he, ⟨hin', ⟨_, hq1.next, ?_⟩, en, hL'⟩, hk'⟩
    have e : filesL rss (rs ++ [r]) [] = rss.map encL ++ [encL rs ++ recF r] := by simp [filesL, encL_snoc]
    simp only
    rw [e]
    exact hF'
theorem calm_cap {fs : List Bs} {c : Ctl} (h0 : 0 ≤ fro) (h1 : fro + fs.length ≤ 100000000) : ∀ n : Int, fro + fs.length ≤ n → getL (calm fro fs c) n = none := fun n hn => by
  have := getL_calm (fs := fs) (c := c) h0 h1 (n - fro).toNat
  rw [show fro + ((n - fro).toNat : Int) = n by omega] at this
  rw [this]
  simp
  omega
theorem rows_out {st st' : Heap} {lp f t : Nat} {L : LogD} {v : Value} {cs : List Value} {rs : List RcD} {n : Nat} (hN : New st st') (hlp : st lp = none) (hL : LogAt st' lp f L) (hF : Fresh st v) (hV : Vec st' (.own t 0 125) 18 v cs n) (hR : RcsAt st' cs rs) : ∃ s2, Heap.Le s2 st' ∧ New st s2 ∧ LogAt s2 lp f L ∧ Vec s2 (.ty 1) 18 v cs n ∧ RcsAt s2 cs rs := by
  obtain ⟨h1, base, cap, rfl, h3, h4⟩ := hV
  rcases h4 with ⟨b, m, rfl, hb, hm⟩ | ⟨rfl, hc⟩
  · have hbn : st b = none := hF b _ _ _ rfl
    have hne : lp ≠ b := by
      rintro rfl
      unfold LogAt at hL
      rw [hL] at hb
      injection hb with hb
      injection hb with _ _ _ hb
      injection hb with _ _ hb
      omega
    refine ⟨upd st' b (.cells true cs m (.ty 1)), .retag hb, fun k o hk => ?_, ?_, ⟨h1, _, _, rfl, h3, .inl ⟨b, m, rfl, upd_same _ _ _, hm⟩⟩, hR.free (keepP hb (by intro h; exact h _ _ _ rfl))⟩
    · rw [upd_ne _ _ (by rintro rfl; rw [hbn] at hk; cases hk)]; exact hN _ _ hk
    · unfold LogAt at hL ⊢
      rw [upd_ne _ _ hne]; exact hL
  · exact ⟨st', .rfl' _, hN, hL, ⟨h1, none, cap, rfl, h3, .inr ⟨rfl, hc⟩⟩, hR⟩
/-- A log over files in order, opened; with what is torn behind. -/
theorem open_calm {t : Bs} {c : Ctl} (hF : FSAt st f (calm fro (filesL rss rs t) c)) (h : LogIn fro rss rs k) (ht : Torn t) (htl : t.length ≤ 5000) : ICalls Tryz.prog W0 30 #[ptr f, Val.i fro] st fun e st' => New st st' ∧ ∃ lp v cs, e = .returned (.tuple #[ptr lp, v, Val.i 0]) ∧ st lp = none ∧ LogAt st' lp f ⟨fro + rss.length, (encL rs).length, if t = [] then 1 else 2⟩ ∧ Vec st' (.ty 1) 18 v cs (rss.flatten ++ rs).length ∧ RcsAt st' cs ((rss.flatten ++ rs).map plainR) := by
  have hlo := h.lo
  have hhi := h.hi
  have hk := h.most
  have hcnt := h.cnt
  have hfl : (filesL rss rs t).length = rss.length + 1 := filesL_length _ _ _
  have hb : ∀ b ∈ filesL rss rs t, b.length ≤ 2012000 := fun b hbm => by
    unfold filesL at hbm
    rcases List.mem_append.1 hbm with hbm | hbm
    · have := h.len (b := b) (by unfold filesL; exact List.mem_append_left _ hbm)
      omega
    · simp at hbm
      subst hbm
      have := h.len (b := encL rs) (by unfold filesL; simp)
      rw [List.length_append]
      omega
  refine ICalls.post ((Open_spec (A := 501) (B := 2012000) hF (fun F hF => ?_) (by omega) (by omega) (by omega) (fun n hn => calm_cap hlo (by omega) n (by omega))).mono ?_)
  · obtain ⟨i, b, h1, rfl⟩ := logFs_mem hF
    exact hb b (List.mem_of_getElem? h1)
  rintro e s' ⟨hN, hm⟩
  rw [if_pos (show nameOKM fro by unfold nameOKM; omega)] at hm
  rw [calm_open hlo (by omega) h.gss h.grs ht _ (fun i => getL_calm hlo (by omega) i)] at hm
  obtain ⟨lp, v, cs, rfl, hlp, hL, ⟨t, ht, hFr, hV⟩, hR⟩ := hm
  rw [List.length_map] at hV
  obtain ⟨s2, hle, hN2, hL2, hV2, hR2⟩ := rows_out hN hlp hL hFr hV hR
  exact ⟨s2, hle, hN2, lp, v, cs, rfl, hlp, hL2, hV2, hR2⟩
theorem open_new {c : Ctl} (hF : FSAt st f (calm fro [] c)) (h0 : 0 ≤ fro) (h1 : fro < 99999000) : ICalls Tryz.prog W0 30 #[ptr f, Val.i fro] st fun e st' => New st st' ∧ ∃ lp b n, e = .returned (.tuple #[ptr lp, .slice b 0 n, Val.i 0]) ∧ st lp = none ∧ LogAt st' lp f ⟨fro, 0, 3⟩ := by
  refine (Open_spec (A := 0) (B := 0) hF (fun F hF => by simp [calm, logFs] at hF) (by omega) (by omega) (by omega) (fun n hn => calm_cap h0 (by simp; omega) n (by simpa using hn))).mono ?_
  rintro e s' ⟨hN, hm⟩
  rw [if_pos (show nameOKM fro by unfold nameOKM; omega)] at hm
  have hg := getL_calm (fro := fro) (fs := []) (c := c) h0 (by simp; omega) 0
  rw [show fro + ((0 : Nat) : Int) = fro by omega] at hg
  rw [calm_none _ (by simpa using hg)] at hm
  obtain ⟨lp, v, cs, rfl, hlp, hL, ⟨t, ht, hFr, hV⟩, hR⟩ := hm
  obtain ⟨b, n, rfl⟩ := hV.slice
  exact ⟨hN, lp, b, n, rfl, hlp, hL⟩
theorem ready_new {c : Ctl} (hq : Quiet c) (hF : FSAt st f (calm fro [] c)) (hL : LogAt st lp f ⟨fro, 0, 3⟩) (h0 : 0 ≤ fro) (h1 : fro < 99998000) : ICalls Tryz.prog W0 32 #[ptr lp] st fun e st' => e = .returned (Val.i 0) ∧ LogS st' f lp fro [] [] 0 ∧ Keep (OutL f lp) st st' := by
  refine (Ready_spec hF hL (readyOK_absent hq.ok hq.next.ok h0 (by omega))).mono ?_
  rintro e s' ⟨he, hF', hL', hk'⟩
  rw [ready_absent hq.ok hq.next.ok hq.next.next.ok h0 (by omega)] at he hF' hL'
  refine ⟨he, ⟨⟨h0, by omega, by omega, by simp, by simp, by simp⟩, ⟨_, hq.next.next.next, ?_⟩, 0, ?_⟩, hk'⟩
  · simpa [filesL, encL] using hF'
  · simpa using hL'
end
end Go.Proofs.YtadgciaclhjjkaaGreat
set_option linter.unusedVariables false
set_option linter.unusedSimpArgs false
set_option maxRecDepth 100000
set_option maxHeartbeats 4000000
namespace Go.Proofs.YtadgciaclhjjkaaGreat
open Go.RowKit (Below)
theorem of_freeL {f lp : Nat} : ∀ g, Free g → OutL f lp g := fun g hg => ⟨fun x r => hg f x r, fun x r => hg lp x r⟩
theorem rcs_one {st : Heap} {cs : List Value} {r : RcD} (h : RcsAt st cs [r]) : RcAt st cs r := by
  have h1 := h.1
  have := h.2 0 r rfl
  rwa [Nat.zero_mul, List.drop_zero, List.take_of_length_le (by simp at h1; omega)] at this
theorem RcAt.parts {st : Heap} {cs : List Value} {r : RcD} (h : RcAt st cs r) : ∃ lb hb hc kb kc kl lc hl ll rest, cs = [Val.i r.seq, Val.i r.kind, .slice lb ll lc, Val.i r.row.at_, .slice hb hl hc, .slice kb kl kc] ++ rest ∧ rest.length = 12 := by
  obtain ⟨rs, ts, rfl, h1, h2⟩ := h
  obtain ⟨lb, lc, hb, hc, kb, kc, rfl, _, _⟩ := h1.eight
  obtain ⟨a0, a1, a2, a3, a4, rfl, hm⟩ := h2.eight
  exact ⟨_, _, _, _, _, _, _, _, _, _, rfl, rfl⟩
section
variable {W0 : World} {st : Heap}
theorem walName_seven : nameT ⟨#[108, 111, 103, 45]⟩ 7 = ⟨#[108, 111, 103, 45, 48, 48, 48, 48, 48, 48, 48, 55]⟩ := by decide
theorem awake17_spec : ICalls Tryz.prog W0 20 #[] st fun e st' => e = .returned (.bool true) ∧ Keep Free st st' := by
  refine enter (args := []) Tryz.func20 rfl ?_
  simp [Tryz.f20, go_sem]
  refine New_spec.mono ?_
  rintro e st1 ⟨f, rfl, hfn, hf1, hk1⟩
  have K1 : Keep Free st st1 := hk1.imp fun _ _ => trivial
  simp [go_sem]
  rw [new_calm 1] at hf1
  refine (open_new hf1 (by omega) (by omega)).mono ?_
  rintro e st2 ⟨hN2, lp, b2, n2, rfl, hlp, hL2⟩
  have K2 := K1.trans (hN2.to _)
  have hf2 := hf1.keep (hN2.to fun _ => True) (by simp)
  simp [go_sem]
  refine (ready_new Quiet.new hf2 hL2 (by omega) (by omega)).mono ?_
  rintro e st3 ⟨rfl, hS3, hk3⟩
  have K3 := K2.trans (hk3.imp of_freeL)
  simp [go_sem]
  refine rec_spec.mono ?_
  rintro e st4 ⟨hN4, cs4, l4, rfl, hR4, hG4⟩
  have K4 := K3.trans (hN4.to _)
  have hS4 := hS3.new hN4
  have z1 : I64 1 := ⟨by omega, by omega⟩
  have z5 : I64 5 := ⟨by omega, by omega⟩
  have hlen := lawR_len z1 z5 hG4
  simp [go_sem]
  refine (hS4.append hR4 (lawR_good z1 z5 hG4) (by omega) (by omega) (by omega)).mono ?_
  rintro e st5 ⟨rfl, hS5, hk5⟩
  have K5 := K4.trans (hk5.imp of_freeL)
  have hnx : nextL [] [] (lawR 1 5 l4) = ([], [lawR 1 5 l4]) := rfl
  rw [hnx] at hS5
  simp only at hS5
  obtain ⟨hin5, ⟨c5, hq5, hF5⟩, en5, hL5⟩ := hS5
  simp [go_sem]
  refine (open_calm hF5 hin5 Torn.nil (by simp)).mono ?_
  rintro e st6 ⟨hN6, lp6, v6, cs6, rfl, hlp6, hL6, hV6, hR6⟩
  have K6 := K5.trans (hN6.to _)
  simp only [List.flatten_nil, List.nil_append, List.map_cons, List.map_nil, lawR_plain, List.length_cons, List.length_nil] at hV6 hR6
  obtain ⟨b6, n6, rfl⟩ := hV6.slice
  have hone := rcs_one hR6
  obtain ⟨lb, hb, hc, kb, kc, kl, lc, hl, ll, rest, hcs, hrest⟩ := hone.parts
  have hV6' := hV6
  obtain ⟨w1, wb, wc, we, w3, w4⟩ := hV6'
  injection we with we1 we2 we3
  subst we1; subst we3
  have hrl : (lawR 1 5 l4).seq = 1 := rfl
  have hra : (lawR 1 5 l4).row.at_ = 5 := rfl
  rw [hrl, hra] at hcs
  subst hcs
  rcases w4 with ⟨bb, nn, rfl, hbb, hnn⟩ | ⟨w5, w6⟩
  · simp [go_sem, hbb]
    refine walName_exact.mono ?_
    rintro e st7 ⟨rfl, k7⟩
    simp [go_sem, walName_seven]
    exact K6.trans (k7.to _)
  · omega
end
end Go.Proofs.YtadgciaclhjjkaaGreat
set_option linter.unusedVariables false
set_option linter.unusedSimpArgs false
set_option maxRecDepth 100000
set_option maxHeartbeats 2000000
namespace Go.Proofs.YtadgciaclhjjkaaGreat
open Go.RowKit (Below)

section
variable {W0 : World} {st : Heap}
end
end Go.Proofs.YtadgciaclhjjkaaGreat
set_option linter.unusedVariables false
set_option linter.unusedSimpArgs false
set_option maxRecDepth 100000
set_option maxHeartbeats 4000000
namespace Go.Proofs.YtadgciaclhjjkaaGreat
open Go.RowKit (Below)
section
variable {W0 : World} {st : Heap} {f lp : Nat} {fro : Int} {rss : List (List RcD)} {rs : List RcD} {k : Nat}
end
theorem lay_one {fro : Int} {b : Bs} (h0 : 0 ≤ fro) (h1 : fro < 100000000) : laysOK .new [nameT logB fro] = true ∧ fillM (laysM .new [nameT logB fro]) ([nameT logB fro].zip [b]) = some (calm fro [b] c00) := by
  have hok := okName_log (n := fro) (by unfold nameOKM; omega)
  have hl := lay_calm (gs := []) (c := c00) (r := []) h0 (by simpa using h1)
  simp only [List.length_nil, Int.natCast_zero, Int.add_zero, List.nil_append] at hl
  have hg := logD_get (fro := fro) (j := 0) (n := 1) h0 (by omega)
  rw [if_pos (by omega)] at hg
  simp only [Int.natCast_zero, Int.add_zero] at hg
  refine ⟨?_, ?_⟩
  · simp [laysOK, hok, VFS.new, aget_nil]
  · have hag : aget (calm fro [[]] c00).now (nameT logB fro) = some 0 := hg
    show fillM (VFS.new.lay _ []) [(_, b)] = _
    rw [new_calm fro, hl, fillM, hag]
    rfl
end Go.Proofs.YtadgciaclhjjkaaGreat
