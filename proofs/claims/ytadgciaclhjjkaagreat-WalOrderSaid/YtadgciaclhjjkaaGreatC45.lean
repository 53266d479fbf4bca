/- Sorting at most twelve strings by their order. -/
import Derived.Test.YtadgciaclhjjkaaGreatC43
import Derived.Test.YtadgciaclhjjkaaGreatC44
import Derived.Test.YtadgciaclhjjkaaGreatC09
import Derived.Sort.AssemblyPlain
set_option linter.unusedVariables false
set_option linter.unusedSimpArgs false
set_option maxRecDepth 100000
set_option maxHeartbeats 1000000
namespace Go.Proofs.YtadgciaclhjjkaaGreat
open Go.RowKit (Below)
section
variable {W0 : World} {st : Heap}
theorem isNaNs_spec {a : ByteArray} : ICalls Tryz.prog W0 237 #[.string a] st fun e st' => e = .returned (.bool false) ∧ st' = st := by
  refine enter (args := [_]) Tryz.func237 rfl ?_
  simp [Tryz.f237, go_sem]
theorem cmpLess_spec {a b : ByteArray} : ICalls Tryz.prog W0 201 #[.string a, .string b] st fun e st' => e = .returned (.bool (ltT a b)) ∧ st' = st := by
  refine enter (args := [_, _]) Tryz.func201 rfl ?_
  simp [Tryz.f201, go_sem]
  refine isNaNs_spec.mono ?_
  rintro e st1 ⟨rfl, rfl⟩
  simp [go_sem]
end
end Go.Proofs.YtadgciaclhjjkaaGreat
set_option linter.unusedVariables false
set_option linter.unusedSimpArgs false
set_option maxRecDepth 100000
set_option maxHeartbeats 1000000
namespace Go.Proofs.YtadgciaclhjjkaaGreat
open Go.RowKit (Below)

def unS : Value → ByteArray
  | .string s => s
  | _ => ⟨#[]⟩
theorem unS_map (l : List ByteArray) : (l.map Value.string).map unS = l := by rw [List.map_map]; exact List.map_id' l
/-- Keys that are texts. -/
def StrKeys (L : KV) : Prop := L.map (·.1) = (L.map fun x => unS x.1).map Value.string
theorem StrKeys.push {L : KV} (h : StrKeys L) (s : ByteArray) (v : Value) : StrKeys (L ++ [(.string s, v)]) := by
  unfold StrKeys at *
  rw [List.map_append, List.map_append, List.map_append, ← h]
  rfl
theorem strings_perm {l l' : List ByteArray} (h : (l.map Value.string).Perm (l'.map Value.string)) : l.Perm l' := by
  have := h.map unS
  rwa [unS_map, unS_map] at this
theorem encM_keys (ad : Nat → Nat) (l : Dir) : (encM ad l).map (·.1) = (l.map (·.1)).map Value.string := by simp [encM]
/-- Files, each certain. -/
structure Plain (S : VFS) (j : Nat) : Prop where
  turns : S.turns = []
  len : S.files.length = j
  files : ∀ F ∈ S.files, F.pend = [] ∧ F.now.length < 2 ^ 40 ∧ F.sure.length < 2 ^ 40
section
variable {W0 : World} {st : Heap}
end
end Go.Proofs.YtadgciaclhjjkaaGreat
set_option linter.unusedVariables false
set_option linter.unusedSimpArgs false
set_option maxRecDepth 100000
set_option maxHeartbeats 1000000
namespace Go.Proofs.YtadgciaclhjjkaaGreat
open Go.RowKit (Below)
def c00 : Ctl := ⟨0, false, 0, 0, false⟩
theorem new_calm (fro : Int) : VFS.new = calm fro [] c00 := rfl
theorem logD_names {fro : Int} : ∀ {n : Nat}, 0 ≤ fro → fro + n ≤ 100000000 → Names (logD fro n)
  | 0, _, _ => by simp [Names, logD]
  | n + 1, h0, h1 => by
    have ih := logD_names (n := n) h0 (by omega)
    unfold Names at ih ⊢
    rw [logD_succ, List.map_append, List.nodup_append]
    refine ⟨ih, by simp, ?_⟩
    intro a ha b hb
    simp at hb
    subst hb
    simp [logD] at ha
    obtain ⟨i, hi, rfl⟩ := ha
    intro e
    have := nameT_inj (s := logB) (n := fro + i) (m := fro + n) (by unfold nameOKM; omega) (by unfold nameOKM; omega) e
    omega
theorem calm_small {fro : Int} {fs : List Bs} {c : Ctl} (hn : fs.length < 2 ^ 40) (hb : ∀ b ∈ fs, b.length < 2 ^ 40) : (calm fro fs c).small := by
  refine ⟨by simp [calm], by simpa [calm, logFs_length] using hn, fun F hF => ?_⟩
  obtain ⟨i, b, h1, rfl⟩ := logFs_mem hF
  have := hb b (List.mem_of_getElem? h1)
  exact ⟨by simp, this, this⟩
end Go.Proofs.YtadgciaclhjjkaaGreat
set_option linter.unusedVariables false
set_option linter.unusedSimpArgs false
set_option maxRecDepth 100000
set_option maxHeartbeats 1000000
namespace Go.Proofs.YtadgciaclhjjkaaGreat
open Go.RowKit (Below)
structure Quiet (c : Ctl) : Prop where
  off : c.off = false
  armed : c.armed = false
theorem Quiet.new : Quiet c00 := ⟨rfl, rfl⟩
theorem Quiet.ok {c : Ctl} (h : Quiet c) : c.call.1 = 0 := by unfold Ctl.call; rw [h.off, h.armed]; simp
theorem Quiet.next {c : Ctl} (h : Quiet c) : Quiet c.call.2 := by
  have h1 := h.off
  have h2 := h.armed
  unfold Ctl.call
  rw [h.off, h.armed]
  exact ⟨by simp [h1], by simp [h2]⟩
section
variable {fro : Int} {gs : List Bs} {x : Bs} {c : Ctl}
theorem fresh_small (hn : gs.length < 2 ^ 39) (hb : ∀ b ∈ gs, b.length < 2 ^ 40) : (fresh fro gs c).small := by
  refine ⟨by simp [fresh], by simp [fresh, logFs_length]; omega, fun F hF => ?_⟩
  obtain ⟨i, b, h1, rfl⟩ := logFs_mem hF
  have h2 := List.mem_of_getElem? h1
  have : b.length < 2 ^ 40 := by
    rcases List.mem_append.1 h2 with h | h
    · exact hb b h
    · simp at h; subst h; simp
  exact ⟨by simp, this, this⟩
theorem readyOK_absent (hc : c.call.1 = 0) (hc2 : c.call.2.call.1 = 0) (h0 : 0 ≤ fro) (h1 : fro < 100000000) : ReadyOK (calm fro [] c) ⟨fro, 0, 3⟩ := by
  have e1 := create_calm (gs := []) hc h0 (by simpa using h1) (by simp)
  have e2 := syncF_fresh (gs := []) hc2 h0 (by simpa using h1)
  simp only [List.length_nil, Int.natCast_zero, Int.add_zero, List.nil_append] at e1 e2
  have ea : readyA (calm fro [] c) ⟨fro, 0, 3⟩ = (0, fresh fro [] c.call.2) := by unfold readyA; simp [e1]
  have hf : (fresh fro [] c.call.2.call.2).small := fresh_small (by simp) (by simp)
  refine ⟨calm_small (by simp) (by simp), ?_, ?_⟩
  · rw [ea]; simp only; rw [e2]; exact hf
  · rw [ea]; simp only; rw [e2]; exact ⟨_, fresh_sync⟩
theorem readyOK_whole {en : Int} (hc : c.call.1 = 0) (h0 : 0 ≤ fro) (h1 : fro + gs.length < 100000000) (hn : gs.length < 2 ^ 39) (hb : ∀ b ∈ gs ++ [x], b.length < 2 ^ 40) : ReadyOK (calm fro (gs ++ [x]) c) ⟨fro + gs.length, en, 1⟩ := by
  have ea : readyA (calm fro (gs ++ [x]) c) ⟨fro + gs.length, en, 1⟩ = (0, calm fro (gs ++ [x]) c) := by unfold readyA; simp
  have e2 := syncF_calm (x := x) hc h0 h1
  have hs : ∀ c, (calm fro (gs ++ [x]) c).small := fun c => calm_small (by simp; omega) hb
  refine ⟨hs _, ?_, ?_⟩
  · rw [ea]; simp only; rw [e2]; exact hs _
  · rw [ea]; simp only; rw [e2]; exact ⟨_, rfl⟩
theorem readyOK_done {en : Int} (hc : c.call.1 = 0) (h0 : 0 ≤ fro) (h1 : fro + gs.length < 100000000) (hn : gs.length < 2 ^ 39) (hb : ∀ b ∈ gs ++ [x], b.length < 2 ^ 40) : ReadyOK (calm fro (gs ++ [x]) c) ⟨fro + gs.length, en, 0⟩ := by
  have ea : readyA (calm fro (gs ++ [x]) c) ⟨fro + gs.length, en, 0⟩ = (0, calm fro (gs ++ [x]) c) := by unfold readyA; simp
  have e2 := syncF_calm (x := x) hc h0 h1
  have hs : ∀ c, (calm fro (gs ++ [x]) c).small := fun c => calm_small (by simp; omega) hb
  refine ⟨hs _, ?_, ?_⟩
  · rw [ea]; simp only; rw [e2]; exact hs _
  · rw [ea]; simp only; rw [e2]; exact ⟨_, rfl⟩
theorem turnOK_calm {en w : Int} (hc : c.call.1 = 0) (h0 : 0 ≤ fro) (h1 : fro + gs.length + 1 < 100000000) (hm : gs.length + 1 < 1024) (hb : ∀ b ∈ gs ++ [x], b.length < 2 ^ 40) : TurnOK (calm fro (gs ++ [x]) c) ⟨fro + gs.length, en, w⟩ := by
  have e1 := create_calm (gs := gs ++ [x]) hc h0 (by simp; omega) (by simp; omega)
  have en : fro + ((gs ++ [x]).length : Int) = fro + gs.length + 1 := by simp; omega
  rw [en] at e1
  have hf : (fresh fro (gs ++ [x]) c.call.2).small := fresh_small (by simp; omega) hb
  refine ⟨calm_small (by simp; omega) hb, ?_, ?_⟩
  · simp only; rw [e1]; exact hf
  · simp only; rw [e1]; exact ⟨_, fresh_sync⟩
theorem full_calm {en w : Int} (h0 : 0 ≤ fro) (h1 : fro + gs.length < 100000000) : fullL (calm fro (gs ++ [x]) c) ⟨fro + gs.length, en, w⟩ = decide (4096 ≤ x.length) := by
  unfold fullL
  simp only
  rw [getL_calm h0 (by simp; omega)]
  simp
theorem appM_less {en w : Int} {r : RcD} (hr : RcGood r) (hc : c.call.1 = 0) (hc2 : c.call.2.call.1 = 0) (h0 : 0 ≤ fro) (h1 : fro + gs.length < 100000000) (hx : x.length < 4096) : appM (calm fro (gs ++ [x]) c) ⟨fro + gs.length, en, w⟩ r = (0, calm fro (gs ++ [x ++ recF r]) c.call.2.call.2, ⟨fro + gs.length, en, w⟩) := by
  have hT : appT (calm fro (gs ++ [x]) c) ⟨fro + gs.length, en, w⟩ = (0, calm fro (gs ++ [x]) c, ⟨fro + gs.length, en, w⟩) := by
    unfold appT
    rw [full_calm h0 h1, if_neg (by simp; omega)]
  have hp := hr.pos
  have hl := hr.len
  have hfl := recF_len hr
  unfold appM
  rw [hT]
  simp only
  rw [if_neg (by simp), if_neg (by omega)]
  exact appE_calm hc hc2 h0 h1 (by unfold recF at hfl; omega)
theorem appM_more {en w : Int} {r : RcD} (hr : RcGood r) (hc : c.call.1 = 0) (hc2 : c.call.2.call.1 = 0) (hc3 : c.call.2.call.2.call.1 = 0) (hc4 : c.call.2.call.2.call.2.call.1 = 0) (h0 : 0 ≤ fro) (h1 : fro + gs.length + 1 < 100000000) (hm : gs.length + 1 < 1024) (hx : 4096 ≤ x.length) :
    appM (calm fro (gs ++ [x]) c) ⟨fro + gs.length, en, w⟩ r = (0, calm fro (gs ++ [x] ++ [recF r]) c.call.2.call.2.call.2.call.2, ⟨fro + gs.length + 1, en, w⟩) := by
  have hT : appT (calm fro (gs ++ [x]) c) ⟨fro + gs.length, en, w⟩ = (0, calm fro (gs ++ [x] ++ [[]]) c.call.2.call.2, ⟨fro + gs.length + 1, en, w⟩) := by
    unfold appT
    rw [full_calm h0 (by omega), if_pos (by simp; omega)]
    exact turn_calm hc hc2 h0 h1 hm
  have hp := hr.pos
  have hl := hr.len
  have hfl := recF_len hr
  have he := appE_calm (gs := gs ++ [x]) (x := []) (fro := fro) (en := en) (w := w) (b := frameM (recB r)) hc3 hc4 h0 (by simp; omega) (by unfold recF at hfl; simp; omega)
  have en : fro + ((gs ++ [x]).length : Int) = fro + gs.length + 1 := by simp; omega
  rw [en] at he
  unfold appM
  rw [hT]
  simp only
  rw [if_neg (by simp), if_neg (by omega)]
  exact he
theorem appOK_calm {en w : Int} {r : RcD} (hr : RcGood r) (hc : c.call.1 = 0) (hc2 : c.call.2.call.1 = 0) (h0 : 0 ≤ fro) (h1 : fro + gs.length + 1 < 100000000) (hm : gs.length + 1 < 1024) (hb : ∀ b ∈ gs ++ [x], b.length < 2 ^ 40) : AppOK (calm fro (gs ++ [x]) c) ⟨fro + gs.length, en, w⟩ r := by
  have hfl := recF_len hr
  have hl := hr.len
  have hs : (calm fro (gs ++ [x]) c).small := calm_small (by simp; omega) hb
  refine ⟨fun F hF => (hs.2.2 F hF).2.1, ⟨by simp only; omega, by simp only; omega⟩, fun _ => turnOK_calm hc h0 h1 hm hb, ?_, by omega, by unfold recF at hfl; omega⟩
  unfold appT
  split
  · rw [turn_calm hc hc2 h0 h1 hm]
    refine calm_small (by simp; omega) fun b hbm => ?_
    rcases List.mem_append.1 hbm with h | h
    · exact hb b h
    · simp at h; subst h; simp
  · exact hs
end
/-! ### A log in order -/
structure LogIn (fro : Int) (rss : List (List RcD)) (rs : List RcD) (k : Nat) : Prop where
  lo : 0 ≤ fro
  hi : fro + k < 99999000
  most : k ≤ 500
  cnt : rss.length ≤ k
  recs : (rss.flatten ++ rs).length ≤ k
  good : ∀ r ∈ rss.flatten ++ rs, RcGood r ∧ (recB r).length ≤ 4000
theorem encL_len : ∀ {rs : List RcD}, (∀ r ∈ rs, RcGood r ∧ (recB r).length ≤ 4000) → (encL rs).length ≤ 4014 * rs.length
  | [], _ => by simp [encL]
  | r :: rs, h => by
    have h1 := h r (by simp)
    have h2 := recF_len h1.1
    have h3 := encL_len (rs := rs) fun x hx => h x (by simp [hx])
    have e : encL (r :: rs) = recF r ++ encL rs := rfl
    rw [e, List.length_append, List.length_cons]
    omega
theorem flatten_len_le {α : Type} {l : List α} : ∀ {L : List (List α)}, l ∈ L → l.length ≤ L.flatten.length
  | x :: L, h => by
    rw [List.flatten_cons, List.length_append]
    rcases List.mem_cons.1 h with rfl | h
    · omega
    · have := flatten_len_le h; omega
section
variable {fro : Int} {rss : List (List RcD)} {rs : List RcD} {k : Nat}
theorem LogIn.len (h : LogIn fro rss rs k) {b : Bs} (hb : b ∈ filesL rss rs []) : b.length ≤ 2007000 := by
  have hrec := h.recs
  have hk := h.most
  rw [List.length_append] at hrec
  unfold filesL at hb
  rcases List.mem_append.1 hb with hb | hb
  · obtain ⟨l, hl, rfl⟩ := List.mem_map.1 hb
    have h1 := encL_len (rs := l) fun r hr => h.good r (List.mem_append_left _ (List.mem_flatten.2 ⟨l, hl, hr⟩))
    have h2 := flatten_len_le hl
    omega
  · simp at hb
    subst hb
    have h1 := encL_len (rs := rs) fun r hr => h.good r (List.mem_append_right _ hr)
    omega
theorem LogIn.gss (h : LogIn fro rss rs k) : ∀ l ∈ rss, ∀ r ∈ l, RcGood r := fun l hl r hr => (h.good r (List.mem_append_left _ (List.mem_flatten.2 ⟨l, hl, hr⟩))).1
theorem LogIn.grs (h : LogIn fro rss rs k) : ∀ r ∈ rs, RcGood r := fun r hr => (h.good r (List.mem_append_right _ hr)).1
theorem LogIn.len40 (h : LogIn fro rss rs k) : ∀ b ∈ rss.map encL ++ [encL rs], b.length < 2 ^ 40 := fun b hb => by
  have := h.len (b := b) (by unfold filesL; rw [List.append_nil]; exact hb)
  omega
def nextL (rss : List (List RcD)) (rs : List RcD) (r : RcD) : List (List RcD) × List RcD := if 4096 ≤ (encL rs).length then (rss ++ [rs], [r]) else (rss, rs ++ [r])
theorem nextL_all (rss : List (List RcD)) (rs : List RcD) (r : RcD) : (nextL rss rs r).1.flatten ++ (nextL rss rs r).2 = (rss.flatten ++ rs) ++ [r] := by
  unfold nextL
  split <;> simp
theorem LogIn.next (h : LogIn fro rss rs k) {r : RcD} (hr : RcGood r) (hl : (recB r).length ≤ 4000) (hk : k + 1 ≤ 500) (hhi : fro + (k + 1 : Nat) < 99999000) : LogIn fro (nextL rss rs r).1 (nextL rss rs r).2 (k + 1) := by
  refine ⟨h.lo, hhi, hk, ?_, ?_, ?_⟩
  · have := h.cnt
    unfold nextL
    split
    · simp; omega
    · simp only; omega
  · rw [nextL_all, List.length_append]
    have := h.recs
    simp only [List.length_cons, List.length_nil]
    omega
  · rw [nextL_all]
    intro x hx
    rcases List.mem_append.1 hx with hx | hx
    · exact h.good x hx
    · simp at hx; subst hx; exact ⟨hr, hl⟩
theorem LogIn.turn (h : LogIn fro rss rs k) (hk : k + 1 ≤ 500) (hhi : fro + (k + 1 : Nat) < 99999000) : LogIn fro (rss ++ [rs]) [] (k + 1) := by
  have h1 := h.cnt
  have h2 := h.recs
  exact ⟨h.lo, hhi, hk, by simp; omega, by simp at h2 ⊢; omega, fun r hr => h.good r (by simpa using hr)⟩
theorem filesL_now (rss : List (List RcD)) (rs : List RcD) : filesL rss rs [] = rss.map encL ++ [encL rs] := by unfold filesL; rw [List.append_nil]
end
/-- A log in order, ready. -/
structure LogS (s : Heap) (f lp : Nat) (fro : Int) (rss : List (List RcD)) (rs : List RcD) (k : Nat) : Prop where
  inn : LogIn fro rss rs k
  fs : ∃ c, Quiet c ∧ FSAt s f (calm fro (filesL rss rs []) c)
  log : ∃ en, LogAt s lp f ⟨fro + rss.length, en, 0⟩
theorem LogIn.more {fro : Int} {rss : List (List RcD)} {rs : List RcD} {k : Nat} (h : LogIn fro rss rs k) {j : Nat} (hj : k ≤ j) (h5 : j ≤ 500) (hhi : fro + j < 99999000) : LogIn fro rss rs j := ⟨h.lo, hhi, h5, by have := h.cnt; omega, by have := h.recs; omega, h.good⟩
theorem LogS.new {s s' : Heap} {f lp : Nat} {fro : Int} {rss : List (List RcD)} {rs : List RcD} {k : Nat} (h : LogS s f lp fro rss rs k) (hk : New s s') : LogS s' f lp fro rss rs k := by
  obtain ⟨h1, ⟨c, h2, h3⟩, en, h4⟩ := h
  exact ⟨h1, ⟨c, h2, h3.keep (hk.to fun _ => True) (by simp)⟩, en, h4.new hk⟩
theorem LogS.more {s : Heap} {f lp : Nat} {fro : Int} {rss : List (List RcD)} {rs : List RcD} {k j : Nat} (h : LogS s f lp fro rss rs k) (hj : k ≤ j) (h5 : j ≤ 500) (hhi : fro + j < 99999000) : LogS s f lp fro rss rs j := ⟨h.inn.more hj h5 hhi, h.fs, h.log⟩
section
variable {W0 : World} {st : Heap} {f lp : Nat} {fro : Int} {rss : List (List RcD)} {rs : List RcD} {k : Nat}
theorem LogS.append (h : LogS st f lp fro rss rs k) {cs : List Value} {r : RcD} (hR : RcAt st cs r) (hr : RcGood r) (hl : (recB r).length ≤ 4000) (hk : k + 1 ≤ 500) (hhi : fro + (k + 1 : Nat) < 99999000) :
    ICalls Tryz.prog W0 34 #[ptr lp, .agg cs.toArray] st fun e st' => e = .returned (Val.i 0) ∧ LogS st' f lp fro (nextL rss rs r).1 (nextL rss rs r).2 (k + 1) ∧ Keep (OutL f lp) st st' := by
  obtain ⟨hin, ⟨c, hq, hF⟩, en, hL⟩ := h
  have hin' := hin.next hr hl hk hhi
  have hcnt := hin.cnt
  have hq1 := hq.next
  have hq2 := hq1.next
  have hq3 := hq2.next
  have hhi0 := hin.hi
  have hok := appOK_calm (gs := rss.map encL) (x := encL rs) (c := c) (fro := fro) (en := en) (w := 0) hr hq.ok hq1.ok hin.lo (by simp; omega) (by simp; omega) hin.len40
  rw [filesL_now] at hF
  rw [List.length_map] at hok
  refine (LogAppend_spec hF hL hR hr.fits hr.rc hok).mono ?_
  rintro e s' ⟨he, hF', hL', hk'⟩
  by_cases hx : 4096 ≤ (encL rs).length
  · have hm := appM_more (gs := rss.map encL) (x := encL rs) (c := c) (fro := fro) (en := en) (w := 0) hr hq.ok hq1.ok hq2.ok hq3.ok hin.lo (by simp; omega) (by simp; omega) hx
    rw [List.length_map] at hm
    rw [hm] at he hF' hL'
    have hn : nextL rss rs r = (rss ++ [rs], [r]) := by unfold nextL; rw [if_pos hx]
    rw [hn] at hin' ⊢
    refine ⟨he, ⟨hin', ⟨_, hq3.next, ?_⟩, en, ?_⟩, hk'⟩
    · have e : filesL (rss ++ [rs]) [r] [] = rss.map encL ++ [encL rs] ++ [recF r] := by simp [filesL, encL]
      simp only
      rw [e]
      exact hF'
    · simp only [List.length_append, List.length_cons, List.length_nil]
      have e : fro + ((rss.length + (0 + 1) : Nat) : Int) = fro + rss.length + 1 := by omega
      rw [e]
      exact hL'
  · have hm := appM_less (gs := rss.map encL) (x := encL rs) (c := c) (fro := fro) (en := en) (w := 0) hr hq.ok hq1.ok hin.lo (by simp; omega) (by omega)
    rw [List.length_map] at hm
    rw [hm] at he hF' hL'
    have hn : nextL rss rs r = (rss, rs ++ [r]) := by unfold nextL; rw [if_neg hx]
    rw [hn] at hin' ⊢
    refine ⟨he, ⟨hin', ⟨_, hq1.next, ?_⟩, en, hL'⟩, hk'⟩
    have e : filesL rss (rs ++ [r]) [] = rss.map encL ++ [encL rs ++ recF r] := by simp [filesL, encL_snoc]
    simp only
    rw [e]
    exact hF'
theorem LogS.turn (h : LogS st f lp fro rss rs k) (hk : k + 1 ≤ 500) (hhi : fro + (k + 1 : Nat) < 99999000) :
    ICalls Tryz.prog W0 33 #[ptr lp] st fun e st' => e = .returned (Val.i 0) ∧ LogS st' f lp fro (rss ++ [rs]) [] (k + 1) ∧ Keep (OutL f lp) st st' := by
  obtain ⟨hin, ⟨c, hq, hF⟩, en, hL⟩ := h
  have hcnt := hin.cnt
  have hhi0 := hin.hi
  have hok := turnOK_calm (gs := rss.map encL) (x := encL rs) (c := c) (fro := fro) (en := en) (w := 0) hq.ok hin.lo (by simp; omega) (by simp; omega) hin.len40
  have hm := turn_calm (gs := rss.map encL) (x := encL rs) (c := c) (fro := fro) (en := en) (w := 0) hq.ok hq.next.ok hin.lo (by simp; omega) (by simp; omega)
  rw [List.length_map] at hok hm
  rw [filesL_now] at hF
  have hlo := hin.lo
  refine (Turn_spec hF hL (by simp only; omega) hok).mono ?_
  rintro e s' ⟨he, hF', hL', hk'⟩
  rw [hm] at he hF' hL'
  refine ⟨he, ⟨hin.turn hk hhi, ⟨_, hq.next.next, ?_⟩, en, ?_⟩, hk'⟩
  · have e : filesL (rss ++ [rs]) [] [] = rss.map encL ++ [encL rs] ++ [[]] := by simp [filesL, encL]
    rw [e]
    exact hF'
  · simp only [List.length_append, List.length_cons, List.length_nil]
    have e : fro + ((rss.length + (0 + 1) : Nat) : Int) = fro + rss.length + 1 := by omega
    rw [e]
    exact hL'
theorem calm_cap {fs : List Bs} {c : Ctl} (h0 : 0 ≤ fro) (h1 : fro + fs.length ≤ 100000000) : ∀ n : Int, fro + fs.length ≤ n → getL (calm fro fs c) n = none := fun n hn => by
  have := getL_calm (fs := fs) (c := c) h0 h1 (n - fro).toNat
  rw [show fro + ((n - fro).toNat : Int) = n by omega] at this
  rw [this]
  simp
  omega
theorem rows_out {st st' : Heap} {lp f t : Nat} {L : LogD} {v : Value} {cs : List Value} {rs : List RcD} {n : Nat} (hN : New st st') (hlp : st lp = none) (hL : LogAt st' lp f L) (hF : Fresh st v) (hV : Vec st' (.own t 0 125) 18 v cs n) (hR : RcsAt st' cs rs) : ∃ s2, Heap.Le s2 st' ∧ New st s2 ∧ LogAt s2 lp f L ∧ Vec s2 (.ty 1) 18 v cs n ∧ RcsAt s2 cs rs := by
  obtain ⟨h1, base, cap, rfl, h3, h4⟩ := hV
  rcases h4 with ⟨b, m, rfl, hb, hm⟩ | ⟨rfl, hc⟩
  · have hbn : st b = none := hF b _ _ _ rfl
    have hne : lp ≠ b := by
      rintro rfl
      unfold LogAt at hL
      rw [hL] at hb
      injection hb with hb
      injection hb with _ _ _ hb
      injection hb with _ _ hb
      omega
    refine ⟨upd st' b (.cells true cs m (.ty 1)), .retag hb, fun k o hk => ?_, ?_, ⟨h1, _, _, rfl, h3, .inl ⟨b, m, rfl, upd_same _ _ _, hm⟩⟩, hR.free (keepP hb (by intro h; exact h _ _ _ rfl))⟩
    · rw [upd_ne _ _ (by rintro rfl; rw [hbn] at hk; cases hk)]; exact hN _ _ hk
    · unfold LogAt at hL ⊢
      rw [upd_ne _ _ hne]; exact hL
  · exact ⟨st', .rfl' _, hN, hL, ⟨h1, none, cap, rfl, h3, .inr ⟨rfl, hc⟩⟩, hR⟩
/-- A log over files in order, opened; with what is torn behind. -/
theorem open_calm {t : Bs} {c : Ctl} (hF : FSAt st f (calm fro (filesL rss rs t) c)) (h : LogIn fro rss rs k) (ht : Torn t) (htl : t.length ≤ 5000) : ICalls Tryz.prog W0 30 #[ptr f, Val.i fro] st fun e st' => New st st' ∧ ∃ lp v cs, e = .returned (.tuple #[ptr lp, v, Val.i 0]) ∧ st lp = none ∧ LogAt st' lp f ⟨fro + rss.length, (encL rs).length, if t = [] then 1 else 2⟩ ∧ Vec st' (.ty 1) 18 v cs (rss.flatten ++ rs).length ∧ RcsAt st' cs ((rss.flatten ++ rs).map plainR) := by
  have hlo := h.lo
  have hhi := h.hi
  have hk := h.most
  have hcnt := h.cnt
  have hfl : (filesL rss rs t).length = rss.length + 1 := filesL_length _ _ _
  have hb : ∀ b ∈ filesL rss rs t, b.length ≤ 2012000 := fun b hbm => by
    unfold filesL at hbm
    rcases List.mem_append.1 hbm with hbm | hbm
    · have := h.len (b := b) (by unfold filesL; exact List.mem_append_left _ hbm)
      omega
    · simp at hbm
      subst hbm
      have := h.len (b := encL rs) (by unfold filesL; simp)
      rw [List.length_append]
      omega
  refine ICalls.post ((Open_spec (A := 501) (B := 2012000) hF (fun F hF => ?_) (by omega) (by omega) (by omega) (fun n hn => calm_cap hlo (by omega) n (by omega))).mono ?_)
  · obtain ⟨i, b, h1, rfl⟩ := logFs_mem hF
    exact hb b (List.mem_of_getElem? h1)
  rintro e s' ⟨hN, hm⟩
  rw [if_pos (show nameOKM fro by unfold nameOKM; omega)] at hm
  rw [calm_open hlo (by omega) h.gss h.grs ht _ (fun i => getL_calm hlo (by omega) i)] at hm
  obtain ⟨lp, v, cs, rfl, hlp, hL, ⟨t, ht, hFr, hV⟩, hR⟩ := hm
  rw [List.length_map] at hV
  obtain ⟨s2, hle, hN2, hL2, hV2, hR2⟩ := rows_out hN hlp hL hFr hV hR
  exact ⟨s2, hle, hN2, lp, v, cs, rfl, hlp, hL2, hV2, hR2⟩
theorem open_new {c : Ctl} (hF : FSAt st f (calm fro [] c)) (h0 : 0 ≤ fro) (h1 : fro < 99999000) : ICalls Tryz.prog W0 30 #[ptr f, Val.i fro] st fun e st' => New st st' ∧ ∃ lp b n, e = .returned (.tuple #[ptr lp, .slice b 0 n, Val.i 0]) ∧ st lp = none ∧ LogAt st' lp f ⟨fro, 0, 3⟩ := by
  refine (Open_spec (A := 0) (B := 0) hF (fun F hF => by simp [calm, logFs] at hF) (by omega) (by omega) (by omega) (fun n hn => calm_cap h0 (by simp; omega) n (by simpa using hn))).mono ?_
  rintro e s' ⟨hN, hm⟩
  rw [if_pos (show nameOKM fro by unfold nameOKM; omega)] at hm
  have hg := getL_calm (fro := fro) (fs := []) (c := c) h0 (by simp; omega) 0
  rw [show fro + ((0 : Nat) : Int) = fro by omega] at hg
  rw [calm_none _ (by simpa using hg)] at hm
  obtain ⟨lp, v, cs, rfl, hlp, hL, ⟨t, ht, hFr, hV⟩, hR⟩ := hm
  obtain ⟨b, n, rfl⟩ := hV.slice
  exact ⟨hN, lp, b, n, rfl, hlp, hL⟩
theorem ready_new {c : Ctl} (hq : Quiet c) (hF : FSAt st f (calm fro [] c)) (hL : LogAt st lp f ⟨fro, 0, 3⟩) (h0 : 0 ≤ fro) (h1 : fro < 99998000) : ICalls Tryz.prog W0 32 #[ptr lp] st fun e st' => e = .returned (Val.i 0) ∧ LogS st' f lp fro [] [] 0 ∧ Keep (OutL f lp) st st' := by
  refine (Ready_spec hF hL (readyOK_absent hq.ok hq.next.ok h0 (by omega))).mono ?_
  rintro e s' ⟨he, hF', hL', hk'⟩
  rw [ready_absent hq.ok hq.next.ok hq.next.next.ok h0 (by omega)] at he hF' hL'
  refine ⟨he, ⟨⟨h0, by omega, by omega, by simp, by simp, by simp⟩, ⟨_, hq.next.next.next, ?_⟩, 0, ?_⟩, hk'⟩
  · simpa [filesL, encL] using hF'
  · simpa using hL'
theorem ready_again (h : LogS st f lp fro rss rs k) : ICalls Tryz.prog W0 32 #[ptr lp] st fun e st' => e = .returned (Val.i 0) ∧ LogS st' f lp fro rss rs k ∧ Keep (OutL f lp) st st' := by
  obtain ⟨hin, ⟨c, hq, hF⟩, en, hL⟩ := h
  have hcnt := hin.cnt
  have hmost := hin.most
  have hhi := hin.hi
  have hF' := hF
  rw [filesL_now] at hF'
  have hok := readyOK_done (gs := rss.map encL) (x := encL rs) (c := c) (fro := fro) (en := en) hq.ok hin.lo (by simp; omega) (by simp; omega) hin.len40
  rw [List.length_map] at hok
  refine (Ready_spec hF' hL hok).mono ?_
  rintro e s' ⟨he, hG, hL', hk'⟩
  rw [ready_done _ rfl] at he hG hL'
  rw [← filesL_now] at hG
  exact ⟨he, ⟨hin, ⟨c, hq, hG⟩, en, hL'⟩, hk'⟩
end
end Go.Proofs.YtadgciaclhjjkaaGreat
set_option linter.unusedVariables false
set_option linter.unusedSimpArgs false
set_option maxRecDepth 100000
set_option maxHeartbeats 4000000
namespace Go.Proofs.YtadgciaclhjjkaaGreat
open Go.RowKit (Below)
theorem of_freeL {f lp : Nat} : ∀ g, Free g → OutL f lp g := fun g hg => ⟨fun x r => hg f x r, fun x r => hg lp x r⟩
theorem rcs_one {st : Heap} {cs : List Value} {r : RcD} (h : RcsAt st cs [r]) : RcAt st cs r := by
  have h1 := h.1
  have := h.2 0 r rfl
  rwa [Nat.zero_mul, List.drop_zero, List.take_of_length_le (by simp at h1; omega)] at this
theorem RcAt.parts {st : Heap} {cs : List Value} {r : RcD} (h : RcAt st cs r) : ∃ lb hb hc kb kc kl lc hl ll rest, cs = [Val.i r.seq, Val.i r.kind, .slice lb ll lc, Val.i r.row.at_, .slice hb hl hc, .slice kb kl kc] ++ rest ∧ rest.length = 12 := by
  obtain ⟨rs, ts, rfl, h1, h2⟩ := h
  obtain ⟨lb, lc, hb, hc, kb, kc, rfl, _, _⟩ := h1.eight
  obtain ⟨a0, a1, a2, a3, a4, rfl, hm⟩ := h2.eight
  exact ⟨_, _, _, _, _, _, _, _, _, _, rfl, rfl⟩
section
variable {W0 : World} {st : Heap}
theorem walName_seven : nameT ⟨#[108, 111, 103, 45]⟩ 7 = ⟨#[108, 111, 103, 45, 48, 48, 48, 48, 48, 48, 48, 55]⟩ := by decide
theorem awake17_spec : ICalls Tryz.prog W0 20 #[] st fun e st' => e = .returned (.bool true) ∧ Keep Free st st' := by
  refine enter (args := []) Tryz.func20 rfl ?_
  simp [Tryz.f20, go_sem]
  refine New_spec.mono ?_
  rintro e st1 ⟨f, rfl, hfn, hf1, hk1⟩
  have K1 : Keep Free st st1 := hk1.imp fun _ _ => trivial
  simp [go_sem]
  rw [new_calm 1] at hf1
  refine (open_new hf1 (by omega) (by omega)).mono ?_
  rintro e st2 ⟨hN2, lp, b2, n2, rfl, hlp, hL2⟩
  have K2 := K1.trans (hN2.to _)
  have hf2 := hf1.keep (hN2.to fun _ => True) (by simp)
  simp [go_sem]
  refine (ready_new Quiet.new hf2 hL2 (by omega) (by omega)).mono ?_
  rintro e st3 ⟨rfl, hS3, hk3⟩
  have K3 := K2.trans (hk3.imp of_freeL)
  simp [go_sem]
  refine rec_spec.mono ?_
  rintro e st4 ⟨hN4, cs4, l4, rfl, hR4, hG4⟩
  have K4 := K3.trans (hN4.to _)
  have hS4 := hS3.new hN4
  have z1 : I64 1 := ⟨by omega, by omega⟩
  have z5 : I64 5 := ⟨by omega, by omega⟩
  have hlen := lawR_len z1 z5 hG4
  simp [go_sem]
  refine (hS4.append hR4 (lawR_good z1 z5 hG4) (by omega) (by omega) (by omega)).mono ?_
  rintro e st5 ⟨rfl, hS5, hk5⟩
  have K5 := K4.trans (hk5.imp of_freeL)
  have hnx : nextL [] [] (lawR 1 5 l4) = ([], [lawR 1 5 l4]) := rfl
  rw [hnx] at hS5
  simp only at hS5
  obtain ⟨hin5, ⟨c5, hq5, hF5⟩, en5, hL5⟩ := hS5
  simp [go_sem]
  refine (open_calm hF5 hin5 Torn.nil (by simp)).mono ?_
  rintro e st6 ⟨hN6, lp6, v6, cs6, rfl, hlp6, hL6, hV6, hR6⟩
  have K6 := K5.trans (hN6.to _)
  simp only [List.flatten_nil, List.nil_append, List.map_cons, List.map_nil, lawR_plain, List.length_cons, List.length_nil] at hV6 hR6
  obtain ⟨b6, n6, rfl⟩ := hV6.slice
  have hone := rcs_one hR6
  obtain ⟨lb, hb, hc, kb, kc, kl, lc, hl, ll, rest, hcs, hrest⟩ := hone.parts
  have hV6' := hV6
  obtain ⟨w1, wb, wc, we, w3, w4⟩ := hV6'
  injection we with we1 we2 we3
  subst we1; subst we3
  have hrl : (lawR 1 5 l4).seq = 1 := rfl
  have hra : (lawR 1 5 l4).row.at_ = 5 := rfl
  rw [hrl, hra] at hcs
  subst hcs
  rcases w4 with ⟨bb, nn, rfl, hbb, hnn⟩ | ⟨w5, w6⟩
  · simp [go_sem, hbb]
    refine walName_exact.mono ?_
    rintro e st7 ⟨rfl, k7⟩
    simp [go_sem, walName_seven]
    exact K6.trans (k7.to _)
  · omega
end
end Go.Proofs.YtadgciaclhjjkaaGreat
set_option linter.unusedVariables false
set_option linter.unusedSimpArgs false
set_option maxRecDepth 100000
set_option maxHeartbeats 1000000
namespace Go.Proofs.YtadgciaclhjjkaaGreat
open Go.RowKit (Below)
theorem ltT_swo : Go.Sort.SWO ltT := ⟨fun x => by cases h : ltT x x with | false => rfl | true => exact absurd (ltT_ok.1 _ _ h) (by rw [h]; simp), fun x y z h1 h2 => by
  cases h : ltT x z with
  | true => rfl
  | false => exact absurd (ltT_ok.trans y z x (ltT_ok.1 _ _ h2) h) (by rw [h1]; simp), fun x y z h1 h2 => ltT_ok.trans z y x h2 h1⟩
/-- The cells of a row of strings. -/
def cellsAS (d : Array ByteArray) : List Value := d.toList.map .string
theorem cellsA_lengthS (d : Array ByteArray) : (cellsAS d).length = d.size := by simp [cellsAS]
theorem cellsA_getS {d : Array ByteArray} {i : Nat} (h : i < d.size) : (cellsAS d)[i]? = some (.string d[i]!) := by
  unfold cellsAS
  rw [List.getElem?_map, Array.getElem?_toList, Array.getElem?_eq_getElem h, getElem!_pos d i h]
  rfl
theorem cellsA_elemS {d : Array ByteArray} {i : Nat} (h : i < (cellsAS d).length) : (cellsAS d)[i] = .string d[i]! := by
  have h1 := cellsA_getS (d := d) (i := i) (by rw [← cellsA_lengthS]; exact h)
  rw [List.getElem?_eq_getElem h] at h1
  exact Option.some.inj h1
theorem cellsA_setS (d : Array ByteArray) (i : Nat) (x : ByteArray) : (cellsAS d).set i (.string x) = cellsAS (d.setIfInBounds i x) := by
  unfold cellsAS
  rw [Array.toList_setIfInBounds, List.map_set]
theorem cellsA_swpS (d : Array ByteArray) (i j : Nat) : ((cellsAS d).set i (.string d[j]!)).set j (.string d[i]!) = cellsAS (Go.Sort.swp d i j) := by
  rw [cellsA_setS, cellsA_setS]
  rfl
section
variable {W0 : World} {st : Heap}
theorem insS_spec {b N cap lo hi : Nat} {d : Array ByteArray} {g : Tg} (h : st b = some (.cells true (cellsAS d) N g)) (hN : d.size ≤ N) (hn : d.size < 2 ^ 50) (hlo : lo ≤ d.size) (hhi : hi ≤ d.size) :
    ICalls Tryz.prog W0 195 #[.slice (some ⟨b, 0, none⟩) d.size cap, Val.i lo, Val.i hi] st fun e st' => e = .returned (.tuple #[]) ∧ st' = upd st b (.cells true (cellsAS (Go.Sort.insertionSort ltT d lo hi)) N g) := by
  refine enter (args := [_, _, _]) Tryz.func195 rfl ?_
  have hwl : IntKind.i64.wrap ((lo : Int) + 1) = (lo : Int) + 1 := wrap_id (by omega) (by omega)
  simp [Tryz.f195, go_sem, hwl]
  refine ⟨fun E st' => E 0 = .slice (some ⟨b, 0, none⟩) d.size cap ∧ E 1 = Val.i lo ∧ E 2 = Val.i hi ∧ ∃ (i : Nat) (d1 : Array ByteArray), E 6 = Val.i (i : Int) ∧ lo + 1 ≤ i ∧ (i ≤ hi ∨ i = lo + 1) ∧ d1.size = d.size ∧ st' = upd st b (.cells true (cellsAS d1) N g) ∧ Go.Sort.insOuter ltT lo hi i d1 = Go.Sort.insertionSort ltT d lo hi,
    fun E _ => match E 6 with | .int _ i => hi - i.toNat | _ => 0, ⟨st, .rfl' _, by simp [go_sem], by simp [go_sem], by simp [go_sem], lo + 1, d, by simp [go_sem], by omega, .inr rfl, rfl, (upd_self h).symm, rfl⟩, ?_⟩
  rintro E st' ⟨e0, e1, e2, i, d1, e6, hi1, hi2, hd1, rfl, hs⟩
  by_cases hlt : i < hi
  · have hlt' : ((i : Int) < hi) = True := eq_true (by omega)
    have hwi : IntKind.i64.wrap ((i : Int) + 1) = (i : Int) + 1 := wrap_id (by omega) (by omega)
    rw [Go.Sort.insOuter, if_pos hlt] at hs
    simp [go_sem, e0, e1, e2, e6, hlt', hlt]
    refine ⟨fun E st' => E 0 = .slice (some ⟨b, 0, none⟩) d.size cap ∧ E 1 = Val.i lo ∧ E 2 = Val.i hi ∧ E 6 = Val.i (i : Int) ∧ ∃ (j : Nat) (m : Array ByteArray), E 7 = Val.i (j : Int) ∧ j ≤ i ∧ m.size = d.size ∧ st' = upd st b (.cells true (cellsAS m) N g) ∧ Go.Sort.insInner ltT lo j m = Go.Sort.insInner ltT lo i d1,
      fun E _ => match E 7 with | .int _ j => j.toNat | _ => 0, ⟨_, .rfl' _, by simp [go_sem, e0], by simp [go_sem, e1], by simp [go_sem, e2], by simp [go_sem, e6], i, d1, by simp [go_sem, e6], Nat.le_refl _, hd1, rfl, rfl⟩, ?_⟩
    clear e0 e1 e2 e6
    clear E
    rintro E st' ⟨e0, e1, e2, e6, j, m, e7, hji, hm, rfl, hdn⟩
    have hml := cellsA_lengthS m
    simp [go_sem]
    refine draw [0, 1, 2, 3, 4, 5, 6, 8, 9, 10, 11, 7, 12, 13, 14] (by kernel_rfl) ?_
    by_cases hj : lo < j
    · obtain ⟨j', rfl⟩ : ∃ j', j = j' + 1 := ⟨j - 1, by omega⟩
      have q1 : ((lo : Int) < (j' : Int) + 1) = True := eq_true (by omega)
      have hwj : IntKind.i64.wrap (j' : Int) = (j' : Int) := wrap_id (by omega) (by omega)
      have b1 : ((0 : Int) ≤ (j' : Int) + 1) = True := eq_true (by omega)
      have b2 : ((j' : Int) + 1 < d.size) = True := eq_true (by omega)
      have b3 : ((j' : Int) < d.size) = True := eq_true (by omega)
      have b4 : ((j' : Int) + 1).toNat = j' + 1 := by omega
      have b5 : j' + 1 < d.size := by omega
      have b6 : j' < d.size := by omega
      have hq : lo < j' + 1 := hj
      obtain ⟨x, hx⟩ : ∃ x, m[j' + 1]! = x := ⟨_, rfl⟩
      obtain ⟨y, hy⟩ : ∃ y, m[j']! = y := ⟨_, rfl⟩
      have hset := cellsA_swpS m (j' + 1) j'
      rw [hx, hy] at hset
      have gx : ∀ h : j' + 1 < (cellsAS m).length, (cellsAS m)[j' + 1] = .string x := fun h => by rw [← hx]; exact cellsA_elemS h
      have gy : ∀ h : j' < (cellsAS m).length, (cellsAS m)[j'] = .string y := fun h => by rw [← hy]; exact cellsA_elemS h
      simp [go_sem, e0, e1, e2, e6, e7, q1, hq, hwj, b1, b2, b3, b4, b5, b6, gx, gy, hml, hm, upd_same]
      refine cmpLess_spec.mono ?_
      rintro e s2 ⟨rfl, rfl⟩
      have hL : Go.Sort.insInner ltT lo (j' + 1) m = if ltT m[j' + 1]! m[j']! = true then Go.Sort.insInner ltT lo j' (Go.Sort.swp m (j' + 1) j') else m := by
        rw [Go.Sort.insInner]
        simp [hq]
      rw [hL, hx, hy] at hdn
      by_cases hc : ltT x y = true
      · rw [if_pos hc] at hdn
        simp [go_sem, e0, e1, e2, e6, e7, hc]
        refine draw [0, 1, 2, 3, 4, 5, 6, 7, 8, 10, 11, 12, 9, 13, 14, 15, 16, 17] (by kernel_rfl) ?_
        have b7 : j' + 1 ≤ d.size := by omega
        have b8 : j' + 1 < N := by omega
        have b9 : j' < N := by omega
        have b10 : j' ≤ d.size := by omega
        simp [go_sem, e0, e1, e2, e6, e7, q1, hq, hwj, b1, b2, b3, b4, b5, b6, b7, b8, b9, b10, gx, gy, hml, hm, upd_same, hset]
        exact ⟨_, .rfl' _, j', by simp, by omega, Go.Sort.swp m (j' + 1) j', by rw [Go.Sort.size_swp, hm], rfl, hdn⟩
      · rw [if_neg hc] at hdn
        have hc' : ltT x y = false := by simpa using hc
        simp [go_sem, e0, e1, e2, e6, e7, hc', hwi]
        rw [← hdn] at hs
        exact ⟨_, .rfl' _, ⟨i + 1, by simp, by omega, by omega, m, hm, rfl, hs⟩, by omega⟩
    · have q1 : ((lo : Int) < (j : Int)) = False := eq_false (by omega)
      have hL : Go.Sort.insInner ltT lo j m = m := by
        cases j with
        | zero => rfl
        | succ j => rw [Go.Sort.insInner]; simp [show ¬ (j + 1 > lo) by omega]
      rw [hL] at hdn
      simp [go_sem, e0, e1, e2, e6, e7, q1, hj, hwi]
      rw [← hdn] at hs
      exact ⟨_, .rfl' _, ⟨i + 1, by simp, by omega, by omega, m, hm, rfl, hs⟩, by omega⟩
  · have hlt' : ((i : Int) < hi) = False := eq_false (by omega)
    rw [Go.Sort.insOuter, if_neg hlt] at hs
    simp [go_sem, e0, e1, e2, e6, hlt', hlt]
    rw [hs]
end
end Go.Proofs.YtadgciaclhjjkaaGreat
set_option linter.unusedVariables false
set_option linter.unusedSimpArgs false
set_option maxRecDepth 100000
set_option maxHeartbeats 4000000
namespace Go.Proofs.YtadgciaclhjjkaaGreat
open Go.RowKit (Below)
section
variable {W0 : World} {st : Heap}
theorem siftS_spec {b N cap lo hi first : Nat} {d : Array ByteArray} {g : Tg} (h : st b = some (.cells true (cellsAS d) N g)) (hN : d.size ≤ N) (hn : d.size < 2 ^ 50) (hlo : lo ≤ d.size) (hhi : first + hi ≤ d.size) :
    ICalls Tryz.prog W0 232 #[.slice (some ⟨b, 0, none⟩) d.size cap, Val.i lo, Val.i hi, Val.i first] st fun e st' => e = .returned (.tuple #[]) ∧ st' = upd st b (.cells true (cellsAS (Go.Sort.siftDown ltT hi first lo d)) N g) := by
  refine enter (args := [_, _, _, _]) Tryz.func232 rfl ?_
  simp [Tryz.f232, go_sem]
  refine ⟨fun E st' => E 0 = .slice (some ⟨b, 0, none⟩) d.size cap ∧ E 2 = Val.i hi ∧ E 3 = Val.i first ∧ ∃ (root : Nat) (m : Array ByteArray), E 8 = Val.i (root : Int) ∧ root ≤ d.size ∧ m.size = d.size ∧ st' = upd st b (.cells true (cellsAS m) N g) ∧ Go.Sort.siftDown ltT hi first root m = Go.Sort.siftDown ltT hi first lo d,
    fun E _ => match E 8 with | .int _ i => d.size - i.toNat | _ => 0, ⟨st, .rfl' _, by simp [go_sem], by simp [go_sem], by simp [go_sem], lo, d, by simp [go_sem], hlo, rfl, (upd_self h).symm, rfl⟩, ?_⟩
  rintro E st' ⟨e0, e2, e3, root, m, e8, hr, hm, rfl, hs⟩
  have hml := cellsA_lengthS m
  have hw1 : IntKind.i64.wrap (2 * (root : Int)) = 2 * (root : Int) := wrap_id (by omega) (by omega)
  have hw2 : IntKind.i64.wrap (2 * (root : Int) + 1) = 2 * (root : Int) + 1 := wrap_id (by omega) (by omega)
  have hw3 : IntKind.i64.wrap (2 * (root : Int) + 1 + 1) = 2 * (root : Int) + 1 + 1 := wrap_id (by omega) (by omega)
  rw [Go.Sort.siftDown] at hs
  by_cases c1 : hi ≤ 2 * root + 1
  · have q1 : ((hi : Int) ≤ 2 * (root : Int) + 1) = True := eq_true (by omega)
    rw [dif_pos c1] at hs
    simp [go_sem, e0, e2, e3, e8, hw1, hw2, q1, c1]
    rw [hs]
  have q1 : ((hi : Int) ≤ 2 * (root : Int) + 1) = False := eq_false (by omega)
  rw [dif_neg (by omega)] at hs
  simp [go_sem, e0, e2, e3, e8, hw1, hw2, q1, c1]
  refine draw [0, 1, 2, 3, 4, 5, 6, 7, 8, 9, 11, 12, 13, 14, 15, 16, 10, 17, 18, 19] (by kernel_rfl) ?_
  have aw : IntKind.i64.wrap ((first : Int) + (root : Int)) = (first : Int) + (root : Int) := wrap_id (by omega) (by omega)
  have a0 : ((0 : Int) ≤ (first : Int) + (root : Int)) = True := eq_true (by omega)
  have a1 : ((first : Int) + (root : Int) < (d.size : Int)) = True := eq_true (by omega)
  have a2 : ((first : Int) + (root : Int)).toNat = first + root := by omega
  have a3 : first + root < d.size := by omega
  have a4 : first + root ≤ d.size := by omega
  have a5 : first + root < N := by omega
  have uw : IntKind.i64.wrap ((first : Int) + (2 * (root : Int) + 1)) = (first : Int) + (2 * (root : Int) + 1) := wrap_id (by omega) (by omega)
  have u0 : ((0 : Int) ≤ (first : Int) + (2 * (root : Int) + 1)) = True := eq_true (by omega)
  have u1 : ((first : Int) + (2 * (root : Int) + 1) < (d.size : Int)) = True := eq_true (by omega)
  have u2 : ((first : Int) + (2 * (root : Int) + 1)).toNat = first + (2 * root + 1) := by omega
  have u3 : first + (2 * root + 1) < d.size := by omega
  have u4 : first + (2 * root + 1) ≤ d.size := by omega
  have u5 : first + (2 * root + 1) < N := by omega
  obtain ⟨x, hx⟩ : ∃ x, m[first + root]! = x := ⟨_, rfl⟩
  have gx : ∀ h : first + root < (cellsAS m).length, (cellsAS m)[first + root] = .string x := fun h => by rw [← hx]; exact cellsA_elemS h
  obtain ⟨y, hy⟩ : ∃ y, m[first + (2 * root + 1)]! = y := ⟨_, rfl⟩
  have gy : ∀ h : first + (2 * root + 1) < (cellsAS m).length, (cellsAS m)[first + (2 * root + 1)] = .string y := fun h => by rw [← hy]; exact cellsA_elemS h
  by_cases c2 : 2 * root + 1 + 1 < hi
  · have q2 : (2 * (root : Int) + 1 + 1 < (hi : Int)) = True := eq_true (by omega)
    have fw : IntKind.i64.wrap ((first : Int) + (2 * (root : Int) + 1 + 1)) = (first : Int) + (2 * (root : Int) + 1 + 1) := wrap_id (by omega) (by omega)
    have f0 : ((0 : Int) ≤ (first : Int) + (2 * (root : Int) + 1 + 1)) = True := eq_true (by omega)
    have f1 : ((first : Int) + (2 * (root : Int) + 1 + 1) < (d.size : Int)) = True := eq_true (by omega)
    have f2 : ((first : Int) + (2 * (root : Int) + 1 + 1)).toNat = first + (2 * root + 2) := by omega
    have f3 : first + (2 * root + 2) < d.size := by omega
    have f4 : first + (2 * root + 2) ≤ d.size := by omega
    have f5 : first + (2 * root + 2) < N := by omega
    have kw : IntKind.i64.wrap ((first : Int) + (2 * (root : Int) + 1) + 1) = (first : Int) + (2 * (root : Int) + 1) + 1 := wrap_id (by omega) (by omega)
    have k0 : ((0 : Int) ≤ (first : Int) + (2 * (root : Int) + 1) + 1) = True := eq_true (by omega)
    have k1 : ((first : Int) + (2 * (root : Int) + 1) + 1 < (d.size : Int)) = True := eq_true (by omega)
    have k2 : ((first : Int) + (2 * (root : Int) + 1) + 1).toNat = first + (2 * root + 2) := by omega
    have k3 : first + (2 * root + 2) < d.size := by omega
    have k4 : first + (2 * root + 2) ≤ d.size := by omega
    have k5 : first + (2 * root + 2) < N := by omega
    obtain ⟨z, hz⟩ : ∃ z, m[first + (2 * root + 2)]! = z := ⟨_, rfl⟩
    have gz : ∀ h : first + (2 * root + 2) < (cellsAS m).length, (cellsAS m)[first + (2 * root + 2)] = .string z := fun h => by rw [← hz]; exact cellsA_elemS h
    have ez : first + (2 * root + 1) + 1 = first + (2 * root + 2) := by omega
    rw [ez, hx, hy, hz] at hs
    simp [go_sem, e0, e2, e3, e8, hw1, hw2, hw3, uw, u0, u1, u2, u3, u4, u5, kw, k0, k1, k2, k3, k4, k5, gy, gz, hml, hm, upd_same, q2, c2]
    refine cmpLess_spec.mono ?_
    rintro e s2 ⟨rfl, rfl⟩
    cases hl : ltT y z with
    | true =>
      simp only [hl, c2, decide_true, Bool.and_true, if_true] at hs
      simp [go_sem, e0, e2, e3, e8, hw1, hw2, hw3, hl]
      refine draw [0, 1, 2, 3, 4, 6, 7, 8, 9, 10, 5, 11, 12, 13] (by kernel_rfl) ?_
      simp [go_sem, e0, e2, e3, e8, hw1, hw2, hw3, aw, a0, a1, a2, a3, a4, a5, fw, f0, f1, f2, f3, f4, f5, gx, gz, hml, hm, upd_same, hl, q2, c2]
      refine cmpLess_spec.mono ?_
      rintro e s3 ⟨rfl, rfl⟩
      cases hk : ltT x z with
      | false =>
        simp only [hk, Bool.not_false, if_true] at hs
        simp [go_sem, e0, e2, e3, e8, hw1, hw2, hw3, aw, a0, a1, a2, a3, a4, a5, fw, f0, f1, f2, f3, f4, f5, gx, gz, hml, hm, upd_same, hl, q2, c2, hk]
        rw [hs]
      | true =>
        simp only [hk, Bool.not_true, Bool.false_eq_true, if_false] at hs
        rw [dif_pos trivial] at hs
        simp [go_sem, e0, e2, e3, e8, hw1, hw2, hw3, aw, a0, a1, a2, a3, a4, a5, fw, f0, f1, f2, f3, f4, f5, gx, gz, hml, hm, upd_same, hl, q2, c2, hk]
        refine draw [0, 1, 2, 3, 4, 5, 6, 7, 8, 9, 10, 11, 12, 14, 15, 16, 17, 18, 13, 19, 20, 21, 22, 23] (by kernel_rfl) ?_
        have hset := cellsA_swpS m (first + root) (first + (2 * root + 2))
        rw [hx, hz] at hset
        simp [go_sem, e0, e2, e3, e8, hw1, hw2, hw3, aw, a0, a1, a2, a3, a4, a5, fw, f0, f1, f2, f3, f4, f5, gx, gz, hml, hm, upd_same, hl, q2, c2, hk, hset]
        exact ⟨_, .rfl' _, ⟨2 * root + 2, by simp; try omega, by omega, Go.Sort.swp m (first + root) (first + (2 * root + 2)), by rw [Go.Sort.size_swp, hm], rfl, hs⟩, by omega⟩
    | false =>
      simp only [hl, Bool.and_false, Bool.false_eq_true, if_false] at hs
      simp [go_sem, e0, e2, e3, e8, hw1, hw2, hw3, hl]
      refine draw [0, 1, 2, 3, 4, 6, 7, 8, 9, 10, 5, 11, 12, 13] (by kernel_rfl) ?_
      simp [go_sem, e0, e2, e3, e8, hw1, hw2, hw3, aw, a0, a1, a2, a3, a4, a5, uw, u0, u1, u2, u3, u4, u5, gx, gy, hml, hm, upd_same, hl, q2, c2]
      refine cmpLess_spec.mono ?_
      rintro e s3 ⟨rfl, rfl⟩
      cases hk : ltT x y with
      | false =>
        simp only [hk, Bool.not_false, if_true] at hs
        simp [go_sem, e0, e2, e3, e8, hw1, hw2, hw3, aw, a0, a1, a2, a3, a4, a5, uw, u0, u1, u2, u3, u4, u5, gx, gy, hml, hm, upd_same, hl, q2, c2, hk]
        rw [hs]
      | true =>
        simp only [hk, Bool.not_true, Bool.false_eq_true, if_false] at hs
        simp [go_sem, e0, e2, e3, e8, hw1, hw2, hw3, aw, a0, a1, a2, a3, a4, a5, uw, u0, u1, u2, u3, u4, u5, gx, gy, hml, hm, upd_same, hl, q2, c2, hk]
        refine draw [0, 1, 2, 3, 4, 5, 6, 7, 8, 9, 10, 11, 12, 14, 15, 16, 17, 18, 13, 19, 20, 21, 22, 23] (by kernel_rfl) ?_
        have hset := cellsA_swpS m (first + root) (first + (2 * root + 1))
        rw [hx, hy] at hset
        simp [go_sem, e0, e2, e3, e8, hw1, hw2, hw3, aw, a0, a1, a2, a3, a4, a5, uw, u0, u1, u2, u3, u4, u5, gx, gy, hml, hm, upd_same, hl, q2, c2, hk, hset]
        exact ⟨_, .rfl' _, ⟨2 * root + 1, by simp; try omega, by omega, Go.Sort.swp m (first + root) (first + (2 * root + 1)), by rw [Go.Sort.size_swp, hm], rfl, hs⟩, by omega⟩
  · have q2 : (2 * (root : Int) + 1 + 1 < (hi : Int)) = False := eq_false (by omega)
    have hl : True := trivial
    rw [hx, hy] at hs
    simp only [c2, decide_false, Bool.false_and, Bool.false_eq_true, if_false] at hs
    simp [go_sem, e0, e2, e3, e8, hw1, hw2, hw3, q2, c2]
    refine draw [0, 1, 2, 3, 4, 6, 7, 8, 9, 10, 5, 11, 12, 13] (by kernel_rfl) ?_
    simp [go_sem, e0, e2, e3, e8, hw1, hw2, hw3, aw, a0, a1, a2, a3, a4, a5, uw, u0, u1, u2, u3, u4, u5, gx, gy, hml, hm, upd_same, hl, q2, c2]
    refine cmpLess_spec.mono ?_
    rintro e s3 ⟨rfl, rfl⟩
    cases hk : ltT x y with
    | false =>
      simp only [hk, Bool.not_false, if_true] at hs
      simp [go_sem, e0, e2, e3, e8, hw1, hw2, hw3, aw, a0, a1, a2, a3, a4, a5, uw, u0, u1, u2, u3, u4, u5, gx, gy, hml, hm, upd_same, hl, q2, c2, hk]
      rw [hs]
    | true =>
      simp only [hk, Bool.not_true, Bool.false_eq_true, if_false] at hs
      simp [go_sem, e0, e2, e3, e8, hw1, hw2, hw3, aw, a0, a1, a2, a3, a4, a5, uw, u0, u1, u2, u3, u4, u5, gx, gy, hml, hm, upd_same, hl, q2, c2, hk]
      refine draw [0, 1, 2, 3, 4, 5, 6, 7, 8, 9, 10, 11, 12, 14, 15, 16, 17, 18, 13, 19, 20, 21, 22, 23] (by kernel_rfl) ?_
      have hset := cellsA_swpS m (first + root) (first + (2 * root + 1))
      rw [hx, hy] at hset
      simp [go_sem, e0, e2, e3, e8, hw1, hw2, hw3, aw, a0, a1, a2, a3, a4, a5, uw, u0, u1, u2, u3, u4, u5, gx, gy, hml, hm, upd_same, hl, q2, c2, hk, hset]
      exact ⟨_, .rfl' _, ⟨2 * root + 1, by simp; try omega, by omega, Go.Sort.swp m (first + root) (first + (2 * root + 1)), by rw [Go.Sort.size_swp, hm], rfl, hs⟩, by omega⟩
end
end Go.Proofs.YtadgciaclhjjkaaGreat
set_option linter.unusedVariables false
set_option linter.unusedSimpArgs false
set_option maxRecDepth 100000
set_option maxHeartbeats 4000000
namespace Go.Proofs.YtadgciaclhjjkaaGreat
open Go.RowKit (Below)
theorem sift_sizeS (hi first root : Nat) (d : Array ByteArray) : (Go.Sort.siftDown ltT hi first root d).size = d.size := by
  fun_induction Go.Sort.siftDown ltT hi first root d <;> simp_all [Go.Sort.size_swp]
section
variable {W0 : World} {st : Heap}
theorem heapS_spec {b N cap lo hi : Nat} {d : Array ByteArray} {g : Tg} (h : st b = some (.cells true (cellsAS d) N g)) (hN : d.size ≤ N) (hn : d.size < 2 ^ 50) (hlo : lo ≤ hi) (hhi : hi ≤ d.size) :
    ICalls Tryz.prog W0 196 #[.slice (some ⟨b, 0, none⟩) d.size cap, Val.i lo, Val.i hi] st fun e st' => e = .returned (.tuple #[]) ∧ st' = upd st b (.cells true (cellsAS (Go.Sort.heapSort ltT d lo hi)) N g) := by
  obtain ⟨n, hnn⟩ : ∃ n, hi - lo = n := ⟨_, rfl⟩
  have hw1 : IntKind.i64.wrap ((hi : Int) - lo) = n := by rw [wrap_id (by omega) (by omega)]; omega
  have hw2 : IntKind.i64.wrap ((n : Int) - 1) = (n : Int) - 1 := wrap_id (by omega) (by omega)
  obtain ⟨K, hK⟩ : ∃ K, (n - 1) / 2 + 1 = K := ⟨_, rfl⟩
  have hw3 : IntKind.i64.wrap (((n : Int) - 1).tdiv 2) = (K : Int) - 1 := by
    by_cases h0 : n = 0
    · subst h0; have : K = 1 := by omega
      subst this; decide
    · rw [Int.tdiv_eq_ediv_of_nonneg (by omega), wrap_id (by omega) (by omega)]; omega
  obtain ⟨D, hD⟩ : ∃ D, Go.Sort.heapBuild ltT n lo K d = D := ⟨_, rfl⟩
  have hS : Go.Sort.heapSort ltT d lo hi = Go.Sort.heapPop ltT lo n D := by unfold Go.Sort.heapSort; rw [hnn, hK, hD]
  rw [hS]
  refine enter (args := [_, _, _]) Tryz.func196 rfl ?_
  simp [Tryz.f196, go_sem, hw1, hw2, hw3]
  refine ⟨fun E st' => E 0 = .slice (some ⟨b, 0, none⟩) d.size cap ∧ E 6 = Val.i lo ∧ E 7 = Val.i 0 ∧ E 8 = Val.i n ∧ ∃ (k : Nat) (m : Array ByteArray), E 9 = Val.i ((k : Int) - 1) ∧ k ≤ K ∧ m.size = d.size ∧ st' = upd st b (.cells true (cellsAS m) N g) ∧ Go.Sort.heapBuild ltT n lo k m = D,
    fun E _ => match E 9 with | .int _ i => (i + 1).toNat | _ => 0, ⟨st, .rfl' _, by simp [go_sem], by simp [go_sem], by simp [go_sem], by simp [go_sem], K, d, by simp [go_sem], by omega, rfl, (upd_self h).symm, hD⟩, ?_⟩
  rintro E st' ⟨e0, e6, e7, e8, k, m, e9, hk, hm, rfl, hs⟩
  have hml := cellsA_lengthS m
  cases k with
  | succ k =>
    have q1 : ((0 : Int) ≤ ((k + 1 : Nat) : Int) - 1) = True := eq_true (by omega)
    have q2 : ((k + 1 : Nat) : Int) - 1 = (k : Int) := by omega
    have hwk : IntKind.i64.wrap ((k : Int) - 1) = (k : Int) - 1 := wrap_id (by omega) (by omega)
    rw [q2] at e9
    rw [Go.Sort.heapBuild] at hs
    simp [go_sem, e0, e6, e7, e8, e9]
    rw [← hm]
    refine (siftS_spec (d := m) (upd_same _ _ _) (by omega) (by omega) (by omega) (by omega)).mono ?_
    rintro e s2 ⟨rfl, rfl⟩
    simp [go_sem, e0, e6, e7, e8, e9, hwk, hm]
    exact ⟨_, .rfl' _, k, rfl, by omega, _, by rw [sift_sizeS, hm], rfl, hs⟩
  | zero =>
    have q1 : ((0 : Int) ≤ ((0 : Nat) : Int) - 1) = False := eq_false (by omega)
    rw [Go.Sort.heapBuild] at hs
    subst hs
    simp [go_sem, e0, e6, e7, e8, e9, hw2]
    refine ⟨fun E st' => E 0 = .slice (some ⟨b, 0, none⟩) d.size cap ∧ E 6 = Val.i lo ∧ E 7 = Val.i 0 ∧ ∃ (k : Nat) (p : Array ByteArray), E 10 = Val.i ((k : Int) - 1) ∧ k ≤ n ∧ p.size = d.size ∧ st' = upd st b (.cells true (cellsAS p) N g) ∧ Go.Sort.heapPop ltT lo k p = Go.Sort.heapPop ltT lo n m,
      fun E _ => match E 10 with | .int _ i => (i + 1).toNat | _ => 0, ⟨_, .rfl' _, by simp [go_sem, e0], by simp [go_sem, e6], by simp [go_sem, e7], n, m, by simp [go_sem], by omega, hm, rfl, rfl⟩, ?_⟩
    clear e0 e6 e7 e8 e9
    clear E
    rintro E st' ⟨e0, e6, e7, k, p, e10, hk, hp, rfl, hs⟩
    have hpl := cellsA_lengthS p
    cases k with
    | zero =>
      rw [Go.Sort.heapPop] at hs
      subst hs
      simp [go_sem, e0, e6, e7, e10]
    | succ k =>
      have q2 : ((k + 1 : Nat) : Int) - 1 = (k : Int) := by omega
      have hwk : IntKind.i64.wrap ((k : Int) - 1) = (k : Int) - 1 := wrap_id (by omega) (by omega)
      rw [q2] at e10
      rw [Go.Sort.heapPop] at hs
      obtain ⟨u, hu⟩ : ∃ u, lo + k = u := ⟨_, rfl⟩
      have hwu : IntKind.i64.wrap ((lo : Int) + (k : Int)) = (u : Int) := by rw [wrap_id (by omega) (by omega)]; omega
      rw [hu] at hs
      have u1 : u < d.size := by omega
      have u2 : u ≤ d.size := by omega
      have u3 : u < N := by omega
      have l1 : lo < d.size := by omega
      have l2 : lo ≤ d.size := by omega
      have l3 : lo < N := by omega
      obtain ⟨x, hx⟩ : ∃ x, p[lo]! = x := ⟨_, rfl⟩
      obtain ⟨y, hy⟩ : ∃ y, p[u]! = y := ⟨_, rfl⟩
      have gx : ∀ h : lo < (cellsAS p).length, (cellsAS p)[lo] = .string x := fun h => by rw [← hx]; exact cellsA_elemS h
      have gy : ∀ h : u < (cellsAS p).length, (cellsAS p)[u] = .string y := fun h => by rw [← hy]; exact cellsA_elemS h
      have hset := cellsA_swpS p lo u
      rw [hx, hy] at hset
      simp [go_sem, e0, e6, e7, e10]
      refine draw [0, 1, 2, 3, 4, 5, 6, 7, 8, 9, 10, 12, 13, 14, 11, 15, 16, 17, 18, 19] (by kernel_rfl) ?_
      simp [go_sem, e0, e6, e7, e10, hwu, u1, u2, u3, l1, l2, l3, gx, gy, hpl, hp, upd_same, hset]
      have hps : (Go.Sort.swp p lo u).size = d.size := by rw [Go.Sort.size_swp, hp]
      rw [← hps]
      refine ICalls.mono (by simpa using siftS_spec (W0 := W0) (lo := 0) (hi := k) (first := lo) (cap := cap) (d := Go.Sort.swp p lo u) (upd_same st b (.cells true (cellsAS (Go.Sort.swp p lo u)) N g)) (by omega) (by omega) (by omega) (by omega)) ?_
      rintro e s2 ⟨rfl, rfl⟩
      simp [go_sem, e0, e6, e7, e10, hwk, hps]
      exact ⟨_, .rfl' _, k, rfl, by omega, _, by rw [sift_sizeS, hps], rfl, hs⟩
end
end Go.Proofs.YtadgciaclhjjkaaGreat
