/- A log read: the walk. -/
import Derived.Test.YtadgciaclhjjkaaGreatC25
import Derived.Test.YtadgciaclhjjkaaGreatC37
import Derived.Test.YtadgciaclhjjkaaGreatC39
import Derived.Test.YtadgciaclhjjkaaGreatC22
import Derived.Test.YtadgciaclhjjkaaGreatC40
set_option linter.unusedVariables false
set_option linter.unusedSimpArgs false
set_option maxRecDepth 100000
set_option maxHeartbeats 2000000
namespace Go.Proofs.YtadgciaclhjjkaaGreat
open Go.RowKit (Below)
def logB : ByteArray := ⟨#[108, 111, 103, 45]⟩
structure LogD where
  last : Int
  end_ : Int
  wants : Int
def recsM : List Bs → Option (List RcD)
  | [] => some []
  | b :: l => (recGetM b true).bind fun r => (recsM l).map (r :: ·)
theorem recsM_snoc : ∀ (l : List Bs) (b : Bs), recsM (l ++ [b]) = (recsM l).bind fun q => (recGetM b true).map fun r => q ++ [r]
  | [], b => by cases h : recGetM b true <;> simp [recsM, h]
  | x :: l, b => by
    rw [List.cons_append, recsM, recsM, recsM_snoc l b]
    cases h : recGetM x true <;> cases h2 : recsM l <;> cases h3 : recGetM b true <;> simp
theorem recsM_none {l l' : List Bs} (h : recsM l = none) : recsM (l ++ l') = none := by
  induction l with
  | nil => simp [recsM] at h
  | cons x l ih =>
    rw [List.cons_append, recsM]
    rw [recsM] at h
    cases h1 : recGetM x true with
    | none => simp
    | some r =>
      rw [h1] at h
      simp at h
      simp [ih h]
def openGo (get : Int → Option Bs) : Nat → Int → LogD → List RcD → Option (LogD × List RcD)
  | 0, n, L, rs => some (L, rs)
  | k + 1, n, L, rs => match get n with
    | none => some (L, rs)
    | some b => if L.wants = 2 then none else match recsM (bodiesM b) with
      | none => none
      | some q => openGo get k (n + 1) ⟨n, endsM b, if endsM b = b.length then 1 else 2⟩ (rs ++ q)
def getL (S : VFS) (n : Int) : Option Bs := (aget S.now (nameT logB n)).bind fun i => (S.files[i]?).map (·.now)
def openM (S : VFS) (from_ : Int) : Option (LogD × List RcD) := openGo (getL S) 100000000 from_ ⟨from_, 0, 3⟩ []
/-- A row of records. -/
def RcsAt (st : Heap) (cs : List Value) (rs : List RcD) : Prop := cs.length = rs.length * 18 ∧ ∀ (i : Nat) r, rs[i]? = some r → RcAt st ((cs.drop (i * 18)).take 18) r
theorem RcAt.length {st : Heap} {cs : List Value} {r : RcD} (h : RcAt st cs r) : cs.length = 18 := by
  obtain ⟨rs, ts, rfl, h1, ms, h2, rfl⟩ := h
  have := h1.length
  have := h2.length
  simp
  omega
theorem RcsAt.free {st st' : Heap} {cs : List Value} {rs : List RcD} (h : RcsAt st cs rs) (hk : Keep Free st st') : RcsAt st' cs rs := ⟨h.1, fun i r hi => RcAt.free hk (h.2 i r hi)⟩
theorem RcsAt.new {st st' : Heap} {cs : List Value} {rs : List RcD} (h : RcsAt st cs rs) (hk : New st st') : RcsAt st' cs rs := ⟨h.1, fun i r hi => (h.2 i r hi).new hk⟩
theorem RcsAt.nil (st : Heap) : RcsAt st [] [] := ⟨rfl, fun i r hi => by simp at hi⟩
theorem RcsAt.snoc {st : Heap} {cs c : List Value} {rs : List RcD} {r : RcD} (h : RcsAt st cs rs) (hr : RcAt st c r) : RcsAt st (cs ++ c) (rs ++ [r]) := by
  obtain ⟨h1, h2⟩ := h
  have h3 := hr.length
  refine ⟨by simp [h1, h3]; omega, fun i x hi => ?_⟩
  by_cases hlt : i < rs.length
  · rw [List.getElem?_append_left hlt] at hi
    have := h2 i x hi
    rw [List.drop_append_of_le_length (by omega), List.take_append_of_le_length (by rw [List.length_drop]; omega)]
    exact this
  · have hi2 : i = rs.length := by
      have := (List.getElem?_eq_some_iff.1 hi).1
      simp at this
      omega
    subst hi2
    simp at hi
    subst hi
    rw [← h1, List.drop_left, List.take_of_length_le (by omega)]
    exact hr
theorem nameT_ne {s : ByteArray} {n : Int} (h : nameOKM n) : nameT s n ≠ ⟨#[]⟩ := by
  rw [nameT_ok h]
  exact numT_ne _ _
theorem RcAt.eighteen {st : Heap} {cs : List Value} {r : RcD} (h : RcAt st cs r) : ∃ sq kd lb ll lc a hb hl hc kb kl kc n x lo hi ts op n1 n2 vb vl vc jb jl jc fr to, cs = [Val.i sq, Val.i kd, .slice lb ll lc, Val.i a, .slice hb hl hc, .slice kb kl kc, Val.u n, Val.u x, Val.u lo, Val.u hi, Val.i ts, Val.i op, .string n1, .string n2, .slice vb vl vc, .slice jb jl jc, Val.i fr, Val.i to] := by
  obtain ⟨rs, ts, rfl, h1, h2⟩ := h
  obtain ⟨lb, lc, hb, hc, kb, kc, rfl, _, _⟩ := h1.eight
  obtain ⟨a0, a1, a2, a3, a4, rfl, hm⟩ := h2.eight
  obtain ⟨op, n, v, b, l, c, b', l', c', rfl, rfl, rfl, rfl, rfl⟩ := hm.forms
  exact ⟨_, _, _, _, _, _, _, _, _, _, _, _, _, _, _, _, _, _, _, _, _, _, _, _, _, _, _, _, rfl⟩
/-- No mark of its own. -/
theorem keepO {p : Tg → Prop} {st : Heap} {l : Nat} {o : Obj} {x : HObj} (h : st l = some (.other o)) : Keep p st (upd st l x) := fun k o' g hk ht hp => by
  have : k ≠ l := by rintro rfl; rw [h] at hk; injection hk with hk; subst hk; cases ht
  rw [upd_ne _ _ (by first | exact this | exact Ne.symm this)]; exact hk
theorem keepP {p : Tg → Prop} {st : Heap} {b n : Nat} {rw_ : Bool} {xs : List Value} {g : Tg} {o : HObj} (h : st b = some (.cells rw_ xs n g)) (hp : ¬ p g) : Keep p st (upd st b o) := Keep.rfl'.old h (by intro g' hg; simp [HObj.tag] at hg; subst hg; exact hp)
theorem shutM_keep {p : Tg → Prop} : ∀ {M : List Nat} {st : Heap}, M.Nodup → (∀ D ∈ M, st D = some (.other (.deferred (some [])))) → Keep p st (shutM M st)
  | [], st, _, _ => Keep.rfl'
  | D :: M, st, hn, h => by
    rw [shutM]
    refine (keepO (h D (by simp))).trans (shutM_keep (List.nodup_cons.1 hn).2 fun D' hD' => ?_)
    have : D' ≠ D := by rintro rfl; exact (List.nodup_cons.1 hn).1 hD'
    rw [upd_ne _ _ (by first | exact this | exact this.symm)]
    exact h D' (by simp [hD'])
/-- What is kept while a log is read. -/
def KeptL (t8 : Nat) (g : Tg) : Prop := Free g ∨ g = .own t8 0 125
theorem keptNo {t8 a x r : Nat} (h : r ≠ 125) : ¬ KeptL t8 (.own a x r) := by
  rintro (h1 | h1)
  · exact h1 _ _ _ rfl
  · injection h1 with _ _ h1
    exact h h1
theorem recsM_len : ∀ {l : List Bs} {q : List RcD}, recsM l = some q → q.length = l.length
  | [], q, h => by simp [recsM] at h; subst h; rfl
  | b :: l, q, h => by
    rw [recsM] at h
    cases h1 : recGetM b true with
    | none => rw [h1] at h; simp at h
    | some r =>
      rw [h1] at h
      cases h2 : recsM l with
      | none => rw [h2] at h; simp at h
      | some q' =>
        rw [h2] at h
        simp at h
        subst h
        simp [recsM_len h2]
section
variable {W0 : World} {st : Heap}
theorem Read_new {f : Nat} {S : VFS} {n : ByteArray} (h : FSAt st f S) (hs : ∀ F ∈ S.files, F.now.length < 2 ^ 40) : ICalls Tryz.prog W0 45 #[ptr f, .string n] st fun e st' =>
    New st st' ∧ match aget S.now n with
      | none => e = .returned (.tuple #[.slice none 0 0, Val.i 3])
      | some i => ∃ F b c, S.files[i]? = some F ∧ e = .returned (.tuple #[.slice b F.now.length c, Val.i 0]) ∧ Vec st' (.ty 1) 1 (.slice b F.now.length c) (bytesV F.now) F.now.length := by
  obtain ⟨sm, nm, tv, ad, h1, h2, h3, h4, h5, h6⟩ := h
  refine enter (args := [_, _]) Tryz.func45 rfl ?_
  unfold aget
  cases hg : afind n S.now 0 with
  | none =>
    simp [Tryz.f45, go_sem, h1, fsC, h3, mfind_encM, hg]
    exact New.refl _
  | some p =>
    have hp : p.2 < S.files.length := by
      obtain ⟨e, h7, h8⟩ := afind_mem hg
      rw [← h8]; exact h6.2.1 e h7
    obtain ⟨sv, pv, nv, us, b1, b2, b3, b4, b5⟩ := h5 p.2 S.files[p.2] (by simp [hp])
    simp [Tryz.f45, go_sem, h1, fsC, h3, mfind_encM, hg, b1]
    have hl := hs _ (List.getElem_mem hp)
    refine AppI_newg (.ty 1) si40 b5.src (by omega) ?_
    intro b c st1 hv hf he
    simp [go_sem]
    exact ⟨he, S.files[p.2], by simp [hp], b, c, ⟨rfl, rfl, rfl⟩, hv⟩
attribute [-go_sem] IWR_seq IWR_block IWR_region IWR_loop
attribute [local go_sem ↓] IWR_seq' IWR_block' IWR_region'
attribute [local go_sem] ThenR_normal ThenR_ret ThenR_exit BlockR_normal BlockR_ret BlockR_exit EndR_any
theorem Open_spec {f : Nat} {S : VFS} {from_ : Int} {A B : Nat} (h : FSAt st f S) (hs : ∀ F ∈ S.files, F.now.length ≤ B) (hB : B ≤ 2 ^ 36) (hA : A ≤ 2 ^ 36) (hAB : A * B ≤ 2 ^ 36) (hcap : ∀ n, from_ + A ≤ n → getL S n = none) : ICalls Tryz.prog W0 30 #[ptr f, Val.i from_] st fun e st' => New st st' ∧ if nameOKM from_ then (match openM S from_ with
      | none => e = .returned (.tuple #[.pointer none, .slice none 0 0, Val.i 13])
      | some (L, rs) => ∃ lp v cs, e = .returned (.tuple #[ptr lp, v, Val.i 0]) ∧ st lp = none ∧ st' lp = some (.cells true [ptr f, Val.i L.last, Val.i L.end_, Val.i L.wants] 4 (.own lp 0 120)) ∧ (∃ t, st t = none ∧ Fresh st v ∧ Vec st' (.own t 0 125) 18 v cs rs.length) ∧ RcsAt st' cs rs)
      else e = .returned (.tuple #[.pointer none, .slice none 0 0, Val.i 1]) := by
  refine ICalls_range (args := [_, _]) (by kernel_rfl) Tryz.func30 rfl (by simp [Tryz.f30]) (by kernel_rfl) ?_
  simp [Tryz.f30, go_sem]
  unfold NewP
  intro t4 ht4
  refine ⟨.own t4 0 121, ?_⟩
  have k1 := (New.refl st).add (b := t4) (o := .cells true [.pointer none] 1 (.own t4 0 121)) ht4
  have g4 := upd_same st t4 (.cells true [.pointer none] 1 (.own t4 0 121))
  simp [go_sem]
  generalize upd st t4 (.cells true [.pointer none] 1 (.own t4 0 121)) = s1 at *
  unfold NewP
  intro t5 ht5
  refine ⟨.own t5 0 122, ?_⟩
  have k2 := (New.refl s1).add (b := t5) (o := .cells true [.slice none 0 0] 1 (.own t5 0 122)) ht5
  have g5 := upd_same s1 t5 (.cells true [.slice none 0 0] 1 (.own t5 0 122))
  have n45 := ne_of_new g4 ht5
  have g4a := k2 _ _ g4
  simp [go_sem]
  generalize upd s1 t5 (.cells true [.slice none 0 0] 1 (.own t5 0 122)) = s2 at *
  unfold NewP
  intro t6 ht6
  refine ⟨.own t6 0 123, ?_⟩
  have k3 := (New.refl s2).add (b := t6) (o := .cells true [Val.i 0] 1 (.own t6 0 123)) ht6
  have g6 := upd_same s2 t6 (.cells true [Val.i 0] 1 (.own t6 0 123))
  have n46 := ne_of_new g4a ht6
  have n56 := ne_of_new g5 ht6
  have g4b := k3 _ _ g4a
  have g5b := k3 _ _ g5
  have K3 := (k1.trans k2).trans k3
  have ht5s := k1.none ht5
  have ht6s := (k1.trans k2).none ht6
  simp [go_sem]
  generalize upd s2 t6 (.cells true [Val.i 0] 1 (.own t6 0 123)) = s3 at *
  refine walName_exact.mono ?_
  rintro e s4 ⟨rfl, k4⟩
  have g4c := k4 _ _ g4b
  have g5c := k4 _ _ g5b
  have g6c := k4 _ _ g6
  have K4 := K3.trans k4
  simp [go_sem]
  by_cases hnm : nameOKM from_
  · obtain ⟨nm, hnme⟩ : ∃ x, nameT ⟨#[108, 111, 103, 45]⟩ from_ = x := ⟨_, rfl⟩
    have hne : nm ≠ ⟨#[]⟩ := by rw [← hnme]; exact nameT_ne hnm
    rw [hnme]
    simp [go_sem, hnm, hne]
    unfold NewP
    intro lp hlp
    refine ⟨.own lp 0 120, ?_⟩
    have k5 := (New.refl s4).add (b := lp) (o := .cells true [ptr f, Val.i from_, Val.i 0, Val.i 3] 4 (.own lp 0 120)) hlp
    have gl := upd_same s4 lp (.cells true [ptr f, Val.i from_, Val.i 0, Val.i 3] 4 (.own lp 0 120))
    have n4l := ne_of_new g4c hlp
    have n5l := ne_of_new g5c hlp
    have n6l := ne_of_new g6c hlp
    have g4d := k5 _ _ g4c
    have g5d := k5 _ _ g5c
    have g6d := k5 _ _ g6c
    have hlps := K4.none hlp
    simp [go_sem]
    generalize upd s4 lp (.cells true [ptr f, Val.i from_, Val.i 0, Val.i 3] 4 (.own lp 0 120)) = s5 at *
    unfold NewP
    intro t8 ht8
    refine ⟨.own t8 0 124, ?_⟩
    have k6 := (New.refl s5).add (b := t8) (o := .cells true [.slice none 0 0] 1 (.own t8 0 124)) ht8
    have g8 := upd_same s5 t8 (.cells true [.slice none 0 0] 1 (.own t8 0 124))
    have n48 := ne_of_new g4d ht8
    have n58 := ne_of_new g5d ht8
    have n68 := ne_of_new g6d ht8
    have nl8 := ne_of_new gl ht8
    have g4e := k6 _ _ g4d
    have g5e := k6 _ _ g5d
    have g6e := k6 _ _ g6d
    have gle := k6 _ _ gl
    have K5 := K4.trans k5
    have ht8s := K5.none ht8
    have K6 := K5.trans k6
    simp [go_sem]
    generalize upd s5 t8 (.cells true [.slice none 0 0] 1 (.own t8 0 124)) = s6 at *
    generalize hE0 : (Env.set _ _ _ : Env) = E0
    have e0 : E0 0 = ptr f := by subst hE0; simp [go_sem]
    have e4 : E0 4 = ptr t4 := by subst hE0; simp [go_sem]
    have e5 : E0 5 = ptr t5 := by subst hE0; simp [go_sem]
    have e6 : E0 6 = ptr t6 := by subst hE0; simp [go_sem]
    have e7 : E0 7 = ptr lp := by subst hE0; simp [go_sem]
    have e8 : E0 8 = ptr t8 := by subst hE0; simp [go_sem]
    have e9 : E0 9 = Val.i from_ := by subst hE0; simp [go_sem]
    clear hE0
    obtain ⟨hf0, hf9⟩ := hnm
    rw [IWR_loop]
    refine ⟨fun E M s => E 0 = ptr f ∧ E 4 = ptr t4 ∧ E 5 = ptr t5 ∧ E 6 = ptr t6 ∧ E 7 = ptr lp ∧ E 8 = ptr t8 ∧ New st s ∧ s t4 = some (.cells true [.pointer none] 1 (.own t4 0 121)) ∧ s t5 = some (.cells true [.slice none 0 0] 1 (.own t5 0 122)) ∧ s t6 = some (.cells true [Val.i 0] 1 (.own t6 0 123)) ∧ M.Nodup ∧ (∀ D ∈ M, st D = none ∧ s D = some (.other (.deferred (some [])))) ∧
      ∃ (n : Int) (L : LogD) (rs : List RcD) (k : Nat) (cs : List Value) (v : Value), E 9 = Val.i n ∧ from_ ≤ n ∧ n ≤ from_ + A ∧ s lp = some (.cells true [ptr f, Val.i L.last, Val.i L.end_, Val.i L.wants] 4 (.own lp 0 120)) ∧ s t8 = some (.cells true [v] 1 (.own t8 0 124)) ∧ Vec s (.own t8 0 125) 18 v cs rs.length ∧ Fresh st v ∧ RcsAt s cs rs ∧ openM S from_ = openGo (getL S) k n L rs ∧ 100000000 ≤ k + n ∧ rs.length ≤ (n - from_).toNat * B,
      fun E _ _ => match E 9 with | .int _ z => (from_ + A - z).toNat | _ => 0, ⟨s6, .rfl' _, e0, e4, e5, e6, e7, e8, K6, g4e, g5e, g6e, by simp, by simp, from_, ⟨from_, 0, 3⟩, [], 100000000, [], _, e9, by omega, by omega, gle, g8, Vec.nil, Fresh.none, RcsAt.nil _, rfl, by omega, by simp⟩, ?_⟩
    clear e0 e4 e5 e6 e7 e8 e9 g4c g5c g6c g4d g5d g6d g4e g5e g6e gle g8 gl g4 g4a g4b g5 g5b g6 K6 K5 K4 K3 k1 k2 k3 k4 k5 k6 E0
    rintro E M s ⟨e0, e4, e5, e6, e7, e8, K, g4, g5, g6, hM, hMD, n, L, rs, k, cs, v, e9, hn1, hn2, gl, g8, hV, hF, hRs, hgo, hk, hlen⟩
    simp [go_sem, e0, e9]
    refine walName_exact.mono ?_
    rintro e s1 ⟨rfl, q1⟩
    simp [go_sem]
    refine (Read_new (h.keep ((K.trans q1).to fun _ => True) (by simp)) (fun F hF => by have := hs F hF; omega)).mono ?_
    rintro e s2 ⟨q2, hm⟩
    have q12 := q1.trans q2
    have g4' := q12 _ _ g4
    have g5' := q12 _ _ g5
    have g6' := q12 _ _ g6
    have gl' := q12 _ _ gl
    have g8' := q12 _ _ g8
    have hV' := Vec.new' hV q12
    have hRs' := hRs.new q12
    have K2 := K.trans q12
    have hMD' : ∀ D ∈ M, st D = none ∧ s2 D = some (.other (.deferred (some []))) := fun D hD => ⟨(hMD D hD).1, q12 _ _ (hMD D hD).2⟩
    have hnM : ∀ {j : Nat} {rw_ : Bool} {xs : List Value} {m : Nat} {g : Tg}, s2 j = some (.cells rw_ xs m g) → j ∉ M := fun h1 h2 => by rw [(hMD' _ h2).2] at h1; cases h1
    have m4 := hnM g4'
    have m5 := hnM g5'
    have m6 := hnM g6'
    have ml := hnM gl'
    cases hag : aget S.now (nameT logB n) with
    | none =>
      have hag' : aget S.now (nameT ⟨#[108, 111, 103, 45]⟩ n) = none := hag
      rw [hag'] at hm
      subst hm
      have hgn : getL S n = none := by unfold getL; rw [hag]; rfl
      have hfin : openM S from_ = some (L, rs) := by
        rw [hgo]
        cases k with
        | zero => rfl
        | succ k => rw [openGo, hgn]
      rw [hfin]
      simp [go_sem]
      rw [IWR_draw, IW_draw]
      generalize hE1 : (Env.set _ _ _ : Env) = E1
      have f4 : E1 4 = ptr t4 := by subst hE1; simp [go_sem, e4]
      have f5 : E1 5 = ptr t5 := by subst hE1; simp [go_sem, e5]
      have f6 : E1 6 = ptr t6 := by subst hE1; simp [go_sem, e6]
      have f7 : E1 7 = ptr lp := by subst hE1; simp [go_sem, e7]
      have f8 : E1 8 = ptr t8 := by subst hE1; simp [go_sem, e8]
      clear hE1
      obtain ⟨a, ha⟩ : ∃ a, HObj.cells true [ptr lp] 1 (.own t4 0 121) = a := ⟨_, rfl⟩
      obtain ⟨b, hb⟩ : ∃ b, HObj.cells true [v] 1 (.own t5 0 122) = b := ⟨_, rfl⟩
      obtain ⟨c, hc⟩ : ∃ c, HObj.cells true [Val.i 0] 1 (.own t6 0 123) = c := ⟨_, rfl⟩
      obtain ⟨G, hG⟩ : ∃ G : List Nat → Heap → Prop, G = fun done s => s = (if 4 ∈ done then upd (upd (upd s2 t4 a) t5 b) t6 c else if 3 ∈ done then upd (upd s2 t4 a) t5 b else if 2 ∈ done then upd s2 t4 a else s2) := ⟨_, rfl⟩
      have hG8 : ∀ {done : List Nat} {s : Heap}, G done s → s t8 = some (.cells true [v] 1 (.own t8 0 124)) := fun h => by
        rw [hG] at h
        subst h
        split
        · rw [upd_ne _ _ (by first | exact n68 | exact n68.symm), upd_ne _ _ (by first | exact n58 | exact n58.symm), upd_ne _ _ (by first | exact n48 | exact n48.symm)]; exact g8'
        split
        · rw [upd_ne _ _ (by first | exact n58 | exact n58.symm), upd_ne _ _ (by first | exact n48 | exact n48.symm)]; exact g8'
        split
        · rw [upd_ne _ _ (by first | exact n48 | exact n48.symm)]; exact g8'
        · exact g8'
      have hskip : ∀ {done : List Nat} {s : Heap} {i : Nat}, G done s → i ≠ 2 → i ≠ 3 → i ≠ 4 → G (i :: done) s := fun h h2 h3 h4 => by
        rw [hG] at h ⊢
        simpa [Ne.symm h2, Ne.symm h3, Ne.symm h4] using h
      obtain ⟨vb, vc, rfl⟩ := hV.slice
      refine drawG [0, 1, 2, 3, 4] (fun i x => match i with
        | 0 => x = ptr lp
        | 1 => x = .slice vb rs.length vc
        | _ => True) G (by kernel_rfl) (by kernel_rfl) ?_ ?_ ?_ ?_
      · rw [hG]; simp
      · intro i oo hi done E sta hnd hg hdp hcl hd hE
        have hl8 := hG8 hg
        match i with
        | 0 =>
          have x7 := hE 7 (oldB_spec (by kernel_rfl))
          injection hi with hi; subst hi
          simp [wantedE, go_sem, x7, f7]
          exact hskip hg (by decide) (by decide) (by decide)
        | 1 =>
          have x8 := hE 8 (oldB_spec (by kernel_rfl))
          injection hi with hi; subst hi
          simp [wantedE, go_sem, x8, f8, hl8]
          exact hskip hg (by decide) (by decide) (by decide)
        | 2 =>
          have x4 := hE 4 (oldB_spec (by kernel_rfl))
          injection hi with hi; subst hi
          have d0 := hd { on := 0, ground := .data } (by simp) (by decide) _ _ rfl rfl
          simp only at d0
          have n3 : 3 ∉ done := fun h => hnd (hcl 3 _ h rfl { on := 2, ground := .chain } (by simp) (by decide))
          have n4 : 4 ∉ done := fun h => n3 (hcl 4 _ h rfl { on := 3, ground := .chain } (by simp) (by decide))
          rw [hG] at hg
          simp only [n4, n3, hnd, if_false] at hg
          subst hg
          simp [wantedE, go_sem, x4, f4, d0, g4']
          rw [hG]
          simp [n3, n4, ha]
        | 3 =>
          have x5 := hE 5 (oldB_spec (by kernel_rfl))
          injection hi with hi; subst hi
          have d1 := hd { on := 1, ground := .data } (by simp) (by decide) _ _ rfl rfl
          simp only at d1
          have n2 : 2 ∈ done := hdp { on := 2, ground := .chain } (by simp) (by decide)
          have n4 : 4 ∉ done := fun h => hnd (hcl 4 _ h rfl { on := 3, ground := .chain } (by simp) (by decide))
          rw [hG] at hg
          simp only [n4, hnd, n2, if_false, if_true] at hg
          subst hg
          have hh : upd s2 t4 a t5 = _ := (upd_ne _ _ (by first | exact n45 | exact n45.symm)).trans g5'
          simp [wantedE, go_sem, x5, f5, d1, hh]
          rw [hG]
          simp [n4, hb]
        | 4 =>
          have x6 := hE 6 (oldB_spec (by kernel_rfl))
          injection hi with hi; subst hi
          have n3 : 3 ∈ done := hdp { on := 3, ground := .chain } (by simp) (by decide)
          rw [hG] at hg
          simp only [hnd, n3, if_false, if_true] at hg
          subst hg
          have hh : upd (upd s2 t4 a) t5 b t6 = _ := (upd_ne _ _ (by first | exact n56 | exact n56.symm)).trans ((upd_ne _ _ (by first | exact n46 | exact n46.symm)).trans g6')
          simp [wantedE, go_sem, x6, f6, hh]
          rw [hG]
          simp [hc]
        | i + 5 => simp at hi
      · intro done E sta hall hg hd hE
        have y4 := (hE 4 (noB_spec (by kernel_rfl))).trans f4
        have y5 := (hE 5 (noB_spec (by kernel_rfl))).trans f5
        have y6 := (hE 6 (noB_spec (by kernel_rfl))).trans f6
        rw [hG] at hg
        simp only [hall 4 (by simp), if_true] at hg
        subst hg
        simp [go_sem]
        obtain ⟨X, hX⟩ : ∃ X, upd (upd (upd s2 t4 a) t5 b) t6 c = X := ⟨_, rfl⟩
        rw [hX]
        have K5 : Keep (KeptL t8) s2 X := by
          rw [← hX]
          refine ((keepP g4' (keptNo (by decide))).trans (keepP (st := upd s2 t4 a) (b := t5) ((upd_ne _ _ (by first | exact n45 | exact n45.symm)).trans g5') (keptNo (by decide)))).trans (keepP (st := upd (upd s2 t4 a) t5 b) (b := t6) ((upd_ne _ _ (by first | exact n56 | exact n56.symm)).trans ((upd_ne _ _ (by first | exact n46 | exact n46.symm)).trans g6')) (keptNo (by decide)))
        have hXD : ∀ D ∈ M, X D = some (.other (.deferred (some []))) := fun D hD => by
          have d4 : D ≠ t4 := by rintro rfl; exact m4 hD
          have d5 : D ≠ t5 := by rintro rfl; exact m5 hD
          have d6 : D ≠ t6 := by rintro rfl; exact m6 hD
          rw [← hX, upd_ne _ _ (by first | exact d6 | exact d6.symm), upd_ne _ _ (by first | exact d5 | exact d5.symm), upd_ne _ _ (by first | exact d4 | exact d4.symm)]
          exact (hMD' D hD).2
        have hX4 : X t4 = some (.cells true [ptr lp] 1 (.own t4 0 121)) := by
          rw [← hX, upd_ne _ _ (by first | exact n46 | exact n46.symm), upd_ne _ _ (by first | exact n45 | exact n45.symm), upd_same, ha]
        have hX5 : X t5 = some (.cells true [.slice vb rs.length vc] 1 (.own t5 0 122)) := by
          rw [← hX, upd_ne _ _ (by first | exact n56 | exact n56.symm), upd_same, hb]
        have hX6 : X t6 = some (.cells true [Val.i 0] 1 (.own t6 0 123)) := by
          rw [← hX, upd_same, hc]
        have hXl : X lp = some (.cells true [ptr f, Val.i L.last, Val.i L.end_, Val.i L.wants] 4 (.own lp 0 120)) := by
          rw [← hX, upd_ne _ _ (by first | exact n6l | exact n6l.symm), upd_ne _ _ (by first | exact n5l | exact n5l.symm), upd_ne _ _ (by first | exact n4l | exact n4l.symm)]; exact gl'
        have hXN : New st X := by rw [← hX]; exact ((K2.put ht4).put ht5s).put ht6s
        have KX : Keep (KeptL t8) s2 (shutM M X) := K5.trans (shutM_keep hM hXD)
        have w4 := (shutM_ne (st := X) m4).trans hX4
        have w5 := (shutM_ne (st := X) m5).trans hX5
        have w6 := (shutM_ne (st := X) m6).trans hX6
        have wl := (shutM_ne (st := X) ml).trans hXl
        refine RetM_cells3 hM hXD ?_
        simp [go_sem, y4, y5, y6, w4, w5, w6]
        exact ⟨shutM_new (fun D hD => (hMD' D hD).1) hXN, lp, _, ⟨rfl, rfl⟩, hlps, wl, cs, ⟨t8, ht8s, hF, hV'.keep KX (.inr rfl)⟩, hRs'.free fun k o g h1 h2 h3 => KX k o g h1 h2 (.inl h3)⟩
      · intro j oj hj
        match j with
        | 0 | 1 | 2 | 3 | 4 => simp at hj; subst hj; decide
        | j + 5 => simp at hj
    | some ix =>
      have hag' : aget S.now (nameT ⟨#[108, 111, 103, 45]⟩ n) = some ix := hag
      rw [hag'] at hm
      obtain ⟨F, rb, rc, hFi, rfl, hbV⟩ := hm
      have hgn : getL S n = some F.now := by unfold getL; rw [hag]; simp [hFi]
      simp [go_sem, e7, gl']
      have hnA : n < from_ + A := by
        rcases Int.lt_or_le n (from_ + A) with hh | hh
        · exact hh
        · rw [hcap n hh] at hgn; cases hgn
      have hkp : k ≠ 0 := by
        rintro rfl
        have e1 : nameT logB n = ⟨#[]⟩ := nameT_no (by unfold nameOKM; omega)
        have e2 : nameT logB (from_ + A) = ⟨#[]⟩ := nameT_no (by unfold nameOKM; omega)
        have h1 := hcap (from_ + A) (Int.le_refl _)
        have h2 : getL S n = getL S (from_ + A) := by unfold getL; rw [e1, e2]
        rw [h2, h1] at hgn
        cases hgn
      obtain ⟨k, rfl⟩ := Nat.exists_eq_succ_of_ne_zero hkp
      by_cases hw : L.wants = 2
      · have hfin : openM S from_ = none := by
          rw [hgo, openGo, hgn]
          simp [hw]
        rw [hfin]
        simp [go_sem, hw, e4, e5, e6, g4', g5', g6', n45, n46, n56, n45.symm, n46.symm, n56.symm, upd_ne]
        refine RetM_cells3 hM (fun D hD => ?_) ?_
        · have d4 : D ≠ t4 := by rintro rfl; exact m4 hD
          have d5 : D ≠ t5 := by rintro rfl; exact m5 hD
          have d6 : D ≠ t6 := by rintro rfl; exact m6 hD
          rw [upd_ne _ _ (by first | exact d6 | exact d6.symm), upd_ne _ _ (by first | exact d5 | exact d5.symm), upd_ne _ _ (by first | exact d4 | exact d4.symm)]
          exact (hMD' D hD).2
        · simp [go_sem, e4, e5, e6, shutM_ne m4, shutM_ne m5, shutM_ne m6, n45, n46, n56, n45.symm, n46.symm, n56.symm, upd_ne]
          exact shutM_new (fun D hD => (hMD' D hD).1) (((K2.put ht4).put ht5s).put ht6s)
      · simp [go_sem, hw]
        refine all_spec.mono ?_
        rintro e s3 ⟨bx, rfl, gbx, k3, hbx⟩
        simp [go_sem]
        refine ⟨147, #[ptr bx], by simp [go_sem], by kernel_rfl, ?_⟩
        intro D l T fn hD hDl hl hrec hT
        generalize hE0 : (Env.set _ _ _ : Env) = E0 at hT
        have f0 : E0 0 = ptr f := by subst hE0; simp [go_sem, e0]
        have f4 : E0 4 = ptr t4 := by subst hE0; simp [go_sem, e4]
        have f5 : E0 5 = ptr t5 := by subst hE0; simp [go_sem, e5]
        have f6 : E0 6 = ptr t6 := by subst hE0; simp [go_sem, e6]
        have f7 : E0 7 = ptr lp := by subst hE0; simp [go_sem, e7]
        have f8 : E0 8 = ptr t8 := by subst hE0; simp [go_sem, e8]
        have f9 : E0 9 = Val.i n := by subst hE0; simp [go_sem, e9]
        have f10 : E0 10 = .slice rb F.now.length rc := by subst hE0; simp [go_sem]
        generalize hR0 : ({ state := .ready, pending := none, fn := fn, tmps := T, params := #[46, 47], assign := _, body := _, defers := D } : Loop) = R0
        obtain ⟨s4, hs4⟩ : ∃ s4, upd (upd s3 D (.other (.deferred (some [])))) l (.other (.loop R0)) = s4 := ⟨_, rfl⟩
        rw [hs4]
        have k4 : New s3 s4 := by rw [← hs4]; exact ((New.refl s3).add hD).add (by rw [upd_ne _ _ (Ne.symm hDl)]; exact hl)
        have hl4 : s4 l = some (.other (.loop R0)) := by rw [← hs4]; exact upd_same _ _ _
        have hD4 : s4 D = some (.other (.deferred (some []))) := by rw [← hs4, upd_ne _ _ hDl]; exact upd_same _ _ _
        have k34 := k3.trans k4
        have K4 := K2.trans k34
        have hls := (K2.trans k3).none hl
        have hDs := (K2.trans k3).none hD
        have ne : ∀ {j : Nat} {o : HObj}, s3 j = some o → j ≠ l ∧ j ≠ D := fun h => ⟨(by rintro rfl; rw [h] at hl; cases hl), (by rintro rfl; rw [h] at hD; cases hD)⟩
        have hR0s : R0.state = .ready := by rw [← hR0]
        have hR0p : R0.pending = none := by rw [← hR0]
        have hDM : D ∉ M := fun hh => by rw [k3 _ _ (hMD' _ hh).2] at hD; cases hD
        have hblen : F.now.length ≤ B := hs F (List.mem_of_getElem? hFi)
        have gbx4 := k4 _ _ gbx
        have nb4 := ne_of_new g4' hbx
        have nb5 := ne_of_new g5' hbx
        have nb6 := ne_of_new g6' hbx
        have nb8 := ne_of_new g8' hbx
        have z4 := ne (k3 _ _ g4')
        have z5 := ne (k3 _ _ g5')
        have z6 := ne (k3 _ _ g6')
        have z8 := ne (k3 _ _ g8')
        have zl := ne (k3 _ _ gl')
        have zb := ne gbx
        have zM : ∀ D' ∈ D :: M, D' ≠ l := fun D' hD' => by
          rcases List.mem_cons.1 hD' with rfl | h1
          · exact hDl
          · exact (ne (k3 _ _ (hMD' _ h1).2)).1
        have hMall : ∀ D' ∈ D :: M, s4 D' = some (.other (.deferred (some []))) := fun D' hD' => by
          rcases List.mem_cons.1 hD' with rfl | h1
          · exact hD4
          · exact k34 _ _ (hMD' _ h1).2
        have hMst : ∀ D' ∈ D :: M, st D' = none := fun D' hD' => by
          rcases List.mem_cons.1 hD' with rfl | h1
          · exact hDs
          · exact (hMD' _ h1).1
        refine ICalls.mono (all1_gen (l := l) (bx := bx) (bv := .slice rb F.now.length rc) (b := F.now) (I := fun a s => ∃ (done : List Bs) (q : List RcD) (cs : List Value) (v : Value), New st s ∧ s l = some (.other (.loop R0)) ∧ (∀ D' ∈ D :: M, s D' = some (.other (.deferred (some [])))) ∧
            s t4 = some (.cells true [.pointer none] 1 (.own t4 0 121)) ∧ s t5 = some (.cells true [.slice none 0 0] 1 (.own t5 0 122)) ∧ s t6 = some (.cells true [Val.i 0] 1 (.own t6 0 123)) ∧ s lp = some (.cells true [ptr f, Val.i L.last, Val.i L.end_, Val.i L.wants] 4 (.own lp 0 120)) ∧ s bx = some (.cells true [.slice rb F.now.length rc] 1 (.ty 1)) ∧
            Vec s (.ty 1) 1 (.slice rb F.now.length rc) (bytesV F.now) F.now.length ∧ FrAt F.now a done ∧ recsM done = some q ∧ s t8 = some (.cells true [v] 1 (.own t8 0 124)) ∧ Vec s (.own t8 0 125) 18 v cs (rs ++ q).length ∧ Fresh st v ∧ RcsAt s cs (rs ++ q))
          (D := fun s => New st s ∧ s l = some (.other (.loop { R0 with state := .done, pending := some .ret })) ∧ (∀ D' ∈ D :: M, s D' = some (.other (.deferred (some [])))) ∧
            s t4 = some (.cells true [.pointer none] 1 (.own t4 0 121)) ∧ s t5 = some (.cells true [.slice none 0 0] 1 (.own t5 0 122)) ∧ s t6 = some (.cells true [Val.i 13] 1 (.own t6 0 123)) ∧ recsM (bodiesM F.now) = none) (by omega) ?_ ?_ ?_ ?_) ?_
        · rintro a s ⟨done, q, cs, v, i0, i1, i2, i3, i4, i5, i6, i7, i8, i9, i10, i11, i12, i13, i14⟩
          exact ⟨⟨_, _, i7⟩, _, i8.reg⟩
        · rintro a s s' hN ⟨done, q, cs, v, i0, i1, i2, i3, i4, i5, i6, i7, i8, i9, i10, i11, i12, i13, i14⟩
          exact ⟨done, q, cs, v, i0.trans hN, hN _ _ i1, fun D' hD' => hN _ _ (i2 D' hD'), hN _ _ i3, hN _ _ i4, hN _ _ i5, hN _ _ i6, hN _ _ i7, i8.new' hN, i9, i10, hN _ _ i11, i12.new' hN, i13, i14.new hN⟩
        · exact ⟨[], [], cs, v, K4, hl4, hMall, k34 _ _ g4', k34 _ _ g5', k34 _ _ g6', k34 _ _ gl', gbx4, hbV.new' k34, FrAt.zero _, rfl, k34 _ _ g8', by simpa using hV'.new' k34, hF, by simpa using hRs'.new k34⟩
        · rintro a s body e v' ha hfg ⟨done, q, cs, v, i0, i1, i2, i3, i4, i5, i6, i7, i8, i9, i10, i11, i12, i13, i14⟩ hbody K Kp hKt hKf
          have hTs := hrec.1
          unfold YieldI callX
          refine ⟨R0, i1, by rw [← hR0]; simp, ?_⟩
          have hRf : R0.fn = fn ∧ R0.tmps = T ∧ R0.params = #[46, 47] := by rw [← hR0]; exact ⟨rfl, rfl, rfl⟩
          have hRa := congrArg Loop.assign hR0
          have hRb := congrArg Loop.body hR0
          simp only at hRa hRb
          rw [← hRa, ← hRb, hRf.1, hRf.2.1, hRf.2.2]
          obtain ⟨_, q1, q2, q3, q4, _⟩ := hrec
          simp
          refine RoundI_of (by kernel_rfl) (by simpa [hTs] using q1) (by simpa [hTs] using q2) q3 q4 ?_
          generalize hE1 : (fun t => ((T.setIfInBounds 46 (Val.i a)).setIfInBounds 47 v').getD t undef : Env) = E1
          have b47 : E1 47 = v' := by rw [← hE1]; simp [Array.getD_eq_getD_getElem?, Array.getElem?_setIfInBounds, hTs]
          have fx : ∀ t, t ≠ 46 → t ≠ 47 → E1 t = E0 t := fun t h1 h2 => by
            rw [← hT t, ← hE1]
            simp [Array.getD_eq_getD_getElem?, Array.getElem?_setIfInBounds, Ne.symm h1, Ne.symm h2]
          have b4 : E1 4 = ptr t4 := by rw [fx 4 (by decide) (by decide), f4]
          have b5 : E1 5 = ptr t5 := by rw [fx 5 (by decide) (by decide), f5]
          have b6 : E1 6 = ptr t6 := by rw [fx 6 (by decide) (by decide), f6]
          have b8 : E1 8 = ptr t8 := by rw [fx 8 (by decide) (by decide), f8]
          clear hE1 fx hRa hRb
          simp [go_sem, b47]
          refine ⟨R0, i1, hR0s, ?_⟩
          generalize hR2 : ({ state := .busy, pending := R0.pending, fn := R0.fn, tmps := R0.tmps, params := R0.params, assign := R0.assign, body := R0.body, defers := R0.defers } : Loop) = R2
          obtain ⟨s0, hs0⟩ : ∃ s0, upd s l (.other (.loop R2)) = s0 := ⟨_, rfl⟩
          rw [hs0]
          have hz : ∀ {j : Nat}, j ≠ l → s0 j = s j := fun h1 => by rw [← hs0]; exact upd_ne _ _ (by first | exact h1 | exact h1.symm)
          have KO : ∀ p, Keep p s s0 := fun p => by rw [← hs0]; exact keepO i1
          have j0 : New st s0 := by rw [← hs0]; exact i0.put hls
          have jl : s0 l = some (.other (.loop R2)) := by rw [← hs0]; exact upd_same _ _ _
          have j2 : ∀ D' ∈ D :: M, s0 D' = some (.other (.deferred (some []))) := fun D' hD' => (hz (zM D' hD')).trans (i2 D' hD')
          have j3 := (hz z4.1).trans i3
          have j4 := (hz z5.1).trans i4
          have j5 := (hz z6.1).trans i5
          have j6 := (hz zl.1).trans i6
          have j7 := (hz zb.1).trans i7
          have j8 : Vec s0 (.ty 1) 1 (.slice rb F.now.length rc) (bytesV F.now) F.now.length := i8.keep (KO fun _ => True) trivial
          have j11 := (hz z8.1).trans i11
          have j12 : Vec s0 (.own t8 0 125) 18 v cs (rs ++ q).length := i12.keep (KO fun _ => True) trivial
          have j14 : RcsAt s0 cs (rs ++ q) := i14.free (KO Free)
          have jb : Vec s0 (.ty 1) 1 v' (bytesV body) body.length := hbody.keep (KO fun _ => True) trivial
          clear hz KO
          have hbl := frameGetM_len hfg
          refine (getRec_spec jb.reg Free.ty (by omega)).mono ?_
          rintro ee s5 ⟨hN, hm⟩
          cases hg : recGetM body true with
          | none =>
            rw [hg] at hm
            simp only at hm
            subst hm
            simp [go_sem, zeroRcC]
            obtain ⟨Z, hZ⟩ : ∃ Z, [Value.int IntKind.i64 0, Value.int IntKind.i64 0, Value.slice none 0 0, Value.int IntKind.i64 0, Value.slice none 0 0, Value.slice none 0 0, Value.int IntKind.u64 0, Value.int IntKind.u64 0, Value.int IntKind.u64 0, Value.int IntKind.u64 0, Value.int IntKind.i64 0, Value.int IntKind.i64 0, Value.string ⟨#[]⟩, Value.string ⟨#[]⟩, Value.slice none 0 0, Value.slice none 0 0, Value.int IntKind.i64 0, Value.int IntKind.i64 0] = Z := ⟨_, rfl⟩
            rw [hZ]
            have hZl : Z.length = 18 := by subst hZ; rfl
            unfold NewP
            intro ta hta
            refine ⟨.own ta 0 126, ?_⟩
            have kA := (New.refl s5).add (b := ta) (o := .cells true Z 18 (.own ta 0 126)) hta
            have gA := upd_same s5 ta (.cells true Z 18 (.own ta 0 126))
            have na4 := ne_of_new (hN _ _ j3) hta
            have na5 := ne_of_new (hN _ _ j4) hta
            have na6 := ne_of_new (hN _ _ j5) hta
            have na8 := ne_of_new (hN _ _ j11) hta
            have nal := ne_of_new (hN _ _ j6) hta
            have nab := ne_of_new (hN _ _ j7) hta
            have naL : l ≠ ta := by rintro rfl; rw [hN _ _ jl] at hta; cases hta
            have naM : ∀ D' ∈ D :: M, D' ≠ ta := fun D' hD' => by rintro rfl; rw [hN _ _ (j2 _ hD')] at hta; cases hta
            have hta0 := (j0.trans hN).none hta
            have kN := hN.trans kA
            subst hZ
            have h4 := (hN _ _ j3)
            have h5 := (hN _ _ j4)
            have h6 := (hN _ _ j5)
            simp [go_sem, b4, b5, b6, gA, hZl, h4, h5, h6, n45, n46, n56, n45.symm, n46.symm, n56.symm, na4, na5, na6, na4.symm, na5.symm, na6.symm, upd_ne]
            obtain ⟨X, hX⟩ : ∃ X, HObj.cells true [Value.int IntKind.i64 0, Value.int IntKind.i64 0, Value.slice none 0 0, Value.int IntKind.i64 0, Value.slice none 0 0, Value.slice none 0 0, Value.int IntKind.u64 0, Value.int IntKind.u64 0, Value.int IntKind.u64 0, Value.int IntKind.u64 0, Value.int IntKind.i64 0, Value.int IntKind.i64 0, Value.string ⟨#[]⟩, Value.string ⟨#[]⟩, Value.slice none 0 0, Value.slice none 0 0, Value.int IntKind.i64 0, Value.int IntKind.i64 0] 18 (.own ta 0 126) = X := ⟨_, rfl⟩
            rw [hX]
            obtain ⟨W4, hW4⟩ : ∃ W4, HObj.cells true [Value.pointer none] 1 (Tg.own t4 0 121) = W4 := ⟨_, rfl⟩
            obtain ⟨W5, hW5⟩ : ∃ W5, HObj.cells true [Value.slice none 0 0] 1 (Tg.own t5 0 122) = W5 := ⟨_, rfl⟩
            obtain ⟨W6, hW6⟩ : ∃ W6, HObj.cells true [Value.int IntKind.i64 13] 1 (Tg.own t6 0 123) = W6 := ⟨_, rfl⟩
            rw [hW4, hW5, hW6]
            have hz : ∀ {j : Nat} {o : HObj}, j ≠ ta → j ≠ t4 → j ≠ t5 → j ≠ t6 → s5 j = some o → upd (upd (upd (upd s5 ta X) t4 W4) t5 W5) t6 W6 j = some o := fun h1 h2 h3 h4 h5 => by
              rw [upd_ne _ _ (by first | exact h4 | exact h4.symm), upd_ne _ _ (by first | exact h3 | exact h3.symm), upd_ne _ _ (by first | exact h2 | exact h2.symm), upd_ne _ _ (by first | exact h1 | exact h1.symm)]; exact h5
            refine ⟨R2, hz naL (Ne.symm z4.1) (Ne.symm z5.1) (Ne.symm z6.1) (hN _ _ jl), ?_⟩
            have hR2e : ∀ x y, ({ R2 with state := x, pending := y } : Loop) = { R0 with state := x, pending := y } := fun x y => by rw [← hR2]
            rw [hR2e]
            have hno : ∀ D' ∈ D :: M, ∀ {j : Nat} {rw_ : Bool} {xs : List Value} {m : Nat} {g : Tg}, s0 j = some (.cells rw_ xs m g) → D' ≠ j := fun D' hD' j rw_ xs m g hj => by rintro rfl; rw [j2 _ hD'] at hj; cases hj
            refine hKf _ ⟨(((((j0.trans hN).put hta0).put ht4).put ht5s).put ht6s).put hls, upd_same _ _ _, fun D' hD' => ?_, ?_, ?_, ?_, ?_⟩
            · rw [upd_ne _ _ (by have := zM D' hD'; first | exact this | exact this.symm)]
              exact hz (naM D' hD') (hno D' hD' j3) (hno D' hD' j4) (hno D' hD' j5) (hN _ _ (j2 D' hD'))
            · rw [upd_ne _ _ (by have := z4.1; first | exact this | exact this.symm), upd_ne _ _ (by first | exact n46 | exact n46.symm), upd_ne _ _ (by first | exact n45 | exact n45.symm), upd_same, hW4]
            · rw [upd_ne _ _ (by have := z5.1; first | exact this | exact this.symm), upd_ne _ _ (by first | exact n56 | exact n56.symm), upd_same, hW5]
            · rw [upd_ne _ _ (by have := z6.1; first | exact this | exact this.symm), upd_same, hW6]
            · obtain ⟨rest, hrest⟩ := (i9.next hfg).none
              rw [hrest]
              refine recsM_none ?_
              rw [recsM_snoc, i10]
              simp [hg]
          | some r =>
            rw [hg] at hm
            obtain ⟨rcs, rfl, hRc⟩ := hm
            obtain ⟨sq, kd, lb, ll, lc, a_, hb, hl_, hc, kb, kl, kc, n_, x_, lo, hi, ts, op, w1, w2, vb, vl, vc, jb_, jl_, jc, fr, to, hform⟩ := hRc.eighteen
            subst hform
            simp [go_sem]
            obtain ⟨Z, hZ⟩ : ∃ Z, [Value.int IntKind.i64 0, Value.int IntKind.i64 0, Value.slice none 0 0, Value.int IntKind.i64 0, Value.slice none 0 0, Value.slice none 0 0, Value.int IntKind.u64 0, Value.int IntKind.u64 0, Value.int IntKind.u64 0, Value.int IntKind.u64 0, Value.int IntKind.i64 0, Value.int IntKind.i64 0, Value.string ⟨#[]⟩, Value.string ⟨#[]⟩, Value.slice none 0 0, Value.slice none 0 0, Value.int IntKind.i64 0, Value.int IntKind.i64 0] = Z := ⟨_, rfl⟩
            rw [hZ]
            have hZl : Z.length = 18 := by subst hZ; rfl
            unfold NewP
            intro ta hta
            refine ⟨.own ta 0 126, ?_⟩
            have kA := (New.refl s5).add (b := ta) (o := .cells true Z 18 (.own ta 0 126)) hta
            have gA := upd_same s5 ta (.cells true Z 18 (.own ta 0 126))
            have na4 := ne_of_new (hN _ _ j3) hta
            have na5 := ne_of_new (hN _ _ j4) hta
            have na6 := ne_of_new (hN _ _ j5) hta
            have na8 := ne_of_new (hN _ _ j11) hta
            have nal := ne_of_new (hN _ _ j6) hta
            have nab := ne_of_new (hN _ _ j7) hta
            have naL : l ≠ ta := by rintro rfl; rw [hN _ _ jl] at hta; cases hta
            have naM : ∀ D' ∈ D :: M, D' ≠ ta := fun D' hD' => by rintro rfl; rw [hN _ _ (j2 _ hD')] at hta; cases hta
            have hta0 := (j0.trans hN).none hta
            have kN := hN.trans kA
            have h8 := hN _ _ j11
            have hZd : Z.drop 18 = [] := by subst hZ; rfl
            simp [go_sem, b4, b5, b6, b8, gA, hZl, hZd, h8, na8, na8.symm, upd_ne]
            obtain ⟨rcs, hrcs⟩ : ∃ x, [Val.i sq, Val.i kd, Value.slice lb ll lc, Val.i a_, Value.slice hb hl_ hc, Value.slice kb kl kc, Val.u n_, Val.u x_, Val.u lo, Val.u hi, Val.i ts, Val.i op, Value.string w1, Value.string w2, Value.slice vb vl vc, Value.slice jb_ jl_ jc, Val.i fr, Val.i to] = x := ⟨_, rfl⟩
            have hrl : rcs.length = 18 := by subst hrcs; rfl
            have hr1 : ∀ y ∈ rcs, y.oneCell' = true := by subst hrcs; simp [go_sem, Value.oneCell']
            rw [hrcs] at hRc ⊢
            unfold NewS
            intro ns hns
            refine ⟨.own ns 0 127, ?_⟩
            simp [go_sem, hrl]
            have kC : New s5 (upd (upd s5 ta (.cells true rcs 18 (.own ta 0 126))) ns (.cells true rcs 18 (.own ns 0 127))) := ((New.refl s5).add hta).add hns
            have gns := upd_same (upd s5 ta (.cells true rcs 18 (.own ta 0 126))) ns (.cells true rcs 18 (.own ns 0 127))
            generalize upd (upd s5 ta (.cells true rcs 18 (.own ta 0 126))) ns (.cells true rcs 18 (.own ns 0 127)) = s7 at *
            have k07 := hN.trans kC
            have hbound : (n - from_).toNat * B + B ≤ 2 ^ 36 := by
              have h1 : ((n - from_).toNat + 1) * B ≤ A * B := Nat.mul_le_mul_right _ (by omega)
              rw [Nat.add_mul] at h1
              omega
            have hql := recsM_len i10
            have hdl := i9.1
            have hal : a ≤ F.now.length := by obtain ⟨_, _, _, h2, _⟩ := i9; exact h2
            have hrsq : (rs ++ q).length ≤ 2 ^ 36 := by rw [List.length_append]; omega
            refine AppI_new (st0 := st) (g := .own t8 0 125) (m := 1) (ys := rcs) si70 (j12.new' k07) i13 (j0.trans k07) (by simp [srcCells, lkN_mk, gns, cellsOf, hrl, List.take_of_length_le]) hr1 (by omega) ?_
            intro base cap s8 hV8 hF8 hN8 hE8
            have KE : Keep (fun g => g ≠ .own t8 0 125) s7 s8 := hE8.toKeep (by simp)
            have KF : Keep Free s7 s8 := hE8.toKeep (fun h => h _ _ _ rfl)
            have c3 := KE _ _ _ (k07 _ _ j3) rfl (by simp)
            have c4 := KE _ _ _ (k07 _ _ j4) rfl (by simp)
            have c5 := KE _ _ _ (k07 _ _ j5) rfl (by simp)
            have c6 := KE _ _ _ (k07 _ _ j6) rfl (by simp)
            have c7 := KE _ _ _ (k07 _ _ j7) rfl (by simp)
            have c11 := KE _ _ _ (k07 _ _ j11) rfl (by simp)
            have cl := hE8.other _ _ (k07 _ _ jl)
            have c2 : ∀ D' ∈ D :: M, s8 D' = some (.other (.deferred (some []))) := fun D' hD' => hE8.other _ _ (k07 _ _ (j2 D' hD'))
            have hl8 : (rs ++ q).length = rs.length + q.length := List.length_append
            rw [hl8] at hV8 hF8
            simp [go_sem, b8, c11]
            obtain ⟨Y, hY⟩ : ∃ Y, HObj.cells true [Value.slice base (rs.length + q.length + 1) cap] 1 (Tg.own t8 0 124) = Y := ⟨_, rfl⟩
            rw [hY]
            have cl8 : upd s8 t8 Y l = _ := (upd_ne _ _ (by have := z8.1; first | exact this | exact this.symm)).trans cl
            refine ⟨R2, cl8, ?_⟩
            have hR2e : ∀ x y, ({ R2 with state := x, pending := y } : Loop) = { R0 with state := x, pending := y } := fun x y => by rw [← hR2]
            rw [hR2e]
            have hR00 : ({ R0 with state := .ready, pending := none } : Loop) = R0 := by rw [← hR0]
            rw [hR00]
            have KP : ∀ {p : Tg → Prop}, ¬ p (.own t8 0 124) → Keep p s8 (upd (upd s8 t8 Y) l (.other (.loop R0))) := fun hp => (keepP c11 hp).trans (keepO cl8)
            have hz : ∀ {j : Nat} {o : HObj}, j ≠ l → j ≠ t8 → s8 j = some o → upd (upd s8 t8 Y) l (.other (.loop R0)) j = some o := fun h1 h2 h3 => by
              rw [upd_ne _ _ (by first | exact h1 | exact h1.symm), upd_ne _ _ (by first | exact h2 | exact h2.symm)]; exact h3
            have e18 : (rs ++ (q ++ [r])).length = rs.length + q.length + 1 := by simp; omega
            refine hKt _ ⟨done ++ [body], q ++ [r], cs ++ rcs, .slice base (rs.length + q.length + 1) cap, (hN8.put ht8s).put hls, upd_same _ _ _, fun D' hD' => hz (zM D' hD') (by rintro rfl; rw [j2 _ hD'] at j11; cases j11) (c2 D' hD'),
              hz z4.1 n48 c3, hz z5.1 n58 c4, hz z6.1 n68 c5, hz zl.1 nl8 c6, hz zb.1 nb8.symm c7,
              ((j8.new' k07).keep KE (by simp)).keep (KP (p := fun g => g = .ty 1) (by simp)) rfl, i9.next hfg, by rw [recsM_snoc, i10]; simp [hg], ?_, ?_, hF8, ?_⟩
            · rw [← hY]
              exact (upd_ne _ _ (by have := z8.1; first | exact this | exact this.symm)).trans (upd_same _ _ _)
            · rw [e18]
              exact hV8.keep (KP (p := fun g => g = .own t8 0 125) (by simp)) rfl
            · rw [← List.append_assoc]
              exact ((j14.new k07).free KF).snoc (RcAt.free KF (hRc.new kC)) |>.free (KP (p := Free) (fun h => h _ _ _ rfl))
        · rintro e st' ⟨rfl, ⟨a, ke, hfg, done, q, cs, v, i0, i1, i2, i3, i4, i5, i6, i7, i8, i9, i10, i11, i12, i13, i14⟩ | hF⟩
          · obtain ⟨hbo, hen, hdl⟩ := i9.end hfg
            refine ⟨R0, i1, by rw [hR0s]; simp, ?_⟩
            rw [hR0p]
            generalize hS1 : upd st' l _ = S1
            have hz : ∀ {j : Nat} {o : HObj}, j ≠ l → st' j = some o → S1 j = some o := fun h1 h2 => by
              rw [← hS1, upd_ne _ _ (by first | exact h1 | exact h1.symm)]; exact h2
            have KO : ∀ p, Keep p st' S1 := fun p => by rw [← hS1]; exact keepO i1
            have j0 : New st S1 := by rw [← hS1]; exact i0.put hls
            have j2 : ∀ D' ∈ D :: M, S1 D' = some (.other (.deferred (some []))) := fun D' hD' => hz (zM D' hD') (i2 D' hD')
            have j3 := hz z4.1 i3
            have j4 := hz z5.1 i4
            have j5 := hz z6.1 i5
            have j6 := hz zl.1 i6
            have j8 : Vec S1 (.ty 1) 1 (.slice rb F.now.length rc) (bytesV F.now) F.now.length := i8.keep (KO fun _ => True) trivial
            have j11 := hz z8.1 i11
            have j12 : Vec S1 (.own t8 0 125) 18 v cs (rs ++ q).length := i12.keep (KO fun _ => True) trivial
            have j14 : RcsAt S1 cs (rs ++ q) := i14.free (KO Free)
            clear hz KO
            simp [go_sem, f10]
            refine (ends_spec j8.reg (by omega)).mono ?_
            rintro ee s5 ⟨rfl, hN⟩
            have c6 := hN _ _ j6
            simp [go_sem, f7, f9, c6]
            have hwn : IntKind.i64.wrap (n + 1) = n + 1 := wrap_id (by omega) (by omega)
            have hlenq : (rs ++ q).length ≤ (n + 1 - from_).toNat * B := by
              have hql := recsM_len i10
              have h1 : (n + 1 - from_).toNat = (n - from_).toNat + 1 := by omega
              rw [h1, Nat.add_mul, List.length_append]
              omega
            have hopen : ∀ w : Int, (if endsM F.now = F.now.length then (1 : Int) else 2) = w → openM S from_ = openGo (getL S) k (n + 1) ⟨n, endsM F.now, w⟩ (rs ++ q) := fun w hw' => by
              rw [hgo, openGo, hgn]
              simp only [hbo, i10, hw', hw, if_false]
            have hclose : ∀ (w : Int) (X : Heap), X = upd s5 lp (.cells true [ptr f, Val.i n, Val.i (endsM F.now), Val.i w] 4 (.own lp 0 120)) → (if endsM F.now = F.now.length then (1 : Int) else 2) = w →
                New st X ∧ X t4 = some (.cells true [.pointer none] 1 (.own t4 0 121)) ∧ X t5 = some (.cells true [.slice none 0 0] 1 (.own t5 0 122)) ∧ X t6 = some (.cells true [Val.i 0] 1 (.own t6 0 123)) ∧ (∀ D' ∈ D :: M, X D' = some (.other (.deferred (some [])))) ∧ X lp = some (.cells true [ptr f, Val.i n, Val.i (endsM F.now), Val.i w] 4 (.own lp 0 120)) ∧
                X t8 = some (.cells true [v] 1 (.own t8 0 124)) ∧ Vec X (.own t8 0 125) 18 v cs (rs ++ q).length ∧ RcsAt X cs (rs ++ q) := by
              rintro w X rfl hw'
              refine ⟨(j0.trans hN).put hlps, ?_, ?_, ?_, fun D' hD' => ?_, upd_same _ _ _, ?_, (j12.new' hN).keep (keepP (p := fun g => g = .own t8 0 125) c6 (by simp)) rfl, (j14.new hN).free (keepP (p := Free) c6 (fun h => h _ _ _ rfl))⟩
              · rw [upd_ne _ _ (by first | exact n4l | exact n4l.symm)]; exact hN _ _ j3
              · rw [upd_ne _ _ (by first | exact n5l | exact n5l.symm)]; exact hN _ _ j4
              · rw [upd_ne _ _ (by first | exact n6l | exact n6l.symm)]; exact hN _ _ j5
              · have : D' ≠ lp := by rintro rfl; rw [j2 _ hD'] at j6; cases j6
                rw [upd_ne _ _ (by first | exact this | exact this.symm)]; exact hN _ _ (j2 D' hD')
              · rw [upd_ne _ _ (by first | exact nl8 | exact nl8.symm)]; exact hN _ _ j11
            by_cases hend : endsM F.now = F.now.length
            · obtain ⟨y0, y1, y2, y3, y4, y5, y6, y7, y8⟩ := hclose 1 _ rfl (if_pos hend)
              have ho := hopen 1 (if_pos hend)
              simp [go_sem, hend, f9, hwn]
              rw [hend] at y0 y1 y2 y3 y4 y5 y6 y7 y8 ho
              refine ⟨_, .rfl' _, ⟨f0, f4, f5, f6, f8, y0, y1, y2, y3, ⟨hDM, hM⟩, ⟨⟨hDs, y4 D (by simp)⟩, fun D' hD' => ⟨hMst D' (by simp [hD']), y4 D' (by simp [hD'])⟩⟩, by omega, by omega, ⟨n, F.now.length, 1⟩, y5, rs ++ q, k, cs, v, y6, y7, i13, y8, ho, by omega, hlenq⟩, by omega⟩
            · obtain ⟨y0, y1, y2, y3, y4, y5, y6, y7, y8⟩ := hclose 2 _ rfl (if_neg hend)
              have ho := hopen 2 (if_neg hend)
              simp [go_sem, hend, f7, f9, hwn]
              refine ⟨_, .rfl' _, ⟨f0, f4, f5, f6, f8, y0, y1, y2, y3, ⟨hDM, hM⟩, ⟨⟨hDs, y4 D (by simp)⟩, fun D' hD' => ⟨hMst D' (by simp [hD']), y4 D' (by simp [hD'])⟩⟩, by omega, by omega, ⟨n, endsM F.now, 2⟩, y5, rs ++ q, k, cs, v, y6, y7, i13, y8, ho, by omega, hlenq⟩, by omega⟩
          · obtain ⟨i0, i1, i2, i3, i4, i5, i6⟩ := hF
            refine ⟨_, i1, by simp, ?_⟩
            generalize hS1 : upd st' l _ = S1
            have hz : ∀ {j : Nat} {o : HObj}, j ≠ l → st' j = some o → S1 j = some o := fun h1 h2 => by
              rw [← hS1, upd_ne _ _ (by first | exact h1 | exact h1.symm)]; exact h2
            have j0 : New st S1 := by rw [← hS1]; exact i0.put hls
            have j2 : ∀ D' ∈ D :: M, S1 D' = some (.other (.deferred (some []))) := fun D' hD' => hz (zM D' hD') (i2 D' hD')
            have j3 := hz z4.1 i3
            have j4 := hz z5.1 i4
            have j5 := hz z6.1 i5
            have hfin : openM S from_ = none := by
              rw [hgo, openGo, hgn]
              simp [hw, i6]
            rw [hfin]
            have hnM' : ∀ {j : Nat} {rw_ : Bool} {xs : List Value} {m : Nat} {g : Tg}, S1 j = some (.cells rw_ xs m g) → j ∉ D :: M := fun h1 h2 => by rw [j2 _ h2] at h1; cases h1
            have m4' := (shutM_ne (st := S1) (hnM' j3)).trans j3
            have m5' := (shutM_ne (st := S1) (hnM' j4)).trans j4
            have m6' := (shutM_ne (st := S1) (hnM' j5)).trans j5
            simp [go_sem]
            refine RetM_cells3 (List.nodup_cons.2 ⟨hDM, hM⟩) j2 ?_
            simp [go_sem, f4, f5, f6, m4', m5', m6']
            exact shutM_new hMst j0
  · rw [nameT_no hnm]
    simp [go_sem, hnm, g4c, g5c, g6c, n45, n46, n56, n45.symm, n46.symm, n56.symm, upd_ne]
    refine RetM_cells3 (by simp) (by simp) ?_
    simp [go_sem, shutM, n45, n46, n56, n45.symm, n46.symm, n56.symm, upd_ne]
    exact ((K4.put ht4).put ht5s).put ht6s
end
end Go.Proofs.YtadgciaclhjjkaaGreat
