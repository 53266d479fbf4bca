/- Texts that are the same. -/
import Derived.Test.YtgppogppdmbgmaaGreatC10
import Derived.Test.YtgppogppdmbgmaaGreatC34
import Derived.Test.YtgppogppdmbgmaaGreatC36
set_option linter.unusedVariables false
set_option linter.unusedSimpArgs false
set_option maxRecDepth 100000
set_option maxHeartbeats 4000000
namespace Go.Proofs.YtgppogppdmbgmaaGreat
open Go.RowKit (Below)
section
variable {W0 : World} {st : Heap}
theorem SameTexts_spec {v w : Value} {xs : List ByteArray} (h : RegF st 1 v (xs.map .string) xs.length) (h' : RegF st 1 w (xs.map .string) xs.length) (hl : xs.length < 2 ^ 40) : ICalls Tryz.prog W0 49 #[v, w] st fun e st' => e = .returned (.bool true) ∧ st' = st := by
  obtain ⟨vb, vc, rfl⟩ := h.slice
  obtain ⟨wb, wc, rfl⟩ := h'.slice
  refine enter (args := [_, _]) Tryz.func49 rfl ?_
  simp [Tryz.f49, go_sem]
  refine ⟨fun E st' => st' = st ∧ E 0 = .slice vb xs.length vc ∧ E 1 = .slice wb xs.length wc ∧ ∃ i : Nat, E 5 = Val.i i ∧ i ≤ xs.length,
    fun E _ => match E 5 with | .int _ i => xs.length - i.toNat | _ => 0, ⟨st, .rfl' _, rfl, by simp [go_sem], by simp [go_sem], 0, by simp [go_sem], by omega⟩, ?_⟩
  rintro E st' ⟨rfl, e0, e1, i, e5, hi⟩
  by_cases hlt : i < xs.length
  · have hlt' : ((i : Int) < xs.length) = True := eq_true (by omega)
    have hwi : IntKind.i64.wrap ((i : Int) + 1) = ((i + 1 : Nat) : Int) := by rw [wrap_id (by omega) (by omega)]; omega
    obtain ⟨b1, o1, rfl, g1⟩ := src_get h.src (by omega)
    obtain ⟨b2, o2, rfl, g2⟩ := src_get h'.src (by omega)
    have hv : xs[i]? = some xs[i] := List.getElem?_eq_getElem hlt
    have hg1 := g1 i (by omega)
    have hg2 := g2 i (by omega)
    have hgv : (xs.map Value.string)[i]? = some (.string xs[i]) := by simp [hv]
    rw [hgv] at hg1 hg2
    simp [go_sem, e0, e1, e5, hlt', hlt]
    refine draw [0, 1, 2, 4, 5, 6, 3, 7, 8] (by kernel_rfl) ?_
    simp [go_sem, e0, e1, e5, hlt', hlt, hg1, hg2, hwi]
    exact ⟨_, .rfl' _, ⟨rfl, i + 1, by omega, by omega⟩, by omega⟩
  · have hlt' : ((i : Int) < xs.length) = False := eq_false (by omega)
    simp [go_sem, e0, e1, e5, hlt', hlt]
end
end Go.Proofs.YtgppogppdmbgmaaGreat
set_option linter.unusedVariables false
set_option linter.unusedSimpArgs false
set_option maxRecDepth 100000
set_option maxHeartbeats 2000000
namespace Go.Proofs.YtgppogppdmbgmaaGreat
open Go.RowKit (Below)
/-- A directory with one manifest, and files that are no more named. -/
def zS (k : Nat) (Fs : List VFile) (c : Ctl) : VFS := ⟨[(manN, k)], [(manN, k)], [], Fs, c⟩
def Still (c : Ctl) : Prop := c.armed = false ∧ c.off = false
theorem Still.call {c : Ctl} (h : Still c) : c.call.1 = 0 ∧ Still c.call.2 := by
  obtain ⟨a, b, d, e, f⟩ := c
  obtain ⟨h1, h2⟩ := h
  simp only at h1 h2
  subst h1
  subst h2
  exact ⟨rfl, rfl, rfl⟩
theorem modify_last {α : Type} (f : α → α) (x : α) : ∀ l : List α, (l ++ [x]).modify l.length f = l ++ [f x]
  | [] => rfl
  | y :: l => by
    have := modify_last f x l
    simp only [List.cons_append, List.length_cons, List.modify_succ_cons, this]
theorem ctl_pair {c : Ctl} (h : Still c) : ∃ c', c.call = (0, c') ∧ Still c' := ⟨c.call.2, by rw [← h.call.1], h.call.2⟩
def Files (Fs : List VFile) : Prop := (∀ (i : Nat) (F : VFile), Fs[i]? = some F → F.born = i) ∧ ∀ F ∈ Fs, F.pend = [] ∧ F.now.length ≤ 1073741824 ∧ F.sure.length ≤ 1073741824
section
variable {b : Bs} {c c' : Ctl} {k : Nat} {Fs : List VFile}
def z1 (k : Nat) (Fs : List VFile) (c : Ctl) : VFS := ⟨[(manN, k)], [(manN, k), (tmpN, Fs.length)], [⟨0, tmpN, ⟨#[]⟩, some Fs.length⟩], Fs ++ [⟨Fs.length, [], [], []⟩], c⟩
def z2 (k : Nat) (Fs : List VFile) (b : Bs) (c : Ctl) : VFS := ⟨[(manN, k)], [(manN, k), (tmpN, Fs.length)], [⟨0, tmpN, ⟨#[]⟩, some Fs.length⟩], Fs ++ [⟨Fs.length, [], [⟨false, 0, b⟩], b⟩], c⟩
def z3 (k : Nat) (Fs : List VFile) (b : Bs) (c : Ctl) : VFS := ⟨[(manN, k)], [(manN, k), (tmpN, Fs.length)], [⟨0, tmpN, ⟨#[]⟩, some Fs.length⟩], Fs ++ [⟨Fs.length, b, [], b⟩], c⟩
def z4 (k : Nat) (Fs : List VFile) (b : Bs) (c : Ctl) : VFS := ⟨[(manN, k)], [(manN, Fs.length)], [⟨0, tmpN, ⟨#[]⟩, some Fs.length⟩, ⟨1, tmpN, manN, none⟩], Fs ++ [⟨Fs.length, b, [], b⟩], c⟩
theorem zt0 (h : c.call = (0, c')) : pubStep b 0 (zS k Fs c) = (0, z1 k Fs c') := by
  simp [pubStep, zS, z1, VFS.create, h, ok_t, aget, afind, aset, n_mt, n_tm]
theorem zt1 (h : c.call = (0, c')) (hb : b.length ≤ 1073741824) : pubStep b 1 (z1 k Fs c) = (0, z2 k Fs b c') := by
  simp [pubStep, z1, z2, VFS.append, h, ok_t, aget, afind, n_mt, n_tm, n_tt, VFS.lenOf, VFS.put, VFile.app, hb, modify_last]
theorem zt2 (h : c.call = (0, c')) : pubStep b 2 (z2 k Fs b c) = (0, z3 k Fs b c') := by
  simp [pubStep, z2, z3, VFS.syncF, h, ok_t, aget, afind, n_mt, n_tm, n_tt, VFS.ctl, modify_last]
  rfl
theorem zt3 (h : c.call = (0, c')) : pubStep b 3 (z3 k Fs b c) = (0, z4 k Fs b c') := by
  simp [pubStep, z3, z4, VFS.rename, h, ok_t, ok_m, aget, afind, aset, adel, n_mt, n_tm, n_tt, n_mm, VFS.turn]
theorem z4_sync : syncM (z4 k Fs b c).turns (z4 k Fs b c).sure = some [(manN, Fs.length)] := by
  simp [z4, syncM, VTurn.does, aget, afind, aset, adel, n_mt, n_tm, n_tt, n_mm]
theorem zt4 (h : c.call = (0, c')) : pubStep b 4 (z4 k Fs b c) = (0, zS Fs.length (Fs ++ [⟨Fs.length, b, [], b⟩]) c') := by
  show VFS.syncD (z4 k Fs b c) = _
  unfold VFS.syncD
  rw [z4_sync]
  simp [z4, zS, h]
theorem Files.add (h : Files Fs) {s n : Bs} {p : List VUnit} (hp : p = []) (hs : s.length ≤ 1073741824) (hn : n.length ≤ 1073741824) : Files (Fs ++ [⟨Fs.length, s, p, n⟩]) := by
  subst hp
  refine ⟨fun i F hi => ?_, fun F hF => ?_⟩
  · by_cases hlt : i < Fs.length
    · rw [List.getElem?_append_left hlt] at hi
      exact h.1 i F hi
    · rw [List.getElem?_append_right (by omega)] at hi
      have h0 : i - Fs.length = 0 := by
        rcases Nat.eq_zero_or_pos (i - Fs.length) with h | h
        · exact h
        · rw [List.getElem?_eq_none (by simp; omega)] at hi; cases hi
      rw [h0] at hi
      injection hi with hi
      subst hi
      simp only
      omega
  · rcases List.mem_append.1 hF with hF | hF
    · exact h.2 F hF
    · simp at hF
      subst hF
      exact ⟨rfl, hn, hs⟩
theorem small_of {S : VFS} (ht : S.turns.length ≤ 2) (hl : S.files.length ≤ 100) (hF : ∀ F ∈ S.files, F.pend.length ≤ 1 ∧ F.now.length ≤ 1073741824 ∧ F.sure.length ≤ 1073741824) : S.small :=
  ⟨by omega, by omega, fun F h => by have := hF F h; omega⟩
theorem Files.small (h : Files Fs) : ∀ F ∈ Fs, F.pend.length ≤ 1 ∧ F.now.length ≤ 1073741824 ∧ F.sure.length ≤ 1073741824 := fun F hF => by
  obtain ⟨h1, h2, h3⟩ := h.2 F hF
  exact ⟨by rw [h1]; simp, h2, h3⟩
theorem all_last {P : VFile → Prop} {x : VFile} (h : ∀ F ∈ Fs, P F) (hx : P x) : ∀ F ∈ Fs ++ [x], P F := fun F hF => by
  rcases List.mem_append.1 hF with hF | hF
  · exact h F hF
  · simp at hF
    subst hF
    exact hx
theorem z_pub (hf : Files Fs) (hl : Fs.length ≤ 50) (hc : Still c) (hb : b.length ≤ 1073741824) : PubOK b [0, 1, 2, 3, 4] (zS k Fs c) ∧ ∃ c', Still c' ∧ pubGo b [0, 1, 2, 3, 4] 0 (zS k Fs c) = (0, zS Fs.length (Fs ++ [⟨Fs.length, b, [], b⟩]) c') := by
  obtain ⟨c1, h1, s1⟩ := ctl_pair hc
  obtain ⟨c2, h2, s2⟩ := ctl_pair s1
  obtain ⟨c3, h3, s3⟩ := ctl_pair s2
  obtain ⟨c4, h4, s4⟩ := ctl_pair s3
  obtain ⟨c5, h5, s5⟩ := ctl_pair s4
  have e0 := zt0 (b := b) (k := k) (Fs := Fs) h1
  have e1 := zt1 (b := b) (k := k) (Fs := Fs) h2 hb
  have e2 := zt2 (b := b) (k := k) (Fs := Fs) h3
  have e3 := zt3 (b := b) (k := k) (Fs := Fs) h4
  have e4 := zt4 (b := b) (k := k) (Fs := Fs) h5
  have fs := hf.small
  constructor
  · refine ⟨small_of (by simp [zS]) (by simp [zS]; omega) fs, by simp, fun _ => ?_⟩
    rw [e0]
    refine ⟨small_of (by simp [z1]) (by simp [z1]; omega) (all_last fs (by simp)), by simp, fun _ => ?_⟩
    rw [e1]
    refine ⟨small_of (by simp [z2]) (by simp [z2]; omega) (all_last fs (by simp; omega)), by simp, fun _ => ?_⟩
    rw [e2]
    refine ⟨small_of (by simp [z3]) (by simp [z3]; omega) (all_last fs (by simp; omega)), by simp, fun _ => ?_⟩
    rw [e3]
    exact ⟨small_of (by simp [z4]) (by simp [z4]; omega) (all_last fs (by simp; omega)), fun _ => ⟨_, z4_sync⟩, fun _ => trivial⟩
  · refine ⟨c5, s5, ?_⟩
    simp only [pubGo, e0, e1, e2, e3, e4]
    simp
theorem z_crash (hf : Files Fs) (hl : Fs.length ≤ 50) {F : VFile} (hk : Fs[k]? = some F) (hs : F.sure = b) (hb : b.length ≤ 1073741824) : CrashOK (zS k Fs c) 0 [] [(manN, k)] [(manN, k)] (L1 b) := by
  refine ⟨small_of (by simp [zS]) (by simp [zS]; omega) hf.small, by simp [zS, Names], hf.1, rfl, by simp, .refl _, by simp, ?_, fun G hG => ?_⟩
  · have hp := (hf.2 F (List.mem_of_getElem? hk)).1
    simp [leftM, zS, hk, hp, hs, withM, L1]
  · obtain ⟨h1, h2, h3⟩ := hf.2 G hG
    rw [h1]
    simp
    omega
theorem new_crash : CrashOK VFS.new 0 [] [] [] VFS.new := ⟨by simp [VFS.small, VFS.new], by simp [VFS.new, Names], by simp [VFS.new], rfl, by simp, .refl _, by simp, rfl, by simp [VFS.new]⟩
end
theorem but1_free {r n a b : Nat} {st st' : Heap} {w : Bool} {xs : List Value} (h : But1 r st st') (hr : st r = some (.cells w xs n (.own r a b))) : Keep Free st st' := fun k o g hk ht hp => by
  refine h k o ?_ hk
  rintro rfl
  rw [hr] at hk
  injection hk with hk
  subst hk
  injection ht with ht
  exact hp _ _ _ ht.symm
theorem frOut2 (f : Nat) : ∀ g, Free g → Out f g := fun g hg x r => hg f x r
/-- What the walk keeps: the directory, the last manifest. -/
def Twice (st : Heap) (f t5 n : Nat) : Prop := (n = 0 ∧ FSAt st f VFS.new ∧ ∃ xs : List Value, st t5 = some (.cells true xs 6 (.own t5 0 0)) ∧ xs.length = 6) ∨
  (0 < n ∧ ∃ (m : ManD) (bv tv : Value) (Fs : List VFile) (c : Ctl) (k : Nat) (F : VFile), FSAt st f (zS k Fs c) ∧ st t5 = some (.cells true [Val.i m.seq, Val.i m.log, Val.i m.next, Val.i m.now, bv, tv] 6 (.own t5 0 0)) ∧ ManAt st [Val.i m.seq, Val.i m.log, Val.i m.next, Val.i m.now, bv, tv] m ∧ manM m = true ∧ ManFits m ∧ (∀ t ∈ m.tombs, NiceM 12 t.m) ∧ m.blocks.length < 2 ^ 40 ∧ m.tombs.length < 2 ^ 40 ∧
    Files Fs ∧ Fs.length = n ∧ Still c ∧ Fs[k]? = some F ∧ F.sure = frameM (bodyM m))
theorem Twice.keep {st st' : Heap} {f t5 n : Nat} (h : Twice st f t5 n) (hk : New st st') : Twice st' f t5 n := by
  rcases h with ⟨h0, h1, xs, h2, h3⟩ | ⟨h0, m, bv, tv, Fs, c, k, F, h1, h2, h3, h4⟩
  · exact .inl ⟨h0, h1.keep (hk.to fun _ => True) (by simp), xs, hk _ _ h2, h3⟩
  · exact .inr ⟨h0, m, bv, tv, Fs, c, k, F, h1.keep (hk.to fun _ => True) (by simp), hk _ _ h2, h3.new hk, h4⟩
section
variable {W0 : World} {st : Heap}
theorem manTwice_walk {lv : Value} {ms : List Value} {l : List ManD} (hl : RegF st 6 lv ms l.length) (hms : ∀ (i : Nat) m, l[i]? = some m → ManAt st ((ms.drop (i * 6)).take 6) m) (hfit : ∀ m ∈ l, ManFits m) (hll : l.length < 2 ^ 50) :
    ICalls Tryz.prog W0 13 #[lv] st fun e st' => e = .returned (.bool true) := by
  obtain ⟨lb, lc, rfl⟩ := hl.slice
  have awk : ∀ {st : Heap}, ICalls Tryz.prog W0 39 #[] st fun e st' => e = .returned (.bool true) := awake21_spec.mono fun e st' h => h.1
  refine enter (args := [_]) Tryz.func13 rfl ?_
  simp [Tryz.f13, go_sem]
  refine New_spec.mono ?_
  rintro e st1 ⟨f, rfl, hfn, hF1, hk1⟩
  simp [go_sem]
  unfold NewP
  intro t5 ht5
  refine ⟨.own t5 0 0, ?_⟩
  simp [go_sem]
  obtain ⟨fo, hfo⟩ : ∃ o, st1 f = some o := by obtain ⟨_, _, _, _, h1, _⟩ := hF1; exact ⟨_, h1⟩
  have nf5 : f ≠ t5 := ne_of_new hfo ht5
  have h50 := upd_same st1 t5 (.cells true [Val.i 0, Val.i 0, Val.i 0, Val.i 0, .slice none 0 0, .slice none 0 0] 6 (.own t5 0 0))
  have hN2 := (New.refl st1).add (b := t5) (o := .cells true [Val.i 0, Val.i 0, Val.i 0, Val.i 0, .slice none 0 0, .slice none 0 0] 6 (.own t5 0 0)) ht5
  generalize upd st1 t5 (.cells true [Val.i 0, Val.i 0, Val.i 0, Val.i 0, .slice none 0 0, .slice none 0 0] 6 (.own t5 0 0)) = st2 at *
  have K2 : Keep Free st st2 := (hk1.imp fun _ _ => trivial).trans (hN2.to _)
  have hT2 : Twice st2 f t5 0 := .inl ⟨rfl, hF1.keep (hN2.to fun _ => True) (by simp), _, h50, rfl⟩
  have o5 : ∀ x r, Tg.own t5 0 0 ≠ .own f x r := by intro x r h; injection h with h1; exact nf5 h1.symm
  have put5 : ∀ {s : Heap} {xs ys : List Value}, s t5 = some (.cells true xs 6 (.own t5 0 0)) → Keep (fun g => g ≠ .own t5 0 0) s (upd s t5 (.cells true ys 6 (.own t5 0 0))) := fun h => Keep.rfl'.old h (by intro g hg; simp [HObj.tag] at hg; subst hg; simp)
  refine ⟨fun E st' => Keep Free st st' ∧ E 0 = .slice lb l.length lc ∧ E 3 = ptr f ∧ E 5 = ptr t5 ∧ ∃ i n : Nat, E 6 = Val.i i ∧ i ≤ l.length ∧ i ≤ 6 ∧ E 4 = Val.i n ∧ n ≤ i ∧ Twice st' f t5 n,
    fun E _ => match E 6 with | .int _ i => l.length - i.toNat | _ => 0, ⟨st2, .rfl' _, K2, by simp [go_sem], by simp [go_sem], by simp [go_sem], 0, 0, by simp [go_sem], by omega, by omega, by simp [go_sem], by omega, hT2⟩, ?_⟩
  clear hT2 h50 hN2
  rintro E st3 ⟨K3, e0, e3, e5, i, n, e6, hi, hi6, e4, hn, hT3⟩
  have hcond : (i < l.length ∧ i < 6) ∨ ¬ (i < l.length ∧ i < 6) := Classical.em _
  rcases hcond with ⟨hlt, hlt6⟩ | hstop
  · have q1 : ((i : Int) < l.length) = True := eq_true (by omega)
    have q2 : ((i : Int) < 6) = True := eq_true (by omega)
    have hwi : IntKind.i64.wrap ((i : Int) + 1) = ((i + 1 : Nat) : Int) := by rw [wrap_id (by omega) (by omega)]; omega
    have hwn : IntKind.i64.wrap ((n : Int) + 1) = ((n + 1 : Nat) : Int) := by rw [wrap_id (by omega) (by omega)]; omega
    obtain ⟨m, hm⟩ : ∃ m, l[i]? = some m := ⟨l[i], List.getElem?_eq_getElem hlt⟩
    have hmA := hms i m hm
    have hmF := hfit m (List.mem_of_getElem? hm)
    obtain ⟨mb, off, cap, rw_, zs, mm, g', hv, hs, hget⟩ := rows_get (hl.free K3) (by omega)
    injection hv with hv1 hv2 hv3
    subst hv1
    subst hv3
    obtain ⟨hlen, hcell, hc⟩ := hget i hlt
    have hmA3 := ManAt.free K3 hmA
    obtain ⟨bv, tv, bs, ts, hcs, hb, hbs, ht, hts⟩ := hmA
    obtain ⟨bb, bc, rfl⟩ := hb.slice
    obtain ⟨tb, tc, rfl⟩ := ht.slice
    rw [hcs] at hcell hmA3
    simp [go_sem, e0, e3, e4, e5, e6, q1, q2, hlt, hs, hlen, hcell]
    refine (small_spec hmA3).mono ?_
    rintro e st4 ⟨r, rfl, hr, hk4⟩
    cases r with
    | false =>
      simp [go_sem]
      refine awk.mono ?_
      rintro e st' rfl
      simp [go_sem]
    | true =>
    obtain ⟨bl2, bl1, bnice⟩ := hr rfl
    have hs4 := hk4 _ _ hs
    have hmA4 := hmA3.new hk4
    have hT4 := hT3.keep hk4
    have K4 := K3.trans (hk4.to _)
    simp [go_sem, e0, e3, e4, e5, e6, hlt, hs4, hlen, hcell]
    refine (man_copy bnice (by omega) (by omega) hmA4).mono ?_
    rintro e st5 ⟨cs5, rfl, hm5, hk5⟩
    have hs5 := hk5 _ _ hs4
    have hmA5 := hmA4.new hk5
    have hT5 := hT4.keep hk5
    have K5 := K4.trans (hk5.to _)
    simp [go_sem, e3]
    have hfl : manM m = true → (frameM (bodyM m)).length ≤ 600000 := fun h => (frame_len h hmF).2
    obtain ⟨S, hFS, hsame, hPOK, hgo⟩ : ∃ S, FSAt st5 f S ∧ (∀ s', Keep (Out f) st5 s' → FSAt s' f S → Twice s' f t5 n) ∧ (manM m = true → PubOK (frameM (bodyM m)) [0, 1, 2, 3, 4] S) ∧ (manM m = true → ∃ (Fs : List VFile) (c : Ctl) (k : Nat) (F : VFile), pubGo (frameM (bodyM m)) [0, 1, 2, 3, 4] 0 S = (0, zS k Fs c) ∧ Files Fs ∧ Fs.length = n + 1 ∧ Still c ∧ Fs[k]? = some F ∧ F.sure = frameM (bodyM m)) := by
      rcases hT5 with ⟨h0, h1, xs, ha, ha'⟩ | ⟨h0, m', bv', tv', Fs, c, k, F, h1, g1, g2, g3, g4, g5, g6, g7, h2, h3, h4, h5, h6⟩
      · refine ⟨VFS.new, h1, fun s' hk hF => .inl ⟨h0, hF, xs, hk.get ha o5, ha'⟩, fun h => (pub_new (by have := hfl h; omega)).1, fun h => ?_⟩
        have hL := hfl h
        refine ⟨[⟨0, frameM (bodyM m), [], frameM (bodyM m)⟩], ⟨5, false, 0, 0, false⟩, 0, _, (pub_new (by omega)).2, ⟨born1, ?_⟩, by simp; omega, ⟨rfl, rfl⟩, rfl, rfl⟩
        intro F hF
        simp at hF
        subst hF
        exact ⟨rfl, by simp only; omega, by simp only; omega⟩
      · refine ⟨_, h1, fun s' hk hF => .inr ⟨h0, m', bv', tv', Fs, c, k, F, hF, hk.get g1 o5, ManAt.free (hk.imp (frOut2 f)) g2, g3, g4, g5, g6, g7, h2, h3, h4, h5, h6⟩, fun h => (z_pub h2 (by omega) h4 (by have := hfl h; omega)).1, fun h => ?_⟩
        have hL := hfl h
        obtain ⟨c', s', hp⟩ := (z_pub (b := frameM (bodyM m)) (k := k) (c := c) h2 (by omega) h4 (by omega)).2
        exact ⟨_, c', _, _, hp, Files.add h2 rfl (by omega) (by omega), by simp; omega, s', by rw [List.getElem?_append_right (Nat.le_refl _), Nat.sub_self]; rfl, rfl⟩
    refine (publish_spec hFS hm5 hmF hPOK).mono ?_
    rintro e st6 ⟨hR6, hk6⟩
    have k6 := hk6.imp (frOut2 f)
    have K6 := K5.trans k6
    have hmA6 := ManAt.free k6 hmA5
    have hrow : ∀ {s : Heap}, Keep Free st s → ∃ rw' zs' mm' g', s mb = some (.cells rw' zs' mm' g') ∧ off + i * 6 + 6 ≤ zs'.length ∧ (zs'.drop (off + i * 6)).take 6 = [Val.i m.seq, Val.i m.log, Val.i m.next, Val.i m.now, .slice bb m.blocks.length bc, .slice tb m.tombs.length tc] := by
      intro s hK
      obtain ⟨mb2, off2, cap2, rw2, zs2, mm2, g2, hv2, hs2, hget2⟩ := rows_get (hl.free hK) (by omega)
      injection hv2 with a1 a2 a3
      injection a1 with a1
      injection a1 with a1 a4
      subst a1
      subst a4
      obtain ⟨b1, b2, _⟩ := hget2 i hlt
      rw [hcs] at b2
      exact ⟨_, _, _, _, hs2, b1, b2⟩
    obtain ⟨rw6, zs6, mm6, g6, hs6, hlen6, hcell6⟩ := hrow K6
    cases hmm : manM m with
    | true =>
      rw [if_pos hmm] at hR6
      obtain ⟨Fs, c, k, F, hgo1, hgo2, hgo3, hgo4, hgo5, hgo6⟩ := hgo hmm
      rw [hgo1] at hR6
      obtain ⟨rfl, hF6⟩ := hR6
      simp [go_sem, e0, e3, e4, e5, e6, hlt, hs6, hlen6, hcell6]
      refine (refMan_spec bnice hmA6).mono ?_
      rintro e st7 ⟨rfl, hk7⟩
      have K7 := K6.trans (hk7.to _)
      obtain ⟨rw7, zs7, mm7, g7, hs7, hlen7, hcell7⟩ := hrow K7
      obtain ⟨xs5, h55, hx5⟩ : ∃ xs, st5 t5 = some (.cells true xs 6 (.own t5 0 0)) ∧ xs.length = 6 := by
        rcases hT5 with ⟨_, _, xs, h, h'⟩ | ⟨_, m', bv', tv', _, _, _, _, _, h, _⟩
        · exact ⟨xs, h, h'⟩
        · exact ⟨_, h, rfl⟩
      have h57 := hk7 _ _ (hk6.get h55 o5)
      have hz5 : xs5.drop 6 = [] := by rw [List.drop_eq_nil_iff]; omega
      simp [go_sem, e0, e3, e4, e5, e6, hlt, hs7, hlen7, hcell7, hmm, h57, hx5, hz5, hwn, hwi]
      have hB := But1.put (o := .cells true [Val.i m.seq, Val.i m.log, Val.i m.next, Val.i m.now, .slice bb m.blocks.length bc, .slice tb m.tombs.length tc] 6 (.own t5 0 0)) (But1.refl t5 st7)
      refine ⟨_, .rfl' _, ⟨K7.trans (but1_free hB h57), i + 1, by omega, by omega, by omega, n + 1, by omega, by omega, .inr ⟨by omega, m, _, _, Fs, c, k, F, ?_, upd_same _ _ _, (hmA6.new hk7).mono fun _ _ _ _ hx => hx.but hB h57, hmm, hmF, bnice, by omega, by omega, hgo2, hgo3, hgo4, hgo5, hgo6⟩⟩, by omega⟩
      exact (hF6.keep (hk7.to fun _ => True) (by simp)).keep (put5 h57) (fun x r h => o5 x r h.symm)
    | false =>
      rw [if_neg (by rw [hmm]; simp)] at hR6
      obtain ⟨rfl, hF6⟩ := hR6
      simp [go_sem, e0, e3, e4, e5, e6, hlt, hs6, hlen6, hcell6]
      refine (refMan_spec bnice hmA6).mono ?_
      rintro e st7 ⟨rfl, hk7⟩
      have K7 := K6.trans (hk7.to _)
      simp [go_sem, e0, e3, e4, e5, e6, hmm, hwi]
      refine ⟨_, .rfl' _, ⟨K7, i + 1, by omega, by omega, by omega, n, by omega, by omega, ?_⟩, by omega⟩
      exact (hsame _ hk6 hF6).keep hk7
  · have hq : ((i : Int) < l.length) = False ∨ ((i : Int) < l.length) = True ∧ ((i : Int) < 6) = False := by
      by_cases h : i < l.length
      · exact .inr ⟨eq_true (by omega), eq_false (by omega)⟩
      · exact .inl (eq_false (by omega))
    obtain ⟨S, L, hFS, d, hC, hLs, hT⟩ : ∃ S L, FSAt st3 f S ∧ ∃ d, CrashOK S 0 [] d d L ∧ L.small ∧ ((n = 0 ∧ S = VFS.new ∧ L = VFS.new) ∨ (0 < n ∧ ∃ (m : ManD) (bv tv : Value) (k : Nat), S.now = [(manN, k)] ∧ st3 t5 = some (.cells true [Val.i m.seq, Val.i m.log, Val.i m.next, Val.i m.now, bv, tv] 6 (.own t5 0 0)) ∧ ManAt st3 [Val.i m.seq, Val.i m.log, Val.i m.next, Val.i m.now, bv, tv] m ∧ loadM L = .ok m ∧ (∀ t ∈ m.tombs, NiceM 12 t.m) ∧ m.blocks.length < 2 ^ 40 ∧ m.tombs.length < 2 ^ 40)) := by
      rcases hT3 with ⟨h0, h1, xs, ha, ha'⟩ | ⟨h0, m', bv', tv', Fs, c, k, F, h1, g1, g2, g3, g4, g5, g6, g7, h2, h3, h4, h5, h6⟩
      · exact ⟨_, _, h1, _, new_crash, by simp [VFS.small, VFS.new], .inl ⟨h0, rfl, rfl⟩⟩
      · have hL := (frame_len g3 g4).2
        refine ⟨_, _, h1, _, z_crash h2 (by omega) h5 h6 (by omega), L1_small (by omega), .inr ⟨h0, m', bv', tv', k, rfl, g1, g2, ?_, g5, g6, g7⟩⟩
        obtain ⟨i', F', a1, a2, a3⟩ := L1_get (a := frameM (bodyM m'))
        unfold loadM
        simp [a1, a2, a3, decode_put g3 g4]
    obtain ⟨xs3, h53⟩ : ∃ xs, st3 t5 = some (.cells true xs 6 (.own t5 0 0)) := by
      rcases hT3 with ⟨_, _, xs, h, h'⟩ | ⟨_, m', bv', tv', _, _, _, _, _, h, _⟩
      · exact ⟨xs, h⟩
      · exact ⟨_, h⟩
    have hnow : S.now.length ≤ 12 ∧ Names S.now := by
      rcases hT with ⟨_, h, _⟩ | ⟨_, m, bv, tv, k, h, _⟩
      · rw [h]; simp [VFS.new, Names]
      · rw [h]; simp [Names]
    rcases hq with q1 | ⟨q1, q2⟩
    all_goals
      first
        | simp [go_sem, e0, e3, e4, e5, e6, q1, q2]
        | simp [go_sem, e0, e3, e4, e5, e6, q1]
      refine (CrashN_spec (ops := 0) (picks := []) (gp := .ty 0) hFS hC.small hC.names hC.born hC.crash hC.few hC.perm hC.order hC.left hC.room Reg.nil (by intro g x r; simp) (by simp)).mono ?_
      rintro e st4 ⟨f2, rfl, hne, hF4, hL4, hk4⟩
      have n25 : t5 ≠ f2 := by rintro rfl; exact hne _ _ _ _ h53
      have o52 : ∀ x r, Tg.own t5 0 0 ≠ .own f2 x r := by intro x r h; injection h with h1; exact n25 h1
      have k4 : Keep Free st3 st4 := hk4.imp fun g hg => ⟨frOut2 f g hg, frOut2 f2 g hg⟩
      simp [go_sem]
      refine (load_spec hL4 hLs).mono ?_
      rintro e st5 ⟨hk5, hR5⟩
      have k5 : Keep Free st4 st5 := hk5.imp fun _ _ => trivial
      have hF5 := hF4.keep hk5 (by simp)
      rcases hT with ⟨h0, hS, hL⟩ | ⟨h0, m, bv, tv, k, hS, h5c, hmA, hload, hnice, hm1, hm2⟩
      · subst hL
        have hloadN : loadM VFS.new = .error 3 := by simp [loadM, VFS.new, aget, afind]
        rw [hloadN] at hR5
        simp only at hR5
        subst hR5
        unfold zeroMan
        have qn : ((n : Int) = 0) = True := eq_true (by omega)
        simp [go_sem]
        unfold NewP
        intro t8 ht8
        refine ⟨.ty 0, ?_⟩
        simp [go_sem, e3, e4, h0]
        have hF6 := hF5.keep (((New.refl st5).add (b := t8) (o := .cells true [Val.i 0, Val.i 0, Val.i 0, Val.i 0, .slice none 0 0, .slice none 0 0] 6 (.ty 0)) ht8).to fun _ => True) (by simp)
        refine (ListN_spec hF6 hnow.1 hnow.2).mono ?_
        rintro e st7 ⟨b7, c7, ns, rfl, hp7, -, -, -, -⟩
        have hz : S.now.length = 0 := by rw [hS]; rfl
        simp [go_sem, hz]
        refine awk.mono ?_
        rintro e st' rfl
        simp [go_sem]
      · rw [hload] at hR5
        obtain ⟨cs5, rfl, hm5⟩ := hR5
        have hm5' := hm5
        obtain ⟨mbv, mtv, mbs, mts, rfl, hmb', hmbs, hmt, hmts⟩ := hm5
        obtain ⟨mbb, mbc, rfl⟩ := hmb'.slice
        obtain ⟨mtb, mtc, rfl⟩ := hmt.slice
        have h55 := hk5.get (hk4.get h5c ⟨o5, o52⟩) trivial
        have hmA5 := ManAt.free (k4.trans k5) hmA
        have qn : (n = 0) = False := eq_false (by omega)
        simp [go_sem]
        unfold NewP
        intro t8 ht8
        refine ⟨.ty 0, ?_⟩
        have n58 : t5 ≠ t8 := ne_of_new h55 ht8
        have hN6 := (New.refl st5).add (b := t8) (o := .cells true [Val.i m.seq, Val.i m.log, Val.i m.next, Val.i m.now, .slice mbb m.blocks.length mbc, .slice mtb m.tombs.length mtc] 6 (.ty 0)) ht8
        have hF6 := hF5.keep (hN6.to fun _ => True) (by simp)
        simp [go_sem, e3, e4, e5, qn, n58, h55]
        refine (manSame_spec hnice (by omega) (by omega) (hm5'.new hN6) (hmA5.new hN6)).mono ?_
        rintro e st7 ⟨r, rfl, hr, hk7⟩
        rw [hr rfl]
        have hF7 := hF6.keep (hk7.to fun _ => True) (by simp)
        simp [go_sem, e3]
        refine (ListN_spec hF7 hnow.1 hnow.2).mono ?_
        rintro e st8 ⟨b8, c8, ns, rfl, hp8, hso8, hV8, -, -⟩
        have hz : S.now.length = 1 := by rw [hS]; rfl
        rw [hS] at hp8
        have hns : ns = [manN] := by simpa using hp8
        subst hns
        rw [hz] at hV8 ⊢
        simp [go_sem]
        unfold NewS
        intro nb hnb
        refine ⟨.ty 0, ?_⟩
        simp [go_sem]
        have hN9 := (New.refl st8).add (b := nb) (o := .cells true [.string manN] 1 (.ty 0)) hnb
        refine (SameTexts_spec (xs := [manN]) ((hV8.new' hN9).reg.toF Free.ty) ((Reg.row (g := .ty 0) (rw_ := true) (n := 1) (upd_same st8 nb _) (by simp)).toF Free.ty) (by simp)).mono ?_
        rintro e st9 ⟨rfl, rfl⟩
        simp [go_sem]
        refine awk.mono ?_
        rintro e st' rfl
        simp [go_sem]
end
end Go.Proofs.YtgppogppdmbgmaaGreat
