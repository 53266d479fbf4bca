/- Both file systems side by side, with bounds; their names; a manifest published in both: plain laws. -/
import Derived.Test.YtahgfnbkkfpcnaaGreatC26
import Derived.Test.YtahgfnbkkfpcnaaGreatC27
import Derived.Test.YtahgfnbkkfpcnaaGreatC38
set_option linter.unusedVariables false
set_option linter.unusedSimpArgs false
set_option maxRecDepth 100000
set_option maxHeartbeats 1000000
namespace Go.Proofs.YtahgfnbkkfpcnaaGreat
open Go.RowKit (Below)
theorem z5k {α : Type} {f : α → α} {x : α} : ∀ {l : List α} {k : Nat}, x ∈ l.modify k f → x ∈ l ∨ ∃ y, l[k]? = some y ∧ x = f y
 | [], k, h => by simp at h
 | y :: l, 0, h => by
  simp only [List.modify_zero_cons, List.mem_cons] at h
  rcases h with h | h
  ·exact .inr ⟨y, rfl, h⟩
  ·exact .inl (List.mem_cons_of_mem _ h)
 | y :: l, k + 1, h => by
  simp only [List.modify_succ_cons, List.mem_cons] at h
  rcases h with h | h
  ·exact .inl (by rw [h]; exact List.mem_cons_self)
  ·rcases z5k h with h | ⟨z, h1, h2⟩
   ·exact .inl (List.mem_cons_of_mem _ h)
   ·exact .inr ⟨z, by simpa using h1, h2⟩
structure VB (S : VFS) (k : Nat) : Prop where
 turns : S.turns.length ≤ k
 files : S.files.length ≤ k
 all : ∀ F ∈ S.files, F.pend.length ≤ k ∧ F.now.length ≤ 1073741824 ∧ F.sure.length ≤ 1073741824
structure RB (G : RFS) (k : Nat) : Prop where
 dirs : G.sure.length + G.turns.length ≤ k
 files : G.files.length ≤ k
 all : ∀ R ∈ G.files, R.us.length ≤ 1073741824 * k
section
variable {S : VFS} {G : RFS} {k : Nat}
theorem VB.mono (h : VB S k) {j : Nat} (hj : k ≤ j) : VB S j := ⟨by have := h.turns; omega, by have := h.files; omega, fun F hF => by have := h.all F hF; omega⟩
theorem VB.ctl (h : VB S k) (c : Ctl) : VB (S.ctl c) (k + 1) := by have := h.mono (Nat.le_add_right k 1); exact ⟨this.turns, this.files, this.all⟩
theorem RB.mono (h : RB G k) {j : Nat} (hj : k ≤ j) : RB G j := ⟨by have := h.dirs; omega, by have := h.files; omega, fun F hF => by have := h.all F hF; omega⟩
theorem RB.ctl (h : RB G k) (c : Ctl) : RB (G.ctl c) (k + 1) := by have := h.mono (Nat.le_add_right k 1); exact ⟨this.dirs, this.files, this.all⟩
theorem VB.put (h : VB S k) (c : Ctl) (i : Nat) (b : Bs) (hb : b.length + S.lenOf i ≤ 1073741824) : VB (S.put c i b) (k + 1) := by
 refine ⟨by have := h.turns; simp only [VFS.put]; omega, by have := h.files; simp only [VFS.put, List.length_modify]; omega, fun F hF => ?_⟩
 rcases z5k hF with hF | ⟨y, h1, rfl⟩
 ·have := h.all F hF; omega
 ·have := h.all y (List.mem_of_getElem? h1)
  unfold VFS.lenOf at hb
  rw [h1] at hb
  simp only [Option.map_some, Option.getD_some] at hb
  simp only [VFile.app, List.length_append, List.length_cons, List.length_nil]
  omega
theorem RB.more (h : RB G k) (c : Ctl) (i : Nat) (b : Bs) (hb : b.length ≤ 1073741824) : RB ((G.ctl c).more i b) (k + 1) := by
 refine ⟨by have := h.dirs; simp only [RFS.more, RFS.ctl]; omega, by have := h.files; simp only [RFS.more, RFS.ctl, List.length_modify]; omega, fun F hF => ?_⟩
 rcases z5k hF with hF | ⟨y, h1, rfl⟩
 ·have := h.all F hF; omega
 ·have := h.all y (List.mem_of_getElem? h1)
  simp only [RF.app, List.length_append, List.length_map]
  omega
theorem VB.create (h : VB S k) (n : ByteArray) : VB (S.create n).2 (k + 1) := by
 unfold VFS.create
 split
 ·exact h.ctl _
 split
 ·exact h.ctl _
 split
 ·exact h.ctl _
 refine ⟨by have := h.turns; simp; omega, by have := h.files; simp; omega, fun F hF => ?_⟩
 rcases List.mem_append.1 hF with hF | hF
 ·have := h.all F hF; omega
 ·simp at hF; subst hF; simp
theorem RB.create (h : RB G k) (n : ByteArray) : RB (G.create n).2 (k + 1) := by
 unfold RFS.create
 split
 ·exact h.ctl _
 split
 ·exact h.ctl _
 split
 ·exact h.ctl _
 refine ⟨by have := h.dirs; simp; omega, by have := h.files; simp; omega, fun F hF => ?_⟩
 rcases List.mem_append.1 hF with hF | hF
 ·have := h.all F hF; omega
 ·simp at hF; subst hF; simp
theorem VB.append (h : VB S k) (n : ByteArray) (b : Bs) : VB (S.append n b).2 (k + 1) := by
 unfold VFS.append
 split
 ·exact h.ctl _
 split
 ·exact h.ctl _
 split
 ·split
  ·rename_i h1; exact h.put _ _ _ h1
  ·exact h.ctl _
 ·simp only
  split
  ·rename_i h1; exact h.put _ _ _ (by rw [List.length_take]; omega)
  ·exact h.ctl _
theorem RB.append (h : RB G k) (n : ByteArray) (b : Bs) : RB (G.append n b).2 (k + 1) := by
 unfold RFS.append
 split
 ·simp only
  split
  ·exact h.ctl _
  ·split
   ·rename_i h1; exact h.more _ _ _ (by rw [List.length_take]; omega)
   ·exact h.ctl _
 split
 ·exact h.ctl _
 split
 ·exact h.ctl _
 ·split
  ·rename_i h1; exact h.more _ _ _ (by omega)
  ·exact h.ctl _
theorem VB.syncF (h : VB S k) (n : ByteArray) : VB (S.syncF n).2 (k + 1) := by
 unfold VFS.syncF
 split
 ·exact h.ctl _
 split
 ·exact h.ctl _
 split
 ·exact h.ctl _
 ·refine ⟨by have := h.turns; simp only [VFS.ctl]; omega, by have := h.files; simp only [VFS.ctl, List.length_modify]; omega, fun F hF => ?_⟩
  rcases z5k hF with hF | ⟨y, h1, rfl⟩
  ·have := h.all F hF; omega
  ·have := h.all y (List.mem_of_getElem? h1)
   simp only [VFile.synced, List.length_nil]
   omega
theorem RB.syncF (h : RB G k) (n : ByteArray) : RB (G.syncF n).2 (k + 1) := by
 unfold RFS.syncF
 split
 ·exact h.ctl _
 split
 ·exact h.ctl _
 split
 ·exact h.ctl _
 ·refine ⟨by have := h.dirs; simp only [RFS.ctl]; omega, by have := h.files; simp only [RFS.ctl, List.length_modify]; omega, fun F hF => ?_⟩
  rcases z5k hF with hF | ⟨y, h1, rfl⟩
  ·have := h.all F hF; omega
  ·simp [RF.synced]
theorem VB.turn (h : VB S k) (c : Ctl) (d : Dir) (t : VTurn) : VB (S.turn c d t) (k + 1) := by
 have := h.mono (Nat.le_add_right k 1)
 exact ⟨by have := h.turns; simp [VFS.turn]; omega, this.files, this.all⟩
theorem RB.turn (h : RB G k) (c : Ctl) (t : RTn) : RB (G.turn c t) (k + 1) := by
 have := h.mono (Nat.le_add_right k 1)
 exact ⟨by have := h.dirs; simp [RFS.turn]; omega, this.files, this.all⟩
theorem VB.rename (h : VB S k) (n m : ByteArray) : VB (S.rename n m).2 (k + 1) := by
 unfold VFS.rename
 split
 ·exact h.ctl _
 split
 ·exact h.ctl _
 split
 ·exact h.ctl _
 ·exact h.turn _ _ _
theorem RB.rename (h : RB G k) (n m : ByteArray) : RB (G.rename n m).2 (k + 1) := by
 unfold RFS.rename
 split
 ·exact h.ctl _
 split
 ·exact h.ctl _
 split
 ·exact h.ctl _
 ·exact h.turn _ _
theorem VB.syncD (h : VB S k) : VB S.syncD.2 (k + 1) := by
 unfold VFS.syncD
 have := h.mono (Nat.le_add_right k 1)
 split
 ·simp only
  split
  ·exact ⟨Nat.zero_le _, this.files, this.all⟩
  ·exact h.ctl _
 ·exact this
theorem RB.syncD (h : RB G k) : RB G.syncD.2 (k + 1) := by
 unfold RFS.syncD
 have := h.mono (Nat.le_add_right k 1)
 split
 ·exact h.ctl _
 ·refine ⟨?_, this.files, this.all⟩
  have := z7j G.turns G.sure
  have := h.dirs
  unfold RFS.dir
  simp only [List.length_nil]
  omega
end
structure FB (S : VFS) (G : RFS) (k : Nat) : Prop where
 sim : FSim S G
 vb : VB S k
 rb : RB G k
structure RNice (G : RFS) : Prop where
 small : G.small
 wf : G.wf
 bytes : ∀ (k : Nat) R, G.files[k]? = some R → ∃ b, z11 R.sure R.us = some b
 room : ∀ (k : Nat) R, G.files[k]? = some R → R.us.length < 2 ^ 39
section
variable {S : VFS} {G : RFS} {k : Nat}
theorem FB.mono (h : FB S G k) {j : Nat} (hj : k ≤ j) : FB S G j := ⟨h.sim, h.vb.mono hj, h.rb.mono hj⟩
theorem FB.small (h : FB S G k) (hk : k ≤ 500) : S.small := ⟨by have := h.vb.turns; omega, by have := h.vb.files; omega, fun F hF => by have := h.vb.all F hF; omega⟩
theorem FB.nice (h : FB S G k) (hk : k ≤ 500) : RNice G := by
 have hus : ∀ (i : Nat) R, G.files[i]? = some R → R.us.length < 2 ^ 39 := fun i R hi => by
  have := h.rb.all R (List.mem_of_getElem? hi)
  omega
 refine ⟨⟨by have := h.rb.dirs; omega, by have := h.rb.dirs; omega, by have := h.rb.files; omega, fun i R hi => ?_⟩, h.sim.wf, h.sim.bytes, hus⟩
 have hl := (List.getElem?_eq_some_iff.1 hi).1
 have hl' : i < S.files.length := by rw [h.sim.len]; exact hl
 have hF : S.files[i]? = some S.files[i] := List.getElem?_eq_getElem hl'
 have h1 := (h.sim.files i _ R hF hi).1
 have h2 := h.vb.all _ (List.mem_of_getElem? hF)
 have h3 := hus i R hi
 rw [← h1]
 omega
theorem FB.create (h : FB S G k) (n : ByteArray) : (S.create n).1 = (G.create n).1 ∧ FB (S.create n).2 (G.create n).2 (k + 1) := ⟨(h.sim.create n).1, (h.sim.create n).2, h.vb.create n, h.rb.create n⟩
theorem FB.append (h : FB S G k) (n : ByteArray) (b : Bs) : (S.append n b).1 = (G.append n b).1 ∧ FB (S.append n b).2 (G.append n b).2 (k + 1) := ⟨(h.sim.append n b).1, (h.sim.append n b).2, h.vb.append n b, h.rb.append n b⟩
theorem FB.syncF (h : FB S G k) (n : ByteArray) : (S.syncF n).1 = (G.syncF n).1 ∧ FB (S.syncF n).2 (G.syncF n).2 (k + 1) := ⟨(h.sim.syncF n).1, (h.sim.syncF n).2, h.vb.syncF n, h.rb.syncF n⟩
theorem FB.rename (h : FB S G k) (n m : ByteArray) : (S.rename n m).1 = (G.rename n m).1 ∧ FB (S.rename n m).2 (G.rename n m).2 (k + 1) := ⟨(h.sim.rename n m).1, (h.sim.rename n m).2, h.vb.rename n m, h.rb.rename n m⟩
theorem syncD_eq {d : Dir} (hd : syncM S.turns S.sure = some d) : S.syncD = (S.c.call.1, if S.c.call.1 = 0 then { sure := d, now := S.now, turns := [], files := S.files, c := S.c.call.2 } else S.ctl S.c.call.2) := by unfold VFS.syncD; rw [hd]
theorem FB.syncD (h : FB S G k) : S.syncD.1 = G.syncD.1 ∧ FB S.syncD.2 G.syncD.2 (k + 1) := by
 obtain ⟨d, hd⟩ := h.sim.sync
 obtain ⟨h1, h2⟩ := h.sim.syncD hd
 have e := syncD_eq hd
 refine ⟨by rw [e]; exact h1, ?_, h.vb.syncD, h.rb.syncD⟩
 rw [e]
 exact h2
theorem FB.arm (h : FB S G k) (kind after : Int) : (S.arm kind after).1 = (G.arm kind after).1 ∧ FB (S.arm kind after).2 (G.arm kind after).2 (k + 1) := by
 refine ⟨(h.sim.arm kind after).1, (h.sim.arm kind after).2, ?_, ?_⟩
 ·unfold VFS.arm
  split
  ·exact h.vb.mono (Nat.le_add_right k 1)
  ·exact h.vb.ctl _
 ·unfold RFS.arm
  split
  ·exact h.rb.mono (Nat.le_add_right k 1)
  ·exact h.rb.ctl _
end
/-! ### Publish -/
def z12 (b : Bs) : Nat → RFS → Int × RFS
 | 0, G => G.create tmpN
 | 1, G => G.append tmpN b
 | 2, G => G.syncF tmpN
 | 3, G => G.rename tmpN manN
 | _, G => G.syncD
def z1s (b : Bs) : List Nat → Int → RFS → Int × RFS
 | [], e, G => (e, G)
 | i :: r, _, G => if (z12 b i G).1 = 0 then z1s b r 0 (z12 b i G).2 else z12 b i G
def z80 (b : Bs) : List Nat → RFS → Prop
 | [], _ => True
 | i :: r, G => RNice G ∧ ((z12 b i G).1 = 0 → z80 b r (z12 b i G).2)
theorem FB.step {S : VFS} {G : RFS} {k : Nat} (h : FB S G k) (b : Bs) (i : Nat) : (z1b b i S).1 = (z12 b i G).1 ∧ FB (z1b b i S).2 (z12 b i G).2 (k + 1) := by
 match i with
 | 0 => exact h.create _
 | 1 => exact h.append _ _
 | 2 => exact h.syncF _
 | 3 => exact h.rename _ _
 | i + 4 => exact h.syncD
theorem FB.pub (b : Bs) : ∀ (l : List Nat) {S : VFS} {G : RFS} {k : Nat} (e : Int), FB S G k → k + l.length ≤ 500 → PubOK b l S ∧ z80 b l G ∧ (pubGo b l e S).1 = (z1s b l e G).1 ∧ FB (pubGo b l e S).2 (z1s b l e G).2 (k + l.length)
 | [], S, G, k, e, h, hk => ⟨trivial, trivial, rfl, h⟩
 | i :: l, S, G, k, e, h, hk => by
  rw [List.length_cons] at hk ⊢
  obtain ⟨h1, h2⟩ := h.step b i
  have ih := fun e => FB.pub b l e h2 (by omega)
  refine ⟨⟨h.small (by omega), fun _ => h.sim.sync, fun _ => (ih 0).1⟩, ⟨h.nice (by omega), fun _ => (ih 0).2.1⟩, ?_⟩
  unfold pubGo z1s
  rw [h1]
  split
  ·obtain ⟨-, -, h3, h4⟩ := ih 0
   exact ⟨h3, by rw [show k + (l.length + 1) = k + 1 + l.length by omega]; exact h4⟩
  ·exact ⟨h1, h2.mono (by omega)⟩
/-! ### Names -/
theorem FSim.list {S : VFS} {G : RFS} (h : FSim S G) {ns : List ByteArray} (hp : ns.Perm (S.now.map (·.1))) (hs : z0x ltT ns) : ns = rlist G.dir := by
 refine z0x.unique hs (zfw G.dir) ?_ (fun a b _ _ h1 h2 => zb3 a b h1 h2)
 refine hp.trans ?_
 have h1 := (h.now.2.map (·.1))
 rw [z8d] at h1
 exact h1.trans (z9x G.dir).symm
/-! ### Both heaps -/
theorem RFSAt.keepO {st st' : Heap} {w : Nat} {S : RFS} {p : Tg → Prop} (h : RFSAt st w S) (hk : Keep p st st') (hf : ∀ g, Free g → p g) (hp : ∀ x r, p (.own w x r)) : RFSAt st' w S := by
 obtain ⟨fv, sv, tv, fs, h1, h2, h3, h4, h5⟩ := h
 exact ⟨fv, sv, tv, fs, hk.get h1 (hp _ _), h2.free (hk.imp hf), h3.keep hk (hp _ _), h4.keep hk (hp _ _), fun k F hF => (h5 k F hF).keep (hk.imp hf) (hk.imp fun g hg => by rw [hg]; exact hp _ _)⟩
theorem z2t {f : Nat} : ∀ g, Free g → Out f g := fun g hg x r => hg f x r
theorem zc7 {f w : Nat} (h : w ≠ f) : ∀ x r, Out f (.own w x r) := fun x r y s e => h (by injection e)
theorem RFSAt.out {st st' : Heap} {w f : Nat} {S : RFS} (h : RFSAt st w S) (hk : Keep (Out f) st st') (hn : w ≠ f) : RFSAt st' w S := h.keepO hk z2t (zc7 hn)
theorem FSAt.out {st st' : Heap} {w f : Nat} {S : VFS} (h : FSAt st f S) (hk : Keep (Out w) st st') (hn : f ≠ w) : FSAt st' f S := h.keep hk (zc7 hn)
theorem FSAt.new {st st' : Heap} {f : Nat} {S : VFS} (h : FSAt st f S) (hk : New st st') : FSAt st' f S := h.keep (hk.to fun _ => True) (by simp)
end Go.Proofs.YtahgfnbkkfpcnaaGreat
