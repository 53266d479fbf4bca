/- The document's file system and ours, call by call. -/
import Derived.Test.YtahgfnbkkfpcnaaGreatC21
import Derived.Test.YtahgfnbkkfpcnaaGreatC22
set_option linter.unusedVariables false
set_option linter.unusedSimpArgs false
set_option maxRecDepth 100000
set_option maxHeartbeats 1000000
namespace Go.Proofs.YtahgfnbkkfpcnaaGreat
/-! ### What the document's calls do -/
def RFS.ctl (G : RFS) (c : Ctl) : RFS := { G with c := c }
def RF.now (R : RF) : Bs := (z11 R.sure R.us).getD []
def RF.app (R : RF) (b : Bs) : RF := { R with us := R.us ++ b.map fun x => ⟨x, false, 0⟩ }
def RF.synced (R : RF) : RF := ⟨R.now, []⟩
def RFS.more (G : RFS) (k : Nat) (b : Bs) : RFS := { G with files := G.files.modify k (·.app b) }
def RFS.lenOf (G : RFS) (k : Nat) : Nat := ((G.files[k]?).map (fun R => R.now.length)).getD 0
def RFS.turn (G : RFS) (c : Ctl) (t : RTn) : RFS := { G with c := c, turns := G.turns ++ [t] }
def RFS.create (G : RFS) (n : ByteArray) : Int × RFS :=
 if G.c.call.1 ≠ 0 then (G.c.call.1, G.ctl G.c.call.2)
 else if z0a n = false then (1, G.ctl G.c.call.2)
 else if rget n G.dir = none ∧ 1024 ≤ G.dir.length then (2, G.ctl G.c.call.2)
 else (0, { files := G.files ++ [⟨[], []⟩], sure := G.sure, turns := G.turns ++ [⟨0, n, ⟨#[]⟩, (G.files.length : Int)⟩], c := G.c.call.2 })
def RFS.append (G : RFS) (n : ByteArray) (b : Bs) : Int × RFS :=
 if G.c.call.1 ≠ 0 then (G.c.call.1, match rget n G.dir with
  | none => G.ctl G.c.call.2
  | some z => if G.c.off = false ∧ G.lenOf z.toNat + b.length / 2 ≤ 1073741824 then (G.ctl G.c.call.2).more z.toNat (b.take (b.length / 2)) else G.ctl G.c.call.2)
 else if z0a n = false then (1, G.ctl G.c.call.2)
 else match rget n G.dir with
  | none => (3, G.ctl G.c.call.2)
  | some z => if G.lenOf z.toNat + b.length ≤ 1073741824 then (0, (G.ctl G.c.call.2).more z.toNat b) else (2, G.ctl G.c.call.2)
def RFS.syncF (G : RFS) (n : ByteArray) : Int × RFS :=
 if G.c.call.1 ≠ 0 then (G.c.call.1, G.ctl G.c.call.2)
 else if z0a n = false then (1, G.ctl G.c.call.2)
 else match rget n G.dir with
  | none => (3, G.ctl G.c.call.2)
  | some z => (0, { G.ctl G.c.call.2 with files := G.files.modify z.toNat RF.synced })
def RFS.rename (G : RFS) (n m : ByteArray) : Int × RFS :=
 if G.c.call.1 ≠ 0 then (G.c.call.1, G.ctl G.c.call.2)
 else if (z0a n && z0a m) = false then (1, G.ctl G.c.call.2)
 else match rget n G.dir with
  | none => (3, G.ctl G.c.call.2)
  | some _ => (0, G.turn G.c.call.2 ⟨1, n, m, 0⟩)
def RFS.syncD (G : RFS) : Int × RFS :=
 if G.c.call.1 ≠ 0 then (G.c.call.1, G.ctl G.c.call.2) else (0, { files := G.files, sure := G.dir, turns := [], c := G.c.call.2 })
def RFS.arm (G : RFS) (kind after : Int) : Int × RFS :=
 if (kind ≠ 0 ∧ kind ≠ 14 ∧ kind ≠ 15) ∨ after < 0 then (1, G) else (0, G.ctl { G.c with armed := true, kind := kind, after := after })
/-! ### Bytes -/
theorem z8w : ∀ (us vs : List RU) (s : Bs), z11 s (us ++ vs) = (z11 s us).bind fun b => z11 b vs
 | [], vs, s => rfl
 | u :: us, vs, s => by
  rw [List.cons_append, z11, z11]
  cases u.cut with
  | true =>
   rw [if_pos rfl, if_pos rfl]
   by_cases h : 0 ≤ u.n ∧ u.n ≤ s.length
   ·rw [if_pos h, if_pos h]; exact z8w us vs _
   ·rw [if_neg h, if_neg h]; rfl
  | false =>
   rw [if_neg (by simp), if_neg (by simp)]
   exact z8w us vs _
theorem zau : ∀ (c s : Bs), z11 s (c.map fun x => ⟨x, false, 0⟩) = some (s ++ c)
 | [], s => by simp [z11]
 | x :: c, s => by
  rw [List.map_cons, z11, if_neg (by simp)]
  simp only
  rw [zau c (s ++ [x]), List.append_assoc, List.singleton_append]
/-! ### Side by side -/
structure FSim (S : VFS) (G : RFS) : Prop where
 c : S.c = G.c
 len : S.files.length = G.files.length
 files : ∀ (k : Nat) (F : VFile) (R : RF), S.files[k]? = some F → G.files[k]? = some R → F.sure = R.sure ∧ z11 R.sure R.us = some F.now
 sure : DirSim S.sure G.sure
 now : DirSim S.now G.dir
 turns : TurnsSim S.turns G.turns
 sync : ∃ d, syncM S.turns S.sure = some d
 ok : S.ok
 names : ∀ p ∈ S.now, z0a p.1 = true
variable {S : VFS} {G : RFS}
theorem FSim.ctl (h : FSim S G) (c : Ctl) : FSim (S.ctl c) (G.ctl c) := ⟨rfl, h.len, h.files, h.sure, h.now, h.turns, h.sync, h.ok, h.names⟩
theorem FSim.dirs (h : FSim S G) {d : Dir} (hd : syncM S.turns S.sure = some d) : DirSim d G.dir := h.turns.does h.sure hd
theorem FSim.get (h : FSim S G) (n : ByteArray) : rget n G.dir = Option.map (fun x : Nat => (x : Int)) (aget S.now n) := h.now.get n
theorem FSim.lt (h : FSim S G) {n : ByteArray} {k : Nat} (hg : aget S.now n = some k) : k < S.files.length := z9k h.ok hg
theorem FSim.lenOf (h : FSim S G) (k : Nat) : S.lenOf k = G.lenOf k := by
 unfold VFS.lenOf RFS.lenOf
 by_cases hk : k < S.files.length
 ·have e1 : S.files[k]? = some S.files[k] := List.getElem?_eq_getElem hk
  have hk' : k < G.files.length := by rw [← h.len]; exact hk
  have e2 : G.files[k]? = some G.files[k] := List.getElem?_eq_getElem hk'
  obtain ⟨h1, h2⟩ := h.files k _ _ e1 e2
  rw [e1, e2]
  simp only [Option.map_some, Option.getD_some]
  unfold RF.now
  rw [h2]
  rfl
 ·have hk' : ¬ k < G.files.length := by rw [← h.len]; exact hk
  rw [List.getElem?_eq_none (by omega), List.getElem?_eq_none (by omega)]
  rfl
theorem FSim.now_of (h : FSim S G) {k : Nat} {F : VFile} {R : RF} (e1 : S.files[k]? = some F) (e2 : G.files[k]? = some R) : R.now = F.now := by
 unfold RF.now
 rw [(h.files k F R e1 e2).2]; rfl
theorem zax (G : RFS) (c : Ctl) (t : RTn) (fs : List RF) : RFS.dir ⟨fs, G.sure, G.turns ++ [t], c⟩ = t.does G.dir := by
 unfold RFS.dir z25
 simp
theorem FSim.turned (h : FSim S G) {t : VTurn} {r : RTn} (ht : z4e t r) {now' : Dir} (hd : t.does S.now = some now') (hsome : ∀ d, DirSim d G.dir → ∃ d', t.does d = some d') :
  DirSim now' (r.does G.dir) ∧ TurnsSim (S.turns ++ [t]) (G.turns ++ [r]) ∧ ∃ d, syncM (S.turns ++ [t]) S.sure = some d := by
 refine ⟨ht.does h.now hd, h.turns.snoc ht, ?_⟩
 obtain ⟨d, hd0⟩ := h.sync
 rw [zca, hd0]
 exact hsome d (h.dirs hd0)
theorem FSim.create (h : FSim S G) (n : ByteArray) : (S.create n).1 = (G.create n).1 ∧ FSim (S.create n).2 (G.create n).2 := by
 unfold VFS.create RFS.create
 rw [h.c]
 by_cases c0 : G.c.call.1 ≠ 0
 ·rw [if_pos c0, if_pos c0]; exact ⟨rfl, h.ctl _⟩
 rw [if_neg c0, if_neg c0]
 by_cases c1 : z0a n = false
 ·rw [if_pos c1, if_pos c1]; exact ⟨rfl, h.ctl _⟩
 rw [if_neg c1, if_neg c1]
 have hc : (rget n G.dir = none ∧ 1024 ≤ G.dir.length) ↔ (aget S.now n = none ∧ 1024 ≤ S.now.length) := by
  rw [h.get, Option.map_eq_none_iff, h.now.len]
 by_cases c2 : aget S.now n = none ∧ 1024 ≤ S.now.length
 ·rw [if_pos c2, if_pos (hc.2 c2)]; exact ⟨rfl, h.ctl _⟩
 rw [if_neg c2, if_neg (fun x => c2 (hc.1 x))]
 refine ⟨rfl, ?_⟩
 have ts : z4e ⟨0, n, ⟨#[]⟩, some S.files.length⟩ ⟨0, n, ⟨#[]⟩, (G.files.length : Int)⟩ := ⟨rfl, rfl, rfl, fun _ => ⟨_, rfl, by rw [h.len]⟩⟩
 obtain ⟨t1, t2, t3⟩ := h.turned ts (now' := aset S.now n S.files.length) rfl (fun d _ => ⟨_, rfl⟩)
 obtain ⟨o1, o2, o3⟩ := h.ok
 refine ⟨rfl, by simp [h.len], fun k F R e1 e2 => ?_, h.sure, by rw [zax]; exact t1, t2, t3, ⟨fun p hp => ?_, fun p hp => ?_, fun t ht i hi => ?_⟩, fun p hp => ?_⟩
 ·simp only at e1 e2
  by_cases hk : k < S.files.length
  ·rw [List.getElem?_append_left hk] at e1
   rw [List.getElem?_append_left (by rw [← h.len]; exact hk)] at e2
   exact h.files k F R e1 e2
  ·rw [List.getElem?_append_right (by omega)] at e1
   rw [List.getElem?_append_right (by rw [← h.len]; omega)] at e2
   rw [← h.len] at e2
   cases hz : k - S.files.length with
   | zero =>
    rw [hz] at e1 e2
    injection e1 with e1; injection e2 with e2
    subst e1; subst e2
    exact ⟨rfl, rfl⟩
   | succ z => rw [hz] at e1; simp at e1
 ·have := o1 p hp; simp only [List.length_append, List.length_cons, List.length_nil]; omega
 ·simp only [List.length_append, List.length_cons, List.length_nil]
  rcases aset_mem hp with hp | hp
  ·have := o2 p hp; omega
  ·omega
 ·simp only [List.length_append, List.length_cons, List.length_nil]
  rcases List.mem_append.1 ht with ht | ht
  ·have := o3 t ht i hi; omega
  ·simp at ht; subst ht; injection hi with hi; omega
 ·rcases (z3g h.now.1).1 hp with e | ⟨e, _⟩
  ·rw [e]; simpa using c1
  ·exact h.names p e
theorem FSim.put (h : FSim S G) (c : Ctl) (k : Nat) (b : Bs) : FSim (S.put c k b) ((G.ctl c).more k b) := by
 obtain ⟨o1, o2, o3⟩ := h.ok
 refine ⟨rfl, by simp [VFS.put, RFS.more, RFS.ctl, h.len], fun j F R e1 e2 => ?_, h.sure, h.now, h.turns, h.sync, ⟨fun p hp => ?_, fun p hp => ?_, fun t ht i hi => ?_⟩, h.names⟩
 ·simp only [VFS.put, RFS.more, RFS.ctl, List.getElem?_modify] at e1 e2
  cases f1 : S.files[j]? with
  | none => rw [f1] at e1; simp at e1
  | some F0 =>
   cases f2 : G.files[j]? with
   | none => rw [f2] at e2; simp at e2
   | some R0 =>
    rw [f1] at e1
    rw [f2] at e2
    obtain ⟨h1, h2⟩ := h.files j F0 R0 f1 f2
    by_cases hk : k = j
    ·simp [hk] at e1 e2
     subst e1; subst e2
     refine ⟨h1, ?_⟩
     show z11 R0.sure (R0.us ++ _) = some (F0.now ++ b)
     rw [z8w, h2]
     exact zau b F0.now
    ·simp [hk] at e1 e2
     subst e1; subst e2
     exact ⟨h1, h2⟩
 ·have := o1 p hp; simpa [VFS.put] using this
 ·have := o2 p hp; simpa [VFS.put] using this
 ·have := o3 t ht i hi; simpa [VFS.put] using this
theorem FSim.append (h : FSim S G) (n : ByteArray) (b : Bs) : (S.append n b).1 = (G.append n b).1 ∧ FSim (S.append n b).2 (G.append n b).2 := by
 unfold VFS.append RFS.append
 have hg := h.get n
 rw [h.c]
 cases ho : z0a n with
 | false =>
  have hn : aget S.now n = none := by
   rw [aget_none]
   intro x hx
   have := h.names _ hx
   rw [ho] at this; cases this
  rw [hn] at hg
  simp only [hg, Option.map_none]
  by_cases c0 : G.c.call.1 = 0
  ·simp [c0]; exact h.ctl _
  ·simp [c0]; exact h.ctl _
 | true =>
 cases ha : aget S.now n with
 | none =>
  rw [ha] at hg
  simp only [hg, Option.map_none]
  by_cases c0 : G.c.call.1 = 0
  ·simp [c0]; exact h.ctl _
  ·simp [c0]; exact h.ctl _
 | some k =>
  rw [ha] at hg
  simp only [hg, Option.map_some, Int.toNat_natCast]
  rw [h.lenOf k]
  by_cases c0 : G.c.call.1 = 0
  ·simp [c0]
   by_cases c1 : b.length + G.lenOf k ≤ 1073741824
   ·rw [if_pos c1, if_pos (by omega)]; exact ⟨rfl, h.put _ _ _⟩
   ·rw [if_neg c1, if_neg (by omega)]; exact ⟨rfl, h.ctl _⟩
  ·simp [c0]
   by_cases c1 : G.c.off = false ∧ b.length / 2 + G.lenOf k ≤ 1073741824
   ·rw [if_pos c1, if_pos ⟨c1.1, by omega⟩]; exact h.put _ _ _
   ·rw [if_neg c1, if_neg (fun x => c1 ⟨x.1, by omega⟩)]; exact h.ctl _
theorem FSim.syncF (h : FSim S G) (n : ByteArray) : (S.syncF n).1 = (G.syncF n).1 ∧ FSim (S.syncF n).2 (G.syncF n).2 := by
 unfold VFS.syncF RFS.syncF
 have hg := h.get n
 rw [h.c]
 by_cases c0 : G.c.call.1 ≠ 0
 ·rw [if_pos c0, if_pos c0]; exact ⟨rfl, h.ctl _⟩
 rw [if_neg c0, if_neg c0]
 by_cases c1 : z0a n = false
 ·rw [if_pos c1, if_pos c1]; exact ⟨rfl, h.ctl _⟩
 rw [if_neg c1, if_neg c1]
 cases ha : aget S.now n with
 | none =>
  rw [ha] at hg
  simp only [hg, Option.map_none]
  exact ⟨trivial, h.ctl _⟩
 | some k =>
  rw [ha] at hg
  simp only [hg, Option.map_some, Int.toNat_natCast]
  refine ⟨trivial, ?_⟩
  obtain ⟨o1, o2, o3⟩ := h.ok
  refine ⟨rfl, by simp [h.len], fun j F R e1 e2 => ?_, h.sure, h.now, h.turns, h.sync, ⟨fun p hp => ?_, fun p hp => ?_, fun t ht i hi => ?_⟩, h.names⟩
  ·simp only [List.getElem?_modify] at e1 e2
   cases f1 : S.files[j]? with
   | none => rw [f1] at e1; simp at e1
   | some F0 =>
    cases f2 : G.files[j]? with
    | none => rw [f2] at e2; simp at e2
    | some R0 =>
     rw [f1] at e1
     rw [f2] at e2
     obtain ⟨h1, h2⟩ := h.files j F0 R0 f1 f2
     by_cases hk : k = j
     ·simp [hk] at e1 e2
      subst e1; subst e2
      have hnow := h.now_of f1 f2
      exact ⟨hnow.symm, by show some (R0.now) = some F0.now; rw [hnow]⟩
     ·simp [hk] at e1 e2
      subst e1; subst e2
      exact ⟨h1, h2⟩
  ·have := o1 p hp; simpa using this
  ·have := o2 p hp; simpa using this
  ·have := o3 t ht i hi; simpa using this
theorem FSim.rename (h : FSim S G) (n m : ByteArray) : (S.rename n m).1 = (G.rename n m).1 ∧ FSim (S.rename n m).2 (G.rename n m).2 := by
 unfold VFS.rename RFS.rename
 have hg := h.get n
 rw [h.c]
 by_cases c0 : G.c.call.1 ≠ 0
 ·rw [if_pos c0, if_pos c0]; exact ⟨rfl, h.ctl _⟩
 rw [if_neg c0, if_neg c0]
 by_cases c1 : (z0a n && z0a m) = false
 ·rw [if_pos c1, if_pos c1]; exact ⟨rfl, h.ctl _⟩
 rw [if_neg c1, if_neg c1]
 cases ha : aget S.now n with
 | none =>
  rw [ha] at hg
  simp only [hg, Option.map_none]
  exact ⟨trivial, h.ctl _⟩
 | some k =>
  rw [ha] at hg
  simp only [hg, Option.map_some]
  refine ⟨trivial, ?_⟩
  have ts : z4e ⟨1, n, m, none⟩ ⟨1, n, m, 0⟩ := ⟨rfl, rfl, rfl, fun hz => by cases hz⟩
  obtain ⟨t1, t2, t3⟩ := h.turned ts (now' := aset (adel S.now n) m k) (by unfold VTurn.does; simp [ha]) (fun d hd => by
   have hgd := hd.get n
   rw [hg] at hgd
   cases hx : aget d n with
   | none => rw [hx] at hgd; cases hgd
   | some x => exact ⟨_, by unfold VTurn.does; simp [hx]; rfl⟩)
  obtain ⟨o1, o2, o3⟩ := h.ok
  have hm : z0a n = true ∧ z0a m = true := by simpa using c1
  refine ⟨rfl, h.len, h.files, h.sure, by unfold RFS.turn; rw [zax]; exact t1, t2, t3, ⟨o1, fun p hp => ?_, fun t ht i hi => ?_⟩, fun p hp => ?_⟩
  ·rcases aset_mem hp with hp | hp
   ·exact o2 p (adel_mem hp)
   ·rw [hp]; exact h.lt ha
  ·rcases List.mem_append.1 ht with ht | ht
   ·exact o3 t ht i hi
   ·simp at ht; subst ht; cases hi
  ·rcases (z3g (z5b h.now.1)).1 hp with e | ⟨e, _⟩
   ·rw [e]; exact hm.2
   ·exact h.names p (adel_mem e)
theorem FSim.arm (h : FSim S G) (kind after : Int) : (S.arm kind after).1 = (G.arm kind after).1 ∧ FSim (S.arm kind after).2 (G.arm kind after).2 := by
 unfold VFS.arm RFS.arm
 by_cases c0 : (kind ≠ 0 ∧ kind ≠ 14 ∧ kind ≠ 15) ∨ after < 0
 ·rw [if_pos c0, if_pos c0]; exact ⟨rfl, h⟩
 ·rw [if_neg c0, if_neg c0, h.c]; exact ⟨rfl, h.ctl _⟩
theorem FSim.syncD (h : FSim S G) {d : Dir} (hd : syncM S.turns S.sure = some d) : S.c.call.1 = G.syncD.1 ∧ FSim (if S.c.call.1 = 0 then { sure := d, now := S.now, turns := [], files := S.files, c := S.c.call.2 } else S.ctl S.c.call.2) G.syncD.2 := by
 unfold RFS.syncD
 rw [h.c]
 by_cases c0 : G.c.call.1 = 0
 ·rw [if_pos c0, if_neg (fun x => x c0)]
  refine ⟨c0, ?_⟩
  have hdd := h.dirs hd
  obtain ⟨o1, o2, o3⟩ := h.ok
  refine ⟨rfl, h.len, h.files, hdd, h.now, .nil, ⟨d, rfl⟩, ⟨fun p hp => ?_, o2, fun t ht => by cases ht⟩, h.names⟩
  obtain ⟨x, hx, hm⟩ := (h.now.mem p.1 p.2).1 ((hdd.mem p.1 p.2).2 ⟨p.2, rfl, hp⟩)
  have := o2 _ hm
  simp only at this ⊢
  omega
 ·rw [if_neg c0, if_pos c0]
  exact ⟨rfl, h.ctl _⟩
set_option maxHeartbeats 4000000
open Go.RowKit (Below)
theorem z9m {α : Type} {f : α → List Value} {k : Nat} (hf : ∀ x, (f x).length = k) {l : List α} {i : Nat} {x : α} (h : l[i]? = some x) {j : Nat} (hj : j < k) : (l.flatMap f)[i * k + j]? = (f x)[j]? := by
 rw [← z6z hf l i x h, List.getElem?_take, if_pos hj, List.getElem?_drop]
structure RFS.small (S : RFS) : Prop where
 sure : S.sure.length < 2 ^ 29
 turns : S.turns.length < 2 ^ 29
 files : S.files.length < 2 ^ 29
 all : ∀ (k : Nat) F, S.files[k]? = some F → F.sure.length < 2 ^ 40 ∧ F.us.length < 2 ^ 40
theorem z7j : ∀ (ts : List RTn) (l : RDir), (z25 l ts).length ≤ l.length + ts.length
 | [], l => by simp [z25]
 | t :: ts, l => by
  have h1 := z7j ts (t.does l)
  have h2 := zdp t l
  have : z25 l (t :: ts) = z25 (t.does l) ts := rfl
  rw [this, List.length_cons]
  omega
theorem RFS.small.dir {S : RFS} (h : S.small) : S.dir.length < 2 ^ 30 := by
 have := z7j S.turns S.sure
 have h1 := h.sure
 have h2 := h.turns
 unfold RFS.dir
 omega
section
variable {W0 : World} {st : Heap}
theorem z7y {w : Nat} {S : RFS} (h : RFSAt st w S) (hs : S.small) : z00 Tryz.prog W0 120 #[ptr w] st fun e st' => ∃ v, e = .returned v ∧ Vec st' (.ty 1) 2 v (dV S.dir) S.dir.length ∧ Fresh st v ∧ New st st' := by
 obtain ⟨fv, sv, tv, fs, h1, h2, h3, h4, h5⟩ := h
 obtain ⟨tb, tc, rfl⟩ := h3.slice
 have a1 := hs.sure
 have a2 := hs.turns
 refine enter (args := [_]) Tryz.func120 rfl ?_
 simp [Tryz.f120, go_sem, h1]
 refine draw [0, 1, 2, 4, 5, 6, 8, 9, 10, 3, 7, 11, 12, 13, 14] (by kernel_rfl) ?_
 simp [go_sem, h1]
 refine (zhd (n := (S.turns.length : Int)) h2 h3.reg (by omega) (by omega)).mono ?_
 rintro e st2 ⟨v, rfl, hv, hf, hk⟩
 rw [Int.toNat_natCast, List.take_length] at hv
 simp [go_sem]
 exact ⟨hv, hf, hk⟩
theorem z5j {w : Nat} {S : RFS} {n : ByteArray} (h : RFSAt st w S) (hs : S.small) : z00 Tryz.prog W0 121 #[ptr w, .string n] st fun e st' => e = .returned (Val.i ((rget n S.dir).getD (-1))) ∧ New st st' := by
 have hdl := hs.dir
 refine enter (args := [_, _]) Tryz.func121 rfl ?_
 simp [Tryz.f121, go_sem]
 refine (z7y h hs).mono ?_
 rintro e st2 ⟨v, rfl, hv, hf, hk⟩
 obtain ⟨vb, vc, rfl⟩ := hv.slice
 simp [go_sem]
 refine (z7w (n := n) hv.rf (by omega)).mono ?_
 rintro e st3 ⟨rfl, rfl⟩
 rcases z5g n S.dir 0 with ⟨z1, z2⟩ | ⟨j, p, z1, z4, z3⟩
 ·rw [z1]
  simp [go_sem, z2]
  exact hk
 ·rw [Nat.zero_add] at z3
  rw [z4]
  have hjL := (List.getElem?_eq_some_iff.1 z1).1
  obtain ⟨mb2, off2, cap2, rw2, zs2, mm2, g2, hv2, hs3, hget2⟩ := z1d hv.rf (by omega)
  injection hv2 with v1 v2 v3
  subst v1; subst v3
  obtain ⟨hlen2, hcell2, hcc2⟩ := hget2 j hjL
  rw [z7f S.dir j _ z1] at hcell2 hcc2
  have c1 := hcc2 1 (by omega)
  simp only [List.getElem?_cons_zero, List.getElem?_cons_succ] at c1
  have hj' : ((j : Int) < S.dir.length) = True := eq_true (by omega)
  have hj0 : ((j : Int) < 0) = False := eq_false (by omega)
  simp [go_sem, z3, hj0, hs3, c1, hjL, hj']
  exact hk
theorem z5t {w : Nat} {S : RFS} (h : RFSAt st w S) : z00 Tryz.prog W0 184 #[ptr w] st fun e st' => e = .returned (.tuple #[Val.i S.c.call.1, .bool (decide (S.c.call.1 ≠ 0))]) ∧ RFSAt st' w (S.ctl S.c.call.2) ∧ But1 w st st' := by
 obtain ⟨fv, sv, tv, fs, h1, h2, h3, h4, h5⟩ := h
 have put : ∀ (c : Ctl), RFSAt (upd st w (.cells true [fv, sv, tv, Val.i c.calls, .bool c.armed, Val.i c.kind, Val.i c.after, .bool c.off] 8 (.own w 0 80))) w (S.ctl c) := fun c => by
  have kk : ∀ (p : Tg → Prop), ¬ p (.own w 0 80) → Keep p st (upd st w (.cells true [fv, sv, tv, Val.i c.calls, .bool c.armed, Val.i c.kind, Val.i c.after, .bool c.off] 8 (.own w 0 80))) := fun p hp => Keep.rfl'.old h1 (by intro g hg; injection hg with hg; subst hg; exact hp)
  refine ⟨fv, sv, tv, fs, upd_same _ _ _, h2.free (kk Free (by unfold Free; intro hx; exact hx _ _ _ rfl)), h3.keep (kk (· = .own w 0 82) (by simp)) rfl, h4.keep (kk (· = .own w 0 83) (by simp)) rfl, fun k F hF => (h5 k F hF).keep (kk Free (by unfold Free; intro hx; exact hx _ _ _ rfl)) (kk _ (by simp))⟩
 refine enter (args := [_]) Tryz.func184 rfl ?_
 obtain ⟨files, sure, turns, ⟨calls, armed, kind, after, off⟩⟩ := S
 simp only [RFS.ctl] at put ⊢
 simp only at h1
 simp [Tryz.f184, go_sem, h1]
 have b1 : ∀ o, But1 w st (upd st w o) := fun o => But1.put (But1.refl _ _)
 unfold Ctl.call
 cases off <;> cases armed
 ·simp [go_sem, upd_same]
  exact ⟨put ⟨_, _, _, _, _⟩, b1 _⟩
 ·by_cases ha : 0 < after
  ·simp [go_sem, ha, upd_same]
   exact ⟨put ⟨_, _, _, _, _⟩, b1 _⟩
  ·by_cases hk : kind = 0
   ·simp [go_sem, ha, hk, upd_same]
    exact ⟨put ⟨_, _, _, _, _⟩, b1 _⟩
   ·simp [go_sem, ha, hk, upd_same]
    exact ⟨put ⟨_, _, _, _, _⟩, b1 _⟩
 ·simp [go_sem, upd_same]
  exact ⟨put ⟨_, _, _, _, _⟩, b1 _⟩
 ·simp [go_sem, upd_same]
  exact ⟨put ⟨_, _, _, _, _⟩, b1 _⟩
end
theorem But1.out {st st' : Heap} {w a b n : Nat} {rw_ : Bool} {xs : List Value} (h : But1 w st st') (hw : st w = some (.cells rw_ xs n (.own w a b))) : Keep (Out w) st st' := fun k o g hk ht hp => by
 by_cases e : k = w
 ·subst e
  rw [hw] at hk
  injection hk with hk
  subst hk
  injection ht with ht
  subst ht
  exact absurd rfl (hp a b)
 ·exact h k o e hk
def RFSP (st : Heap) (w : Nat) (fv sv tv : Value) (fs : List Value) (S : RFS) : Prop :=
 RegF st 2 sv (dV S.sure) S.sure.length ∧ Vec st (.own w 0 82) 4 tv (tV S.turns) S.turns.length ∧ Vec st (.own w 0 83) 2 fv fs S.files.length ∧ ∀ (k : Nat) F, S.files[k]? = some F → RFAt st w k ((fs.drop (k * 2)).take 2) F
def rC (fv sv tv : Value) (c : Ctl) : List Value := [fv, sv, tv, Val.i c.calls, .bool c.armed, Val.i c.kind, Val.i c.after, .bool c.off]
theorem RFSP.keep {st st' : Heap} {w : Nat} {fv sv tv : Value} {fs : List Value} {S : RFS} (h : RFSP st w fv sv tv fs S) (hf : Keep Free st st') (ho : ∀ x r, r ≠ 80 → Keep (· = .own w x r) st st') : RFSP st' w fv sv tv fs S := by
 obtain ⟨h2, h3, h4, h5⟩ := h
 exact ⟨h2.free hf, h3.keep (ho _ _ (by omega)) rfl, h4.keep (ho _ _ (by omega)) rfl, fun k F hF => (h5 k F hF).keep hf (ho _ _ (by omega))⟩
theorem RFSP.store {st : Heap} {w : Nat} {fv sv tv : Value} {fs xs : List Value} {S : RFS} {o : HObj} (h : RFSP st w fv sv tv fs S) (hw : st w = some (.cells true xs 8 (.own w 0 80))) : RFSP (upd st w o) w fv sv tv fs S := by
 have kk : ∀ (p : Tg → Prop), ¬ p (.own w 0 80) → Keep p st (upd st w o) := fun p hp => Keep.rfl'.old hw (by intro g hg; injection hg with hg; subst hg; exact hp)
 exact h.keep (kk Free (by unfold Free; intro hx; exact hx _ _ _ rfl)) (fun x r hr => kk _ (by simp; intro _ h; exact hr h.symm))
theorem RFSP.at {st : Heap} {w : Nat} {fv sv tv : Value} {fs : List Value} {S : RFS} (h : RFSP st w fv sv tv fs S) (hw : st w = some (.cells true (rC fv sv tv S.c) 8 (.own w 0 80))) : RFSAt st w S := ⟨fv, sv, tv, fs, hw, h⟩
theorem RFSAt.parts {st : Heap} {w : Nat} {S : RFS} (h : RFSAt st w S) : ∃ fv sv tv fs, st w = some (.cells true (rC fv sv tv S.c) 8 (.own w 0 80)) ∧ RFSP st w fv sv tv fs S := by
 obtain ⟨fv, sv, tv, fs, h1, h2⟩ := h
 exact ⟨fv, sv, tv, fs, h1, h2⟩
theorem z6m {st0 st : Heap} {w : Nat} {xs : List Value} {o : HObj} (hk : Keep (Out w) st0 st) (hw : st w = some (.cells true xs 8 (.own w 0 80))) : Keep (Out w) st0 (upd st w o) :=
 hk.old hw (by intro g hg; injection hg with hg; subst hg; exact fun h => h _ _ rfl)
theorem RFS.small.ctl {S : RFS} (h : S.small) (c : Ctl) : (S.ctl c).small := ⟨h.sure, h.turns, h.files, h.all⟩
section
variable {W0 : World} {st : Heap}
theorem z4n {s : ByteArray} : z00 Tryz.prog W0 100 #[.string s] st fun e st' => e = .returned (.bool (z0a s)) ∧ st' = st := by
 refine enter (args := [_]) Tryz.func100 rfl ?_
 unfold z0a
 by_cases h1 : 1 ≤ s.size
 ·have q1 : ((1 : Int) ≤ s.size) = True := eq_true (by omega)
  by_cases h2 : s.size ≤ 64
  ·have q2 : ((s.size : Int) ≤ 64) = True := eq_true (by omega)
   simp [Tryz.f100, go_sem, q1, q2, h1, h2]
  ·have q2 : ((s.size : Int) ≤ 64) = False := eq_false (by omega)
   simp [Tryz.f100, go_sem, q1, q2, h1, h2]
 ·have q1 : ((1 : Int) ≤ s.size) = False := eq_false (by omega)
  simp [Tryz.f100, go_sem, q1, h1]
theorem ze8 {w : Nat} {S : RFS} {kind after : Int} (h : RFSAt st w S) : z00 Tryz.prog W0 36 #[ptr w, Val.i kind, Val.i after] st fun e st' => e = .returned (Val.i (S.arm kind after).1) ∧ RFSAt st' w (S.arm kind after).2 ∧ Keep (Out w) st st' := by
 obtain ⟨fv, sv, tv, fs, hw, hp⟩ := h.parts
 refine enter (args := [_, _, _]) Tryz.func36 rfl ?_
 unfold RFS.arm
 have hp1 : ∀ c : Ctl, RFSAt (upd st w (.cells true (rC fv sv tv c) 8 (.own w 0 80))) w (S.ctl c) := fun c => RFSP.at (S := S.ctl c) (hp.store hw) (upd_same _ _ _)
 have ho : ∀ o, Keep (Out w) st (upd st w o) := fun o => z6m Keep.rfl' hw
 unfold rC at hw hp1
 by_cases a0 : kind = 0
 ·subst a0
  by_cases ha : after < 0
  ·have q := eq_true ha
   rw [if_pos (.inr ha)]
   simp [Tryz.f36, go_sem, q]
   exact ⟨h, Keep.rfl'⟩
  ·have q := eq_false ha
   rw [if_neg (by omega)]
   simp [Tryz.f36, go_sem, q, hw, upd_same]
   exact ⟨hp1 { S.c with armed := true, kind := 0, after := after }, ho _⟩
 have q0 := eq_false a0
 by_cases a1 : kind = 14
 ·subst a1
  by_cases ha : after < 0
  ·have q := eq_true ha
   rw [if_pos (.inr ha)]
   simp [Tryz.f36, go_sem, q]
   exact ⟨h, Keep.rfl'⟩
  ·have q := eq_false ha
   rw [if_neg (by omega)]
   simp [Tryz.f36, go_sem, q, hw, upd_same]
   exact ⟨hp1 { S.c with armed := true, kind := 14, after := after }, ho _⟩
 have q1 := eq_false a1
 by_cases a2 : kind = 15
 ·subst a2
  by_cases ha : after < 0
  ·have q := eq_true ha
   rw [if_pos (.inr ha)]
   simp [Tryz.f36, go_sem, q]
   exact ⟨h, Keep.rfl'⟩
  ·have q := eq_false ha
   rw [if_neg (by omega)]
   simp [Tryz.f36, go_sem, q, hw, upd_same]
   exact ⟨hp1 { S.c with armed := true, kind := 15, after := after }, ho _⟩
 ·have q2 := eq_false a2
  rw [if_pos (.inl ⟨a0, a1, a2⟩)]
  simp [Tryz.f36, go_sem, q0, q1, q2]
  exact ⟨h, Keep.rfl'⟩
theorem zhs {w : Nat} {S : RFS} (h : RFSAt st w S) (hs : S.small) : z00 Tryz.prog W0 118 #[ptr w] st fun e st' => e = .returned (Val.i S.syncD.1) ∧ RFSAt st' w S.syncD.2 ∧ Keep (Out w) st st' := by
 obtain ⟨fv0, sv0, tv0, fs0, hw0, -⟩ := h.parts
 refine enter (args := [_]) Tryz.func118 rfl ?_
 simp [Tryz.f118, go_sem]
 refine (z5t h).mono ?_
 rintro e s1 ⟨rfl, h1, b1⟩
 have k1 := b1.out hw0
 unfold RFS.syncD
 by_cases c0 : S.c.call.1 = 0
 ·rw [if_neg (fun h => h c0)]
  simp [go_sem, c0]
  refine (z7y h1 (hs.ctl _)).mono ?_
  rintro e s2 ⟨v, rfl, hv, hf, k2⟩
  obtain ⟨fv, sv, tv, fs, hw, hp⟩ := (h1.new k2).parts
  obtain ⟨vb, vc, rfl⟩ := hv.slice
  have hout : Keep (Out w) st s2 := k1.trans (k2.to _)
  have hp3 := hp.store (o := .cells true (rC fv (.slice vb S.dir.length vc) (.slice none 0 0) S.c.call.2) 8 (.own w 0 80)) hw
  have hv3 : RegF (upd s2 w (.cells true (rC fv (.slice vb S.dir.length vc) (.slice none 0 0) S.c.call.2) 8 (.own w 0 80))) 2 (.slice vb S.dir.length vc) (dV S.dir) S.dir.length := hv.rf.free (Keep.rfl'.old hw (by intro g hg; injection hg with hg; subst hg; intro hx; exact hx _ _ _ rfl))
  have ho := z6m (o := .cells true (rC fv (.slice vb S.dir.length vc) (.slice none 0 0) S.c.call.2) 8 (.own w 0 80)) hout hw
  unfold rC at hw
  simp [go_sem, hw, upd_same]
  exact ⟨RFSP.at (S := { files := S.files, sure := S.dir, turns := [], c := S.c.call.2 }) ⟨hv3, Vec.nil, hp3.2.2.1, hp3.2.2.2⟩ (upd_same _ _ _), ho⟩
 ·rw [if_pos c0]
  simp [go_sem, c0]
  exact ⟨h1, k1⟩
def RFS.wf (S : RFS) : Prop := ∀ n z, rget n S.dir = some z → 0 ≤ z ∧ z.toNat < S.files.length
theorem zjj {w : Nat} {S : RFS} {n m : ByteArray} (h : RFSAt st w S) (hs : S.small) (hwf : S.wf) : z00 Tryz.prog W0 117 #[ptr w, .string n, .string m] st fun e st' => e = .returned (Val.i (S.rename n m).1) ∧ RFSAt st' w (S.rename n m).2 ∧ Keep (Out w) st st' := by
 obtain ⟨fv0, sv0, tv0, fs0, hw0, -⟩ := h.parts
 refine enter (args := [_, _, _]) Tryz.func117 rfl ?_
 simp [Tryz.f117, go_sem]
 refine (z5t h).mono ?_
 rintro e s1 ⟨rfl, h1, b1⟩
 have k1 := b1.out hw0
 unfold RFS.rename
 by_cases c0 : S.c.call.1 = 0
 rotate_left
 ·rw [if_pos c0]
  simp [go_sem, c0]
  exact ⟨h1, k1⟩
 rw [if_neg (fun h => h c0)]
 simp [go_sem, c0]
 refine z4n.mono ?_
 rintro e s2 ⟨rfl, rfl⟩
 cases m1 : z0a n with
 | false =>
  simp [go_sem]
  exact ⟨h1, k1⟩
 | true =>
 simp [go_sem]
 refine z4n.mono ?_
 rintro e s2 ⟨rfl, rfl⟩
 cases m2 : z0a m with
 | false =>
  simp [go_sem]
  exact ⟨h1, k1⟩
 | true =>
 simp [go_sem]
 refine (z5j (n := n) h1 (hs.ctl _)).mono ?_
 rintro e s2 ⟨rfl, k2⟩
 have hout : Keep (Out w) st s2 := k1.trans (k2.to _)
 have hdir : (S.ctl S.c.call.2).dir = S.dir := rfl
 rw [hdir]
 cases hg : rget n S.dir with
 | none =>
  simp [go_sem]
  exact ⟨h1.new k2, hout⟩
 | some z =>
 have hz := hwf n z hg
 have qz : (z < 0) = False := eq_false (by omega)
 obtain ⟨fv, sv, tv, fs, hw, hp⟩ := (h1.new k2).parts
 obtain ⟨p1, p2, p3, p4⟩ := hp
 have ht := hs.turns
 unfold rC at hw
 simp [go_sem, qz, hw]
 unfold NewS
 intro nb hnb
 refine ⟨.ty 1, ?_⟩
 have n1 := (New.refl s2).add (b := nb) (o := .cells true [Val.i 1, .string n, .string m, Val.i 0] 4 (.ty 1)) hnb
 simp [go_sem]
 refine z37 (g := .own w 0 82) (m := 1) (ys := [Val.i 1, .string n, .string m, Val.i 0]) si90 (p2.new' n1) (by simp [z06, z0i, upd_same, cellsOf]) (by simp [Value.oneCell']) (by show (S.turns.length + 1) * _ ≤ _; omega) ?_
 intro b4 c4 st4 hV4 hE4
 have hw4 : st4 w = some (.cells true [fv, sv, tv, Val.i S.c.call.2.calls, .bool S.c.call.2.armed, Val.i S.c.call.2.kind, Val.i S.c.call.2.after, .bool S.c.call.2.off] 8 (.own w 0 80)) := (hE4.toKeep (p := (· = .own w 0 80)) (by simp)).get (n1 _ _ hw) rfl
 have hout4 : Keep (Out w) st st4 := (hout.trans (n1.to _)).trans (hE4.toKeep (fun h => h _ _ rfl))
 have q1 := p1.free ((n1.to Free).trans (hE4.toKeep (p := Free) (fun h => h _ _ _ rfl)))
 have q3 := (p3.new' n1).keep (hE4.toKeep (p := (· = .own w 0 83)) (by simp)) rfl
 have q4 : ∀ (k : Nat) F, S.files[k]? = some F → RFAt st4 w k ((fs.drop (k * 2)).take 2) F := fun k F hF => (p4 k F hF).keep ((n1.to Free).trans (hE4.toKeep (p := Free) (fun h => h _ _ _ rfl))) ((n1.to _).trans (hE4.toKeep (p := (· = .own w k 84)) (by simp)))
 have hp4 : RFSP st4 w fv sv (.slice b4 (S.turns.length + 1) c4) fs (S.turn S.c.call.2 ⟨1, n, m, 0⟩) := by
  refine ⟨q1, ?_, q3, q4⟩
  show Vec st4 _ 4 _ (tV (S.turns ++ [(⟨1, n, m, 0⟩ : RTn)])) (S.turns ++ [(⟨1, n, m, 0⟩ : RTn)]).length
  rw [tV_app, List.length_append]
  exact hV4
 simp [go_sem, hw4, upd_same]
 exact ⟨RFSP.at (hp4.store hw4) (upd_same _ _ _), z6m hout4 hw4⟩
end
theorem Ext.rest {st st' : Heap} {w x r : Nat} (h : Ext (.own w x r) st st') : Keep Free st st' ∧ Keep (Out w) st st' ∧ ∀ y s, ¬ (y = x ∧ s = r) → Keep (· = .own w y s) st st' :=
 ⟨h.toKeep (p := Free) (fun h => h _ _ _ rfl), h.toKeep (fun h => h _ _ rfl), fun y s hn => h.toKeep (by simp; intro a b; exact hn ⟨a.symm, b.symm⟩)⟩
section
variable {W0 : World} {st : Heap}
theorem zek {w : Nat} {S : RFS} {n : ByteArray} (h : RFSAt st w S) (hs : S.small) : z00 Tryz.prog W0 114 #[ptr w, .string n] st fun e st' => e = .returned (Val.i (S.create n).1) ∧ RFSAt st' w (S.create n).2 ∧ Keep (Out w) st st' := by
 obtain ⟨fv0, sv0, tv0, fs0, hw0, -⟩ := h.parts
 refine enter (args := [_, _]) Tryz.func114 rfl ?_
 iterate 4 refine zcj ?_
 refine z1a (fun E' st' => S.create n = (0, { files := S.files ++ [⟨[], []⟩], sure := S.sure, turns := S.turns ++ [⟨0, n, ⟨#[]⟩, (S.files.length : Int)⟩], c := S.c.call.2 }) ∧ RFSAt st' w (S.ctl S.c.call.2) ∧ Keep (Out w) st st' ∧ E' 0 = ptr w ∧ E' 1 = .string n) ?_ ?_
 ·simp [go_sem]
  refine (z5t h).mono ?_
  rintro e s1 ⟨rfl, h1, b1⟩
  have k1 := b1.out hw0
  unfold RFS.create
  by_cases c0 : S.c.call.1 = 0
  rotate_left
  ·rw [if_pos c0]
   simp [go_sem, c0]
   exact ⟨h1, k1⟩
  rw [if_neg (fun h => h c0)]
  simp [go_sem, c0]
  refine z4n.mono ?_
  rintro e s2 ⟨rfl, rfl⟩
  cases m1 : z0a n with
  | false =>
   simp [go_sem]
   exact ⟨h1, k1⟩
  | true =>
  simp [go_sem]
  refine (z7y h1 (hs.ctl _)).mono ?_
  rintro e s2 ⟨v, rfl, hv, hf, k2⟩
  have hdir : (S.ctl S.c.call.2).dir = S.dir := rfl
  rw [hdir] at hv
  obtain ⟨vb, vc, rfl⟩ := hv.slice
  have hdl := hs.dir
  have hout : Keep (Out w) st s2 := k1.trans (k2.to _)
  simp [go_sem]
  refine (z7w (n := n) hv.rf (by omega)).mono ?_
  rintro e s3 ⟨rfl, rfl⟩
  obtain ⟨F, hF⟩ : ∃ F, rfind n S.dir 0 = F := ⟨_, rfl⟩
  rw [hF]
  have hgF : rget n S.dir = none ↔ F < 0 := by
   rcases z5g n S.dir 0 with ⟨z1, z2⟩ | ⟨j, p, z1, z4, z3⟩
   ·rw [z1, ← hF, z2]; simp
   ·rw [z4, ← hF, z3]; simp
  by_cases cf : rget n S.dir = none ∧ 1024 ≤ S.dir.length
  ·rw [if_pos cf]
   have q1 : (F < 0) = True := eq_true (hgF.1 cf.1)
   have q2 : ((1024 : Int) ≤ S.dir.length) = True := eq_true (by omega)
   simp [go_sem, q1, q2, cf.2]
   exact ⟨h1.new k2, hout⟩
  rw [if_neg cf]
  have hx : rget n S.dir = none → S.dir.length < 1024 := fun h => Nat.lt_of_not_le (fun h' => cf ⟨h, h'⟩)
  have fin : RFSAt s3 w (S.ctl S.c.call.2) ∧ Keep (Out w) st s3 := ⟨h1.new k2, hout⟩
  by_cases q : F < 0
  ·have q1 := eq_true q
   have q2' : ¬ 1024 ≤ S.dir.length := fun h => cf ⟨hgF.2 q, h⟩
   have q2 : ((1024 : Int) ≤ S.dir.length) = False := eq_false (by omega)
   simp [go_sem, q1, q2, q2']
   exact ⟨hx, fin⟩
  ·have q1 := eq_false q
   simp [go_sem, q1]
   exact ⟨hx, fin⟩
 rintro E s2 ⟨hc, h1, hout, e0, e1⟩
 rw [hc]
 obtain ⟨fv, sv, tv, fs, hw, hp⟩ := h1.parts
 obtain ⟨p1, p2, p3, p4⟩ := hp
 have ht := hs.turns
 have hfl := hs.files
 have p2 : Vec s2 (.own w 0 82) 4 tv (tV S.turns) S.turns.length := p2
 have p3 : Vec s2 (.own w 0 83) 2 fv fs S.files.length := p3
 have hw : s2 w = some (.cells true [fv, sv, tv, Val.i S.c.call.2.calls, .bool S.c.call.2.armed, Val.i S.c.call.2.kind, Val.i S.c.call.2.after, .bool S.c.call.2.off] 8 (.own w 0 80)) := hw
 obtain ⟨xb, xc, rfl⟩ := p3.slice
 obtain ⟨tb, tc, rfl⟩ := p2.slice
 simp [go_sem, e0, e1, hw]
 unfold NewS
 intro nb hnb
 refine ⟨.ty 1, ?_⟩
 have n1 := (New.refl s2).add (b := nb) (o := .cells true [.slice none 0 0, .slice none 0 0] 2 (.ty 1)) hnb
 simp [go_sem]
 refine z37 (g := .own w 0 83) (m := 1) (ys := [.slice none 0 0, .slice none 0 0]) si88 (p3.new' n1) (by simp [z06, z0i, upd_same, cellsOf]) (by simp [Value.oneCell']) (by show (S.files.length + 1) * _ ≤ _; omega) ?_
 intro b4 c4 st4 hV4 hE4
 obtain ⟨f1, f2, f3⟩ := hE4.rest
 have hw4 := (f3 0 80 (by omega)).get (n1 _ _ hw) rfl
 simp [go_sem, e0, e1, hw4, upd_same]
 obtain ⟨s5, hs5⟩ : ∃ s, upd st4 w (.cells true [.slice b4 (S.files.length + 1) c4, sv, .slice tb S.turns.length tc, Val.i S.c.call.2.calls, .bool S.c.call.2.armed, Val.i S.c.call.2.kind, Val.i S.c.call.2.after, .bool S.c.call.2.off] 8 (.own w 0 80)) = s := ⟨_, rfl⟩
 have hw5 : s5 w = some (.cells true [.slice b4 (S.files.length + 1) c4, sv, .slice tb S.turns.length tc, Val.i S.c.call.2.calls, .bool S.c.call.2.armed, Val.i S.c.call.2.kind, Val.i S.c.call.2.after, .bool S.c.call.2.off] 8 (.own w 0 80)) := by rw [← hs5]; exact upd_same _ _ _
 have kk : ∀ (p : Tg → Prop), ¬ p (.own w 0 80) → Keep p st4 s5 := fun p hp => by rw [← hs5]; exact Keep.rfl'.old hw4 (by intro g hg; injection hg with hg; subst hg; exact hp)
 have ho5 : Keep (Out w) st s5 := ((hout.trans (n1.to _)).trans f2).trans (kk _ (fun h => h _ _ rfl))
 have kf : Keep Free s2 s5 := ((n1.to _).trans f1).trans (kk _ (fun h => h _ _ _ rfl))
 have g2 := ((p2.new' n1).keep (f3 0 82 (by omega)) rfl).keep (kk (· = .own w 0 82) (by simp)) rfl
 have g3 := hV4.keep (kk (· = .own w 0 83) (by simp)) rfl
 have ke : ∀ k, Keep (· = .own w k 84) s2 s5 := fun k => ((n1.to _).trans (f3 k 84 (by omega))).trans (kk _ (by simp))
 rw [hs5]
 refine draw [0, 1, 2, 3, 5, 6, 7, 8, 4, 9, 10, 11, 12, 13, 14, 15, 16, 17] (by kernel_rfl) ?_
 have hwl : IntKind.i64.wrap ((S.files.length : Int) + 1 - 1) = (S.files.length : Int) := by rw [z03 (by omega) (by omega)]; omega
 have hwl' : (S.files.length : Int) + 1 - 1 = (S.files.length : Int) := by omega
 have hwl2 : IntKind.i64.wrap (S.files.length : Int) = (S.files.length : Int) := z03 (by omega) (by omega)
 simp [go_sem, e0, e1, hw5, hwl, hwl', hwl2]
 unfold NewS
 intro nc hnc
 refine ⟨.ty 1, ?_⟩
 have n6 := (New.refl s5).add (b := nc) (o := .cells true [Val.i 0, .string n, .string ⟨#[]⟩, Val.i (S.files.length : Int)] 4 (.ty 1)) hnc
 simp [go_sem]
 refine z37 (g := .own w 0 82) (m := 1) (ys := [Val.i 0, .string n, .string ⟨#[]⟩, Val.i (S.files.length : Int)]) si90 (g2.new' n6) (by simp [z06, z0i, upd_same, cellsOf]) (by simp [Value.oneCell']) (by show (S.turns.length + 1) * _ ≤ _; omega) ?_
 intro b7 c7 st7 hV7 hE7
 obtain ⟨r1, r2, r3⟩ := hE7.rest
 have hw7 := (r3 0 80 (by omega)).get (n6 _ _ hw5) rfl
 have hp7 : RFSP st7 w (.slice b4 (S.files.length + 1) c4) sv (.slice b7 (S.turns.length + 1) c7) (fs ++ [.slice none 0 0, .slice none 0 0]) { files := S.files ++ [⟨[], []⟩], sure := S.sure, turns := S.turns ++ [⟨0, n, ⟨#[]⟩, (S.files.length : Int)⟩], c := S.c.call.2 } := by
  refine ⟨(p1.free kf).free ((n6.to _).trans r1), ?_, ?_, fun k F hF => ?_⟩
  ·show Vec st7 _ 4 _ (tV (S.turns ++ [(⟨0, n, ⟨#[]⟩, (S.files.length : Int)⟩ : RTn)])) (S.turns ++ [(⟨0, n, ⟨#[]⟩, (S.files.length : Int)⟩ : RTn)]).length
   rw [tV_app, List.length_append]
   exact hV7
  ·show Vec st7 _ 2 _ _ (S.files ++ [(⟨[], []⟩ : RF)]).length
   rw [List.length_append]
   exact (g3.new' n6).keep (r3 0 83 (by omega)) rfl
  ·have hfl2 : fs.length = S.files.length * 2 := p3.1
   simp only at hF
   by_cases hk : k < S.files.length
   ·rw [List.getElem?_append_left hk] at hF
    have := ((p4 k F hF).keep kf (ke k)).keep ((n6.to Free).trans r1) ((n6.to _).trans (r3 k 84 (by omega)))
    rw [List.drop_append_of_le_length (by omega), List.take_append_of_le_length (by rw [List.length_drop]; omega)]
    exact this
   ·rw [List.getElem?_append_right (by omega)] at hF
    cases hz : k - S.files.length with
    | zero =>
     rw [hz] at hF
     injection hF with hF
     subst hF
     have : k = S.files.length := by omega
     subst this
     rw [← hfl2, List.drop_left]
     exact ⟨_, _, rfl, RegF.nil, Vec.nil⟩
    | succ z => rw [hz] at hF; simp at hF
 have hout7 : Keep (Out w) st st7 := (ho5.trans (n6.to _)).trans r2
 simp [go_sem, e0, e1, hw7, upd_same]
 exact ⟨RFSP.at (hp7.store hw7) (upd_same _ _ _), z6m hout7 hw7⟩
end
section
variable {W0 : World} {st : Heap}
theorem z9g {sv uv : Value} {s r : Bs} {us : List RU} {n : Int} {g : Tg} (hs : RegF st 1 sv (bytesV s) s.length) (hu : Reg st g 3 uv (uV us) us.length) (hr : z11 s (us.take n.toNat) = some r) (hl : s.length < 2 ^ 40) (hul : us.length < 2 ^ 40) :
  z00 Tryz.prog W0 122 #[.agg #[sv, uv], Val.i n] st fun e st' => ∃ v, e = .returned v ∧ Vec st' (.ty 1) 1 v (bytesV r) r.length ∧ Fresh st v ∧ New st st' := by
 obtain ⟨sb, sc, rfl⟩ := hs.slice
 obtain ⟨ub, uc, rfl⟩ := hu.slice
 refine enter (args := [_, _]) Tryz.func122 rfl ?_
 simp [Tryz.f122, go_sem]
 unfold NewP
 intro t2 ht2
 refine ⟨.ty 1, ?_⟩
 have n1 := (New.refl st).add (b := t2) (o := .cells true [.slice sb s.length sc, .slice ub us.length uc] 2 (.ty 1)) ht2
 have g2 := upd_same st t2 (.cells true [.slice sb s.length sc, .slice ub us.length uc] 2 (.ty 1))
 simp [go_sem]
 generalize upd st t2 (.cells true [.slice sb s.length sc, .slice ub us.length uc] 2 (.ty 1)) = st1 at *
 refine z2q (.ty 1) si40 (hs.new n1).src (by omega) ?_
 intro b0 c0 s0 hV0 hF0 k0
 simp [go_sem]
 refine ⟨fun E s' => New st1 s' ∧ s' t2 = some (.cells true [.slice sb s.length sc, .slice ub us.length uc] 2 (.ty 1)) ∧ E 2 = ptr t2 ∧ E 1 = Val.i n ∧ ∃ (i : Nat) (w : Value) (b : Bs), E 6 = Val.i (i : Int) ∧ i ≤ us.length ∧ i ≤ n.toNat ∧ E 5 = w ∧ Vec s' (.ty 1) 1 w (bytesV b) b.length ∧ Fresh st1 w ∧ b.length ≤ s.length + i ∧ z11 b ((us.drop i).take (n.toNat - i)) = some r,
  fun E _ => match E 6 with | .int _ z => us.length - z.toNat | _ => 0,
  ⟨s0, .rfl' _, k0, k0 _ _ g2, by simp [go_sem], by simp [go_sem], 0, _, s, by simp [go_sem], by omega, by omega, by simp [go_sem], hV0, hF0, by omega, by simpa using hr⟩, ?_⟩
 clear hV0 hF0 k0 hr
 rintro E s1 ⟨k1, gt, e2, e1, i, w, b, e6, hi, hin, e5, hV, hF, hbl, hR⟩
 obtain ⟨wb, wc, rfl⟩ := hV.slice
 have hF1 := hF.oldR n1
 by_cases hlt : i < us.length
 rotate_left
 ·have : i = us.length := by omega
  subst this
  rw [List.drop_length, List.take_nil] at hR
  injection hR with hR
  subst hR
  simp [go_sem, e1, e2, e5, e6, gt]
  exact ⟨hV, hF1, n1.trans k1⟩
 have t1 : ((i : Int) < us.length) = True := eq_true (by omega)
 by_cases hln : (i : Int) < n
 rotate_left
 ·have q2 : ((i : Int) < n) = False := eq_false hln
  rw [show n.toNat - i = 0 by omega, List.take_zero] at hR
  injection hR with hR
  subst hR
  simp [go_sem, e1, e2, e5, e6, gt, t1, q2, hlt]
  exact ⟨hV, hF1, n1.trans k1⟩
 have q2 : ((i : Int) < n) = True := eq_true hln
 have hwi := wrS i (by omega)
 obtain ⟨mb, off, rfl, hget⟩ := z0h (hu.new (n1.trans k1)).src (by omega)
 have hx : us[i]? = some us[i] := List.getElem?_eq_getElem hlt
 have hd : (us.drop i).take (n.toNat - i) = us[i] :: (us.drop (i + 1)).take (n.toNat - (i + 1)) := by
  rw [List.drop_eq_getElem_cons hlt, show n.toNat - i = (n.toNat - (i + 1)) + 1 by omega, List.take_succ_cons]
 rw [hd] at hR
 have cc : ∀ j, j < 3 → (cellsOf (s1 mb))[off + i * 3 + j]? = (uC us[i])[j]? := fun j hj => by
  rw [Nat.add_assoc, hget _ (by omega)]
  exact z9m (f := uC) (k := 3) (fun _ => rfl) hx hj
 have x0 := cc 0 (by omega)
 have x1 := cc 1 (by omega)
 have x2 := cc 2 (by omega)
 generalize us[i] = x at *
 simp only [uC, List.getElem?_cons_zero, List.getElem?_cons_succ, Nat.add_zero] at x0 x1 x2
 rw [z11] at hR
 simp [go_sem, e1, e2, e5, e6, gt, t1, q2, hlt, x1]
 cases hc : x.cut with
 | true =>
  rw [hc, if_pos rfl] at hR
  by_cases hz : 0 ≤ x.n ∧ x.n ≤ b.length
  rotate_left
  ·rw [if_neg hz] at hR; cases hR
  rw [if_pos hz] at hR
  obtain ⟨z, hzn⟩ : ∃ z : Nat, x.n = z := ⟨x.n.toNat, by omega⟩
  have hcap := hV.reg.cap
  have hzc : z ≤ wc := by omega
  have hzi : (z : Int) ≤ wc := by omega
  rw [hzn] at x2
  simp [go_sem, e1, e2, e5, e6, gt, t1, q2, hlt, x2, hzc, hzi, hwi]
  rw [hzn, Int.toNat_natCast] at hR
  have hlen2 : (b.take z).length = z := by rw [List.length_take]; omega
  obtain ⟨hvl, vb', vc', hveq, hvc', hvr⟩ := hV
  injection hveq with z1 z2 z3; subst z1; subst z3
  rcases hvr with ⟨b4, n4, rfl, hb4, hn4⟩ | ⟨rfl, hz0⟩
  ·have hfr : st1 b4 = none := hF.at
   have hne : t2 ≠ b4 := by rintro rfl; rw [hfr] at g2; cases g2
   refine ⟨upd s1 b4 (.cells true ((bytesV b).take z) n4 (.ty 1)), .cut hb4 (List.take_prefix _ _), ⟨k1.put hfr, by rw [upd_ne _ _ hne]; exact gt, i + 1, by simp, by omega, by omega, b.take z, ?_, ?_, by omega, hR⟩, by omega⟩
   ·rw [hlen2]
    exact Vec.new (by rw [z6h, hlen2]; simp) hzc (by rw [upd_same]; simp [bytesV, List.map_take]) hn4
   ·exact Fresh.some hfr
  ·refine ⟨s1, .rfl' _, ⟨k1, gt, i + 1, by simp, by omega, by omega, b.take z, ?_, Fresh.none, by omega, hR⟩, by omega⟩
   rw [hlen2]
   exact ⟨by rw [z6h, hlen2]; simp, none, _, rfl, hzc, .inr ⟨rfl, hz0⟩⟩
 | false =>
  rw [hc, if_neg (by simp)] at hR
  simp [go_sem, e1, e2, e5, e6, gt, t1, q2, hlt, x0]
  unfold NewS
  intro nb hnb
  refine ⟨.ty 1, ?_⟩
  have n2 := (New.refl s1).add (b := nb) (o := .cells true [.int .u8 x.b.toNat] 1 (.ty 1)) hnb
  simp [go_sem]
  refine AppI_new (st0 := st1) (g := .ty 1) (m := 1) (ys := [.int .u8 x.b.toNat]) si40 (hV.new' n2) hF (k1.trans n2) (by simp [z06, z0i, upd_same, cellsOf]) (by simp [Value.oneCell']) (by omega) ?_
  intro base cap st4 hV4 hF4 k4 hx4
  simp [go_sem, e1, e2, e6, hwi]
  refine ⟨st4, .rfl' _, ⟨k4, k4 _ _ g2, i + 1, by simp, by omega, by omega, b ++ [x.b], ?_, hF4, by simp; omega, hR⟩, by omega⟩
  have e : bytesV (b ++ [x.b]) = bytesV b ++ [.int .u8 x.b.toNat] := by simp [bytesV]
  rw [e, List.length_append]
  exact hV4
end
theorem z6e : ∀ (us : List RU) (s b : Bs), z11 s us = some b → b.length ≤ s.length + us.length
 | [], s, b, h => by injection h with h; subst h; simp
 | u :: us, s, b, h => by
  rw [z11] at h
  split at h
  ·split at h
   ·have := z6e us _ b h
    rw [List.length_take] at this
    simp only [List.length_cons]; omega
   ·cases h
  ·have := z6e us _ b h
   simp only [List.length_append, List.length_cons, List.length_nil] at this ⊢; omega
theorem RFSAt.file {st : Heap} {w k : Nat} {S : RFS} {R : RF} (h : RFSAt st w S) (hk : S.files[k]? = some R) : ∃ fb c nn fs sv tv su uu, st w = some (.cells true (rC (.slice (some ⟨fb, 0, none⟩) S.files.length c) sv tv S.c) 8 (.own w 0 80)) ∧ RFSP st w (.slice (some ⟨fb, 0, none⟩) S.files.length c) sv tv fs S ∧
  st fb = some (.cells true fs nn (.own w 0 83)) ∧ S.files.length * 2 = fs.length ∧ (fs.drop (k * 2)).take 2 = [su, uu] ∧ fs[k * 2]? = some su ∧ fs[k * 2 + 1]? = some uu ∧ RegF st 1 su (bytesV R.sure) R.sure.length ∧ Vec st (.own w k 84) 3 uu (uV R.us) R.us.length := by
 obtain ⟨fv, sv, tv, fs, hw, hp⟩ := h.parts
 have hp0 := hp
 obtain ⟨p1, p2, p3, p4⟩ := hp
 obtain ⟨su, uu, he, h1, h2⟩ := p4 k R hk
 have hkl := (List.getElem?_eq_some_iff.1 hk).1
 obtain ⟨hl, base, cap, rfl, hc, hr⟩ := p3
 rcases hr with ⟨b, nn, rfl, hb, hn⟩ | ⟨rfl, h0⟩
 ·have e0 : fs[k * 2]? = some su := by
   have := congrArg (·[0]?) he
   simpa [List.getElem?_take, List.getElem?_drop] using this
  have e1 : fs[k * 2 + 1]? = some uu := by
   have := congrArg (·[1]?) he
   simpa [List.getElem?_take, List.getElem?_drop] using this
  exact ⟨b, cap, nn, fs, sv, tv, su, uu, hw, hp0, hb, hl.symm, he, e0, e1, h1, h2⟩
 ·omega
section
variable {W0 : World} {st : Heap}
theorem za3 {w k : Nat} {S : RFS} {R : RF} {b : Bs} (h : RFSAt st w S) (hs : S.small) (hk : S.files[k]? = some R) (hb : z11 R.sure R.us = some b) : z00 Tryz.prog W0 185 #[ptr w, Val.i (k : Int)] st fun e st' => e = .returned (Val.i (b.length : Int)) ∧ New st st' := by
 have hkl := (List.getElem?_eq_some_iff.1 hk).1
 have hki : ((k : Int) < S.files.length) = True := eq_true (by omega)
 obtain ⟨fb, c, nn, fs, sv, tv, su, uu, hw, hp, hfb, hlen, he, e0, e1, h1, h2⟩ := h.file hk
 obtain ⟨sb, sc, rfl⟩ := h1.slice
 obtain ⟨ub, uc, rfl⟩ := h2.slice
 obtain ⟨z1, z2⟩ := hs.all k R hk
 have hle : k * 2 + 2 ≤ fs.length := by omega
 unfold rC at hw
 refine enter (args := [_, _]) Tryz.func185 rfl ?_
 simp [Tryz.f185, go_sem]
 refine draw [0, 1, 2, 4, 7, 8, 9, 11, 3, 5, 6, 10, 12, 13, 14, 15, 16, 17, 18] (by kernel_rfl) ?_
 simp [go_sem, hw, hfb, hki, hkl, hle, he, e0, e1]
 refine (z9g (n := (R.us.length : Int)) h1 h2.reg (by rw [Int.toNat_natCast, List.take_length]; exact hb) z1 z2).mono ?_
 rintro e s2 ⟨v, rfl, hv, hf, hn⟩
 obtain ⟨vb, vc, rfl⟩ := hv.slice
 simp [go_sem]
 exact hn
theorem z9z {w k : Nat} {S : RFS} {R : RF} {b : Bs} {n : ByteArray} (h : RFSAt st w S) (hs : S.small) (hg : rget n S.dir = some (k : Int)) (hk : S.files[k]? = some R) (hb : z11 R.sure R.us = some b) : z00 Tryz.prog W0 45 #[ptr w, .string n] st fun e st' => ∃ v, e = .returned (.tuple #[v, Val.i 0]) ∧ Vec st' (.ty 1) 1 v (bytesV b) b.length ∧ Fresh st v ∧ New st st' := by
 refine enter (args := [_, _]) Tryz.func45 rfl ?_
 simp [Tryz.f45, go_sem]
 refine (z5j (n := n) h hs).mono ?_
 rintro e s1 ⟨rfl, n1⟩
 rw [hg]
 have hkl := (List.getElem?_eq_some_iff.1 hk).1
 have hki : ((k : Int) < S.files.length) = True := eq_true (by omega)
 have hk0 : ((k : Int) < 0) = False := eq_false (by omega)
 obtain ⟨fb, c, nn, fs, sv, tv, su, uu, hw, hp, hfb, hlen, he, e0, e1, h1, h2⟩ := (h.new n1).file hk
 obtain ⟨sb, sc, rfl⟩ := h1.slice
 obtain ⟨ub, uc, rfl⟩ := h2.slice
 obtain ⟨z1, z2⟩ := hs.all k R hk
 have hle : k * 2 + 2 ≤ fs.length := by omega
 unfold rC at hw
 simp [go_sem, hk0]
 refine draw [0, 1, 2, 4, 7, 8, 9, 11, 3, 5, 6, 10, 12, 13, 14, 15, 16, 17, 18] (by kernel_rfl) ?_
 simp [go_sem, hw, hfb, hki, hkl, hle, he, e0, e1]
 refine (z9g (n := (R.us.length : Int)) h1 h2.reg (by rw [Int.toNat_natCast, List.take_length]; exact hb) z1 z2).mono ?_
 rintro e s2 ⟨v, rfl, hv, hf, hn⟩
 obtain ⟨vb, vc, rfl⟩ := hv.slice
 simp [go_sem]
 exact ⟨hv, hf.oldR n1, n1.trans hn⟩
theorem zff {w : Nat} {S : RFS} {n : ByteArray} (h : RFSAt st w S) (hs : S.small) (hg : rget n S.dir = none) : z00 Tryz.prog W0 45 #[ptr w, .string n] st fun e st' => e = .returned (.tuple #[.slice none 0 0, Val.i 3]) ∧ New st st' := by
 refine enter (args := [_, _]) Tryz.func45 rfl ?_
 simp [Tryz.f45, go_sem]
 refine (z5j (n := n) h hs).mono ?_
 rintro e s1 ⟨rfl, n1⟩
 rw [hg]
 simp [go_sem]
 exact n1
end
end Go.Proofs.YtahgfnbkkfpcnaaGreat
