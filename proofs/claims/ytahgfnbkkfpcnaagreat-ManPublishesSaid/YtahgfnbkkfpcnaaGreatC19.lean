/- The document's file system as data, and where it lies. -/
import Derived.Test.YtahgfnbkkfpcnaaGreatC16
import Derived.Test.YtahgfnbkkfpcnaaGreatC12
import Derived.Test.YtahgfnbkkfpcnaaGreatC09
import Derived.Test.YtahgfnbkkfpcnaaGreatC18
set_option linter.unusedVariables false
set_option linter.unusedSimpArgs false
set_option maxRecDepth 100000
set_option maxHeartbeats 2000000
namespace Go.Proofs.YtahgfnbkkfpcnaaGreat
open Go.RowKit (Below)
theorem strEq_iff (a b : ByteArray) : strEq a b = true ↔ a = b := by
 unfold strEq
 rw [beq_iff_eq]
 constructor
 ·intro h
  exact ByteArray.ext (Array.toList_inj.1 h)
 ·rintro rfl; rfl
/-! ### Rows of structs -/
theorem rflat_len {α : Type} {f : α → List Value} {k : Nat} (hf : ∀ x, (f x).length = k) : ∀ l : List α, (l.flatMap f).length = l.length * k
 | [] => by simp
 | x :: l => by rw [List.flatMap_cons, List.length_append, rflat_len hf l, hf, List.length_cons, Nat.add_mul]; omega
theorem z6z {α : Type} {f : α → List Value} {k : Nat} (hf : ∀ x, (f x).length = k) : ∀ (l : List α) (i : Nat) (x : α), l[i]? = some x → ((l.flatMap f).drop (i * k)).take k = f x
 | [], i, x, h => by simp at h
 | y :: l, 0, x, h => by
  injection h with h
  subst h
  rw [List.flatMap_cons, Nat.zero_mul, List.drop_zero, List.take_append_of_le_length (by rw [hf]; omega), List.take_of_length_le (by rw [hf]; omega)]
 | y :: l, i + 1, x, h => by
  have hy := hf y
  rw [List.flatMap_cons, Nat.add_mul, Nat.one_mul, Nat.add_comm, ← hy, ← List.drop_drop, List.drop_left, hy]
  exact z6z hf l i x (by simpa using h)
/-! ### Data -/
structure RU where
 b : UInt8
 cut : Bool
 n : Int
structure RF where
 sure : Bs
 us : List RU
structure RTn where
 kind : Int
 name : ByteArray
 to : ByteArray
 file : Int
abbrev RDir := List (ByteArray × Int)
structure RFS where
 files : List RF
 sure : RDir
 turns : List RTn
 c : Ctl
def dC (p : ByteArray × Int) : List Value := [.string p.1, Val.i p.2]
def uC (u : RU) : List Value := [.int .u8 u.b.toNat, .bool u.cut, Val.i u.n]
def tC (t : RTn) : List Value := [Val.i t.kind, .string t.name, .string t.to, Val.i t.file]
def dV (l : RDir) : List Value := l.flatMap dC
def uV (l : List RU) : List Value := l.flatMap uC
def tV (l : List RTn) : List Value := l.flatMap tC
theorem tV_len (l : List RTn) : (tV l).length = l.length * 4 := rflat_len (f := tC) (k := 4) (fun _ => rfl) l
theorem z7f (l : RDir) (i : Nat) (x) (h : l[i]? = some x) : ((dV l).drop (i * 2)).take 2 = [.string x.1, Val.i x.2] := z6z (f := dC) (fun _ => rfl) l i x h
theorem tV_get (l : List RTn) (i : Nat) (x) (h : l[i]? = some x) : ((tV l).drop (i * 4)).take 4 = [Val.i x.kind, .string x.name, .string x.to, Val.i x.file] := z6z (f := tC) (fun _ => rfl) l i x h
theorem z6p (a b : RDir) : dV (a ++ b) = dV a ++ dV b := by simp [dV]
theorem uV_app (a b : List RU) : uV (a ++ b) = uV a ++ uV b := by simp [uV]
theorem tV_app (a b : List RTn) : tV (a ++ b) = tV a ++ tV b := by simp [tV]
def rfind (n : ByteArray) : RDir → Nat → Int
 | [], _ => -1
 | p :: l, i => if strEq p.1 n = true then (i : Int) else rfind n l (i + 1)
def z0f (n : ByteArray) (l : RDir) : RDir := l.filter fun p => !strEq p.1 n
def RTn.does (t : RTn) (l : RDir) : RDir :=
 if t.kind = 0 then z0f t.name l ++ [(t.name, t.file)]
 else if t.kind = 1 then (if 0 ≤ rfind t.name l 0 ∧ strEq t.name t.to = false then z0f t.to (z0f t.name l) ++ [(t.to, ((l[(rfind t.name l 0).toNat]?).map (·.2)).getD 0)] else l)
 else if t.kind = 2 then z0f t.name l else l
def z25 (l : RDir) (ts : List RTn) : RDir := ts.foldl (fun l t => t.does l) l
def RFS.dir (S : RFS) : RDir := z25 S.sure S.turns
def z11 : Bs → List RU → Option Bs
 | b, [] => some b
 | b, u :: us => if u.cut = true then (if 0 ≤ u.n ∧ u.n ≤ b.length then z11 (b.take u.n.toNat) us else none) else z11 (b ++ [u.b]) us
def RFAt (st : Heap) (w k : Nat) (cs : List Value) (F : RF) : Prop := ∃ sv uv, cs = [sv, uv] ∧ RegF st 1 sv (bytesV F.sure) F.sure.length ∧ Vec st (.own w k 84) 3 uv (uV F.us) F.us.length
def RFSAt (st : Heap) (w : Nat) (S : RFS) : Prop := ∃ fv sv tv fs, st w = some (.cells true [fv, sv, tv, Val.i S.c.calls, .bool S.c.armed, Val.i S.c.kind, Val.i S.c.after, .bool S.c.off] 8 (.own w 0 80)) ∧
 RegF st 2 sv (dV S.sure) S.sure.length ∧ Vec st (.own w 0 82) 4 tv (tV S.turns) S.turns.length ∧ Vec st (.own w 0 83) 2 fv fs S.files.length ∧ ∀ (k : Nat) F, S.files[k]? = some F → RFAt st w k ((fs.drop (k * 2)).take 2) F
theorem RFAt.keep {st st' : Heap} {w k : Nat} {cs : List Value} {F : RF} (h : RFAt st w k cs F) (hf : Keep Free st st') (hk : Keep (· = .own w k 84) st st') : RFAt st' w k cs F := by
 obtain ⟨sv, uv, e, h1, h2⟩ := h
 exact ⟨sv, uv, e, h1.free hf, h2.keep hk rfl⟩
theorem RFSAt.new {st st' : Heap} {w : Nat} {S : RFS} (h : RFSAt st w S) (hk : New st st') : RFSAt st' w S := by
 obtain ⟨fv, sv, tv, fs, h1, h2, h3, h4, h5⟩ := h
 exact ⟨fv, sv, tv, fs, hk _ _ h1, h2.new hk, h3.new' hk, h4.new' hk, fun k F hF => (h5 k F hF).keep (hk.to _) (hk.to _)⟩
set_option maxHeartbeats 4000000
section
variable {W0 : World} {st : Heap}
theorem z7w {v : Value} {l : RDir} {n : ByteArray} (h : RegF st 2 v (dV l) l.length) (hl : l.length < 2 ^ 40) : z00 Tryz.prog W0 101 #[v, .string n] st fun e st' => e = .returned (Val.i (rfind n l 0)) ∧ st' = st := by
 obtain ⟨vb, vc, rfl⟩ := h.slice
 obtain ⟨RES, hRES⟩ : ∃ R, rfind n l 0 = R := ⟨_, rfl⟩
 rw [hRES]
 refine enter (args := [_, _]) Tryz.func101 rfl ?_
 simp [Tryz.f101, go_sem]
 refine ⟨fun E st' => st' = st ∧ E 0 = .slice vb l.length vc ∧ E 1 = .string n ∧ ∃ i : Nat, E 5 = Val.i i ∧ i ≤ l.length ∧ rfind n (l.drop i) i = RES,
  fun E _ => match E 5 with | .int _ i => l.length - i.toNat | _ => 0, ⟨st, .rfl' _, rfl, by simp [go_sem], by simp [go_sem], 0, by simp [go_sem], by omega, by simpa using hRES⟩, ?_⟩
 rintro E st' ⟨rfl, e0, e1, i, e5, hi, hr⟩
 by_cases hlt : i < l.length
 rotate_left
 ·have : i = l.length := by omega
  subst this
  rw [List.drop_length] at hr
  unfold rfind at hr
  subst hr
  simp [go_sem, e0, e1, e5]
 have hlt' : ((i : Int) < l.length) = True := eq_true (by omega)
 have hwi := wrS i (by omega)
 obtain ⟨mb, off, cap, rw_, zs, mm, g, hv, hs, hget⟩ := z1d h (by omega)
 injection hv with v1 v2 v3
 subst v1; subst v3
 obtain ⟨hlen, hcell, hcc⟩ := hget i hlt
 have hx : l[i]? = some l[i] := List.getElem?_eq_getElem hlt
 rw [z7f l i _ hx] at hcell hcc
 have c0 := hcc 0 (by omega)
 simp only [List.getElem?_cons_zero, Nat.add_zero] at c0
 have hd : l.drop i = l[i] :: l.drop (i + 1) := List.drop_eq_getElem_cons hlt
 generalize l[i] = x at *
 rw [hd, rfind] at hr
 simp [go_sem, e0, e1, e5, hlt', hlt, hs, c0]
 by_cases e : x.1 = n
 ·have q : (x.1 = n) = True := eq_true e
  rw [if_pos ((strEq_iff _ _).2 e)] at hr
  subst hr
  simp [go_sem, e0, e1, e5, q]
 ·have q : (x.1 = n) = False := eq_false e
  rw [if_neg (fun h => e ((strEq_iff _ _).1 h))] at hr
  simp [go_sem, e0, e1, e5, q, hwi]
  exact ⟨_, .rfl' _, ⟨rfl, i + 1, by simp, by omega, hr⟩, by omega⟩
theorem z75 {v : Value} {l : RDir} {n : ByteArray} (h : RegF st 2 v (dV l) l.length) (hl : l.length < 2 ^ 40) : z00 Tryz.prog W0 243 #[v, .string n] st fun e st' => ∃ w, e = .returned w ∧ Vec st' (.ty 1) 2 w (dV (z0f n l)) (z0f n l).length ∧ Fresh st w ∧ New st st' := by
 obtain ⟨vb, vc, rfl⟩ := h.slice
 refine enter (args := [_, _]) Tryz.func243 rfl ?_
 simp [Tryz.f243, go_sem]
 refine ⟨fun E st' => New st st' ∧ E 0 = .slice vb l.length vc ∧ E 1 = .string n ∧ ∃ (i : Nat) (w : Value), E 6 = Val.i i ∧ i ≤ l.length ∧ E 5 = w ∧ Vec st' (.ty 1) 2 w (dV (z0f n (l.take i))) (z0f n (l.take i)).length ∧ Fresh st w ∧ (z0f n (l.take i)).length ≤ i,
  fun E _ => match E 6 with | .int _ i => l.length - i.toNat | _ => 0, ⟨st, .rfl' _, New.refl _, by simp [go_sem], by simp [go_sem], 0, .slice none 0 0, by simp [go_sem], by omega, by simp [go_sem], Vec.nil, Fresh.none, by simp [z0f]⟩, ?_⟩
 rintro E s0 ⟨k0, e0, e1, i, w, e6, hi, e5, hV, hF, hle⟩
 obtain ⟨wb, wc, rfl⟩ := hV.slice
 by_cases hlt : i < l.length
 rotate_left
 ·have : i = l.length := by omega
  subst this
  rw [List.take_length] at hV hF hle
  simp [go_sem, e0, e1, e5, e6]
  exact ⟨hV, hF, k0⟩
 have hlt' : ((i : Int) < l.length) = True := eq_true (by omega)
 have hwi := wrS i (by omega)
 obtain ⟨mb, off, cap, rw_, zs, mm, g, hv, hs, hget⟩ := z1d (h.new k0) (by omega)
 injection hv with v1 v2 v3
 subst v1; subst v3
 obtain ⟨hlen, hcell, hcc⟩ := hget i hlt
 have hx : l[i]? = some l[i] := List.getElem?_eq_getElem hlt
 rw [z7f l i _ hx] at hcell hcc
 have c0 := hcc 0 (by omega)
 simp only [List.getElem?_cons_zero, Nat.add_zero] at c0
 have htk : l.take (i + 1) = l.take i ++ [l[i]] := by rw [List.take_add_one, hx]; rfl
 generalize l[i] = x at *
 simp [go_sem, e0, e1, e5, e6, hlt', hlt, hs, c0]
 by_cases e' : x.1 = n
 ·have q : (x.1 = n) = True := eq_true e'
  have e := (strEq_iff _ _).2 e'
  have hz : z0f n (l.take (i + 1)) = z0f n (l.take i) := by rw [htk]; simp [z0f, e]
  simp [go_sem, e0, e1, e5, e6, q, hwi]
  refine ⟨s0, .rfl' _, ⟨k0, i + 1, by simp, by omega, ?_⟩, by omega⟩
  rw [hz]
  exact ⟨hV, hF, by omega⟩
 ·have q : (x.1 = n) = False := eq_false e'
  have e : strEq x.1 n = false := by cases h : strEq x.1 n with
   | false => rfl
   | true => exact absurd ((strEq_iff _ _).1 h) e'
  have hz : z0f n (l.take (i + 1)) = z0f n (l.take i) ++ [x] := by rw [htk]; simp [z0f, e]
  simp [go_sem, e0, e1, e5, e6, q, hlt', hlt, hs, hlen, hcell]
  unfold NewS
  intro nb hnb
  refine ⟨.ty 1, ?_⟩
  have n1 := (New.refl s0).add (b := nb) (o := .cells true [.string x.1, Val.i x.2] 2 (.ty 1)) hnb
  simp [go_sem, e0, e1, e5, e6]
  refine AppI_new (st0 := st) (g := .ty 1) (m := 1) (ys := [.string x.1, Val.i x.2]) si89 (hV.new' n1) hF (k0.trans n1) (by simp [z06, z0i, upd_same, cellsOf]) (by simp [Value.oneCell']) (by omega) ?_
  intro base cap st4 hV4 hF4 k4 hx4
  simp [go_sem, e0, e1, e5, e6, hwi]
  refine ⟨st4, .rfl' _, ⟨k4, i + 1, by simp, by omega, ?_⟩, by omega⟩
  rw [hz, z6p, List.length_append]
  exact ⟨hV4, hF4, by simp; omega⟩
end
end Go.Proofs.YtahgfnbkkfpcnaaGreat
