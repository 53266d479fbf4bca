/- Orders of texts: plain. -/
import Derived.Test.YtahgfnbkkfpcnaaGreatC08
import Derived.Test.YtahgfnbkkfpcnaaGreatCTab
set_option linter.unusedVariables false
set_option linter.unusedSimpArgs false
namespace Go.Proofs.YtahgfnbkkfpcnaaGreat
structure LtOK {α : Type} (lt : α → α → Bool) : Prop where
 asymm : ∀ a b, lt a b = true → lt b a = false
 trans : ∀ a b c, lt b a = false → lt c b = false → lt c a = false
theorem zby : ∀ a b, Op.bytesLess a b = true → Op.bytesLess b a = false
 | _, [], h => by simp [Op.bytesLess] at h
 | [], _ :: _, h => by simp [Op.bytesLess]
 | a :: x, b :: y, h => by
  simp only [Op.bytesLess, Bool.or_eq_true, Bool.and_eq_true, decide_eq_true_eq, beq_iff_eq, Bool.or_eq_false_iff, Bool.and_eq_false_iff, decide_eq_false_iff_not, UInt8.lt_iff_toNat_lt, beq_eq_false_iff_ne] at h ⊢
  rcases h with h | ⟨rfl, h⟩
  ·exact ⟨by omega, .inl (by rintro rfl; omega)⟩
  ·exact ⟨by omega, .inr (zby _ _ h)⟩
theorem zdo : ∀ a b c, Op.bytesLess b a = false → Op.bytesLess c b = false → Op.bytesLess c a = false
 | [], _, c, _, _ => by cases c <;> simp [Op.bytesLess]
 | _ :: _, [], _, h, _ => by simp [Op.bytesLess] at h
 | _ :: _, _ :: _, [], _, h => by simp [Op.bytesLess] at h
 | a :: x, b :: y, c :: z, h, h' => by
  simp only [Op.bytesLess, Bool.or_eq_false_iff, Bool.and_eq_false_iff, decide_eq_false_iff_not, UInt8.lt_iff_toNat_lt, beq_eq_false_iff_ne] at h h' ⊢
  refine ⟨by omega, ?_⟩
  by_cases hca : c = a
  ·right
   subst hca
   have hbc : b = c := UInt8.toNat_inj.1 (by omega)
   subst hbc
   refine zdo x y z ?_ ?_
   ·rcases h.2 with h | h
    ·exact absurd rfl h
    ·exact h
   ·rcases h'.2 with h | h
    ·exact absurd rfl h
    ·exact h
  ·exact .inl hca
theorem zcu : ∀ a b, Op.bytesLess a b = false → Op.bytesLess b a = false → a = b
 | [], [], _, _ => rfl
 | [], _ :: _, h, _ => by simp [Op.bytesLess] at h
 | _ :: _, [], _, h => by simp [Op.bytesLess] at h
 | a :: x, b :: y, h, h' => by
  simp only [Op.bytesLess, Bool.or_eq_false_iff, Bool.and_eq_false_iff, decide_eq_false_iff_not, UInt8.lt_iff_toNat_lt, beq_eq_false_iff_ne] at h h'
  have hab : a = b := UInt8.toNat_inj.1 (by omega)
  subst hab
  rw [zcu x y]
  ·rcases h.2 with h | h
   ·exact absurd rfl h
   ·exact h
  ·rcases h'.2 with h | h
   ·exact absurd rfl h
   ·exact h
abbrev ltT (a b : ByteArray) : Bool := Op.bytesLess a.data.toList b.data.toList
theorem z7t : LtOK ltT := ⟨fun a b h => zby _ _ h, fun a b c h h' => zdo _ _ _ h h'⟩
theorem zb3 (a b : ByteArray) (h : ltT a b = false) (h' : ltT b a = false) : a = b := by
 have := zcu _ _ h h'
 cases a; cases b
 simp at this
 rw [this]
set_option maxRecDepth 100000
set_option maxHeartbeats 1000000
open Go.RowKit (Below)
inductive Mat where
 | mk (op : Int) (name value : ByteArray) (vals : List ByteArray) (kids : List Mat)
def RegF (st : Heap) (size : Nat) (v : Value) (xs : List Value) (len : Nat) : Prop := ∃ g, Free g ∧ Reg st g size v xs len
theorem RegF.src {st : Heap} {size len : Nat} {v : Value} {xs : List Value} (h : RegF st size v xs len) : z06 size st v = some (len, xs) := let ⟨_, _, h⟩ := h; h.src
theorem RegF.slice {st : Heap} {size len : Nat} {v : Value} {xs : List Value} (h : RegF st size v xs len) : ∃ base cap, v = .slice base len cap := let ⟨_, _, h⟩ := h; h.slice
theorem RegF.new {st st' : Heap} {size len : Nat} {v : Value} {xs : List Value} (h : RegF st size v xs len) (hk : New st st') : RegF st' size v xs len := let ⟨g, hg, h⟩ := h; ⟨g, hg, h.new hk⟩
theorem RegF.free {st st' : Heap} {size len : Nat} {v : Value} {xs : List Value} (h : RegF st size v xs len) (hk : Keep Free st st') : RegF st' size v xs len := let ⟨g, hg, h⟩ := h; ⟨g, hg, h.keep hk hg⟩
theorem Reg.toF {st : Heap} {g : Tg} {size len : Nat} {v : Value} {xs : List Value} (h : Reg st g size v xs len) (hg : Free g) : RegF st size v xs len := ⟨g, hg, h⟩
theorem RegF.nil {st : Heap} {size : Nat} : RegF st size (.slice none 0 0) [] 0 := ⟨.ty 0, by intro g x r; simp, Reg.nil⟩
def But1 (r : Nat) (st st' : Heap) : Prop := ∀ k o, k ≠ r → st k = some o → st' k = some o
theorem But1.refl (r : Nat) (st : Heap) : But1 r st st := fun _ _ _ h => h
theorem But1.trans {r : Nat} {a b c : Heap} (h : But1 r a b) (h' : But1 r b c) : But1 r a c := fun k o hn hk => h' k o hn (h k o hn hk)
theorem But1.put {r : Nat} {st0 st : Heap} {o : HObj} (h : But1 r st0 st) : But1 r st0 (upd st r o) := fun k x hn hk => by rw [upd_ne _ _ hn]; exact h k x hn hk
theorem But1.add {r b : Nat} {st0 st : Heap} {o : HObj} (h : But1 r st0 st) (hb : st b = none) : But1 r st0 (upd st b o) := fun k x hn hk => by
 have h1 := h k x hn hk
 rw [upd_ne _ _ (ne_of_new h1 hb)]; exact h1
theorem New.but {st st' : Heap} (h : New st st') (r : Nat) : But1 r st st' := fun k o _ hk => h k o hk
theorem But1.new {r : Nat} {st st' : Heap} (h : But1 r st st') (hr : st r = none) : New st st' := fun k o hk => h k o (ne_of_new hk hr) hk
theorem But1.get {r b : Nat} {st st' : Heap} {o : HObj} (h : But1 r st st') (hb : st b = some o) (hn : b ≠ r) : st' b = some o := h b o hn hb
theorem RegF.but {r : Nat} {st st' : Heap} {size len n : Nat} {v : Value} {xs cs : List Value} {rw_ : Bool} {g x y : Nat} (h : RegF st size v xs len) (hk : But1 r st st') (hr : st r = some (.cells rw_ cs n (.own g x y))) : RegF st' size v xs len := by
 obtain ⟨t, ht, hl, base, cap, hv, hc, h⟩ := h
 refine ⟨t, ht, hl, base, cap, hv, hc, h.imp id ?_⟩
 rintro ⟨b, off, rw', ys, m, h1, h2, h3⟩
 refine ⟨b, off, rw', ys, m, h1, hk b _ ?_ h2, h3⟩
 refine z66 h2 hr ?_
 simp only [HObj.tag, ne_eq, Option.some.injEq]
 exact ht g x y
mutual
def MatAt (st : Heap) (cs : List Value) : Mat → Prop
 | .mk op name value vals kids => ∃ vv kv ks, cs = [Val.i op, .string name, .string value, vv, kv] ∧ RegF st 1 vv (vals.map .string) vals.length ∧ RegF st 5 kv ks kids.length ∧ z04 st ks kids
def z04 (st : Heap) (ks : List Value) : List Mat → Prop
 | [] => ks = []
 | m :: ms => 5 ≤ ks.length ∧ MatAt st (ks.take 5) m ∧ z04 st (ks.drop 5) ms
end
mutual
theorem MatAt.mono {st st' : Heap} (hR : ∀ size v xs len, RegF st size v xs len → RegF st' size v xs len) : ∀ (m : Mat) (cs : List Value), MatAt st cs m → MatAt st' cs m
 | .mk op name value vals kids, cs, h => by
  unfold MatAt at h ⊢
  obtain ⟨vv, kv, ks, h1, h2, h3, h4⟩ := h
  exact ⟨vv, kv, ks, h1, hR _ _ _ _ h2, hR _ _ _ _ h3, z04.mono hR kids ks h4⟩
theorem z04.mono {st st' : Heap} (hR : ∀ size v xs len, RegF st size v xs len → RegF st' size v xs len) : ∀ (ms : List Mat) (ks : List Value), z04 st ks ms → z04 st' ks ms
 | [], ks, h => by unfold z04 at h ⊢; exact h
 | m :: ms, ks, h => by
  unfold z04 at h ⊢
  exact ⟨h.1, MatAt.mono hR m _ h.2.1, z04.mono hR ms _ h.2.2⟩
end
theorem MatAt.new {st st' : Heap} (hk : New st st') {m : Mat} {cs : List Value} (h : MatAt st cs m) : MatAt st' cs m := MatAt.mono (fun _ _ _ _ h => h.new hk) m cs h
theorem z04.new {st st' : Heap} (hk : New st st') {m : List Mat} {cs : List Value} (h : z04 st cs m) : z04 st' cs m := z04.mono (fun _ _ _ _ h => h.new hk) m cs h
theorem z04.get {st : Heap} : ∀ {ms : List Mat} {ks : List Value} {i : Nat} {m : Mat}, z04 st ks ms → ms[i]? = some m → MatAt st ((ks.drop (i * 5)).take 5) m ∧ i * 5 + 5 ≤ ks.length
 | [], ks, i, m, h, hi => by simp at hi
 | x :: ms, ks, 0, m, h, hi => by
  unfold z04 at h
  injection hi with hi; subst hi
  exact ⟨by simpa using h.2.1, by simpa using h.1⟩
 | x :: ms, ks, i + 1, m, h, hi => by
  unfold z04 at h
  obtain ⟨h1, h2⟩ := z04.get (i := i) h.2.2 (by simpa using hi)
  rw [List.drop_drop] at h1
  rw [List.length_drop] at h2
  exact ⟨by rw [show (i + 1) * 5 = 5 + i * 5 by omega]; exact h1, by omega⟩
theorem MatAt.length {st : Heap} {m : Mat} {cs : List Value} (h : MatAt st cs m) : cs.length = 5 := by
 obtain ⟨op, name, value, vals, kids⟩ := m
 unfold MatAt at h
 obtain ⟨vv, kv, ks, rfl, _⟩ := h
 rfl
def z16 (c : Nat) : Bool := (decide (97 ≤ c) && decide (c ≤ 122)) || (decide (48 ≤ c) && decide (c ≤ 57)) || decide (c = 95)
def labelM (s : Bs) : Bool := decide (1 ≤ s.length) && decide (s.length ≤ 32) && !(decide (48 ≤ (s.getD 0 0).toNat) && decide ((s.getD 0 0).toNat ≤ 57)) && s.all fun x => z16 x.toNat
def z2z : List ByteArray → Bool
 | a :: b :: l => ltT a b && z2z (b :: l)
 | _ => true
def valuesM (l : List ByteArray) : Bool := decide (1 ≤ l.length) && decide (l.length ≤ 16) && l.all (fun v => decide (v.size ≤ 64)) && z2z l
def z0p (op : Int) (name value : ByteArray) (vals : List ByteArray) (nk : Nat) : Bool :=
 let named := labelM name.data.toList && decide (value.size ≤ 64) && decide (nk = 0)
 let plain := decide (name = ⟨#[]⟩) && decide (value = ⟨#[]⟩) && decide (vals.length = 0)
 if op = 0 then plain && decide (nk = 0)
 else if op = 1 ∨ op = 2 ∨ op = 3 then named && decide (vals.length = 0)
 else if op = 4 then named && decide (value = ⟨#[]⟩) && valuesM vals
 else if op = 5 ∨ op = 6 then plain
 else if op = 7 then plain && decide (nk = 1)
 else false
theorem z90 (s : ByteArray) (i : Nat) (h : i < s.size) : btOf s (i : Int) = ((s.data.toList.getD i 0).toNat : Int) := by
 have hl : i < s.data.toList.length := by simpa using h
 unfold btOf
 rw [List.getD_eq_getElem?_getD, Int.toNat_natCast, List.getElem?_eq_getElem hl]
 rfl
section
variable {W0 : World} {st : Heap}
theorem zf3 {s : ByteArray} : z00 Tryz.prog W0 262 #[.string s] st fun e st' => e = .returned (.bool (labelM s.data.toList)) ∧ st' = st := by
 refine enter (args := [_]) Tryz.func262 rfl ?_
 have hsz : s.data.toList.length = s.size := by simp
 generalize hres : labelM s.data.toList = res
 unfold labelM at hres
 rw [hsz] at hres
 by_cases h1 : s.size < 1
 ·have q1 : ((s.size : Int) < 1) = True := eq_true (by omega)
  have : res = false := by rw [← hres]; simp; omega
  subst this
  simp [Tryz.f262, go_sem, q1]
 have q1 : ((s.size : Int) < 1) = False := eq_false (by omega)
 by_cases h2 : 32 < s.size
 ·have q2 : ((32 : Int) < s.size) = True := eq_true (by omega)
  have : res = false := by rw [← hres]; simp; omega
  subst this
  simp [Tryz.f262, go_sem, q1, q2]
 have q2 : ((32 : Int) < s.size) = False := eq_false (by omega)
 have hb0 := z90 s 0 (by omega)
 simp only [Int.natCast_zero] at hb0
 generalize hc0 : (s.data.toList.getD 0 0).toNat = c0 at *
 have hs0 : 0 < s.size := by omega
 by_cases h3 : 48 ≤ c0 ∧ c0 ≤ 57
 ·have q3 : ((48 : Int) ≤ c0) = True := eq_true (by omega)
  have q4 : ((c0 : Int) ≤ 57) = True := eq_true (by omega)
  have : res = false := by rw [← hres]; simp [h3.1, h3.2]
  subst this
  simp [Tryz.f262, go_sem, q1, q2, hs0, hb0, q3, q4]
 have hgo : z00 Tryz.prog W0 262 #[.string s] st (fun e st' => True) → True := fun _ => trivial
 have hall : (s.data.toList.all fun x => z16 x.toNat) = res := by
  rw [← hres]
  have e1 : decide (1 ≤ s.size) = true := by simp; omega
  have e2 : decide (s.size ≤ 32) = true := by simp; omega
  have e3 : (decide (48 ≤ c0) && decide (c0 ≤ 57)) = false := by simp; omega
  rw [e1, e2, e3]; simp
 have q34 : ((48 : Int) ≤ c0) = True ∧ ((c0 : Int) ≤ 57) = False ∨ ((48 : Int) ≤ c0) = False := by
  by_cases h : 48 ≤ c0
  ·exact .inl ⟨eq_true (by omega), eq_false (by omega)⟩
  ·exact .inr (eq_false (by omega))
 have loop : ∀ (E : Env) (st' : Heap), True := fun _ _ => trivial
 rcases q34 with ⟨q3, q4⟩ | q3
 all_goals
  simp [Tryz.f262, go_sem, q1, q2, hs0, hb0, q3]
  try simp [go_sem, q4]
  refine ⟨fun E st' => st' = st ∧ E 0 = .string s ∧ E 24 = Val.i s.size ∧ ∃ i : Nat, E 25 = Val.i i ∧ i ≤ s.size ∧ ((s.data.toList.drop i).all fun x => z16 x.toNat) = res,
   fun E _ => match E 25 with | .int _ i => s.size - i.toNat | _ => 0, ⟨st, .rfl' _, rfl, by simp [go_sem], by simp [go_sem], 0, by simp [go_sem], by omega, by simpa using hall⟩, ?_⟩
  rintro E st' ⟨rfl, e0, e24, i, e25, hi, hrec⟩
  by_cases hlt : i < s.size
  ·have hlt' : ((i : Int) < s.size) = True := eq_true (by omega)
   have hbi := z90 s i hlt
   have hd : s.data.toList.drop i = s.data.toList.getD i 0 :: s.data.toList.drop (i + 1) := by
    have hl : i < s.data.toList.length := by omega
    rw [List.drop_eq_getElem_cons hl, List.getD_eq_getElem?_getD, List.getElem?_eq_getElem hl]
    rfl
   rw [hd] at hrec
   simp only [List.all_cons] at hrec
   generalize (s.data.toList.getD i 0).toNat = c at *
   have hwi := wrS i (by omega)
   have hcs : (97 ≤ c ∧ c ≤ 122) ∨ c < 48 ∨ (48 ≤ c ∧ c ≤ 57) ∨ (57 < c ∧ c < 97 ∧ c = 95) ∨ (57 < c ∧ c < 97 ∧ c ≠ 95) ∨ 122 < c := by omega
   rcases hcs with hc | hc | hc | hc | hc | hc
   ·have f0 : ((c : Int) < 97) = False := eq_false (by omega)
    have f1 : ((122 : Int) < c) = False := eq_false (by omega)
    have hk : z16 c = true := by unfold z16; simp; omega
    rw [hk] at hrec
    simp only [Bool.true_and] at hrec
    simp [go_sem, e0, e24, e25, hlt', hlt, hbi, hwi, f0, f1]
    exact ⟨st', .rfl' _, ⟨rfl, i + 1, by omega, by omega, hrec⟩, by omega⟩
   ·have f0 : ((c : Int) < 97) = True := eq_true (by omega)
    have f1 : ((c : Int) < 48) = True := eq_true (by omega)
    have f2 : ((c : Int) = 95) = False := eq_false (by omega)
    have hk : z16 c = false := by unfold z16; simp; omega
    rw [hk] at hrec
    simp only [Bool.false_and] at hrec
    subst hrec
    simp [go_sem, e0, e24, e25, hlt', hlt, hbi, hwi, f0, f1, f2]
   ·have f0 : ((c : Int) < 97) = True := eq_true (by omega)
    have f1 : ((c : Int) < 48) = False := eq_false (by omega)
    have f2 : ((57 : Int) < c) = False := eq_false (by omega)
    have hk : z16 c = true := by unfold z16; simp; omega
    rw [hk] at hrec
    simp only [Bool.true_and] at hrec
    simp [go_sem, e0, e24, e25, hlt', hlt, hbi, hwi, f0, f1, f2]
    exact ⟨st', .rfl' _, ⟨rfl, i + 1, by omega, by omega, hrec⟩, by omega⟩
   ·have f0 : ((c : Int) < 97) = True := eq_true (by omega)
    have f1 : ((c : Int) < 48) = False := eq_false (by omega)
    have f2 : ((57 : Int) < c) = True := eq_true (by omega)
    have f3 : ((c : Int) = 95) = True := eq_true (by omega)
    have hk : z16 c = true := by unfold z16; simp; omega
    rw [hk] at hrec
    simp only [Bool.true_and] at hrec
    simp [go_sem, e0, e24, e25, hlt', hlt, hbi, hwi, f0, f1, f2, f3]
    exact ⟨st', .rfl' _, ⟨rfl, i + 1, by omega, by omega, hrec⟩, by omega⟩
   ·have f0 : ((c : Int) < 97) = True := eq_true (by omega)
    have f1 : ((c : Int) < 48) = False := eq_false (by omega)
    have f2 : ((57 : Int) < c) = True := eq_true (by omega)
    have f3 : ((c : Int) = 95) = False := eq_false (by omega)
    have hk : z16 c = false := by unfold z16; simp; omega
    rw [hk] at hrec
    simp only [Bool.false_and] at hrec
    subst hrec
    simp [go_sem, e0, e24, e25, hlt', hlt, hbi, hwi, f0, f1, f2, f3]
   ·have f0 : ((c : Int) < 97) = False := eq_false (by omega)
    have f1 : ((122 : Int) < c) = True := eq_true (by omega)
    have f2 : ((c : Int) < 48) = False := eq_false (by omega)
    have f3 : ((57 : Int) < c) = True := eq_true (by omega)
    have f4 : ((c : Int) = 95) = False := eq_false (by omega)
    have hk : z16 c = false := by unfold z16; simp; omega
    rw [hk] at hrec
    simp only [Bool.false_and] at hrec
    subst hrec
    simp [go_sem, e0, e24, e25, hlt', hlt, hbi, hwi, f0, f1, f2, f3, f4]
  ·have hlt' : ((i : Int) < s.size) = False := eq_false (by omega)
   have : i = s.size := by omega
   subst this
   rw [List.drop_eq_nil_of_le (by omega)] at hrec
   simp at hrec
   subst hrec
   simp [go_sem, e0, e24, e25]
end
open Go.ChangeShapes Go.WideShapes Go.ChangeAt Go.RowKit
theorem texts_of {st : Heap} {ys : List Value} {xs : List ByteArray} (hl : ys.length = xs.length) (h : ∀ i x, xs[i]? = some x → TextAt st ((ys.drop (i * 1)).take 1) x) : ys = xs.map .string := by
 apply List.ext_getElem?
 intro i
 by_cases hi : i < xs.length
 ·have h1 := (h i xs[i] (List.getElem?_eq_getElem hi)).1
  have h2 : ys[i]? = some (.string xs[i]) := by
   have := congrArg (·[0]?) h1
   simpa using this
  rw [h2]; simp [hi]
 ·rw [List.getElem?_eq_none (by omega), List.getElem?_eq_none (by simp; omega)]
theorem zbn {st : Heap} : ∀ (xs : List Mat) (ys : List Value), ys.length = xs.length * 5 → (∀ i x, xs[i]? = some x → MatAt st ((ys.drop (i * 5)).take 5) x) → z04 st ys xs
 | [], ys, hl, _ => by unfold z04; exact List.eq_nil_of_length_eq_zero (by simpa using hl)
 | m :: ms, ys, hl, h => by
  unfold z04
  simp only [List.length_cons] at hl
  refine ⟨by omega, by simpa using h 0 m rfl, zbn ms _ (by rw [List.length_drop]; omega) fun i x hi => ?_⟩
  have := h (i + 1) x (by simpa using hi)
  rw [List.drop_drop]
  rwa [show 5 + i * 5 = (i + 1) * 5 by omega]
open Go.ChangeShapes Go.WideShapes Go.ChangeAt Go.RowKit
theorem z19 {cs : List Value} {o : Nat} {v : Value} (h : (cs.drop o).take 1 = [v]) : cs[o]? = some v := by
 have := congrArg (·[0]?) h
 simpa using this
theorem zhx : ∀ (fuel : Nat), Opens 35 5 (fun st cs m => MatAt st cs m) fuel := by
 intro fuel
 induction fuel using Nat.strongRecOn with
 | _ fuel ih =>
 intro H enc W cs x hx hr
 obtain ⟨hl, n, rfl, hf⟩ := z76 Tryz.underlying35 hx hr
 have hl5 : cs.length = 5 := hl.trans (by kernel_rfl)
 refine ⟨hl5, ?_⟩
 obtain ⟨y0, h0, r0⟩ := hf 0 _ rfl
 obtain ⟨y1, h1, r1⟩ := hf 1 _ rfl
 obtain ⟨y2, h2, r2⟩ := hf 2 _ rfl
 obtain ⟨y3, h3, r3⟩ := hf 3 _ rfl
 obtain ⟨y4, h4, r4⟩ := hf 4 _ rfl
 obtain ⟨_, op, k0, _⟩ := z1v Tryz.underlying3 n H enc W _ _ h0 r0
 obtain ⟨_, name, k1, _⟩ := z96 Tryz.underlying9 n H enc W _ _ h1 r1
 obtain ⟨_, value, k2, _⟩ := z96 Tryz.underlying9 n H enc W _ _ h2 r2
 obtain ⟨_, vals, vb, vc, vys, k3, vreg, _, vel⟩ := z78 (n := 1) (bytes := 16) Tryz.underlying32 (by kernel_rfl) (by omega) (by kernel_rfl) (fun f _ => z96 Tryz.underlying9 f) H enc W _ _ h3 r3
 obtain ⟨_, kids, kb, kc, kys, k4, kreg, _, kel⟩ := z78 (n := 5) (bytes := 88) Tryz.underlying33 (by kernel_rfl) (by omega) (by kernel_rfl) (fun f hf => ih f (by omega)) H enc W _ _ h4 r4
 have e3 := texts_of (by simpa using vreg.1) vel
 subst e3
 refine ⟨.mk op name value vals kids, ?_⟩
 unfold MatAt
 refine ⟨.slice vb vals.length vc, .slice kb kids.length kc, kys, ?_, ⟨_, by intro g x r; simp, vreg⟩, ⟨_, by intro g x r; simp, kreg⟩, zbn kids kys kreg.1 kel⟩
 have c0 := z19 k0
 have c1 := z19 k1
 have c2 := z19 k2
 have c3 := z19 k3
 have c4 := z19 k4
 match cs, hl5 with
 | [x0, x1, x2, x3, x4], _ => simp at c0 c1 c2 c3 c4; subst c0; subst c1; subst c2; subst c3; subst c4; rfl
end Go.Proofs.YtahgfnbkkfpcnaaGreat
