/- Matchers: what they are; names, values, what a matcher may be alone. -/
import Derived.Test.YtadgciaclhjjkaaGreatCTab
import Derived.Test.YtadgciaclhjjkaaGreatC08
set_option linter.unusedVariables false
set_option linter.unusedSimpArgs false
set_option maxRecDepth 100000
set_option maxHeartbeats 1000000
namespace Go.Proofs.YtadgciaclhjjkaaGreat
open Go.RowKit (Below)

inductive Mat where
  | mk (op : Int) (name value : ByteArray) (vals : List ByteArray) (kids : List Mat)
/-- A part of a row that is no one's. -/
def RegF (st : Heap) (size : Nat) (v : Value) (xs : List Value) (len : Nat) : Prop := ∃ g, Free g ∧ Reg st g size v xs len
theorem RegF.src {st : Heap} {size len : Nat} {v : Value} {xs : List Value} (h : RegF st size v xs len) : srcCells size st v = some (len, xs) := let ⟨_, _, h⟩ := h; h.src
theorem RegF.slice {st : Heap} {size len : Nat} {v : Value} {xs : List Value} (h : RegF st size v xs len) : ∃ base cap, v = .slice base len cap := let ⟨_, _, h⟩ := h; h.slice
theorem RegF.new {st st' : Heap} {size len : Nat} {v : Value} {xs : List Value} (h : RegF st size v xs len) (hk : New st st') : RegF st' size v xs len := let ⟨g, hg, h⟩ := h; ⟨g, hg, h.new hk⟩
theorem RegF.free {st st' : Heap} {size len : Nat} {v : Value} {xs : List Value} (h : RegF st size v xs len) (hk : Keep Free st st') : RegF st' size v xs len := let ⟨g, hg, h⟩ := h; ⟨g, hg, h.keep hk hg⟩
theorem Reg.toF {st : Heap} {g : Tg} {size len : Nat} {v : Value} {xs : List Value} (h : Reg st g size v xs len) (hg : Free g) : RegF st size v xs len := ⟨g, hg, h⟩
theorem RegF.nil {st : Heap} {size : Nat} : RegF st size (.slice none 0 0) [] 0 := ⟨.ty 0, by intro g x r; simp, Reg.nil⟩
/-- All but one block is as it was. -/
def But1 (r : Nat) (st st' : Heap) : Prop := ∀ k o, k ≠ r → st k = some o → st' k = some o
theorem But1.refl (r : Nat) (st : Heap) : But1 r st st := fun _ _ _ h => h
theorem But1.trans {r : Nat} {a b c : Heap} (h : But1 r a b) (h' : But1 r b c) : But1 r a c := fun k o hn hk => h' k o hn (h k o hn hk)
theorem But1.put {r : Nat} {st0 st : Heap} {o : HObj} (h : But1 r st0 st) : But1 r st0 (upd st r o) := fun k x hn hk => by rw [upd_ne _ _ hn]; exact h k x hn hk
theorem But1.add {r b : Nat} {st0 st : Heap} {o : HObj} (h : But1 r st0 st) (hb : st b = none) : But1 r st0 (upd st b o) := fun k x hn hk => by
  have h1 := h k x hn hk
  rw [upd_ne _ _ (ne_of_new h1 hb)]; exact h1
theorem New.but {st st' : Heap} (h : New st st') (r : Nat) : But1 r st st' := fun k o _ hk => h k o hk
theorem RegF.but {r : Nat} {st st' : Heap} {size len n : Nat} {v : Value} {xs cs : List Value} {rw_ : Bool} {g x y : Nat} (h : RegF st size v xs len) (hk : But1 r st st') (hr : st r = some (.cells rw_ cs n (.own g x y))) : RegF st' size v xs len := by
  obtain ⟨t, ht, hl, base, cap, hv, hc, h⟩ := h
  refine ⟨t, ht, hl, base, cap, hv, hc, h.imp id ?_⟩
  rintro ⟨b, off, rw', ys, m, h1, h2, h3⟩
  refine ⟨b, off, rw', ys, m, h1, hk b _ ?_ h2, h3⟩
  refine ne_of_tag h2 hr ?_
  simp only [HObj.tag, ne_eq, Option.some.injEq]
  exact ht g x y
mutual
def MatAt (st : Heap) (cs : List Value) : Mat → Prop
  | .mk op name value vals kids => ∃ vv kv ks, cs = [Val.i op, .string name, .string value, vv, kv] ∧ RegF st 1 vv (vals.map .string) vals.length ∧ RegF st 5 kv ks kids.length ∧ KidsAt st ks kids
def KidsAt (st : Heap) (ks : List Value) : List Mat → Prop
  | [] => ks = []
  | m :: ms => 5 ≤ ks.length ∧ MatAt st (ks.take 5) m ∧ KidsAt st (ks.drop 5) ms
end
mutual
theorem MatAt.mono {st st' : Heap} (hR : ∀ size v xs len, RegF st size v xs len → RegF st' size v xs len) : ∀ (m : Mat) (cs : List Value), MatAt st cs m → MatAt st' cs m
  | .mk op name value vals kids, cs, h => by
    unfold MatAt at h ⊢
    obtain ⟨vv, kv, ks, h1, h2, h3, h4⟩ := h
    exact ⟨vv, kv, ks, h1, hR _ _ _ _ h2, hR _ _ _ _ h3, KidsAt.mono hR kids ks h4⟩
theorem KidsAt.mono {st st' : Heap} (hR : ∀ size v xs len, RegF st size v xs len → RegF st' size v xs len) : ∀ (ms : List Mat) (ks : List Value), KidsAt st ks ms → KidsAt st' ks ms
  | [], ks, h => by unfold KidsAt at h ⊢; exact h
  | m :: ms, ks, h => by
    unfold KidsAt at h ⊢
    exact ⟨h.1, MatAt.mono hR m _ h.2.1, KidsAt.mono hR ms _ h.2.2⟩
end
theorem MatAt.new {st st' : Heap} (hk : New st st') {m : Mat} {cs : List Value} (h : MatAt st cs m) : MatAt st' cs m := MatAt.mono (fun _ _ _ _ h => h.new hk) m cs h
theorem MatAt.free {st st' : Heap} (hk : Keep Free st st') {m : Mat} {cs : List Value} (h : MatAt st cs m) : MatAt st' cs m := MatAt.mono (fun _ _ _ _ h => h.free hk) m cs h
theorem KidsAt.get {st : Heap} : ∀ {ms : List Mat} {ks : List Value} {i : Nat} {m : Mat}, KidsAt st ks ms → ms[i]? = some m → MatAt st ((ks.drop (i * 5)).take 5) m ∧ i * 5 + 5 ≤ ks.length
  | [], ks, i, m, h, hi => by simp at hi
  | x :: ms, ks, 0, m, h, hi => by
    unfold KidsAt at h
    injection hi with hi; subst hi
    exact ⟨by simpa using h.2.1, by simpa using h.1⟩
  | x :: ms, ks, i + 1, m, h, hi => by
    unfold KidsAt at h
    obtain ⟨h1, h2⟩ := KidsAt.get (i := i) h.2.2 (by simpa using hi)
    rw [List.drop_drop] at h1
    rw [List.length_drop] at h2
    exact ⟨by rw [show (i + 1) * 5 = 5 + i * 5 by omega]; exact h1, by omega⟩
theorem MatAt.length {st : Heap} {m : Mat} {cs : List Value} (h : MatAt st cs m) : cs.length = 5 := by
  obtain ⟨op, name, value, vals, kids⟩ := m
  unfold MatAt at h
  obtain ⟨vv, kv, ks, rfl, _⟩ := h
  rfl
def okChar (c : Nat) : Bool := (decide (97 ≤ c) && decide (c ≤ 122)) || (decide (48 ≤ c) && decide (c ≤ 57)) || decide (c = 95)
def labelM (s : Bs) : Bool := decide (1 ≤ s.length) && decide (s.length ≤ 32) && !(decide (48 ≤ (s.getD 0 0).toNat) && decide ((s.getD 0 0).toNat ≤ 57)) && s.all fun x => okChar x.toNat
def risesT : List ByteArray → Bool
  | a :: b :: l => ltT a b && risesT (b :: l)
  | _ => true
def valuesM (l : List ByteArray) : Bool := decide (1 ≤ l.length) && decide (l.length ≤ 16) && l.all (fun v => decide (v.size ≤ 64)) && risesT l
def aloneM (op : Int) (name value : ByteArray) (vals : List ByteArray) (nk : Nat) : Bool :=
  let named := labelM name.data.toList && decide (value.size ≤ 64) && decide (nk = 0)
  let plain := decide (name = ⟨#[]⟩) && decide (value = ⟨#[]⟩) && decide (vals.length = 0)
  if op = 0 then plain && decide (nk = 0)
  else if op = 1 ∨ op = 2 ∨ op = 3 then named && decide (vals.length = 0)
  else if op = 4 then named && decide (value = ⟨#[]⟩) && valuesM vals
  else if op = 5 ∨ op = 6 then plain
  else if op = 7 then plain && decide (nk = 1)
  else false
theorem btOf_eq (s : ByteArray) (i : Nat) (h : i < s.size) : btOf s (i : Int) = ((s.data.toList.getD i 0).toNat : Int) := by
  have hl : i < s.data.toList.length := by simpa using h
  unfold btOf
  rw [List.getD_eq_getElem?_getD, Int.toNat_natCast, List.getElem?_eq_getElem hl]
  rfl
section
variable {W0 : World} {st : Heap}
theorem labelName_spec {s : ByteArray} : ICalls Tryz.prog W0 223 #[.string s] st fun e st' => e = .returned (.bool (labelM s.data.toList)) ∧ st' = st := by
  refine enter (args := [_]) Tryz.func223 rfl ?_
  have hsz : s.data.toList.length = s.size := by simp
  generalize hres : labelM s.data.toList = res
  unfold labelM at hres
  rw [hsz] at hres
  by_cases h1 : s.size < 1
  · have q1 : ((s.size : Int) < 1) = True := eq_true (by omega)
    have : res = false := by rw [← hres]; simp; omega
    subst this
    simp [Tryz.f223, go_sem, q1]
  have q1 : ((s.size : Int) < 1) = False := eq_false (by omega)
  by_cases h2 : 32 < s.size
  · have q2 : ((32 : Int) < s.size) = True := eq_true (by omega)
    have : res = false := by rw [← hres]; simp; omega
    subst this
    simp [Tryz.f223, go_sem, q1, q2]
  have q2 : ((32 : Int) < s.size) = False := eq_false (by omega)
  have hb0 := btOf_eq s 0 (by omega)
  simp only [Int.natCast_zero] at hb0
  generalize hc0 : (s.data.toList.getD 0 0).toNat = c0 at *
  have hs0 : 0 < s.size := by omega
  by_cases h3 : 48 ≤ c0 ∧ c0 ≤ 57
  · have q3 : ((48 : Int) ≤ c0) = True := eq_true (by omega)
    have q4 : ((c0 : Int) ≤ 57) = True := eq_true (by omega)
    have : res = false := by rw [← hres]; simp [h3.1, h3.2]
    subst this
    simp [Tryz.f223, go_sem, q1, q2, hs0, hb0, q3, q4]
  have hgo : ICalls Tryz.prog W0 223 #[.string s] st (fun e st' => True) → True := fun _ => trivial
  have hall : (s.data.toList.all fun x => okChar x.toNat) = res := by
    rw [← hres]
    have e1 : decide (1 ≤ s.size) = true := by simp; omega
    have e2 : decide (s.size ≤ 32) = true := by simp; omega
    have e3 : (decide (48 ≤ c0) && decide (c0 ≤ 57)) = false := by simp; omega
    rw [e1, e2, e3]; simp
  have q34 : ((48 : Int) ≤ c0) = True ∧ ((c0 : Int) ≤ 57) = False ∨ ((48 : Int) ≤ c0) = False := by
    by_cases h : 48 ≤ c0
    · exact .inl ⟨eq_true (by omega), eq_false (by omega)⟩
    · exact .inr (eq_false (by omega))
  have loop : ∀ (E : Env) (st' : Heap), True := fun _ _ => trivial
  rcases q34 with ⟨q3, q4⟩ | q3
  all_goals
    simp [Tryz.f223, go_sem, q1, q2, hs0, hb0, q3]
    try simp [go_sem, q4]
    refine ⟨fun E st' => st' = st ∧ E 0 = .string s ∧ E 24 = Val.i s.size ∧ ∃ i : Nat, E 25 = Val.i i ∧ i ≤ s.size ∧ ((s.data.toList.drop i).all fun x => okChar x.toNat) = res,
      fun E _ => match E 25 with | .int _ i => s.size - i.toNat | _ => 0, ⟨st, .rfl' _, rfl, by simp [go_sem], by simp [go_sem], 0, by simp [go_sem], by omega, by simpa using hall⟩, ?_⟩
    rintro E st' ⟨rfl, e0, e24, i, e25, hi, hrec⟩
    by_cases hlt : i < s.size
    · have hlt' : ((i : Int) < s.size) = True := eq_true (by omega)
      have hbi := btOf_eq s i hlt
      have hd : s.data.toList.drop i = s.data.toList.getD i 0 :: s.data.toList.drop (i + 1) := by
        have hl : i < s.data.toList.length := by omega
        rw [List.drop_eq_getElem_cons hl, List.getD_eq_getElem?_getD, List.getElem?_eq_getElem hl]
        rfl
      rw [hd] at hrec
      simp only [List.all_cons] at hrec
      generalize (s.data.toList.getD i 0).toNat = c at *
      have hwi : IntKind.i64.wrap ((i : Int) + 1) = ((i + 1 : Nat) : Int) := by rw [wrap_id (by omega) (by omega)]; omega
      have hcs : (97 ≤ c ∧ c ≤ 122) ∨ c < 48 ∨ (48 ≤ c ∧ c ≤ 57) ∨ (57 < c ∧ c < 97 ∧ c = 95) ∨ (57 < c ∧ c < 97 ∧ c ≠ 95) ∨ 122 < c := by omega
      rcases hcs with hc | hc | hc | hc | hc | hc
      · have f0 : ((c : Int) < 97) = False := eq_false (by omega)
        have f1 : ((122 : Int) < c) = False := eq_false (by omega)
        have hk : okChar c = true := by unfold okChar; simp; omega
        rw [hk] at hrec
        simp only [Bool.true_and] at hrec
        simp [go_sem, e0, e24, e25, hlt', hlt, hbi, hwi, f0, f1]
        exact ⟨st', .rfl' _, ⟨rfl, i + 1, by omega, by omega, hrec⟩, by omega⟩
      · have f0 : ((c : Int) < 97) = True := eq_true (by omega)
        have f1 : ((c : Int) < 48) = True := eq_true (by omega)
        have f2 : ((c : Int) = 95) = False := eq_false (by omega)
        have hk : okChar c = false := by unfold okChar; simp; omega
        rw [hk] at hrec
        simp only [Bool.false_and] at hrec
        subst hrec
        simp [go_sem, e0, e24, e25, hlt', hlt, hbi, hwi, f0, f1, f2]
      · have f0 : ((c : Int) < 97) = True := eq_true (by omega)
        have f1 : ((c : Int) < 48) = False := eq_false (by omega)
        have f2 : ((57 : Int) < c) = False := eq_false (by omega)
        have hk : okChar c = true := by unfold okChar; simp; omega
        rw [hk] at hrec
        simp only [Bool.true_and] at hrec
        simp [go_sem, e0, e24, e25, hlt', hlt, hbi, hwi, f0, f1, f2]
        exact ⟨st', .rfl' _, ⟨rfl, i + 1, by omega, by omega, hrec⟩, by omega⟩
      · have f0 : ((c : Int) < 97) = True := eq_true (by omega)
        have f1 : ((c : Int) < 48) = False := eq_false (by omega)
        have f2 : ((57 : Int) < c) = True := eq_true (by omega)
        have f3 : ((c : Int) = 95) = True := eq_true (by omega)
        have hk : okChar c = true := by unfold okChar; simp; omega
        rw [hk] at hrec
        simp only [Bool.true_and] at hrec
        simp [go_sem, e0, e24, e25, hlt', hlt, hbi, hwi, f0, f1, f2, f3]
        exact ⟨st', .rfl' _, ⟨rfl, i + 1, by omega, by omega, hrec⟩, by omega⟩
      · have f0 : ((c : Int) < 97) = True := eq_true (by omega)
        have f1 : ((c : Int) < 48) = False := eq_false (by omega)
        have f2 : ((57 : Int) < c) = True := eq_true (by omega)
        have f3 : ((c : Int) = 95) = False := eq_false (by omega)
        have hk : okChar c = false := by unfold okChar; simp; omega
        rw [hk] at hrec
        simp only [Bool.false_and] at hrec
        subst hrec
        simp [go_sem, e0, e24, e25, hlt', hlt, hbi, hwi, f0, f1, f2, f3]
      · have f0 : ((c : Int) < 97) = False := eq_false (by omega)
        have f1 : ((122 : Int) < c) = True := eq_true (by omega)
        have f2 : ((c : Int) < 48) = False := eq_false (by omega)
        have f3 : ((57 : Int) < c) = True := eq_true (by omega)
        have f4 : ((c : Int) = 95) = False := eq_false (by omega)
        have hk : okChar c = false := by unfold okChar; simp; omega
        rw [hk] at hrec
        simp only [Bool.false_and] at hrec
        subst hrec
        simp [go_sem, e0, e24, e25, hlt', hlt, hbi, hwi, f0, f1, f2, f3, f4]
    · have hlt' : ((i : Int) < s.size) = False := eq_false (by omega)
      have : i = s.size := by omega
      subst this
      rw [List.drop_eq_nil_of_le (by omega)] at hrec
      simp at hrec
      subst hrec
      simp [go_sem, e0, e24, e25]
end
end Go.Proofs.YtadgciaclhjjkaaGreat
