/- A map that is gone through, entry by entry, in whatever order. Plain definitions and theorems, over any program. -/
import Derived.Test.YtgppogppdmbgmaaGreatC09
import Derived.Test.YtgppogppdmbgmaaGreatCTab
set_option linter.unusedVariables false
set_option linter.unusedSimpArgs false
namespace Go.Proofs.YtgppogppdmbgmaaGreat
open Go.RowKit (Below)

theorem nodup_len {α : Type} [DecidableEq α] : ∀ {l l' : List α}, l.Nodup → l ⊆ l' → l.length ≤ l'.length
  | [], l', _, _ => Nat.zero_le _
  | a :: l, l', hn, hs => by
    have ha : a ∈ l' := hs (by simp)
    obtain ⟨h1, h2⟩ := List.nodup_cons.1 hn
    have hsub : l ⊆ l'.erase a := fun x hx => (List.mem_erase_of_ne (by rintro rfl; exact h1 hx)).2 (hs (by simp [hx]))
    have := nodup_len h2 hsub
    rw [List.length_erase_of_mem ha] at this
    have : 0 < l'.length := List.length_pos_of_mem ha
    simp only [List.length_cons]
    omega
/-- Where the walk over a map stands: L was told. -/
def Iter (st : Heap) (m b : Nat) (es L : KV) : Prop := ∃ (ents : Array MapEntry) (clock : Nat) (seen : Array Nat) (Ls : List MapEntry), MapAt ents clock es ∧ st m = some (.other (.map ents clock)) ∧ st b = some (.other (.mapIter (some m) clock seen clock)) ∧
  seen.toList = Ls.map (·.born) ∧ (∀ e ∈ Ls, e ∈ ents.toList) ∧ (Ls.map (·.born)).Nodup ∧ L = Ls.map fun e => (e.key, e.val)
theorem Iter.keep {st st' : Heap} {m b : Nat} {es L : KV} (h : Iter st m b es L) (hm : st' m = st m) (hb : st' b = st b) : Iter st' m b es L := by
  obtain ⟨ents, clock, seen, Ls, h1, h2, h3, h4⟩ := h
  exact ⟨ents, clock, seen, Ls, h1, hm.trans h2, hb.trans h3, h4⟩
theorem MapAt.born_inj {ents : Array MapEntry} {clock : Nat} {es : KV} (h : MapAt ents clock es) {e e' : MapEntry} (he : e ∈ ents.toList) (he' : e' ∈ ents.toList) (hb : e.born = e'.born) : e = e' := by
  have hi := h.inc
  rw [List.pairwise_map] at hi
  rcases Classical.em (e = e') with h | h
  · exact h
  · exfalso
    obtain ⟨i, hi1, rfl⟩ := List.getElem_of_mem he
    obtain ⟨j, hj1, rfl⟩ := List.getElem_of_mem he'
    rw [List.pairwise_iff_getElem] at hi
    rcases Nat.lt_trichotomy i j with hij | hij | hij
    · have := hi i j hi1 hj1 hij; omega
    · subst hij; exact h rfl
    · have := hi j i hj1 hi1 hij; omega
theorem Iter.len {st : Heap} {m b : Nat} {es L : KV} (h : Iter st m b es L) : L.length ≤ es.length := by
  obtain ⟨ents, clock, seen, Ls, h1, h2, h3, h4, h5, h6, rfl⟩ := h
  have : (Ls.map (·.born)).length ≤ (ents.toList.map (·.born)).length := nodup_len h6 (fun x hx => by
    obtain ⟨e, he, rfl⟩ := List.mem_map.1 hx
    exact List.mem_map.2 ⟨e, h5 e he, rfl⟩)
  have hk : es.length = ents.toList.length := by rw [← h1.kv]; simp
  simp only [List.length_map] at this ⊢
  omega
theorem RangeI_start {K : Value → Heap → Prop} {st : Heap} {m : Nat} {g : Tg} {es : KV} (hm : st m = some (.map g es)) (hk : ∀ b st1, st b = none → Iter st1 m b es [] → (∀ k, k ≠ m → k ≠ b → st1 k = st k) → K (ptr' b) st1) : RangeI (.map (some m)) K st := by
  unfold RangeI rangeX
  refine ⟨g, es, hm, fun ents clock b ha hb => ?_⟩
  have hmb : m ≠ b := ne_of_new hm hb
  refine hk b _ hb ⟨ents, clock, #[], [], ha, ?_, upd_same _ _ _, rfl, by simp, by simp, rfl⟩ ?_
  · rw [upd_ne _ _ hmb, upd_same]
  · intro k h1 h2
    rw [upd_ne _ _ h2, upd_ne _ _ h1]
theorem NextI_step {K : Value → Heap → Prop} {st : Heap} {m b : Nat} (g : Tg) {es L : KV} (hmb : m ≠ b) (hi : Iter st m b es L)
    (hend : L.Perm es → K (.tuple #[.bool false]) (upd st m (.map g es)))
    (hnext : ∀ k v st1, (k, v) ∈ es → Iter st1 m b es (L ++ [(k, v)]) → (∀ x, x ≠ b → st1 x = st x) → K (.tuple #[.bool true, k, v]) st1) : NextI' (ptr' b) K st := by
  obtain ⟨ents, clock, seen, Ls, h1, h2, h3, h4, h5, h6, rfl⟩ := hi
  unfold NextI' nextX ptr'
  refine ⟨m, ents, clock, seen, g, es, h3, h2, h1, ?_, ?_⟩
  · intro hall
    refine hend ?_
    rw [← h1.kv]
    refine List.Perm.map _ ?_
    have hn1 : Ls.Nodup := (List.pairwise_map.1 h6).imp (fun h e => h (by rw [e]))
    have hn2 : ents.toList.Nodup := (List.pairwise_map.1 h1.inc).imp (fun h e => by rw [e] at h; exact absurd h (Nat.lt_irrefl _))
    refine (List.perm_ext_iff_of_nodup hn1 hn2).2 fun e => ⟨h5 e, fun he => ?_⟩
    have := hall e he
    rw [h4] at this
    obtain ⟨e', he', hb⟩ := List.mem_map.1 this
    rw [← h1.born_inj (h5 e' he') he hb]
    exact he'
  · intro e he hns
    refine hnext e.key e.val _ ?_ ⟨ents, clock, seen.push e.born, Ls ++ [e], h1, ?_, upd_same _ _ _, by simp [h4], ?_, ?_, by simp⟩ ?_
    · rw [← h1.kv]; exact List.mem_map.2 ⟨e, he, rfl⟩
    · rw [upd_ne _ _ hmb]; exact h2
    · intro x hx
      rcases List.mem_append.1 hx with hx | hx
      · exact h5 x hx
      · simp at hx; rw [hx]; exact he
    · rw [List.map_append, List.nodup_append]
      refine ⟨h6, by simp, ?_⟩
      intro a ha b hb
      simp at hb
      rw [← h4] at ha
      rintro rfl
      rw [hb] at ha
      exact hns ha
    · intro x hx; rw [upd_ne _ _ hx]
theorem EntryI_last {K : Value → Heap → Prop} {st : Heap} {m b : Nat} {es L : KV} {k v : Value} (hi : Iter st m b es (L ++ [(k, v)])) (hk : K (.tuple #[k, v]) st) : EntryI (ptr' b) K st := by
  obtain ⟨ents, clock, seen, Ls, h1, h2, h3, h4, h5, h6, h7⟩ := hi
  rcases List.eq_nil_or_concat Ls with rfl | ⟨Ls', e, rfl⟩
  · simp at h7
  · simp only [List.concat_eq_append, List.map_append, List.map_cons, List.map_nil] at h7
    obtain ⟨_, h8⟩ := List.append_inj' h7 rfl
    simp at h8
    obtain ⟨rfl, rfl⟩ := h8
    unfold EntryI entryX ptr'
    have hseen : seen = (⟨(Ls'.map (·.born))⟩ : Array Nat).push e.born := by
      apply Array.ext'
      simp [h4]
    refine ⟨m, ents, clock, clock, ⟨(Ls'.map (·.born))⟩, e, by rw [h3, hseen], h2, h5 e (by simp), h1.inc, hk⟩
end Go.Proofs.YtgppogppdmbgmaaGreat
set_option linter.unusedVariables false
set_option linter.unusedSimpArgs false
namespace Go.Proofs.YtgppogppdmbgmaaGreat
structure LtOK {α : Type} (lt : α → α → Bool) : Prop where
  asymm : ∀ a b, lt a b = true → lt b a = false
  trans : ∀ a b c, lt b a = false → lt c b = false → lt c a = false
theorem bytesLess_asymm : ∀ a b, Op.bytesLess a b = true → Op.bytesLess b a = false
  | _, [], h => by simp [Op.bytesLess] at h
  | [], _ :: _, h => by simp [Op.bytesLess]
  | a :: x, b :: y, h => by
    simp only [Op.bytesLess, Bool.or_eq_true, Bool.and_eq_true, decide_eq_true_eq, beq_iff_eq, Bool.or_eq_false_iff, Bool.and_eq_false_iff, decide_eq_false_iff_not, UInt8.lt_iff_toNat_lt, beq_eq_false_iff_ne] at h ⊢
    rcases h with h | ⟨rfl, h⟩
    · exact ⟨by omega, .inl (by rintro rfl; omega)⟩
    · exact ⟨by omega, .inr (bytesLess_asymm _ _ h)⟩
theorem bytesLess_trans : ∀ a b c, Op.bytesLess b a = false → Op.bytesLess c b = false → Op.bytesLess c a = false
  | [], _, c, _, _ => by cases c <;> simp [Op.bytesLess]
  | _ :: _, [], _, h, _ => by simp [Op.bytesLess] at h
  | _ :: _, _ :: _, [], _, h => by simp [Op.bytesLess] at h
  | a :: x, b :: y, c :: z, h, h' => by
    simp only [Op.bytesLess, Bool.or_eq_false_iff, Bool.and_eq_false_iff, decide_eq_false_iff_not, UInt8.lt_iff_toNat_lt, beq_eq_false_iff_ne] at h h' ⊢
    refine ⟨by omega, ?_⟩
    by_cases hca : c = a
    · right
      subst hca
      have hbc : b = c := UInt8.toNat_inj.1 (by omega)
      subst hbc
      refine bytesLess_trans x y z ?_ ?_
      · rcases h.2 with h | h
        · exact absurd rfl h
        · exact h
      · rcases h'.2 with h | h
        · exact absurd rfl h
        · exact h
    · exact .inl hca
theorem bytesLess_total : ∀ a b, Op.bytesLess a b = false → Op.bytesLess b a = false → a = b
  | [], [], _, _ => rfl
  | [], _ :: _, h, _ => by simp [Op.bytesLess] at h
  | _ :: _, [], _, h => by simp [Op.bytesLess] at h
  | a :: x, b :: y, h, h' => by
    simp only [Op.bytesLess, Bool.or_eq_false_iff, Bool.and_eq_false_iff, decide_eq_false_iff_not, UInt8.lt_iff_toNat_lt, beq_eq_false_iff_ne] at h h'
    have hab : a = b := UInt8.toNat_inj.1 (by omega)
    subst hab
    rw [bytesLess_total x y]
    · rcases h.2 with h | h
      · exact absurd rfl h
      · exact h
    · rcases h'.2 with h | h
      · exact absurd rfl h
      · exact h
abbrev ltT (a b : ByteArray) : Bool := Op.bytesLess a.data.toList b.data.toList
theorem ltT_ok : LtOK ltT := ⟨fun a b h => bytesLess_asymm _ _ h, fun a b c h h' => bytesLess_trans _ _ _ h h'⟩
theorem ltT_total (a b : ByteArray) (h : ltT a b = false) (h' : ltT b a = false) : a = b := by
  have := bytesLess_total _ _ h h'
  cases a; cases b
  simp at this
  rw [this]
end Go.Proofs.YtgppogppdmbgmaaGreat
set_option linter.unusedVariables false
set_option linter.unusedSimpArgs false
set_option maxRecDepth 100000
set_option maxHeartbeats 1000000
namespace Go.Proofs.YtgppogppdmbgmaaGreat
open Go.RowKit (Below)

inductive Mat where
  | mk (op : Int) (name value : ByteArray) (vals : List ByteArray) (kids : List Mat)
/-- A part of a row that is no one's. -/
def RegF (st : Heap) (size : Nat) (v : Value) (xs : List Value) (len : Nat) : Prop := ∃ g, Free g ∧ Reg st g size v xs len
theorem RegF.src {st : Heap} {size len : Nat} {v : Value} {xs : List Value} (h : RegF st size v xs len) : srcCells size st v = some (len, xs) := let ⟨_, _, h⟩ := h; h.src
theorem RegF.slice {st : Heap} {size len : Nat} {v : Value} {xs : List Value} (h : RegF st size v xs len) : ∃ base cap, v = .slice base len cap := let ⟨_, _, h⟩ := h; h.slice
theorem RegF.new {st st' : Heap} {size len : Nat} {v : Value} {xs : List Value} (h : RegF st size v xs len) (hk : New st st') : RegF st' size v xs len := let ⟨g, hg, h⟩ := h; ⟨g, hg, h.new hk⟩
theorem RegF.free {st st' : Heap} {size len : Nat} {v : Value} {xs : List Value} (h : RegF st size v xs len) (hk : Keep Free st st') : RegF st' size v xs len := let ⟨g, hg, h⟩ := h; ⟨g, hg, h.keep hk hg⟩
theorem Reg.toF {st : Heap} {g : Tg} {size len : Nat} {v : Value} {xs : List Value} (h : Reg st g size v xs len) (hg : Free g) : RegF st size v xs len := ⟨g, hg, h⟩
theorem RegF.nil {st : Heap} {size : Nat} : RegF st size (.slice none 0 0) [] 0 := ⟨.ty 0, by intro g x r; simp, Reg.nil⟩
/-- All but one block is as it was. -/
def But1 (r : Nat) (st st' : Heap) : Prop := ∀ k o, k ≠ r → st k = some o → st' k = some o
theorem But1.refl (r : Nat) (st : Heap) : But1 r st st := fun _ _ _ h => h
theorem But1.trans {r : Nat} {a b c : Heap} (h : But1 r a b) (h' : But1 r b c) : But1 r a c := fun k o hn hk => h' k o hn (h k o hn hk)
theorem But1.put {r : Nat} {st0 st : Heap} {o : HObj} (h : But1 r st0 st) : But1 r st0 (upd st r o) := fun k x hn hk => by rw [upd_ne _ _ hn]; exact h k x hn hk
theorem But1.add {r b : Nat} {st0 st : Heap} {o : HObj} (h : But1 r st0 st) (hb : st b = none) : But1 r st0 (upd st b o) := fun k x hn hk => by
  have h1 := h k x hn hk
  rw [upd_ne _ _ (ne_of_new h1 hb)]; exact h1
theorem New.but {st st' : Heap} (h : New st st') (r : Nat) : But1 r st st' := fun k o _ hk => h k o hk
theorem But1.new {r : Nat} {st st' : Heap} (h : But1 r st st') (hr : st r = none) : New st st' := fun k o hk => h k o (ne_of_new hk hr) hk
theorem But1.get {r b : Nat} {st st' : Heap} {o : HObj} (h : But1 r st st') (hb : st b = some o) (hn : b ≠ r) : st' b = some o := h b o hn hb
theorem RegF.but {r : Nat} {st st' : Heap} {size len n : Nat} {v : Value} {xs cs : List Value} {rw_ : Bool} {g x y : Nat} (h : RegF st size v xs len) (hk : But1 r st st') (hr : st r = some (.cells rw_ cs n (.own g x y))) : RegF st' size v xs len := by
  obtain ⟨t, ht, hl, base, cap, hv, hc, h⟩ := h
  refine ⟨t, ht, hl, base, cap, hv, hc, h.imp id ?_⟩
  rintro ⟨b, off, rw', ys, m, h1, h2, h3⟩
  refine ⟨b, off, rw', ys, m, h1, hk b _ ?_ h2, h3⟩
  refine ne_of_tag h2 hr ?_
  simp only [HObj.tag, ne_eq, Option.some.injEq]
  exact ht g x y
mutual
def MatAt (st : Heap) (cs : List Value) : Mat → Prop
  | .mk op name value vals kids => ∃ vv kv ks, cs = [Val.i op, .string name, .string value, vv, kv] ∧ RegF st 1 vv (vals.map .string) vals.length ∧ RegF st 5 kv ks kids.length ∧ KidsAt st ks kids
def KidsAt (st : Heap) (ks : List Value) : List Mat → Prop
  | [] => ks = []
  | m :: ms => 5 ≤ ks.length ∧ MatAt st (ks.take 5) m ∧ KidsAt st (ks.drop 5) ms
end
mutual
theorem MatAt.mono {st st' : Heap} (hR : ∀ size v xs len, RegF st size v xs len → RegF st' size v xs len) : ∀ (m : Mat) (cs : List Value), MatAt st cs m → MatAt st' cs m
  | .mk op name value vals kids, cs, h => by
    unfold MatAt at h ⊢
    obtain ⟨vv, kv, ks, h1, h2, h3, h4⟩ := h
    exact ⟨vv, kv, ks, h1, hR _ _ _ _ h2, hR _ _ _ _ h3, KidsAt.mono hR kids ks h4⟩
theorem KidsAt.mono {st st' : Heap} (hR : ∀ size v xs len, RegF st size v xs len → RegF st' size v xs len) : ∀ (ms : List Mat) (ks : List Value), KidsAt st ks ms → KidsAt st' ks ms
  | [], ks, h => by unfold KidsAt at h ⊢; exact h
  | m :: ms, ks, h => by
    unfold KidsAt at h ⊢
    exact ⟨h.1, MatAt.mono hR m _ h.2.1, KidsAt.mono hR ms _ h.2.2⟩
end
theorem MatAt.new {st st' : Heap} (hk : New st st') {m : Mat} {cs : List Value} (h : MatAt st cs m) : MatAt st' cs m := MatAt.mono (fun _ _ _ _ h => h.new hk) m cs h
theorem KidsAt.new {st st' : Heap} (hk : New st st') {m : List Mat} {cs : List Value} (h : KidsAt st cs m) : KidsAt st' cs m := KidsAt.mono (fun _ _ _ _ h => h.new hk) m cs h
theorem MatAt.free {st st' : Heap} (hk : Keep Free st st') {m : Mat} {cs : List Value} (h : MatAt st cs m) : MatAt st' cs m := MatAt.mono (fun _ _ _ _ h => h.free hk) m cs h
theorem KidsAt.get {st : Heap} : ∀ {ms : List Mat} {ks : List Value} {i : Nat} {m : Mat}, KidsAt st ks ms → ms[i]? = some m → MatAt st ((ks.drop (i * 5)).take 5) m ∧ i * 5 + 5 ≤ ks.length
  | [], ks, i, m, h, hi => by simp at hi
  | x :: ms, ks, 0, m, h, hi => by
    unfold KidsAt at h
    injection hi with hi; subst hi
    exact ⟨by simpa using h.2.1, by simpa using h.1⟩
  | x :: ms, ks, i + 1, m, h, hi => by
    unfold KidsAt at h
    obtain ⟨h1, h2⟩ := KidsAt.get (i := i) h.2.2 (by simpa using hi)
    rw [List.drop_drop] at h1
    rw [List.length_drop] at h2
    exact ⟨by rw [show (i + 1) * 5 = 5 + i * 5 by omega]; exact h1, by omega⟩
theorem MatAt.length {st : Heap} {m : Mat} {cs : List Value} (h : MatAt st cs m) : cs.length = 5 := by
  obtain ⟨op, name, value, vals, kids⟩ := m
  unfold MatAt at h
  obtain ⟨vv, kv, ks, rfl, _⟩ := h
  rfl
def okChar (c : Nat) : Bool := (decide (97 ≤ c) && decide (c ≤ 122)) || (decide (48 ≤ c) && decide (c ≤ 57)) || decide (c = 95)
def labelM (s : Bs) : Bool := decide (1 ≤ s.length) && decide (s.length ≤ 32) && !(decide (48 ≤ (s.getD 0 0).toNat) && decide ((s.getD 0 0).toNat ≤ 57)) && s.all fun x => okChar x.toNat
def risesT : List ByteArray → Bool
  | a :: b :: l => ltT a b && risesT (b :: l)
  | _ => true
def valuesM (l : List ByteArray) : Bool := decide (1 ≤ l.length) && decide (l.length ≤ 16) && l.all (fun v => decide (v.size ≤ 64)) && risesT l
def aloneM (op : Int) (name value : ByteArray) (vals : List ByteArray) (nk : Nat) : Bool :=
  let named := labelM name.data.toList && decide (value.size ≤ 64) && decide (nk = 0)
  let plain := decide (name = ⟨#[]⟩) && decide (value = ⟨#[]⟩) && decide (vals.length = 0)
  if op = 0 then plain && decide (nk = 0)
  else if op = 1 ∨ op = 2 ∨ op = 3 then named && decide (vals.length = 0)
  else if op = 4 then named && decide (value = ⟨#[]⟩) && valuesM vals
  else if op = 5 ∨ op = 6 then plain
  else if op = 7 then plain && decide (nk = 1)
  else false
theorem btOf_eq (s : ByteArray) (i : Nat) (h : i < s.size) : btOf s (i : Int) = ((s.data.toList.getD i 0).toNat : Int) := by
  have hl : i < s.data.toList.length := by simpa using h
  unfold btOf
  rw [List.getD_eq_getElem?_getD, Int.toNat_natCast, List.getElem?_eq_getElem hl]
  rfl
section
variable {W0 : World} {st : Heap}
theorem labelName_spec {s : ByteArray} : ICalls Tryz.prog W0 254 #[.string s] st fun e st' => e = .returned (.bool (labelM s.data.toList)) ∧ st' = st := by
  refine enter (args := [_]) Tryz.func254 rfl ?_
  have hsz : s.data.toList.length = s.size := by simp
  generalize hres : labelM s.data.toList = res
  unfold labelM at hres
  rw [hsz] at hres
  by_cases h1 : s.size < 1
  · have q1 : ((s.size : Int) < 1) = True := eq_true (by omega)
    have : res = false := by rw [← hres]; simp; omega
    subst this
    simp [Tryz.f254, go_sem, q1]
  have q1 : ((s.size : Int) < 1) = False := eq_false (by omega)
  by_cases h2 : 32 < s.size
  · have q2 : ((32 : Int) < s.size) = True := eq_true (by omega)
    have : res = false := by rw [← hres]; simp; omega
    subst this
    simp [Tryz.f254, go_sem, q1, q2]
  have q2 : ((32 : Int) < s.size) = False := eq_false (by omega)
  have hb0 := btOf_eq s 0 (by omega)
  simp only [Int.natCast_zero] at hb0
  generalize hc0 : (s.data.toList.getD 0 0).toNat = c0 at *
  have hs0 : 0 < s.size := by omega
  by_cases h3 : 48 ≤ c0 ∧ c0 ≤ 57
  · have q3 : ((48 : Int) ≤ c0) = True := eq_true (by omega)
    have q4 : ((c0 : Int) ≤ 57) = True := eq_true (by omega)
    have : res = false := by rw [← hres]; simp [h3.1, h3.2]
    subst this
    simp [Tryz.f254, go_sem, q1, q2, hs0, hb0, q3, q4]
  have hgo : ICalls Tryz.prog W0 254 #[.string s] st (fun e st' => True) → True := fun _ => trivial
  have hall : (s.data.toList.all fun x => okChar x.toNat) = res := by
    rw [← hres]
    have e1 : decide (1 ≤ s.size) = true := by simp; omega
    have e2 : decide (s.size ≤ 32) = true := by simp; omega
    have e3 : (decide (48 ≤ c0) && decide (c0 ≤ 57)) = false := by simp; omega
    rw [e1, e2, e3]; simp
  have q34 : ((48 : Int) ≤ c0) = True ∧ ((c0 : Int) ≤ 57) = False ∨ ((48 : Int) ≤ c0) = False := by
    by_cases h : 48 ≤ c0
    · exact .inl ⟨eq_true (by omega), eq_false (by omega)⟩
    · exact .inr (eq_false (by omega))
  have loop : ∀ (E : Env) (st' : Heap), True := fun _ _ => trivial
  rcases q34 with ⟨q3, q4⟩ | q3
  all_goals
    simp [Tryz.f254, go_sem, q1, q2, hs0, hb0, q3]
    try simp [go_sem, q4]
    refine ⟨fun E st' => st' = st ∧ E 0 = .string s ∧ E 24 = Val.i s.size ∧ ∃ i : Nat, E 25 = Val.i i ∧ i ≤ s.size ∧ ((s.data.toList.drop i).all fun x => okChar x.toNat) = res,
      fun E _ => match E 25 with | .int _ i => s.size - i.toNat | _ => 0, ⟨st, .rfl' _, rfl, by simp [go_sem], by simp [go_sem], 0, by simp [go_sem], by omega, by simpa using hall⟩, ?_⟩
    rintro E st' ⟨rfl, e0, e24, i, e25, hi, hrec⟩
    by_cases hlt : i < s.size
    · have hlt' : ((i : Int) < s.size) = True := eq_true (by omega)
      have hbi := btOf_eq s i hlt
      have hd : s.data.toList.drop i = s.data.toList.getD i 0 :: s.data.toList.drop (i + 1) := by
        have hl : i < s.data.toList.length := by omega
        rw [List.drop_eq_getElem_cons hl, List.getD_eq_getElem?_getD, List.getElem?_eq_getElem hl]
        rfl
      rw [hd] at hrec
      simp only [List.all_cons] at hrec
      generalize (s.data.toList.getD i 0).toNat = c at *
      have hwi : IntKind.i64.wrap ((i : Int) + 1) = ((i + 1 : Nat) : Int) := by rw [wrap_id (by omega) (by omega)]; omega
      have hcs : (97 ≤ c ∧ c ≤ 122) ∨ c < 48 ∨ (48 ≤ c ∧ c ≤ 57) ∨ (57 < c ∧ c < 97 ∧ c = 95) ∨ (57 < c ∧ c < 97 ∧ c ≠ 95) ∨ 122 < c := by omega
      rcases hcs with hc | hc | hc | hc | hc | hc
      · have f0 : ((c : Int) < 97) = False := eq_false (by omega)
        have f1 : ((122 : Int) < c) = False := eq_false (by omega)
        have hk : okChar c = true := by unfold okChar; simp; omega
        rw [hk] at hrec
        simp only [Bool.true_and] at hrec
        simp [go_sem, e0, e24, e25, hlt', hlt, hbi, hwi, f0, f1]
        exact ⟨st', .rfl' _, ⟨rfl, i + 1, by omega, by omega, hrec⟩, by omega⟩
      · have f0 : ((c : Int) < 97) = True := eq_true (by omega)
        have f1 : ((c : Int) < 48) = True := eq_true (by omega)
        have f2 : ((c : Int) = 95) = False := eq_false (by omega)
        have hk : okChar c = false := by unfold okChar; simp; omega
        rw [hk] at hrec
        simp only [Bool.false_and] at hrec
        subst hrec
        simp [go_sem, e0, e24, e25, hlt', hlt, hbi, hwi, f0, f1, f2]
      · have f0 : ((c : Int) < 97) = True := eq_true (by omega)
        have f1 : ((c : Int) < 48) = False := eq_false (by omega)
        have f2 : ((57 : Int) < c) = False := eq_false (by omega)
        have hk : okChar c = true := by unfold okChar; simp; omega
        rw [hk] at hrec
        simp only [Bool.true_and] at hrec
        simp [go_sem, e0, e24, e25, hlt', hlt, hbi, hwi, f0, f1, f2]
        exact ⟨st', .rfl' _, ⟨rfl, i + 1, by omega, by omega, hrec⟩, by omega⟩
      · have f0 : ((c : Int) < 97) = True := eq_true (by omega)
        have f1 : ((c : Int) < 48) = False := eq_false (by omega)
        have f2 : ((57 : Int) < c) = True := eq_true (by omega)
        have f3 : ((c : Int) = 95) = True := eq_true (by omega)
        have hk : okChar c = true := by unfold okChar; simp; omega
        rw [hk] at hrec
        simp only [Bool.true_and] at hrec
        simp [go_sem, e0, e24, e25, hlt', hlt, hbi, hwi, f0, f1, f2, f3]
        exact ⟨st', .rfl' _, ⟨rfl, i + 1, by omega, by omega, hrec⟩, by omega⟩
      · have f0 : ((c : Int) < 97) = True := eq_true (by omega)
        have f1 : ((c : Int) < 48) = False := eq_false (by omega)
        have f2 : ((57 : Int) < c) = True := eq_true (by omega)
        have f3 : ((c : Int) = 95) = False := eq_false (by omega)
        have hk : okChar c = false := by unfold okChar; simp; omega
        rw [hk] at hrec
        simp only [Bool.false_and] at hrec
        subst hrec
        simp [go_sem, e0, e24, e25, hlt', hlt, hbi, hwi, f0, f1, f2, f3]
      · have f0 : ((c : Int) < 97) = False := eq_false (by omega)
        have f1 : ((122 : Int) < c) = True := eq_true (by omega)
        have f2 : ((c : Int) < 48) = False := eq_false (by omega)
        have f3 : ((57 : Int) < c) = True := eq_true (by omega)
        have f4 : ((c : Int) = 95) = False := eq_false (by omega)
        have hk : okChar c = false := by unfold okChar; simp; omega
        rw [hk] at hrec
        simp only [Bool.false_and] at hrec
        subst hrec
        simp [go_sem, e0, e24, e25, hlt', hlt, hbi, hwi, f0, f1, f2, f3, f4]
    · have hlt' : ((i : Int) < s.size) = False := eq_false (by omega)
      have : i = s.size := by omega
      subst this
      rw [List.drop_eq_nil_of_le (by omega)] at hrec
      simp at hrec
      subst hrec
      simp [go_sem, e0, e24, e25]
end
end Go.Proofs.YtgppogppdmbgmaaGreat
set_option linter.unusedVariables false
set_option linter.unusedSimpArgs false
set_option maxRecDepth 100000
namespace Go.Proofs.YtgppogppdmbgmaaGreat
open Go.ChangeShapes Go.WideShapes Go.ChangeAt Go.RowKit

theorem texts_of {st : Heap} {ys : List Value} {xs : List ByteArray} (hl : ys.length = xs.length) (h : ∀ i x, xs[i]? = some x → TextAt st ((ys.drop (i * 1)).take 1) x) : ys = xs.map .string := by
  apply List.ext_getElem?
  intro i
  by_cases hi : i < xs.length
  · have h1 := (h i xs[i] (List.getElem?_eq_getElem hi)).1
    have h2 : ys[i]? = some (.string xs[i]) := by
      have := congrArg (·[0]?) h1
      simpa using this
    rw [h2]; simp [hi]
  · rw [List.getElem?_eq_none (by omega), List.getElem?_eq_none (by simp; omega)]
theorem kids_of {st : Heap} : ∀ (xs : List Mat) (ys : List Value), ys.length = xs.length * 5 → (∀ i x, xs[i]? = some x → MatAt st ((ys.drop (i * 5)).take 5) x) → KidsAt st ys xs
  | [], ys, hl, _ => by unfold KidsAt; exact List.eq_nil_of_length_eq_zero (by simpa using hl)
  | m :: ms, ys, hl, h => by
    unfold KidsAt
    simp only [List.length_cons] at hl
    refine ⟨by omega, by simpa using h 0 m rfl, kids_of ms _ (by rw [List.length_drop]; omega) fun i x hi => ?_⟩
    have := h (i + 1) x (by simpa using hi)
    rw [List.drop_drop]
    rwa [show 5 + i * 5 = (i + 1) * 5 by omega]
end Go.Proofs.YtgppogppdmbgmaaGreat
