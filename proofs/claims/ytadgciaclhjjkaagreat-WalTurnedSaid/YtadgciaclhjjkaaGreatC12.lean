/- The file system: its directory, its turns, a new one, a new file. -/
import Derived.Test.YtadgciaclhjjkaaGreatC11
set_option linter.unusedVariables false
set_option linter.unusedSimpArgs false
set_option maxRecDepth 100000
namespace Go.Proofs.YtadgciaclhjjkaaGreat
open Go.RowKit (Below)

abbrev Dir := List (ByteArray × Nat)
def afind (k : ByteArray) : Dir → Nat → Option (Nat × Nat)
  | [], _ => none
  | e :: l, i => if (k == e.1) = true then some (i, e.2) else afind k l (i + 1)
def aget (l : Dir) (k : ByteArray) : Option Nat := (afind k l 0).map (·.2)
def aset (l : Dir) (k : ByteArray) (x : Nat) : Dir := match afind k l 0 with | some (j, _) => l.set j (k, x) | none => l ++ [(k, x)]
def adel (l : Dir) (k : ByteArray) : Dir := match afind k l 0 with | some (j, _) => l.eraseIdx j | none => l
theorem afind_mem {k : ByteArray} : ∀ {l : Dir} {i : Nat} {p : Nat × Nat}, afind k l i = some p → ∃ e ∈ l, e.2 = p.2
  | [], i, p, h => by cases h
  | e :: l, i, p, h => by
    unfold afind at h
    split at h
    · injection h with h; subst h; exact ⟨e, by simp, rfl⟩
    · obtain ⟨x, h1, h2⟩ := afind_mem h; exact ⟨x, by simp [h1], h2⟩
theorem aset_mem {l : Dir} {k : ByteArray} {x : Nat} {p : ByteArray × Nat} (h : p ∈ aset l k x) : p ∈ l ∨ p.2 = x := by
  unfold aset at h
  split at h
  · rcases List.mem_or_eq_of_mem_set h with h | h
    · exact .inl h
    · exact .inr (by rw [h])
  · rcases List.mem_append.1 h with h | h
    · exact .inl h
    · exact .inr (by simp at h; rw [h])
theorem adel_mem {l : Dir} {k : ByteArray} {p : ByteArray × Nat} (h : p ∈ adel l k) : p ∈ l := by
  unfold adel at h
  split at h
  · exact List.mem_of_mem_eraseIdx h
  · exact h
def encM (ad : Nat → Nat) (l : Dir) : KV := l.map fun p => (.string p.1, ptr (ad p.2))
theorem mfind_encM (ad : Nat → Nat) (k : ByteArray) : ∀ (l : Dir) (i : Nat), mfind .string (.string k) (encM ad l) i = some ((afind k l i).map fun p => (p.1, ptr (ad p.2)))
  | [], i => rfl
  | e :: l, i => by
    have hs : Instr.sameNow .string (.string k) (.string e.1) = some (k == e.1) := rfl
    show (match Instr.sameNow .string (.string k) (.string e.1) with | some true => _ | some false => _ | none => _) = _
    rw [hs]
    unfold afind
    cases h : k == e.1 with
    | true => simp
    | false => simp only [Bool.false_eq_true, if_false]; exact mfind_encM ad k l (i + 1)
theorem mset_encM (ad : Nat → Nat) (l : Dir) (k : ByteArray) (x : Nat) : mset .string (.string k) (ptr (ad x)) (encM ad l) = some (encM ad (aset l k x)) := by
  unfold mset aset
  rw [mfind_encM]
  cases h : afind k l 0 with
  | none => simp [encM]
  | some p => simp [encM, List.map_set]
theorem mdel_encM (ad : Nat → Nat) (l : Dir) (k : ByteArray) : mdel .string (.string k) (encM ad l) = some (encM ad (adel l k)) := by
  unfold mdel adel
  rw [mfind_encM]
  cases h : afind k l 0 with
  | none => simp [encM]
  | some p => simp [encM, eraseIdx_map']
def VTurn.does (t : VTurn) (l : Dir) : Option Dir :=
  if t.kind = 0 then t.file.map fun i => aset l t.name i
  else if t.kind = 1 then (aget l t.name).map fun i => aset (adel l t.name) t.to i
  else if t.kind = 2 then some (adel l t.name)
  else some l
def encT (ad : Nat → Nat) (t : VTurn) : List Value := [Val.i t.kind, .string t.name, .string t.to, .pointer (t.file.map fun i => ⟨ad i, 0, none⟩)]

section
variable {W0 : World} {st : Heap} {R : Ending → Heap → Prop}
theorem does_spec {m : Nat} {g : Tg} {ad : Nat → Nat} {l l' : Dir} {t : VTurn} (hm : st m = some (.map g (encM ad l))) (ht : t.does l = some l') :
    ICalls Tryz.prog W0 98 #[.agg (encT ad t).toArray, .map (some m)] st fun e st' => e = .returned (.tuple #[]) ∧ st' = upd st m (.map g (encM ad l')) := by
  refine ICalls.post (enter (args := [_, _]) Tryz.func98 rfl ?_)
  obtain ⟨kind, name, to, file⟩ := t
  simp [Tryz.f98, go_sem, encT]
  unfold NewP
  intro b hb
  refine ⟨.ty 0, ?_⟩
  have hmb := ne_of_new hm hb
  simp [go_sem, hmb, hm]
  have fin : ∀ x, Heap.Le (upd st m (.map g (encM ad l'))) (upd (upd st b x) m (.map g (encM ad l'))) := fun x => .upd' _ _ (.drop hb)
  have hbm := Ne.symm hmb
  unfold VTurn.does at ht
  simp only at ht
  by_cases h0 : kind = 0
  · rw [if_pos h0] at ht ⊢
    obtain ⟨i, rfl, rfl⟩ := Option.map_eq_some_iff.1 ht
    have := mset_encM ad l name i
    simp only [ptr] at this
    simp [go_sem, this]
    exact fin _
  · rw [if_neg h0] at ht ⊢
    by_cases h1 : kind = 1
    · rw [if_pos h1] at ht
      obtain ⟨i, hi, rfl⟩ := Option.map_eq_some_iff.1 ht
      unfold aget at hi
      obtain ⟨p, hp, rfl⟩ := Option.map_eq_some_iff.1 hi
      have hset := mset_encM ad (adel l name) to p.2
      simp only [ptr] at hset
      simp [go_sem, h1, hmb, hbm, hm, mfind_encM, hp, mdel_encM, hset]
      exact fin _
    · rw [if_neg h1] at ht
      by_cases h2 : kind = 2
      · rw [if_pos h2] at ht
        injection ht with ht
        simp [go_sem, h0, h1, h2, hmb, hm, mdel_encM]
        subst ht
        exact fin _
      · rw [if_neg h2] at ht
        injection ht with ht
        subst ht
        simp [go_sem, h0, h1, h2]
        rw [upd_self hm]
        exact .drop hb
def okName (n : ByteArray) : Bool := decide (1 ≤ n.size) && decide (n.size ≤ 64)
theorem named_spec {v : Value} {names : List ByteArray} (hv : srcCells 1 st v = some (names.length, names.map .string)) (hs : ∃ b c, v = .slice b names.length c) (hn : names.length < 2 ^ 40) :
    ICalls Tryz.prog W0 79 #[v] st fun e st' => e = .returned (.bool (names.all okName)) ∧ st' = st := by
  refine enter (args := [_]) Tryz.func79 rfl ?_
  obtain ⟨b, c, rfl⟩ := hs
  simp [Tryz.f79, go_sem]
  refine ⟨fun E st' => st' = st ∧ E 5 = .slice b names.length c ∧ E 6 = Val.i names.length ∧ ∃ i, i ≤ names.length ∧ E 7 = Val.i i ∧ (names.take i).all okName = true,
    fun E _ => match E 7 with | .int _ i => names.length - i.toNat | _ => 0, ⟨st, .rfl' st, rfl, by simp [go_sem], by simp [go_sem], 0, Nat.zero_le _, by simp [go_sem], by simp⟩, ?_⟩
  rintro E st' ⟨rfl, h5, h6, i, hi, h7, hall⟩
  simp [go_sem, h5, h6, h7]
  by_cases hlt : i < names.length
  · rw [if_pos hlt]
    obtain ⟨b0, off, rfl, hat⟩ := src_get hv (by omega)
    have hat := hat i (by omega)
    have hg : (names.map Value.string)[i]? = some (.string names[i]) := by simp [hlt]
    rw [hg] at hat
    have hat := hat
    have hb0 : okName names[i] = (decide (1 ≤ names[i].size) && decide (names[i].size ≤ 64)) := rfl
    by_cases h1 : (names[i].size : Int) < 1
    · have hf : okName names[i] = false := by rw [hb0]; simp; omega
      simp [go_sem, hlt, hat, h1, h5, h6, h7]
      exact ⟨_, List.getElem_mem hlt, hf⟩
    · have h1' : (1 : Int) ≤ names[i].size := by omega
      by_cases h2 : (64 : Int) < names[i].size
      · have hf : okName names[i] = false := by rw [hb0]; simp; omega
        simp [go_sem, hlt, hat, h1, h1', h2, h5, h6, h7]
        exact ⟨_, List.getElem_mem hlt, hf⟩
      · have hf : okName names[i] = true := by rw [hb0]; simp; omega
        simp [go_sem, hlt, hat, h1, h1', h2, h5, h6, h7]
        rw [wrap_id (by omega) (by omega)]
        refine ⟨_, .rfl' _, ⟨rfl, i + 1, hlt, by simp, ?_⟩, by omega⟩
        intro x hx
        rw [List.take_add_one] at hx
        rcases List.mem_append.1 hx with hx | hx
        · exact List.all_eq_true.1 hall x hx
        · rw [List.getElem?_eq_getElem hlt] at hx
          simp at hx
          rw [hx]; exact hf
  · rw [if_neg hlt]
    have : i = names.length := by omega
    subst this
    rw [List.take_length] at hall
    have h' : names.all okName = true := hall
    simpa using hall
end
end Go.Proofs.YtadgciaclhjjkaaGreat
set_option linter.unusedVariables false
set_option linter.unusedSimpArgs false
set_option maxRecDepth 100000
namespace Go.Proofs.YtadgciaclhjjkaaGreat
open Go.RowKit (Below)

def VFS.ok (S : VFS) : Prop := (∀ p ∈ S.sure, p.2 < S.files.length) ∧ (∀ p ∈ S.now, p.2 < S.files.length) ∧ (∀ t ∈ S.turns, ∀ i, t.file = some i → i < S.files.length)
def FSAt (st : Heap) (f : Nat) (S : VFS) : Prop := ∃ sm nm tv ad, st f = some (.cells true (fsC sm nm tv S.files.length S.c) 9 (.own f 0 0)) ∧ st sm = some (.map (.own f 0 5) (encM ad S.sure)) ∧ st nm = some (.map (.own f 0 6) (encM ad S.now)) ∧
  Vec st (.own f 0 7) 4 tv (S.turns.flatMap (encT ad)) S.turns.length ∧ (∀ (i : Nat) (F : VFile), S.files[i]? = some F → FileAt st f i (ad i) F) ∧ S.ok
theorem FSAt.keep {st st' : Heap} {f : Nat} {S : VFS} {p : Tg → Prop} (hk : Keep p st st') (hp : ∀ x r, p (.own f x r)) (h : FSAt st f S) : FSAt st' f S := by
  obtain ⟨sm, nm, tv, ad, h1, h2, h3, h4, h5, h6⟩ := h
  exact ⟨sm, nm, tv, ad, hk.get h1 (hp _ _), hk.getM h2 (hp _ _), hk.getM h3 (hp _ _), h4.keep hk (hp _ _), fun i F hi => (h5 i F hi).keep hk (fun r _ _ => hp i r), h6⟩
/-- Nothing but this file system's is changed. -/
abbrev Out (f : Nat) (g : Tg) : Prop := ∀ x r, g ≠ .own f x r

section
variable {W0 : World} {st : Heap}
theorem turned_spec {f sm nm : Nat} {tv : Value} {born : Int} {c : Ctl} {ad : Nat → Nat} {ts : List VTurn} {now now' : Dir} {t : VTurn} (h1 : st f = some (.cells true (fsC sm nm tv born c) 9 (.own f 0 0)))
    (h3 : st nm = some (.map (.own f 0 6) (encM ad now))) (h4 : Vec st (.own f 0 7) 4 tv (ts.flatMap (encT ad)) ts.length) (hs : ts.length < 2 ^ 40) (ht : t.does now = some now') :
    ICalls Tryz.prog W0 150 #[ptr f, .agg (encT ad t).toArray] st fun e st' => e = .returned (.tuple #[]) ∧ ∃ tv', st' f = some (.cells true (fsC sm nm tv' born c) 9 (.own f 0 0)) ∧ st' nm = some (.map (.own f 0 6) (encM ad now')) ∧
      Vec st' (.own f 0 7) 4 tv' ((ts ++ [t]).flatMap (encT ad)) (ts ++ [t]).length ∧ Keep (fun g => g ≠ .own f 0 0 ∧ g ≠ .own f 0 6 ∧ g ≠ .own f 0 7) st st' := by
  refine enter (args := [_, _]) Tryz.func150 rfl ?_
  obtain ⟨base, cap, rfl⟩ := h4.slice
  simp [Tryz.f150, go_sem, encT]
  unfold NewP
  intro b0 hb0
  refine ⟨.ty 0, ?_⟩
  simp [go_sem]
  refine draw [0, 1, 2, 3, 4, 5, 6, 7, 8, 9, 10] (by kernel_rfl) ?_
  have hf0 := ne_of_new h1 hb0
  have k1 : Keep (fun _ => True) st (upd st b0 (.cells true [Val.i t.kind, .string t.name, .string t.to, .pointer (t.file.map fun i => ⟨ad i, 0, none⟩)] 4 (.ty 0))) := Keep.rfl'.new hb0
  simp [go_sem, hf0, h1, fsC]
  unfold NewS
  intro b1 hb1
  refine ⟨.ty 0, ?_⟩
  have h1b := k1.get h1 trivial
  have hf1 := ne_of_new h1b hb1
  have hb01 : b0 ≠ b1 := ne_of_new (upd_same st b0 _) hb1
  simp [go_sem, hf0, hf1, hb01, h1, fsC]
  have k2 := Keep.new (p := fun _ => True) (o := .cells true [Val.i t.kind, .string t.name, .string t.to, .pointer (t.file.map fun i => ⟨ad i, 0, none⟩)] 4 (.ty 0)) k1 hb1
  refine AppI_vec (g := .own f 0 7) (m := 1) (ys := encT ad t) si147 (h4.keep k2 trivial) ?_ (by simp [Value.oneCell', encT]) (by omega) ?_
  · simp [srcCells, lkN_mk, upd_same, cellsOf, encT]
  intro s2 c2 st2 hv2 he2
  have k3 : Keep (fun g => g ≠ .own f 0 7) st st2 := (k2.imp (fun _ _ => trivial)).trans (he2.toKeep (by simp))
  have h1c := k3.get h1 (by simp)
  have h0c := (he2.toKeep (p := fun g => g ≠ .own f 0 7) (by simp)).get (((Keep.rfl' (p := fun _ => True)).new hb1).get (upd_same st b0 _) trivial) (by simp)
  simp [go_sem, h1c, fsC]
  refine draw [1, 2, 3, 0, 4, 5] (by kernel_rfl) ?_
  have hb0f : b0 ≠ f := Ne.symm hf0
  simp [go_sem, h1c, fsC, hb0f, h0c]
  have k4 : Keep (fun g => g ≠ .own f 0 0) st2 (upd st2 f (.cells true (fsC sm nm (.slice s2 (ts.length + 1) c2) born c) 9 (.own f 0 0))) := Keep.rfl'.old h1c (by simp [HObj.tag])
  have h3c := k4.getM (k3.getM h3 (by simp)) (by simp)
  refine ICalls.mono (does_spec (t := t) h3c ht) ?_
  rintro e st3 ⟨rfl, rfl⟩
  have k5 : Keep (fun g => g ≠ .own f 0 6) _ (upd (upd st2 f (.cells true (fsC sm nm (.slice s2 (ts.length + 1) c2) born c) 9 (.own f 0 0))) nm (.map (.own f 0 6) (encM ad now'))) := Keep.rfl'.old h3c (by simp [HObj.tag])
  simp [go_sem]
  refine ⟨_, k5.get (upd_same _ _ _) (by simp), ?_, ?_⟩
  · exact (hv2.keep k4 (by simp)).keep k5 (by simp)
  · exact ((k3.imp (fun g h => h.2.2)).trans (k4.imp (fun g h => h.1))).trans (k5.imp (fun g h => h.2.1))
theorem find_spec {f sm nm : Nat} {tv : Value} {born : Int} {c : Ctl} {ad : Nat → Nat} {now : Dir} {n : ByteArray} (h1 : st f = some (.cells true (fsC sm nm tv born c) 9 (.own f 0 0)))
    (h3 : st nm = some (.map (.own f 0 6) (encM ad now))) :
    ICalls Tryz.prog W0 151 #[ptr f, .string n] st fun e st' => e = .returned (if okName n then (match aget now n with | some i => .tuple #[ptr (ad i), Val.i 0] | none => .tuple #[.pointer none, Val.i 3]) else .tuple #[.pointer none, Val.i 1]) ∧ st' = st := by
  refine ICalls.post (enter (args := [_, _]) Tryz.func151 rfl ?_)
  simp [Tryz.f151, go_sem]
  unfold NewS
  intro b hb
  refine ⟨.ty 0, ?_⟩
  have hf := ne_of_new h1 hb
  have hn := ne_of_new h3 hb
  simp [go_sem]
  refine ICalls.mono (named_spec (names := [n]) (by simp [srcCells, lkN_mk, upd_same, cellsOf]) ⟨_, _, rfl⟩ (by simp)) ?_
  rintro e st1 ⟨rfl, rfl⟩
  simp [go_sem]
  cases hk : okName n with
  | false => simp [go_sem]; exact .drop hb
  | true =>
    unfold aget
    cases hg : afind n now 0 with
    | none => simp [go_sem, hf, hn, h1, h3, fsC, mfind_encM, hg]; exact .drop hb
    | some p => simp [go_sem, hf, hn, h1, h3, fsC, mfind_encM, hg]; exact .drop hb
end
end Go.Proofs.YtadgciaclhjjkaaGreat
set_option linter.unusedVariables false
set_option linter.unusedSimpArgs false
set_option maxRecDepth 100000
namespace Go.Proofs.YtadgciaclhjjkaaGreat
open Go.RowKit (Below)

def VFS.new : VFS := ⟨[], [], [], [], ⟨0, false, 0, 0, false⟩⟩
def VFS.ctl (S : VFS) (c : Ctl) : VFS := { S with c := c }
def VFile.app (F : VFile) (b : Bs) : VFile := { F with pend := F.pend ++ [⟨false, 0, b⟩], now := F.now ++ b }
def VFS.create (S : VFS) (n : ByteArray) : Int × VFS :=
  if S.c.call.1 ≠ 0 then (S.c.call.1, S.ctl S.c.call.2)
  else if okName n = false then (1, S.ctl S.c.call.2)
  else if aget S.now n = none ∧ 1024 ≤ S.now.length then (2, S.ctl S.c.call.2)
  else (0, { sure := S.sure, now := aset S.now n S.files.length, turns := S.turns ++ [⟨0, n, ⟨#[]⟩, some S.files.length⟩], files := S.files ++ [⟨S.files.length, [], [], []⟩], c := S.c.call.2 })
section
variable {W0 : World} {st : Heap}
theorem FSAt.ctl' {f sm nm : Nat} {tv : Value} {ad : Nat → Nat} {S : VFS} (h1 : st f = some (.cells true (fsC sm nm tv S.files.length S.c) 9 (.own f 0 0))) (h2 : st sm = some (.map (.own f 0 5) (encM ad S.sure))) (h3 : st nm = some (.map (.own f 0 6) (encM ad S.now)))
    (h4 : Vec st (.own f 0 7) 4 tv (S.turns.flatMap (encT ad)) S.turns.length) (h5 : ∀ (i : Nat) (F : VFile), S.files[i]? = some F → FileAt st f i (ad i) F) (h6 : S.ok) (c : Ctl) :
    let st' := upd st f (.cells true (fsC sm nm tv S.files.length c) 9 (.own f 0 0))
    Keep (fun g => g ≠ .own f 0 0) st st' ∧ FSAt st' f (S.ctl c) ∧ st' f = some (.cells true (fsC sm nm tv S.files.length c) 9 (.own f 0 0)) ∧ st' sm = some (.map (.own f 0 5) (encM ad S.sure)) ∧ st' nm = some (.map (.own f 0 6) (encM ad S.now)) ∧
      Vec st' (.own f 0 7) 4 tv (S.turns.flatMap (encT ad)) S.turns.length ∧ (∀ (i : Nat) (F : VFile), S.files[i]? = some F → FileAt st' f i (ad i) F) := by
  intro st'
  have k : Keep (fun g => g ≠ .own f 0 0) st st' := Keep.rfl'.old h1 (by simp [HObj.tag])
  have a1 : st' f = some (.cells true (fsC sm nm tv S.files.length c) 9 (.own f 0 0)) := upd_same _ _ _
  have a2 := k.getM h2 (by simp)
  have a3 := k.getM h3 (by simp)
  have a4 := h4.keep k (by simp)
  have a5 : ∀ (i : Nat) (F : VFile), S.files[i]? = some F → FileAt st' f i (ad i) F := by
    intro i F hi
    obtain ⟨sv, pv, nv, us, b1, b2, b3, b4, b5⟩ := h5 i F hi
    exact ⟨sv, pv, nv, us, k.get b1 (by simp), b2.keep k (by simp), unitsAt.keep k (by simp) _ _ b3, b4.keep k (by simp), b5.keep k (by simp)⟩
  exact ⟨k, ⟨sm, nm, tv, ad, a1, a2, a3, a4, a5, h6⟩, a1, a2, a3, a4, a5⟩
theorem New_spec : ICalls Tryz.prog W0 31 #[] st fun e st' => ∃ f, e = .returned (ptr f) ∧ st f = none ∧ FSAt st' f .new ∧ Keep (fun _ => True) st st' := by
  refine ICalls.post (enter (args := []) Tryz.func31 rfl ?_)
  simp [Tryz.f31, go_sem]
  unfold NewM
  intro sm hsm
  refine ⟨.ty 0, ?_⟩
  simp [go_sem]
  unfold NewM
  intro nm hnm
  refine ⟨.ty 0, ?_⟩
  simp [go_sem]
  unfold NewP
  intro f hf
  refine ⟨.own f 0 0, ?_⟩
  simp [go_sem]
  have hsf : st f = none := by
    by_cases e1 : f = nm
    · subst e1; rw [upd_same] at hf; cases hf
    · rw [upd_ne _ _ e1] at hf
      by_cases e2 : f = sm
      · subst e2; rw [upd_same] at hf; cases hf
      · rwa [upd_ne _ _ e2] at hf
  have e1 : sm ≠ nm := ne_of_new (upd_same st sm _) hnm
  have e2 : nm ≠ f := ne_of_new (upd_same _ nm _) hf
  have e3 : sm ≠ f := ne_of_new ((upd_ne _ _ e1).trans (upd_same st sm _)) hf
  have hnm' : st nm = none := by rwa [upd_ne _ _ (Ne.symm e1)] at hnm
  generalize hst2 : (upd (upd (upd st sm (HObj.map (Tg.ty 0) [])) nm (HObj.map (Tg.ty 0) [])) f _ : Heap) = st2
  have b1 : st2 sm = some (.map (.ty 0) []) := by rw [← hst2, upd_ne _ _ e3, upd_ne _ _ e1, upd_same]
  have b2 : st2 nm = some (.map (.ty 0) []) := by rw [← hst2, upd_ne _ _ e2, upd_same]
  have b3 : st2 f = some (.cells true (fsC sm nm (.slice none 0 0) 0 ⟨0, false, 0, 0, false⟩) 9 (.own f 0 0)) := by rw [← hst2, upd_same]; rfl
  have b4 : Keep (fun _ => True) st st2 := by rw [← hst2]; exact (((Keep.rfl').new hsm).new hnm).new hf
  have b5 : (upd st2 sm (.map (.own f 0 5) [])) nm = some (.map (.ty 0) []) := by rw [upd_ne _ _ (Ne.symm e1), b2]
  refine ⟨upd (upd st2 sm (.map (.own f 0 5) [])) nm (.map (.own f 0 6) []), (Heap.Le.retagM b5).trans (.retagM b1), hsf, ?_, ?_⟩
  · refine ⟨sm, nm, .slice none 0 0, fun _ => 0, ?_, ?_, upd_same _ _ _, ?_, ?_, ?_⟩
    · rw [upd_ne _ _ (Ne.symm e2), upd_ne _ _ (Ne.symm e3), b3]; rfl
    · rw [upd_ne _ _ e1, upd_same]; rfl
    · exact Vec.nil
    · intro i F h; cases h
    · exact ⟨by simp [VFS.new], by simp [VFS.new], by simp [VFS.new]⟩
  · intro k o g hk ht hp
    have h1 := b4 k o g hk ht hp
    rw [upd_ne _ _ (by rintro rfl; rw [hnm'] at hk; cases hk), upd_ne _ _ (by rintro rfl; rw [hsm] at hk; cases hk)]
    exact h1
end
end Go.Proofs.YtadgciaclhjjkaaGreat
set_option linter.unusedVariables false
set_option linter.unusedSimpArgs false
set_option maxRecDepth 100000
namespace Go.Proofs.YtadgciaclhjjkaaGreat
open Go.RowKit (Below)

def VFS.small (S : VFS) : Prop := S.turns.length < 2 ^ 40 ∧ S.files.length < 2 ^ 40 ∧ ∀ F ∈ S.files, F.pend.length < 2 ^ 40 ∧ F.now.length < 2 ^ 40 ∧ F.sure.length < 2 ^ 40
theorem encM_congr {ad ad' : Nat → Nat} {l : Dir} (h : ∀ p ∈ l, ad p.2 = ad' p.2) : encM ad l = encM ad' l := List.map_congr_left fun p hp => by rw [h p hp]
theorem encT_congr {ad ad' : Nat → Nat} {l : List VTurn} (h : ∀ t ∈ l, ∀ i, t.file = some i → ad i = ad' i) : l.flatMap (encT ad) = l.flatMap (encT ad') := by
  induction l with
  | nil => rfl
  | cons t l ih =>
    simp only [List.flatMap_cons]
    rw [ih (fun t' ht' => h t' (List.mem_cons_of_mem _ ht'))]
    congr 1
    unfold encT
    cases hf : t.file with
    | none => rfl
    | some i => simp [h t (by simp) i hf]
section
variable {W0 : World} {st : Heap}
theorem Create_spec {f : Nat} {S : VFS} {n : ByteArray} (h : FSAt st f S) (hs : S.small) : ICalls Tryz.prog W0 85 #[ptr f, .string n] st fun e st' => e = .returned (Val.i (S.create n).1) ∧ FSAt st' f (S.create n).2 ∧ Keep (Out f) st st' := by
  obtain ⟨sm, nm, tv, ad, h1, h2, h3, h4, h5, h6⟩ := h
  refine enter (args := [_, _]) Tryz.func85 rfl ?_
  simp [Tryz.f85, go_sem]
  refine call_spec h1 ?_
  obtain ⟨k0, hfs, h1, h2, h3, h4, h5⟩ := FSAt.ctl' h1 h2 h3 h4 h5 h6 S.c.call.2
  generalize hst1 : upd st f _ = st1 at *
  have k0' : Keep (Out f) st st1 := k0.imp fun g h => h 0 0
  unfold VFS.create
  simp [go_sem]
  by_cases hc : S.c.call.1 = 0
  · simp [hc, go_sem]
    unfold NewS
    intro b hb
    refine ⟨.ty 0, ?_⟩
    have hbf := ne_of_new h1 hb
    have hbn := ne_of_new h3 hb
    simp [go_sem]
    refine ICalls.mono (named_spec (names := [n]) (by simp [srcCells, lkN_mk, upd_same, cellsOf]) ⟨_, _, rfl⟩ (by simp)) ?_
    rintro e st2 ⟨rfl, rfl⟩
    have k1 : Keep (fun _ => True) st1 (upd st1 b (.cells true [.string n] 1 (.ty 0))) := Keep.rfl'.new hb
    simp [go_sem]
    cases hk : okName n with
    | false =>
      simp [go_sem]
      exact ⟨hfs.keep k1 (fun _ _ => trivial), k0'.trans (k1.imp fun _ _ => trivial)⟩
    | true =>
      have hlen : (encM ad S.now).length = S.now.length := by simp [encM]
      by_cases hfull : afind n S.now 0 = none ∧ 1024 ≤ S.now.length
      · have hf2 : (1024 : Int) ≤ S.now.length := by omega
        simp [go_sem, hbf, hbn, h1, h3, fsC, mfind_encM, aget, hfull, hlen, hf2]
        exact ⟨hfs.keep k1 (fun _ _ => trivial), k0'.trans (k1.imp fun _ _ => trivial)⟩
      · have hno : ¬ (afind n S.now 0 = none ∧ (1024 : Int) ≤ S.now.length) := by rintro ⟨x, y⟩; exact hfull ⟨x, by omega⟩
        have hmodel : (aget S.now n = none ∧ 1024 ≤ S.now.length) = False := by simp [aget]; intro x; by_cases y : 1024 ≤ S.now.length; exact absurd ⟨x, y⟩ hfull; omega
        simp only [hmodel, if_false]
        cases hg : afind n S.now 0 with
        | none =>
          have hlt : ¬ (1024 : Int) ≤ S.now.length := fun h => hno ⟨hg, h⟩
          simp [go_sem, hbf, hbn, h1, h3, fsC, mfind_encM, hg, hlen, hlt]
          unfold NewP
          intro a ha
          refine ⟨.own f S.files.length 1, ?_⟩
          simp [go_sem]
          have k2 : Keep (fun _ => True) st1 (upd (upd st1 b (.cells true [.string n] 1 (.ty 0))) a (.cells true [Val.i S.files.length, .slice none 0 0, .slice none 0 0, .slice none 0 0] 4 (.own f S.files.length 1))) := k1.new ha
          have ha' := upd_same (upd st1 b (.cells true [.string n] 1 (.ty 0))) a (.cells true [Val.i S.files.length, .slice none 0 0, .slice none 0 0, .slice none 0 0] 4 (.own f S.files.length 1))
          generalize hst3 : upd (upd st1 b _) a _ = st3 at *
          obtain ⟨ad', had⟩ : ∃ ad' : Nat → Nat, ad' = fun i => if i = S.files.length then a else ad i := ⟨_, rfl⟩
          have ead : ∀ i, i < S.files.length → ad i = ad' i := fun i hi => by rw [had]; simp [Nat.ne_of_lt hi]
          have eat : ad' S.files.length = a := by rw [had]; simp
          have e1 := encM_congr (l := S.now) fun p hp => ead p.2 (h6.2.1 p hp)
          have e2 := encM_congr (l := S.sure) fun p hp => ead p.2 (h6.1 p hp)
          have e3 := encT_congr (l := S.turns) fun t ht i hi => ead i (h6.2.2 t ht i hi)
          rw [e1] at h3
          rw [e2] at h2
          rw [e3] at h4
          have hT := turned_spec (W0 := W0) (t := ⟨0, n, ⟨#[]⟩, some S.files.length⟩) (now' := aset S.now n S.files.length) (k2.get h1 trivial) (k2.getM h3 trivial) (h4.keep k2 trivial) hs.1 (by simp [VTurn.does])
          simp [encT, eat] at hT
          refine ICalls.mono hT ?_
          rintro e st4 ⟨rfl, tv', c1, c3, c4, k3⟩
          simp [go_sem, c1, fsC]
          have hlen1 : ((S.files ++ [(⟨S.files.length, [], [], []⟩ : VFile)]).length : Int) = S.files.length + 1 := by simp
          have hfl := hs.2.1
          rw [wrap_id (by omega) (by omega)]
          have k4 : Keep (fun g => g ≠ .own f 0 0) st4 (upd st4 f (.cells true (fsC sm nm tv' (S.files.length + 1) S.c.call.2) 9 (.own f 0 0))) := Keep.rfl'.old c1 (by simp [HObj.tag])
          refine ⟨⟨sm, nm, tv', ad', ?_, ?_, ?_, ?_, ?_, ?_⟩, ?_⟩
          · rw [hlen1]; exact upd_same _ _ _
          · exact k4.getM (k3.getM (k2.getM h2 trivial) (by simp)) (by simp)
          · exact k4.getM c3 (by simp)
          · have := c4.keep k4 (by simp)
            simpa [encT, eat, fsC] using this
          · intro i F hi
            by_cases hlt : i < S.files.length
            · rw [List.getElem?_append_left hlt] at hi
              rw [← ead i hlt]
              exact (((h5 i F hi).keep k2 (fun _ _ _ => trivial)).keep k3 (by intro r h1 h2; simp; omega)).keep k4 (by intro r h1 h2; simp; omega)
            · rw [List.getElem?_append_right (by omega)] at hi
              have hi0 : i - S.files.length = 0 := by
                rcases Nat.eq_zero_or_pos (i - S.files.length) with h | h
                · exact h
                · rw [List.getElem?_eq_none (by simp; omega)] at hi; cases hi
              rw [hi0] at hi
              injection hi with hi
              have hii : i = S.files.length := by omega
              subst hi
              subst hii
              refine ⟨.slice none 0 0, .slice none 0 0, .slice none 0 0, [], ?_, Reg.nil, trivial, Vec.nil, Vec.nil⟩
              rw [eat]
              exact k4.get (k3.get ha' (by simp)) (by simp)
          · refine ⟨?_, ?_, ?_⟩
            · intro p hp; have := h6.1 p hp; simp; omega
            · intro p hp
              simp only [List.length_append, List.length_singleton]
              rcases aset_mem hp with hp | hp
              · have := h6.2.1 p hp; omega
              · omega
            · intro t ht i hi
              simp only [List.length_append, List.length_singleton]
              rcases List.mem_append.1 ht with ht | ht
              · have := h6.2.2 t ht i hi; omega
              · simp at ht; subst ht; simp at hi; omega
          · exact ((k0'.trans (k2.imp fun _ _ => trivial)).trans (k3.imp fun g h => ⟨h 0 0, h 0 6, h 0 7⟩)).trans (k4.imp fun g h => h 0 0)
        | some p =>
          simp [go_sem, hbf, hbn, h1, h3, fsC, mfind_encM, hg, hlen]
          unfold NewP
          intro a ha
          refine ⟨.own f S.files.length 1, ?_⟩
          simp [go_sem]
          have k2 : Keep (fun _ => True) st1 (upd (upd st1 b (.cells true [.string n] 1 (.ty 0))) a (.cells true [Val.i S.files.length, .slice none 0 0, .slice none 0 0, .slice none 0 0] 4 (.own f S.files.length 1))) := k1.new ha
          have ha' := upd_same (upd st1 b (.cells true [.string n] 1 (.ty 0))) a (.cells true [Val.i S.files.length, .slice none 0 0, .slice none 0 0, .slice none 0 0] 4 (.own f S.files.length 1))
          generalize hst3 : upd (upd st1 b _) a _ = st3 at *
          obtain ⟨ad', had⟩ : ∃ ad' : Nat → Nat, ad' = fun i => if i = S.files.length then a else ad i := ⟨_, rfl⟩
          have ead : ∀ i, i < S.files.length → ad i = ad' i := fun i hi => by rw [had]; simp [Nat.ne_of_lt hi]
          have eat : ad' S.files.length = a := by rw [had]; simp
          have e1 := encM_congr (l := S.now) fun p hp => ead p.2 (h6.2.1 p hp)
          have e2 := encM_congr (l := S.sure) fun p hp => ead p.2 (h6.1 p hp)
          have e3 := encT_congr (l := S.turns) fun t ht i hi => ead i (h6.2.2 t ht i hi)
          rw [e1] at h3
          rw [e2] at h2
          rw [e3] at h4
          have hT := turned_spec (W0 := W0) (t := ⟨0, n, ⟨#[]⟩, some S.files.length⟩) (now' := aset S.now n S.files.length) (k2.get h1 trivial) (k2.getM h3 trivial) (h4.keep k2 trivial) hs.1 (by simp [VTurn.does])
          simp [encT, eat] at hT
          refine ICalls.mono hT ?_
          rintro e st4 ⟨rfl, tv', c1, c3, c4, k3⟩
          simp [go_sem, c1, fsC]
          have hlen1 : ((S.files ++ [(⟨S.files.length, [], [], []⟩ : VFile)]).length : Int) = S.files.length + 1 := by simp
          have hfl := hs.2.1
          rw [wrap_id (by omega) (by omega)]
          have k4 : Keep (fun g => g ≠ .own f 0 0) st4 (upd st4 f (.cells true (fsC sm nm tv' (S.files.length + 1) S.c.call.2) 9 (.own f 0 0))) := Keep.rfl'.old c1 (by simp [HObj.tag])
          refine ⟨⟨sm, nm, tv', ad', ?_, ?_, ?_, ?_, ?_, ?_⟩, ?_⟩
          · rw [hlen1]; exact upd_same _ _ _
          · exact k4.getM (k3.getM (k2.getM h2 trivial) (by simp)) (by simp)
          · exact k4.getM c3 (by simp)
          · have := c4.keep k4 (by simp)
            simpa [encT, eat, fsC] using this
          · intro i F hi
            by_cases hlt : i < S.files.length
            · rw [List.getElem?_append_left hlt] at hi
              rw [← ead i hlt]
              exact (((h5 i F hi).keep k2 (fun _ _ _ => trivial)).keep k3 (by intro r h1 h2; simp; omega)).keep k4 (by intro r h1 h2; simp; omega)
            · rw [List.getElem?_append_right (by omega)] at hi
              have hi0 : i - S.files.length = 0 := by
                rcases Nat.eq_zero_or_pos (i - S.files.length) with h | h
                · exact h
                · rw [List.getElem?_eq_none (by simp; omega)] at hi; cases hi
              rw [hi0] at hi
              injection hi with hi
              have hii : i = S.files.length := by omega
              subst hi
              subst hii
              refine ⟨.slice none 0 0, .slice none 0 0, .slice none 0 0, [], ?_, Reg.nil, trivial, Vec.nil, Vec.nil⟩
              rw [eat]
              exact k4.get (k3.get ha' (by simp)) (by simp)
          · refine ⟨?_, ?_, ?_⟩
            · intro p hp; have := h6.1 p hp; simp; omega
            · intro p hp
              simp only [List.length_append, List.length_singleton]
              rcases aset_mem hp with hp | hp
              · have := h6.2.1 p hp; omega
              · omega
            · intro t ht i hi
              simp only [List.length_append, List.length_singleton]
              rcases List.mem_append.1 ht with ht | ht
              · have := h6.2.2 t ht i hi; omega
              · simp at ht; subst ht; simp at hi; omega
          · exact ((k0'.trans (k2.imp fun _ _ => trivial)).trans (k3.imp fun g h => ⟨h 0 0, h 0 6, h 0 7⟩)).trans (k4.imp fun g h => h 0 0)
  · simp [hc, go_sem]
    exact ⟨hfs, k0'⟩
end
end Go.Proofs.YtadgciaclhjjkaaGreat
