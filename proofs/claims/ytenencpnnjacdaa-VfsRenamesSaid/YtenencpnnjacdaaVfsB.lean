/- The file system: its directory, its turns, a new one, a new file. -/
import Derived.Test.YtenencpnnjacdaaVfsA
set_option linter.unusedVariables false
set_option linter.unusedSimpArgs false
set_option maxRecDepth 100000
namespace Go.Proofs.Ytenencpnnjacdaa
open Go.RowKit (Below)

abbrev Dir := List (ByteArray × Nat)
def afind (k : ByteArray) : Dir → Nat → Option (Nat × Nat)
  | [], _ => none
  | e :: l, i => if (k == e.1) = true then some (i, e.2) else afind k l (i + 1)
def aget (l : Dir) (k : ByteArray) : Option Nat := (afind k l 0).map (·.2)
def aset (l : Dir) (k : ByteArray) (x : Nat) : Dir := match afind k l 0 with | some (j, _) => l.set j (k, x) | none => l ++ [(k, x)]
def adel (l : Dir) (k : ByteArray) : Dir := match afind k l 0 with | some (j, _) => l.eraseIdx j | none => l
theorem afind_mem {k : ByteArray} : ∀ {l : Dir} {i : Nat} {p : Nat × Nat}, afind k l i = some p → ∃ e ∈ l, e.2 = p.2
  | [], i, p, h => by cases h
  | e :: l, i, p, h => by
    unfold afind at h
    split at h
    · injection h with h; subst h; exact ⟨e, by simp, rfl⟩
    · obtain ⟨x, h1, h2⟩ := afind_mem h; exact ⟨x, by simp [h1], h2⟩
theorem aset_mem {l : Dir} {k : ByteArray} {x : Nat} {p : ByteArray × Nat} (h : p ∈ aset l k x) : p ∈ l ∨ p.2 = x := by
  unfold aset at h
  split at h
  · rcases List.mem_or_eq_of_mem_set h with h | h
    · exact .inl h
    · exact .inr (by rw [h])
  · rcases List.mem_append.1 h with h | h
    · exact .inl h
    · exact .inr (by simp at h; rw [h])
theorem adel_mem {l : Dir} {k : ByteArray} {p : ByteArray × Nat} (h : p ∈ adel l k) : p ∈ l := by
  unfold adel at h
  split at h
  · exact List.mem_of_mem_eraseIdx h
  · exact h
def encM (ad : Nat → Nat) (l : Dir) : KV := l.map fun p => (.string p.1, ptr (ad p.2))
theorem mfind_encM (ad : Nat → Nat) (k : ByteArray) : ∀ (l : Dir) (i : Nat), mfind .string (.string k) (encM ad l) i = some ((afind k l i).map fun p => (p.1, ptr (ad p.2)))
  | [], i => rfl
  | e :: l, i => by
    have hs : Instr.sameNow .string (.string k) (.string e.1) = some (k == e.1) := rfl
    show (match Instr.sameNow .string (.string k) (.string e.1) with | some true => _ | some false => _ | none => _) = _
    rw [hs]
    unfold afind
    cases h : k == e.1 with
    | true => simp
    | false => simp only [Bool.false_eq_true, if_false]; exact mfind_encM ad k l (i + 1)
theorem mset_encM (ad : Nat → Nat) (l : Dir) (k : ByteArray) (x : Nat) : mset .string (.string k) (ptr (ad x)) (encM ad l) = some (encM ad (aset l k x)) := by
  unfold mset aset
  rw [mfind_encM]
  cases h : afind k l 0 with
  | none => simp [encM]
  | some p => simp [encM, List.map_set]
theorem mdel_encM (ad : Nat → Nat) (l : Dir) (k : ByteArray) : mdel .string (.string k) (encM ad l) = some (encM ad (adel l k)) := by
  unfold mdel adel
  rw [mfind_encM]
  cases h : afind k l 0 with
  | none => simp [encM]
  | some p => simp [encM, eraseIdx_map']
def VTurn.does (t : VTurn) (l : Dir) : Option Dir :=
  if t.kind = 0 then t.file.map fun i => aset l t.name i
  else if t.kind = 1 then (aget l t.name).map fun i => aset (adel l t.name) t.to i
  else if t.kind = 2 then some (adel l t.name)
  else some l
def encT (ad : Nat → Nat) (t : VTurn) : List Value := [Val.i t.kind, .string t.name, .string t.to, .pointer (t.file.map fun i => ⟨ad i, 0, none⟩)]

section
variable {W0 : World} {st : Heap} {R : Ending → Heap → Prop}
theorem does_spec {m : Nat} {g : Tg} {ad : Nat → Nat} {l l' : Dir} {t : VTurn} (hm : st m = some (.map g (encM ad l))) (ht : t.does l = some l') :
    ICalls Try.prog W0 76 #[.agg (encT ad t).toArray, .map (some m)] st fun e st' => e = .returned (.tuple #[]) ∧ st' = upd st m (.map g (encM ad l')) := by
  refine ICalls.post (enter (args := [_, _]) Try.func76 rfl ?_)
  obtain ⟨kind, name, to, file⟩ := t
  simp [Try.f76, go_sem, encT]
  unfold NewP
  intro b hb
  refine ⟨.ty 0, ?_⟩
  have hmb := ne_of_new hm hb
  simp [go_sem, hmb, hm]
  have fin : ∀ x, Heap.Le (upd st m (.map g (encM ad l'))) (upd (upd st b x) m (.map g (encM ad l'))) := fun x => .upd' _ _ (.drop hb)
  have hbm := Ne.symm hmb
  unfold VTurn.does at ht
  simp only at ht
  by_cases h0 : kind = 0
  · rw [if_pos h0] at ht ⊢
    obtain ⟨i, rfl, rfl⟩ := Option.map_eq_some_iff.1 ht
    have := mset_encM ad l name i
    simp only [ptr] at this
    simp [go_sem, this]
    exact fin _
  · rw [if_neg h0] at ht ⊢
    by_cases h1 : kind = 1
    · rw [if_pos h1] at ht
      obtain ⟨i, hi, rfl⟩ := Option.map_eq_some_iff.1 ht
      unfold aget at hi
      obtain ⟨p, hp, rfl⟩ := Option.map_eq_some_iff.1 hi
      have hset := mset_encM ad (adel l name) to p.2
      simp only [ptr] at hset
      simp [go_sem, h1, hmb, hbm, hm, mfind_encM, hp, mdel_encM, hset]
      exact fin _
    · rw [if_neg h1] at ht
      by_cases h2 : kind = 2
      · rw [if_pos h2] at ht
        injection ht with ht
        simp [go_sem, h0, h1, h2, hmb, hm, mdel_encM]
        subst ht
        exact fin _
      · rw [if_neg h2] at ht
        injection ht with ht
        subst ht
        simp [go_sem, h0, h1, h2]
        rw [upd_self hm]
        exact .drop hb
def okName (n : ByteArray) : Bool := decide (1 ≤ n.size) && decide (n.size ≤ 64)
theorem named_spec {v : Value} {names : List ByteArray} (hv : srcCells 1 st v = some (names.length, names.map .string)) (hs : ∃ b c, v = .slice b names.length c) (hn : names.length < 2 ^ 40) :
    ICalls Try.prog W0 71 #[v] st fun e st' => e = .returned (.bool (names.all okName)) ∧ st' = st := by
  refine enter (args := [_]) Try.func71 rfl ?_
  obtain ⟨b, c, rfl⟩ := hs
  simp [Try.f71, go_sem]
  refine ⟨fun E st' => st' = st ∧ E 5 = .slice b names.length c ∧ E 6 = Val.i names.length ∧ ∃ i, i ≤ names.length ∧ E 7 = Val.i i ∧ (names.take i).all okName = true,
    fun E _ => match E 7 with | .int _ i => names.length - i.toNat | _ => 0, ⟨st, .rfl' st, rfl, by simp [go_sem], by simp [go_sem], 0, Nat.zero_le _, by simp [go_sem], by simp⟩, ?_⟩
  rintro E st' ⟨rfl, h5, h6, i, hi, h7, hall⟩
  simp [go_sem, h5, h6, h7]
  by_cases hlt : i < names.length
  · rw [if_pos hlt]
    obtain ⟨b0, off, rfl, hat⟩ := src_get hv (by omega)
    have hat := hat i (by omega)
    have hg : (names.map Value.string)[i]? = some (.string names[i]) := by simp [hlt]
    rw [hg] at hat
    have hat := hat
    have hb0 : okName names[i] = (decide (1 ≤ names[i].size) && decide (names[i].size ≤ 64)) := rfl
    by_cases h1 : (names[i].size : Int) < 1
    · have hf : okName names[i] = false := by rw [hb0]; simp; omega
      simp [go_sem, hlt, hat, h1, h5, h6, h7]
      exact ⟨_, List.getElem_mem hlt, hf⟩
    · have h1' : (1 : Int) ≤ names[i].size := by omega
      by_cases h2 : (64 : Int) < names[i].size
      · have hf : okName names[i] = false := by rw [hb0]; simp; omega
        simp [go_sem, hlt, hat, h1, h1', h2, h5, h6, h7]
        exact ⟨_, List.getElem_mem hlt, hf⟩
      · have hf : okName names[i] = true := by rw [hb0]; simp; omega
        simp [go_sem, hlt, hat, h1, h1', h2, h5, h6, h7]
        rw [wrap_id (by omega) (by omega)]
        refine ⟨_, .rfl' _, ⟨rfl, i + 1, hlt, by simp, ?_⟩, by omega⟩
        intro x hx
        rw [List.take_add_one] at hx
        rcases List.mem_append.1 hx with hx | hx
        · exact List.all_eq_true.1 hall x hx
        · rw [List.getElem?_eq_getElem hlt] at hx
          simp at hx
          rw [hx]; exact hf
  · rw [if_neg hlt]
    have : i = names.length := by omega
    subst this
    rw [List.take_length] at hall
    have h' : names.all okName = true := hall
    simpa using hall
end
end Go.Proofs.Ytenencpnnjacdaa
