/- Directories as lists of names: sets of names, whatever the order. Plain. -/
import Derived.Test.YtmgbknkjgfdllaaVfsM
import Derived.Test.YtmgbknkjgfdllaaVfsK
import Derived.Test.YtmgbknkjgfdllaaSortD
set_option linter.unusedVariables false
set_option linter.unusedSimpArgs false
namespace Go.Proofs.Ytmgbknkjgfdllaa
theorem ba_eq_iff (a b : ByteArray) : ((a == b) = true) ↔ a = b := by
  cases a; cases b
  rename_i x y
  show ((x == y) = true) ↔ _
  simp
theorem afind_shift (k : ByteArray) : ∀ (l : Dir) (i n : Nat), afind k l (i + n) = (afind k l i).map fun p => (p.1 + n, p.2)
  | [], _, _ => rfl
  | e :: l, i, n => by
    unfold afind
    split
    · rfl
    · rw [show i + n + 1 = i + 1 + n by omega]; exact afind_shift k l (i + 1) n
theorem afind_cons (e : ByteArray × Nat) (l : Dir) (k : ByteArray) : afind k (e :: l) 0 = if k = e.1 then some (0, e.2) else (afind k l 0).map fun p => (p.1 + 1, p.2) := by
  conv => lhs; unfold afind
  by_cases h : k = e.1
  · rw [if_pos ((ba_eq_iff _ _).2 h), if_pos h]
  · rw [if_neg (by rw [ba_eq_iff]; exact h), if_neg h, afind_shift k l 0 1]
theorem aget_nil (k : ByteArray) : aget [] k = none := rfl
theorem aget_cons (e : ByteArray × Nat) (l : Dir) (k : ByteArray) : aget (e :: l) k = if k = e.1 then some e.2 else aget l k := by
  unfold aget
  rw [afind_cons]
  by_cases h : k = e.1
  · rw [if_pos h, if_pos h]; rfl
  · rw [if_neg h, if_neg h, Option.map_map]; rfl
theorem aset_nil (k : ByteArray) (x : Nat) : aset [] k x = [(k, x)] := rfl
theorem aset_cons (e : ByteArray × Nat) (l : Dir) (k : ByteArray) (x : Nat) : aset (e :: l) k x = if k = e.1 then (k, x) :: l else e :: aset l k x := by
  unfold aset
  rw [afind_cons]
  by_cases h : k = e.1
  · rw [if_pos h, if_pos h]; rfl
  · rw [if_neg h, if_neg h]
    cases afind k l 0 <;> rfl
theorem adel_nil (k : ByteArray) : adel [] k = [] := rfl
theorem adel_cons (e : ByteArray × Nat) (l : Dir) (k : ByteArray) : adel (e :: l) k = if k = e.1 then l else e :: adel l k := by
  unfold adel
  rw [afind_cons]
  by_cases h : k = e.1
  · rw [if_pos h, if_pos h]; rfl
  · rw [if_neg h, if_neg h]
    cases afind k l 0 <;> rfl
/-- Each name once. -/
abbrev Names (l : Dir) : Prop := (l.map (·.1)).Nodup
theorem Names.nodup {l : Dir} (h : Names l) : l.Nodup := (List.pairwise_map.1 h).imp fun h e => h (by rw [e])
theorem aget_iff {k : ByteArray} {x : Nat} : ∀ {l : Dir}, Names l → (aget l k = some x ↔ (k, x) ∈ l)
  | [], _ => by simp [aget_nil]
  | e :: l, h => by
    obtain ⟨h1, h2⟩ := List.nodup_cons.1 h
    rw [aget_cons, List.mem_cons]
    by_cases hk : k = e.1
    · rw [if_pos hk]
      constructor
      · intro h; injection h with h; subst h; left; cases e; simp at hk; rw [hk]
      · rintro (h | h)
        · rw [← h]
        · exact absurd (List.mem_map.2 ⟨_, h, hk⟩) h1
    · rw [if_neg hk, aget_iff h2]
      constructor
      · exact .inr
      · rintro (h | h)
        · rw [← h] at hk; exact absurd rfl hk
        · exact h
theorem aget_none {k : ByteArray} : ∀ {l : Dir}, aget l k = none ↔ ∀ x, (k, x) ∉ l
  | [] => by simp [aget_nil]
  | e :: l => by
    rw [aget_cons]
    by_cases hk : k = e.1
    · rw [if_pos hk]; simp; exact ⟨e.2, fun h => absurd (by rw [hk]) h⟩
    · rw [if_neg hk, aget_none]
      refine forall_congr' fun x => ?_
      rw [List.mem_cons]
      constructor
      · rintro h (h' | h')
        · rw [← h'] at hk; exact hk rfl
        · exact h h'
      · exact fun h h' => h (.inr h')
theorem mem_adel {k : ByteArray} {p : ByteArray × Nat} : ∀ {l : Dir}, Names l → (p ∈ adel l k ↔ p ∈ l ∧ p.1 ≠ k)
  | [], _ => by simp [adel_nil]
  | e :: l, h => by
    obtain ⟨h1, h2⟩ := List.nodup_cons.1 h
    rw [adel_cons, List.mem_cons]
    by_cases hk : k = e.1
    · rw [if_pos hk]
      constructor
      · intro hp; exact ⟨.inr hp, fun e' => h1 (List.mem_map.2 ⟨_, hp, e'.trans hk⟩)⟩
      · rintro ⟨rfl | hp, hn⟩
        · exact absurd hk.symm hn
        · exact hp
    · rw [if_neg hk, List.mem_cons, mem_adel h2]
      constructor
      · rintro (rfl | ⟨hp, hn⟩)
        · exact ⟨.inl rfl, Ne.symm hk⟩
        · exact ⟨.inr hp, hn⟩
      · rintro ⟨rfl | hp, hn⟩
        · exact .inl rfl
        · exact .inr ⟨hp, hn⟩
theorem mem_aset {k : ByteArray} {x : Nat} {p : ByteArray × Nat} : ∀ {l : Dir}, Names l → (p ∈ aset l k x ↔ p = (k, x) ∨ p ∈ l ∧ p.1 ≠ k)
  | [], _ => by simp [aset_nil]
  | e :: l, h => by
    obtain ⟨h1, h2⟩ := List.nodup_cons.1 h
    rw [aset_cons, List.mem_cons]
    by_cases hk : k = e.1
    · rw [if_pos hk, List.mem_cons]
      constructor
      · rintro (hp | hp)
        · exact .inl hp
        · exact .inr ⟨.inr hp, fun e' => h1 (List.mem_map.2 ⟨_, hp, e'.trans hk⟩)⟩
      · rintro (hp | ⟨rfl | hp, hn⟩)
        · exact .inl hp
        · exact absurd hk.symm hn
        · exact .inr hp
    · rw [if_neg hk, List.mem_cons, mem_aset h2]
      constructor
      · rintro (rfl | hp | ⟨hp, hn⟩)
        · exact .inr ⟨.inl rfl, Ne.symm hk⟩
        · exact .inl hp
        · exact .inr ⟨.inr hp, hn⟩
      · rintro (hp | ⟨rfl | hp, hn⟩)
        · exact .inr (.inl hp)
        · exact .inl rfl
        · exact .inr (.inr ⟨hp, hn⟩)
theorem adel_names {k : ByteArray} : ∀ {l : Dir}, Names l → Names (adel l k)
  | [], _ => by simp [adel_nil, Names]
  | e :: l, h => by
    obtain ⟨h1, h2⟩ := List.nodup_cons.1 h
    rw [adel_cons]
    split
    · exact h2
    · refine List.nodup_cons.2 ⟨?_, adel_names h2⟩
      intro hm
      obtain ⟨p, hp, he⟩ := List.mem_map.1 hm
      exact h1 (by rw [← he]; exact List.mem_map.2 ⟨p, ((mem_adel h2).1 hp).1, rfl⟩)
theorem aset_names {k : ByteArray} {x : Nat} : ∀ {l : Dir}, Names l → Names (aset l k x)
  | [], _ => by simp [aset_nil, Names]
  | e :: l, h => by
    obtain ⟨h1, h2⟩ := List.nodup_cons.1 h
    rw [aset_cons]
    split
    · rename_i hk
      exact List.nodup_cons.2 ⟨by rw [hk]; exact h1, h2⟩
    · rename_i hk
      refine List.nodup_cons.2 ⟨?_, aset_names h2⟩
      intro hm
      obtain ⟨p, hp, he⟩ := List.mem_map.1 hm
      rcases (mem_aset h2).1 hp with rfl | ⟨hp, _⟩
      · exact hk he
      · exact h1 (by rw [← he]; exact List.mem_map.2 ⟨p, hp, rfl⟩)
theorem Names.perm {l l' : Dir} (h : Names l) (hp : l.Perm l') : Names l' := (hp.map _).nodup_iff.1 h
theorem dir_perm {l l' : Dir} (h : Names l) (h' : Names l') (hm : ∀ p, p ∈ l ↔ p ∈ l') : l.Perm l' := (List.perm_ext_iff_of_nodup h.nodup h'.nodup).2 hm
theorem aget_perm {l l' : Dir} (h : Names l) (hp : l.Perm l') (k : ByteArray) : aget l k = aget l' k := by
  apply Option.ext
  intro x
  rw [aget_iff h, aget_iff (h.perm hp)]
  exact hp.mem_iff
theorem adel_perm {l l' : Dir} (h : Names l) (hp : l.Perm l') (k : ByteArray) : (adel l k).Perm (adel l' k) :=
  dir_perm (adel_names h) (adel_names (h.perm hp)) fun p => by rw [mem_adel h, mem_adel (h.perm hp), hp.mem_iff]
theorem aset_perm {l l' : Dir} (h : Names l) (hp : l.Perm l') (k : ByteArray) (x : Nat) : (aset l k x).Perm (aset l' k x) :=
  dir_perm (aset_names h) (aset_names (h.perm hp)) fun p => by rw [mem_aset h, mem_aset (h.perm hp), hp.mem_iff]
theorem does_perm {t : VTurn} {l l' d : Dir} (h : Names l) (hp : l.Perm l') (hd : t.does l = some d) : ∃ d', t.does l' = some d' ∧ d.Perm d' ∧ Names d := by
  unfold VTurn.does at *
  by_cases h0 : t.kind = 0
  · rw [if_pos h0] at hd ⊢
    obtain ⟨i, hi, rfl⟩ := Option.map_eq_some_iff.1 hd
    exact ⟨_, by rw [hi]; rfl, aset_perm h hp _ _, aset_names h⟩
  · rw [if_neg h0] at hd ⊢
    by_cases h1 : t.kind = 1
    · rw [if_pos h1] at hd ⊢
      obtain ⟨i, hi, rfl⟩ := Option.map_eq_some_iff.1 hd
      rw [aget_perm h hp] at hi
      exact ⟨_, by rw [hi]; rfl, aset_perm (adel_names h) (adel_perm h hp _) _ _, aset_names (adel_names h)⟩
    · rw [if_neg h1] at hd ⊢
      by_cases h2 : t.kind = 2
      · rw [if_pos h2] at hd ⊢
        injection hd with hd; subst hd; exact ⟨_, rfl, adel_perm h hp _, adel_names h⟩
      · rw [if_neg h2] at hd ⊢
        injection hd with hd; subst hd; exact ⟨_, rfl, hp, h⟩
theorem crashM_perm {ops : Int} : ∀ {ts : List VTurn} {i : Nat} {l l' d : Dir}, Names l → l.Perm l' → crashM ts i ops l = some d → ∃ d', crashM ts i ops l' = some d' ∧ d.Perm d' ∧ Names d
  | [], i, l, l', d, h, hp, hd => by injection hd with hd; subst hd; exact ⟨_, rfl, hp, h⟩
  | t :: ts, i, l, l', d, h, hp, hd => by
    unfold crashM at *
    split at hd
    · rename_i hlt
      obtain ⟨e, he, hd⟩ := Option.bind_eq_some_iff.1 hd
      obtain ⟨e', he', hpe, hne⟩ := does_perm h hp he
      obtain ⟨d', h1, h2, h3⟩ := crashM_perm hne hpe hd
      exact ⟨d', by rw [if_pos hlt, he']; exact h1, h2, h3⟩
    · rename_i hlt
      obtain ⟨d', h1, h2, h3⟩ := crashM_perm h hp hd
      exact ⟨d', by rw [if_neg hlt]; exact h1, h2, h3⟩
/-- As many of a list's, each once: all of it. -/
theorem perm_of_sub {α : Type} [DecidableEq α] {l l' : List α} (h : l.Nodup) (h' : l'.Nodup) (hs : l ⊆ l') (hl : l'.length ≤ l.length) : l.Perm l' := by
  refine (List.perm_ext_iff_of_nodup h h').2 fun x => ⟨fun hx => hs hx, fun hx => ?_⟩
  rcases Classical.em (x ∈ l) with hx' | hx'
  · exact hx'
  · exfalso
    have : ∀ {l l' : List α}, l.Nodup → l ⊆ l' → l.length ≤ l'.length := by
      intro l
      induction l with
      | nil => intros; simp
      | cons a l ih =>
        intro l' hn hs
        obtain ⟨h1, h2⟩ := List.nodup_cons.1 hn
        have hsub : l ⊆ l'.erase a := fun x hx => (List.mem_erase_of_ne (by rintro rfl; exact h1 hx)).2 (hs (by simp [hx]))
        have := ih h2 hsub
        rw [List.length_erase_of_mem (hs (by simp))] at this
        have : 0 < l'.length := List.length_pos_of_mem (hs (by simp : a ∈ a :: l))
        simp only [List.length_cons]
        omega
    have := this (l := x :: l) (l' := l') (List.nodup_cons.2 ⟨hx', h⟩) (by intro y hy; rcases List.mem_cons.1 hy with rfl | hy; exact hx; exact hs hy)
    simp only [List.length_cons] at this
    omega
end Go.Proofs.Ytmgbknkjgfdllaa
