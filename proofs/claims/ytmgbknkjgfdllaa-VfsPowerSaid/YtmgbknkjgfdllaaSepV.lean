/- A map that is gone through, entry by entry, in whatever order. Plain definitions and theorems, over any program. -/
import Derived.Test.YtmgbknkjgfdllaaSepW
set_option linter.unusedVariables false
set_option linter.unusedSimpArgs false
namespace Go.Proofs.Ytmgbknkjgfdllaa
open Go.RowKit (Below)

theorem nodup_len {α : Type} [DecidableEq α] : ∀ {l l' : List α}, l.Nodup → l ⊆ l' → l.length ≤ l'.length
  | [], l', _, _ => Nat.zero_le _
  | a :: l, l', hn, hs => by
    have ha : a ∈ l' := hs (by simp)
    obtain ⟨h1, h2⟩ := List.nodup_cons.1 hn
    have hsub : l ⊆ l'.erase a := fun x hx => (List.mem_erase_of_ne (by rintro rfl; exact h1 hx)).2 (hs (by simp [hx]))
    have := nodup_len h2 hsub
    rw [List.length_erase_of_mem ha] at this
    have : 0 < l'.length := List.length_pos_of_mem ha
    simp only [List.length_cons]
    omega
/-- Where the walk over a map stands: L was told. -/
def Iter (st : Heap) (m b : Nat) (es L : KV) : Prop := ∃ (ents : Array MapEntry) (clock : Nat) (seen : Array Nat) (Ls : List MapEntry), MapAt ents clock es ∧ st m = some (.other (.map ents clock)) ∧ st b = some (.other (.mapIter (some m) clock seen clock)) ∧
  seen.toList = Ls.map (·.born) ∧ (∀ e ∈ Ls, e ∈ ents.toList) ∧ (Ls.map (·.born)).Nodup ∧ L = Ls.map fun e => (e.key, e.val)
theorem Iter.keep {st st' : Heap} {m b : Nat} {es L : KV} (h : Iter st m b es L) (hm : st' m = st m) (hb : st' b = st b) : Iter st' m b es L := by
  obtain ⟨ents, clock, seen, Ls, h1, h2, h3, h4⟩ := h
  exact ⟨ents, clock, seen, Ls, h1, hm.trans h2, hb.trans h3, h4⟩
theorem MapAt.born_inj {ents : Array MapEntry} {clock : Nat} {es : KV} (h : MapAt ents clock es) {e e' : MapEntry} (he : e ∈ ents.toList) (he' : e' ∈ ents.toList) (hb : e.born = e'.born) : e = e' := by
  have hi := h.inc
  rw [List.pairwise_map] at hi
  rcases Classical.em (e = e') with h | h
  · exact h
  · exfalso
    obtain ⟨i, hi1, rfl⟩ := List.getElem_of_mem he
    obtain ⟨j, hj1, rfl⟩ := List.getElem_of_mem he'
    rw [List.pairwise_iff_getElem] at hi
    rcases Nat.lt_trichotomy i j with hij | hij | hij
    · have := hi i j hi1 hj1 hij; omega
    · subst hij; exact h rfl
    · have := hi j i hj1 hi1 hij; omega
theorem Iter.len {st : Heap} {m b : Nat} {es L : KV} (h : Iter st m b es L) : L.length ≤ es.length := by
  obtain ⟨ents, clock, seen, Ls, h1, h2, h3, h4, h5, h6, rfl⟩ := h
  have : (Ls.map (·.born)).length ≤ (ents.toList.map (·.born)).length := nodup_len h6 (fun x hx => by
    obtain ⟨e, he, rfl⟩ := List.mem_map.1 hx
    exact List.mem_map.2 ⟨e, h5 e he, rfl⟩)
  have hk : es.length = ents.toList.length := by rw [← h1.kv]; simp
  simp only [List.length_map] at this ⊢
  omega
theorem RangeI_start {K : Value → Heap → Prop} {st : Heap} {m : Nat} {g : Tg} {es : KV} (hm : st m = some (.map g es)) (hk : ∀ b st1, st b = none → Iter st1 m b es [] → (∀ k, k ≠ m → k ≠ b → st1 k = st k) → K (ptr' b) st1) : RangeI (.map (some m)) K st := by
  unfold RangeI rangeX
  refine ⟨g, es, hm, fun ents clock b ha hb => ?_⟩
  have hmb : m ≠ b := ne_of_new hm hb
  refine hk b _ hb ⟨ents, clock, #[], [], ha, ?_, upd_same _ _ _, rfl, by simp, by simp, rfl⟩ ?_
  · rw [upd_ne _ _ hmb, upd_same]
  · intro k h1 h2
    rw [upd_ne _ _ h2, upd_ne _ _ h1]
theorem NextI_step {K : Value → Heap → Prop} {st : Heap} {m b : Nat} (g : Tg) {es L : KV} (hmb : m ≠ b) (hi : Iter st m b es L)
    (hend : L.Perm es → K (.tuple #[.bool false]) (upd st m (.map g es)))
    (hnext : ∀ k v st1, (k, v) ∈ es → Iter st1 m b es (L ++ [(k, v)]) → (∀ x, x ≠ b → st1 x = st x) → K (.tuple #[.bool true, k, v]) st1) : NextI' (ptr' b) K st := by
  obtain ⟨ents, clock, seen, Ls, h1, h2, h3, h4, h5, h6, rfl⟩ := hi
  unfold NextI' nextX ptr'
  refine ⟨m, ents, clock, seen, g, es, h3, h2, h1, ?_, ?_⟩
  · intro hall
    refine hend ?_
    rw [← h1.kv]
    refine List.Perm.map _ ?_
    have hn1 : Ls.Nodup := (List.pairwise_map.1 h6).imp (fun h e => h (by rw [e]))
    have hn2 : ents.toList.Nodup := (List.pairwise_map.1 h1.inc).imp (fun h e => by rw [e] at h; exact absurd h (Nat.lt_irrefl _))
    refine (List.perm_ext_iff_of_nodup hn1 hn2).2 fun e => ⟨h5 e, fun he => ?_⟩
    have := hall e he
    rw [h4] at this
    obtain ⟨e', he', hb⟩ := List.mem_map.1 this
    rw [← h1.born_inj (h5 e' he') he hb]
    exact he'
  · intro e he hns
    refine hnext e.key e.val _ ?_ ⟨ents, clock, seen.push e.born, Ls ++ [e], h1, ?_, upd_same _ _ _, by simp [h4], ?_, ?_, by simp⟩ ?_
    · rw [← h1.kv]; exact List.mem_map.2 ⟨e, he, rfl⟩
    · rw [upd_ne _ _ hmb]; exact h2
    · intro x hx
      rcases List.mem_append.1 hx with hx | hx
      · exact h5 x hx
      · simp at hx; rw [hx]; exact he
    · rw [List.map_append, List.nodup_append]
      refine ⟨h6, by simp, ?_⟩
      intro a ha b hb
      simp at hb
      rw [← h4] at ha
      rintro rfl
      rw [hb] at ha
      exact hns ha
    · intro x hx; rw [upd_ne _ _ hx]
theorem EntryI_last {K : Value → Heap → Prop} {st : Heap} {m b : Nat} {es L : KV} {k v : Value} (hi : Iter st m b es (L ++ [(k, v)])) (hk : K (.tuple #[k, v]) st) : EntryI (ptr' b) K st := by
  obtain ⟨ents, clock, seen, Ls, h1, h2, h3, h4, h5, h6, h7⟩ := hi
  rcases List.eq_nil_or_concat Ls with rfl | ⟨Ls', e, rfl⟩
  · simp at h7
  · simp only [List.concat_eq_append, List.map_append, List.map_cons, List.map_nil] at h7
    obtain ⟨_, h8⟩ := List.append_inj' h7 rfl
    simp at h8
    obtain ⟨rfl, rfl⟩ := h8
    unfold EntryI entryX ptr'
    have hseen : seen = (⟨(Ls'.map (·.born))⟩ : Array Nat).push e.born := by
      apply Array.ext'
      simp [h4]
    refine ⟨m, ents, clock, clock, ⟨(Ls'.map (·.born))⟩, e, by rw [h3, hseen], h2, h5 e (by simp), h1.inc, hk⟩
end Go.Proofs.Ytmgbknkjgfdllaa
