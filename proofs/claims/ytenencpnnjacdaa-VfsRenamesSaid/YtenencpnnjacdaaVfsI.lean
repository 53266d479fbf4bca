/- The names of a file system; what is left of one behind a crash. -/
import Derived.Test.YtenencpnnjacdaaVfsH
set_option linter.unusedVariables false
set_option linter.unusedSimpArgs false
set_option maxRecDepth 100000
namespace Go.Proofs.Ytenencpnnjacdaa
open Go.RowKit (Below)

/-- All but one block, and what has one mark. -/
def But (nm : Nat) (g : Tg) (st st' : Heap) : Prop := ∀ k o, st k = some o → k ≠ nm → o.tag ≠ some g → st' k = some o
theorem Iter.of {st st' : Heap} {m b : Nat} {es L : KV} (h : Iter st m b es L) (hs : ∀ k o, st k = some (.other o) → st' k = some (.other o)) : Iter st' m b es L := by
  obtain ⟨ents, clock, seen, Ls, h1, h2, h3, h4⟩ := h
  exact ⟨ents, clock, seen, Ls, h1, hs _ _ h2, hs _ _ h3, h4⟩
theorem Ext.other {g : Tg} {st st' : Heap} (h : Ext g st st') (k : Nat) (o : Obj) (hk : st k = some (.other o)) : st' k = some (.other o) := h.keep k _ hk (by simp [HObj.tag])
section
variable {W0 : World} {st : Heap}
theorem List_spec {f : Nat} {S : VFS} (h : FSAt st f S) (hl : S.now.length ≤ 1) :
    ICalls Try.prog W0 36 #[ptr f] st fun e st' => (∃ b c, e = .returned (.slice b S.now.length c)) ∧ FSAt st' f S ∧ Keep (Out f) st st' := by
  obtain ⟨sm, nm, tv, ad, h1, h2, h3, h4, h5, h6⟩ := h
  refine enter (args := [_]) Try.func36 rfl ?_
  simp [Try.f36, go_sem, h1, fsC]
  refine RangeI_start h3 ?_
  intro b st1 hb hi ho
  simp [go_sem]
  have hnb := ne_of_new h3 hb
  have hbut : But nm (.own f 0 9) st st1 := fun k o hk hn _ => by rw [ho k hn (ne_of_new hk hb)]; exact hk
  refine ⟨fun E st' => E 12 = ptr' b ∧ But nm (.own f 0 9) st st' ∧ ∃ L v, Iter st' nm b (encM ad S.now) L ∧ E 3 = v ∧ Vec st' (.own f 0 9) 1 v (L.map (·.1)) L.length,
    fun E st' => S.now.length - (match E 3 with | .slice _ n _ => n | _ => 0), ⟨st1, .rfl' _, by simp [go_sem], hbut, [], .slice none 0 0, hi, by simp [go_sem], Vec.nil⟩, ?_⟩
  rintro E st' ⟨e12, hbut, L, v, hi, e3, hv⟩
  obtain ⟨vb, vc, rfl⟩ := hv.slice
  simp [go_sem, e12]
  refine NextI_step (.own f 0 6) hnb hi ?_ ?_
  · intro hp
    have hln : L.length = S.now.length := by rw [hp.length_eq]; simp [encM]
    simp [go_sem, e3]
    refine (Sort_small (by omega)).mono ?_
    rintro e st2 ⟨rfl, rfl⟩
    simp [go_sem, e3, hln]
    have hkeep : Keep (fun t => t ≠ .own f 0 9) st (upd st' nm (.map (.own f 0 6) (encM ad S.now))) := by
      intro k o g hk ht hpg
      by_cases hkn : k = nm
      · subst hkn; rw [h3] at hk; injection hk with hk; subst hk; exact upd_same _ _ _
      · rw [upd_ne _ _ hkn]; exact hbut k o hk hkn (by rw [ht]; intro e; injection e with e; exact hpg e)
    exact ⟨⟨sm, nm, tv, ad, hkeep.get h1 (by simp), hkeep.getM h2 (by simp), hkeep.getM h3 (by simp), h4.keep hkeep (by simp), fun i F hF => (h5 i F hF).keep hkeep (by intro r h1 h2; simp; omega), h6⟩, hkeep.imp fun g h => h 0 9⟩
  · intro k v st2 hm hi2 ho2
    obtain ⟨p, hp, hpe⟩ := List.mem_map.1 hm
    injection hpe with hk hv'
    subst hk
    simp [go_sem, e12]
    refine EntryI_last hi2 ?_
    simp [go_sem, e3]
    unfold NewS
    intro b3 hb3
    refine ⟨.ty 0, ?_⟩
    simp [go_sem]
    have hbut2 : But nm (.own f 0 9) st st2 := by
      intro k o hk hn ht
      rw [ho2 k (by rintro rfl; rw [hb] at hk; cases hk)]
      exact hbut k o hk hn ht
    have hv2 : Vec st2 (.own f 0 9) 1 (.slice vb L.length vc) (L.map (·.1)) L.length := by
      obtain ⟨z1, z2, z3, z4, z5, z6⟩ := hv
      refine ⟨z1, z2, z3, z4, z5, z6.imp ?_ id⟩
      rintro ⟨b9, n9, w1, w2, w3⟩
      have hib : ∃ o, st' b = some (.other o) := by
        obtain ⟨ents, clock, seen, Ls, q1, q2, q3, q4⟩ := hi
        exact ⟨_, q3⟩
      obtain ⟨o, hio⟩ := hib
      exact ⟨b9, n9, w1, by rw [ho2 b9 (by rintro rfl; rw [hio] at w2; cases w2)]; exact w2, w3⟩
    have n3 : ∀ k o, st2 k = some o → (upd st2 b3 (.cells true [.string p.1] 1 (.ty 0))) k = some o := fun k o hk => by rw [upd_ne _ _ (ne_of_new hk hb3)]; exact hk
    have n3' : ∀ k o, st2 k = some (.other o) → (upd st2 b3 (.cells true [.string p.1] 1 (.ty 0))) k = some (.other o) := fun k o hk => n3 k _ hk
    have hlen := hi2.len
    have hml : (encM ad S.now).length = S.now.length := by simp [encM]
    rw [hml] at hlen
    simp only [List.length_append, List.length_singleton] at hlen
    refine AppI_vec (g := .own f 0 9) (m := 1) (ys := [.string p.1]) si54 (hv2.keep (Keep.rfl'.new hb3) (p := fun _ => True) trivial) ?_ (by simp [Value.oneCell']) (by omega) ?_
    · simp [srcCells, lkN_mk, upd_same, cellsOf]
    intro s5 c5 st5 hv5 he5
    simp [go_sem, e3, e12]
    refine ⟨st5, .rfl' _, ⟨?_, L ++ [(.string p.1, v)], ?_, ?_⟩, ?_⟩
    · intro k o hk hn ht
      exact he5.keep k o (n3 k o (hbut2 k o hk hn ht)) ht
    · exact (hi2.of n3').of he5.other
    · simpa using hv5
    · have h7 : L.length + 1 ≤ S.now.length := hlen
      have h8 : S.now.length - (L.length + 1) < S.now.length - L.length := by omega
      exact h8
end
end Go.Proofs.Ytenencpnnjacdaa
