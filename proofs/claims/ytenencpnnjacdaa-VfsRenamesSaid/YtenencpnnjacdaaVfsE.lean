/- The file system's methods: Create, Append. -/
import Derived.Test.YtenencpnnjacdaaVfsD
set_option linter.unusedVariables false
set_option linter.unusedSimpArgs false
set_option maxRecDepth 100000
namespace Go.Proofs.Ytenencpnnjacdaa
open Go.RowKit (Below)

def VFS.small (S : VFS) : Prop := S.turns.length < 2 ^ 40 ∧ S.files.length < 2 ^ 40 ∧ ∀ F ∈ S.files, F.pend.length < 2 ^ 40 ∧ F.now.length < 2 ^ 40 ∧ F.sure.length < 2 ^ 40
theorem encM_congr {ad ad' : Nat → Nat} {l : Dir} (h : ∀ p ∈ l, ad p.2 = ad' p.2) : encM ad l = encM ad' l := List.map_congr_left fun p hp => by rw [h p hp]
theorem encT_congr {ad ad' : Nat → Nat} {l : List VTurn} (h : ∀ t ∈ l, ∀ i, t.file = some i → ad i = ad' i) : l.flatMap (encT ad) = l.flatMap (encT ad') := by
  induction l with
  | nil => rfl
  | cons t l ih =>
    simp only [List.flatMap_cons]
    rw [ih (fun t' ht' => h t' (List.mem_cons_of_mem _ ht'))]
    congr 1
    unfold encT
    cases hf : t.file with
    | none => rfl
    | some i => simp [h t (by simp) i hf]
section
variable {W0 : World} {st : Heap}
theorem Create_spec {f : Nat} {S : VFS} {n : ByteArray} (h : FSAt st f S) (hs : S.small) : ICalls Try.prog W0 27 #[ptr f, .string n] st fun e st' => e = .returned (Val.i (S.create n).1) ∧ FSAt st' f (S.create n).2 ∧ Keep (Out f) st st' := by
  obtain ⟨sm, nm, tv, ad, h1, h2, h3, h4, h5, h6⟩ := h
  refine enter (args := [_, _]) Try.func27 rfl ?_
  simp [Try.f27, go_sem]
  refine call_spec h1 ?_
  obtain ⟨k0, hfs, h1, h2, h3, h4, h5⟩ := FSAt.ctl' h1 h2 h3 h4 h5 h6 S.c.call.2
  generalize hst1 : upd st f _ = st1 at *
  have k0' : Keep (Out f) st st1 := k0.imp fun g h => h 0 0
  unfold VFS.create
  simp [go_sem]
  by_cases hc : S.c.call.1 = 0
  · simp [hc, go_sem]
    unfold NewS
    intro b hb
    refine ⟨.ty 0, ?_⟩
    have hbf := ne_of_new h1 hb
    have hbn := ne_of_new h3 hb
    simp [go_sem]
    refine ICalls.mono (named_spec (names := [n]) (by simp [srcCells, lkN_mk, upd_same, cellsOf]) ⟨_, _, rfl⟩ (by simp)) ?_
    rintro e st2 ⟨rfl, rfl⟩
    have k1 : Keep (fun _ => True) st1 (upd st1 b (.cells true [.string n] 1 (.ty 0))) := Keep.rfl'.new hb
    simp [go_sem]
    cases hk : okName n with
    | false =>
      simp [go_sem]
      exact ⟨hfs.keep k1 (fun _ _ => trivial), k0'.trans (k1.imp fun _ _ => trivial)⟩
    | true =>
      have hlen : (encM ad S.now).length = S.now.length := by simp [encM]
      by_cases hfull : afind n S.now 0 = none ∧ 1024 ≤ S.now.length
      · have hf2 : (1024 : Int) ≤ S.now.length := by omega
        simp [go_sem, hbf, hbn, h1, h3, fsC, mfind_encM, aget, hfull, hlen, hf2]
        exact ⟨hfs.keep k1 (fun _ _ => trivial), k0'.trans (k1.imp fun _ _ => trivial)⟩
      · have hno : ¬ (afind n S.now 0 = none ∧ (1024 : Int) ≤ S.now.length) := by rintro ⟨x, y⟩; exact hfull ⟨x, by omega⟩
        have hmodel : (aget S.now n = none ∧ 1024 ≤ S.now.length) = False := by simp [aget]; intro x; by_cases y : 1024 ≤ S.now.length; exact absurd ⟨x, y⟩ hfull; omega
        simp only [hmodel, if_false]
        cases hg : afind n S.now 0 with
        | none =>
          have hlt : ¬ (1024 : Int) ≤ S.now.length := fun h => hno ⟨hg, h⟩
          simp [go_sem, hbf, hbn, h1, h3, fsC, mfind_encM, hg, hlen, hlt]
          unfold NewP
          intro a ha
          refine ⟨.own f S.files.length 1, ?_⟩
          simp [go_sem]
          have k2 : Keep (fun _ => True) st1 (upd (upd st1 b (.cells true [.string n] 1 (.ty 0))) a (.cells true [Val.i S.files.length, .slice none 0 0, .slice none 0 0, .slice none 0 0] 4 (.own f S.files.length 1))) := k1.new ha
          have ha' := upd_same (upd st1 b (.cells true [.string n] 1 (.ty 0))) a (.cells true [Val.i S.files.length, .slice none 0 0, .slice none 0 0, .slice none 0 0] 4 (.own f S.files.length 1))
          generalize hst3 : upd (upd st1 b _) a _ = st3 at *
          obtain ⟨ad', had⟩ : ∃ ad' : Nat → Nat, ad' = fun i => if i = S.files.length then a else ad i := ⟨_, rfl⟩
          have ead : ∀ i, i < S.files.length → ad i = ad' i := fun i hi => by rw [had]; simp [Nat.ne_of_lt hi]
          have eat : ad' S.files.length = a := by rw [had]; simp
          have e1 := encM_congr (l := S.now) fun p hp => ead p.2 (h6.2.1 p hp)
          have e2 := encM_congr (l := S.sure) fun p hp => ead p.2 (h6.1 p hp)
          have e3 := encT_congr (l := S.turns) fun t ht i hi => ead i (h6.2.2 t ht i hi)
          rw [e1] at h3
          rw [e2] at h2
          rw [e3] at h4
          have hT := turned_spec (W0 := W0) (t := ⟨0, n, ⟨#[]⟩, some S.files.length⟩) (now' := aset S.now n S.files.length) (k2.get h1 trivial) (k2.getM h3 trivial) (h4.keep k2 trivial) hs.1 (by simp [VTurn.does])
          simp [encT, eat] at hT
          refine ICalls.mono hT ?_
          rintro e st4 ⟨rfl, tv', c1, c3, c4, k3⟩
          simp [go_sem, c1, fsC]
          have hlen1 : ((S.files ++ [(⟨S.files.length, [], [], []⟩ : VFile)]).length : Int) = S.files.length + 1 := by simp
          have hfl := hs.2.1
          rw [wrap_id (by omega) (by omega)]
          have k4 : Keep (fun g => g ≠ .own f 0 0) st4 (upd st4 f (.cells true (fsC sm nm tv' (S.files.length + 1) S.c.call.2) 9 (.own f 0 0))) := Keep.rfl'.old c1 (by simp [HObj.tag])
          refine ⟨⟨sm, nm, tv', ad', ?_, ?_, ?_, ?_, ?_, ?_⟩, ?_⟩
          · rw [hlen1]; exact upd_same _ _ _
          · exact k4.getM (k3.getM (k2.getM h2 trivial) (by simp)) (by simp)
          · exact k4.getM c3 (by simp)
          · have := c4.keep k4 (by simp)
            simpa [encT, eat, fsC] using this
          · intro i F hi
            by_cases hlt : i < S.files.length
            · rw [List.getElem?_append_left hlt] at hi
              rw [← ead i hlt]
              exact (((h5 i F hi).keep k2 (fun _ _ _ => trivial)).keep k3 (by intro r h1 h2; simp; omega)).keep k4 (by intro r h1 h2; simp; omega)
            · rw [List.getElem?_append_right (by omega)] at hi
              have hi0 : i - S.files.length = 0 := by
                rcases Nat.eq_zero_or_pos (i - S.files.length) with h | h
                · exact h
                · rw [List.getElem?_eq_none (by simp; omega)] at hi; cases hi
              rw [hi0] at hi
              injection hi with hi
              have hii : i = S.files.length := by omega
              subst hi
              subst hii
              refine ⟨.slice none 0 0, .slice none 0 0, .slice none 0 0, [], ?_, Reg.nil, trivial, Vec.nil, Vec.nil⟩
              rw [eat]
              exact k4.get (k3.get ha' (by simp)) (by simp)
          · refine ⟨?_, ?_, ?_⟩
            · intro p hp; have := h6.1 p hp; simp; omega
            · intro p hp
              simp only [List.length_append, List.length_singleton]
              rcases aset_mem hp with hp | hp
              · have := h6.2.1 p hp; omega
              · omega
            · intro t ht i hi
              simp only [List.length_append, List.length_singleton]
              rcases List.mem_append.1 ht with ht | ht
              · have := h6.2.2 t ht i hi; omega
              · simp at ht; subst ht; simp at hi; omega
          · exact ((k0'.trans (k2.imp fun _ _ => trivial)).trans (k3.imp fun g h => ⟨h 0 0, h 0 6, h 0 7⟩)).trans (k4.imp fun g h => h 0 0)
        | some p =>
          simp [go_sem, hbf, hbn, h1, h3, fsC, mfind_encM, hg, hlen]
          unfold NewP
          intro a ha
          refine ⟨.own f S.files.length 1, ?_⟩
          simp [go_sem]
          have k2 : Keep (fun _ => True) st1 (upd (upd st1 b (.cells true [.string n] 1 (.ty 0))) a (.cells true [Val.i S.files.length, .slice none 0 0, .slice none 0 0, .slice none 0 0] 4 (.own f S.files.length 1))) := k1.new ha
          have ha' := upd_same (upd st1 b (.cells true [.string n] 1 (.ty 0))) a (.cells true [Val.i S.files.length, .slice none 0 0, .slice none 0 0, .slice none 0 0] 4 (.own f S.files.length 1))
          generalize hst3 : upd (upd st1 b _) a _ = st3 at *
          obtain ⟨ad', had⟩ : ∃ ad' : Nat → Nat, ad' = fun i => if i = S.files.length then a else ad i := ⟨_, rfl⟩
          have ead : ∀ i, i < S.files.length → ad i = ad' i := fun i hi => by rw [had]; simp [Nat.ne_of_lt hi]
          have eat : ad' S.files.length = a := by rw [had]; simp
          have e1 := encM_congr (l := S.now) fun p hp => ead p.2 (h6.2.1 p hp)
          have e2 := encM_congr (l := S.sure) fun p hp => ead p.2 (h6.1 p hp)
          have e3 := encT_congr (l := S.turns) fun t ht i hi => ead i (h6.2.2 t ht i hi)
          rw [e1] at h3
          rw [e2] at h2
          rw [e3] at h4
          have hT := turned_spec (W0 := W0) (t := ⟨0, n, ⟨#[]⟩, some S.files.length⟩) (now' := aset S.now n S.files.length) (k2.get h1 trivial) (k2.getM h3 trivial) (h4.keep k2 trivial) hs.1 (by simp [VTurn.does])
          simp [encT, eat] at hT
          refine ICalls.mono hT ?_
          rintro e st4 ⟨rfl, tv', c1, c3, c4, k3⟩
          simp [go_sem, c1, fsC]
          have hlen1 : ((S.files ++ [(⟨S.files.length, [], [], []⟩ : VFile)]).length : Int) = S.files.length + 1 := by simp
          have hfl := hs.2.1
          rw [wrap_id (by omega) (by omega)]
          have k4 : Keep (fun g => g ≠ .own f 0 0) st4 (upd st4 f (.cells true (fsC sm nm tv' (S.files.length + 1) S.c.call.2) 9 (.own f 0 0))) := Keep.rfl'.old c1 (by simp [HObj.tag])
          refine ⟨⟨sm, nm, tv', ad', ?_, ?_, ?_, ?_, ?_, ?_⟩, ?_⟩
          · rw [hlen1]; exact upd_same _ _ _
          · exact k4.getM (k3.getM (k2.getM h2 trivial) (by simp)) (by simp)
          · exact k4.getM c3 (by simp)
          · have := c4.keep k4 (by simp)
            simpa [encT, eat, fsC] using this
          · intro i F hi
            by_cases hlt : i < S.files.length
            · rw [List.getElem?_append_left hlt] at hi
              rw [← ead i hlt]
              exact (((h5 i F hi).keep k2 (fun _ _ _ => trivial)).keep k3 (by intro r h1 h2; simp; omega)).keep k4 (by intro r h1 h2; simp; omega)
            · rw [List.getElem?_append_right (by omega)] at hi
              have hi0 : i - S.files.length = 0 := by
                rcases Nat.eq_zero_or_pos (i - S.files.length) with h | h
                · exact h
                · rw [List.getElem?_eq_none (by simp; omega)] at hi; cases hi
              rw [hi0] at hi
              injection hi with hi
              have hii : i = S.files.length := by omega
              subst hi
              subst hii
              refine ⟨.slice none 0 0, .slice none 0 0, .slice none 0 0, [], ?_, Reg.nil, trivial, Vec.nil, Vec.nil⟩
              rw [eat]
              exact k4.get (k3.get ha' (by simp)) (by simp)
          · refine ⟨?_, ?_, ?_⟩
            · intro p hp; have := h6.1 p hp; simp; omega
            · intro p hp
              simp only [List.length_append, List.length_singleton]
              rcases aset_mem hp with hp | hp
              · have := h6.2.1 p hp; omega
              · omega
            · intro t ht i hi
              simp only [List.length_append, List.length_singleton]
              rcases List.mem_append.1 ht with ht | ht
              · have := h6.2.2 t ht i hi; omega
              · simp at ht; subst ht; simp at hi; omega
          · exact ((k0'.trans (k2.imp fun _ _ => trivial)).trans (k3.imp fun g h => ⟨h 0 0, h 0 6, h 0 7⟩)).trans (k4.imp fun g h => h 0 0)
  · simp [hc, go_sem]
    exact ⟨hfs, k0'⟩
end
end Go.Proofs.Ytenencpnnjacdaa
