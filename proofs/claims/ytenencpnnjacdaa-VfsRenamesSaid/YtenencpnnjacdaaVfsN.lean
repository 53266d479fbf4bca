/- The file system's methods SyncDir, Remove, Rename. -/
import Derived.Test.YtenencpnnjacdaaVfsM
set_option linter.unusedVariables false
set_option linter.unusedSimpArgs false
set_option maxRecDepth 100000
set_option maxHeartbeats 1000000
namespace Go.Proofs.Ytenencpnnjacdaa
open Go.RowKit (Below)

theorem aget_mem {l : Dir} {k : ByteArray} {i : Nat} (h : aget l k = some i) : ∃ e ∈ l, e.2 = i := by
  unfold aget at h
  obtain ⟨p, h7, h8⟩ := Option.map_eq_some_iff.1 h
  obtain ⟨e, h9, h10⟩ := afind_mem h7
  exact ⟨e, h9, h10.trans h8⟩
theorem does_ok {t : VTurn} {l l' : Dir} {n : Nat} (h : t.does l = some l') (hl : ∀ p ∈ l, p.2 < n) (hf : ∀ i, t.file = some i → i < n) : ∀ p ∈ l', p.2 < n := by
  unfold VTurn.does at h
  split at h
  · obtain ⟨i, hi, rfl⟩ := Option.map_eq_some_iff.1 h
    intro p hp
    rcases aset_mem hp with hp | hp
    · exact hl p hp
    · rw [hp]; exact hf i hi
  · split at h
    · obtain ⟨i, hi, rfl⟩ := Option.map_eq_some_iff.1 h
      obtain ⟨e, he, hei⟩ := aget_mem hi
      intro p hp
      rcases aset_mem hp with hp | hp
      · exact hl p (adel_mem hp)
      · rw [hp, ← hei]; exact hl e he
    · split at h
      · injection h with h; subst h; intro p hp; exact hl p (adel_mem hp)
      · injection h with h; subst h; exact hl
theorem syncM_ok {n : Nat} : ∀ {ts : List VTurn} {l l' : Dir}, syncM ts l = some l' → (∀ p ∈ l, p.2 < n) → (∀ t ∈ ts, ∀ i, t.file = some i → i < n) → ∀ p ∈ l', p.2 < n
  | [], l, l', h, hl, _ => by injection h with h; subst h; exact hl
  | t :: ts, l, l', h, hl, hf => by
    obtain ⟨d, h1, h2⟩ := Option.bind_eq_some_iff.1 h
    exact syncM_ok h2 (does_ok h1 hl (hf t (by simp))) (fun t' ht' => hf t' (by simp [ht']))
section
variable {W0 : World} {st : Heap}
theorem SyncDir_spec {f : Nat} {S : VFS} {d : Dir} (h : FSAt st f S) (hs : S.small) (hd : syncM S.turns S.sure = some d) : ICalls Try.prog W0 33 #[ptr f] st fun e st' =>
    e = .returned (Val.i S.c.call.1) ∧ FSAt st' f (if S.c.call.1 = 0 then { sure := d, now := S.now, turns := [], files := S.files, c := S.c.call.2 } else S.ctl S.c.call.2) ∧ Keep (Out f) st st' := by
  obtain ⟨sm, nm, tv, ad, h1, h2, h3, h4, h5, h6⟩ := h
  refine enter (args := [_]) Try.func33 rfl ?_
  simp [Try.f33, go_sem]
  refine call_spec h1 ?_
  obtain ⟨k0, hfs, h1, h2, h3, h4, h5⟩ := FSAt.ctl' h1 h2 h3 h4 h5 h6 S.c.call.2
  generalize hst1 : upd st f _ = st1 at *
  have k0' : Keep (Out f) st st1 := k0.imp fun g h => h 0 0
  simp [go_sem]
  by_cases hc : S.c.call.1 = 0
  · obtain ⟨tvb, tvc, rfl⟩ := h4.slice
    simp [hc, go_sem, h1, fsC]
    refine ⟨fun E st' => Keep (fun t => t ≠ .own f 0 5) st1 st' ∧ E 0 = ptr f ∧ E 14 = .slice tvb S.turns.length tvc ∧ E 15 = Val.i S.turns.length ∧ ∃ (j : Nat) (dj : Dir), j ≤ S.turns.length ∧ E 16 = Val.i j ∧ st' sm = some (.map (.own f 0 5) (encM ad dj)) ∧ syncM (S.turns.drop j) dj = some d,
      fun E _ => match E 16 with | .int _ j => S.turns.length - j.toNat | _ => 0, ⟨st1, .rfl' _, .rfl', by simp [go_sem], by simp [go_sem], by simp [go_sem], 0, S.sure, Nat.zero_le _, by simp [go_sem], h2, by simpa using hd⟩, ?_⟩
    rintro E st4 ⟨hk4, e0, e14, e15, j, dj, hj, e16, hdj, hcr⟩
    have h1c := hk4.get h1 (by simp)
    by_cases hlt : j < S.turns.length
    · have htj : S.turns[j]? = some S.turns[j] := List.getElem?_eq_getElem hlt
      generalize S.turns[j] = t at htj
      obtain ⟨w1, w2⟩ := flatMap_get (ad := ad) htj
      have hdrop : S.turns.drop j = t :: S.turns.drop (j + 1) := by
        rw [List.drop_eq_getElem_cons hlt]
        congr 1
        rw [List.getElem?_eq_getElem hlt] at htj
        injection htj
      rw [hdrop] at hcr
      obtain ⟨dj', hdo, hcr⟩ := Option.bind_eq_some_iff.1 hcr
      obtain ⟨hl, base, cap, hv', hc', hbase⟩ := h4.keep hk4 (by simp)
      injection hv' with q1 q2 q3; subst q1; subst q3
      have hsl := hs.1
      have hw : IntKind.i64.wrap ((j : Int) + 1) = j + 1 := wrap_id (by omega) (by omega)
      rcases hbase with ⟨b0, n0, rfl, hb0, hn0⟩ | ⟨rfl, hc0⟩
      · obtain ⟨cs, hcs⟩ : ∃ cs, cs = S.turns.flatMap (encT ad) := ⟨_, rfl⟩
        rw [← hcs] at hb0 w1 w2
        unfold encT at w1
        simp [go_sem, e14, e15, e16, hlt, hb0, w1, w2]
        unfold NewP
        intro b5 hb5
        refine ⟨.ty 0, ?_⟩
        have k5 : ∀ o, Keep (fun _ => True) st4 (upd st4 b5 o) := fun o => Keep.rfl'.new hb5
        have hbf := ne_of_new h1c hb5
        simp [go_sem, e0, e14, e15, e16, hw]
        refine draw [1, 2, 3, 0, 4, 5] (by kernel_rfl) ?_
        simp [go_sem, e0, e14, e15, e16, hw, hbf, h1c, fsC]
        refine ICalls.mono (does_spec (t := t) ((k5 _).getM hdj trivial) hdo) ?_
        rintro e st6 ⟨rfl, rfl⟩
        simp [go_sem, e0, e14, e15, e16, hw]
        refine ⟨_, .rfl' _, ⟨?_, j + 1, hlt, by omega, dj', upd_same _ _ _, hcr⟩, by omega⟩
        exact (hk4.trans ((k5 _).imp fun _ _ => trivial)).old ((k5 _).getM hdj trivial) (by simp [HObj.tag])
      · omega
    · have hje : j = S.turns.length := by omega
      subst hje
      rw [List.drop_length] at hcr
      injection hcr with hcr
      subst hcr
      simp [go_sem, e0, e14, e15, e16, h1c, fsC]
      have k6 : Keep (fun g => g ≠ .own f 0 0) st4 (upd st4 f (.cells true (fsC sm nm (.slice none 0 0) S.files.length S.c.call.2) 9 (.own f 0 0))) := Keep.rfl'.old h1c (by simp [HObj.tag])
      refine ⟨⟨sm, nm, .slice none 0 0, ad, upd_same _ _ _, k6.getM hdj (by simp), k6.getM (hk4.getM h3 (by simp)) (by simp), Vec.nil, ?_, ?_⟩, ?_⟩
      · intro i F hi
        exact ((h5 i F hi).keep hk4 (by intro r h1 h2; simp; omega)).keep k6 (by intro r h1 h2; simp; omega)
      · exact ⟨syncM_ok hd h6.1 h6.2.2, h6.2.1, by intro t ht; cases ht⟩
      · exact (k0'.trans (hk4.imp fun g h => h 0 5)).trans (k6.imp fun g h => h 0 0)
  · simp [hc, go_sem]
    exact ⟨hfs, k0'⟩
end
end Go.Proofs.Ytenencpnnjacdaa
