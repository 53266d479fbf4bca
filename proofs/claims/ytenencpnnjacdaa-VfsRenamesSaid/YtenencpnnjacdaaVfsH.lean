/- A file that is laid. -/
import Derived.Test.YtenencpnnjacdaaVfsG
set_option linter.unusedVariables false
set_option linter.unusedSimpArgs false
set_option maxRecDepth 100000
namespace Go.Proofs.Ytenencpnnjacdaa
open Go.RowKit (Below)

def Ent (st : Heap) (r : Nat) (z : Int) (f : Value → KV) : Prop := ∃ (ents : Array MapEntry) (clock : Nat) (es : KV) (j : Nat) (e : MapEntry), st r = some (.other (.map ents clock)) ∧ MapAt ents clock es ∧ ents[j]? = some e ∧ (e.born : Int) = z ∧ ∀ v, es.set j (e.key, v) = f v
theorem Ent.keep {st st' : Heap} {r : Nat} {z : Int} {f : Value → KV} (h : Ent st r z f) (hs : st' r = st r) : Ent st' r z f := by
  obtain ⟨ents, clock, es, j, e, h1, h2⟩ := h
  exact ⟨ents, clock, es, j, e, hs.trans h1, h2⟩
def encSet (ad : Nat → Nat) (l : Dir) (k : ByteArray) (v : Value) : KV := match afind k l 0 with | some (j, _) => (encM ad l).set j (.string k, v) | none => encM ad l ++ [(.string k, v)]
theorem encSet_ptr (ad : Nat → Nat) (l : Dir) (k : ByteArray) (x : Nat) : encSet ad l k (ptr (ad x)) = encM ad (aset l k x) := by
  unfold encSet aset
  cases h : afind k l 0 with
  | none => simp [encM]
  | some p => simp [encM, List.map_set]
theorem afind_lt {k : ByteArray} : ∀ {l : Dir} {i : Nat} {p : Nat × Nat}, afind k l i = some p → i ≤ p.1 ∧ p.1 < i + l.length
  | [], i, p, h => by cases h
  | e :: l, i, p, h => by
    unfold afind at h
    split at h
    · injection h with h; subst h; exact ⟨Nat.le_refl _, by simp⟩
    · have := afind_lt h; simp only [List.length_cons]; omega
section
variable {W0 : World} {st : Heap} {K : Value → Heap → Prop}
theorem MapEntryI_enc {r : Nat} {g : Tg} {ad : Nat → Nat} {l : Dir} {k : ByteArray} (hr : st r = some (.map g (encM ad l))) (hk : ∀ old z st1, Ent st1 r z (encSet ad l k) → (∀ x, x ≠ r → st1 x = st x) → K (.tuple #[old, .int .i64 z]) st1) :
    MapEntryI Try.prog 111 (.map (some r)) (.string k) K st := by
  unfold MapEntryI mapEntryX
  refine optK_iff.2 ⟨_, mi111, ?_⟩
  refine optK_iff.2 ⟨encM ad l, by rw [mapOf_mk, hr]; rfl, ?_⟩
  simp only
  rw [mfind_encM]
  cases h : afind k l 0 with
  | none =>
    refine optK_iff.2 ⟨_, rfl, fun ents clock ha e he => ?_⟩
    simp only [Option.map_none] at ha he
    refine hk _ _ _ ⟨ents, clock, _, _, e, upd_same _ _ _, ha, he, rfl, ?_⟩ (fun x hx => upd_ne _ _ hx)
    intro v
    have hkey : e.key = .string k := by
      have h1 : (ents.toList.map fun x => (x.key, x.val))[(encM ad l).length]? = some (e.key, e.val) := by simp [he]
      rw [ha.kv] at h1
      simp at h1
      exact h1.1.symm
    unfold encSet
    rw [h, hkey]
    simp
  | some p =>
    have hlt := (afind_lt h).2
    simp only [Nat.zero_add] at hlt
    have hlt' : p.1 < (encM ad l).length := by simpa [encM] using hlt
    refine optK_iff.2 ⟨_, rfl, fun ents clock ha e he => ?_⟩
    simp only [Option.map_some] at ha he
    refine hk _ _ _ ⟨ents, clock, _, _, e, upd_same _ _ _, ha, he, rfl, ?_⟩ (fun x hx => upd_ne _ _ hx)
    intro v
    have hkey : e.key = .string k := by
      have h1 : (ents.toList.map fun x => (x.key, x.val))[p.1]? = some (e.key, e.val) := by simp [he]
      rw [ha.kv] at h1
      rw [List.getElem?_set_self hlt'] at h1
      injection h1 with h1
      exact (Prod.mk.inj h1).1.symm
    unfold encSet
    rw [h, hkey, List.set_set]
theorem EntryStoreI_ent {r : Nat} {z : Int} {f : Value → KV} {v : Value} {kk : IntKind} (g : Tg) (h : Ent st r z f) (hk : K undef (upd st r (.map g (f v)))) : EntryStoreI (.map (some r)) (.int kk z) v K st := by
  obtain ⟨ents, clock, es, j, e, h1, h2, h3, h4, h5⟩ := h
  unfold EntryStoreI entryStoreX
  exact ⟨ents, clock, g, es, j, e, h1, h2, h3, h4, by rw [h5]; exact hk⟩
end
def VFS.lay (S : VFS) (n : ByteArray) (b : Bs) : VFS := { S with sure := aset S.sure n S.files.length, now := aset S.now n S.files.length, files := S.files ++ [⟨S.files.length, b, [], b⟩] }
section
variable {W0 : World} {st : Heap}
theorem lay_spec {f : Nat} {S : VFS} {n : ByteArray} {b : Bs} {bv : Value} (h : FSAt st f S) (hs : S.small) (hv : Vec st (.own f S.files.length 3) 1 bv (bytesV b) b.length) :
    ICalls Try.prog W0 79 #[ptr f, .string n, bv] st fun e st' => e = .returned (.tuple #[]) ∧ FSAt st' f (S.lay n b) ∧ Keep (Out f) st st' := by
  obtain ⟨sm, nm, tv, ad, h1, h2, h3, h4, h5, h6⟩ := h
  refine enter (args := [_, _, _]) Try.func79 rfl ?_
  obtain ⟨bb, bc, rfl⟩ := hv.slice
  have hcap := hv.reg.cap
  simp [Try.f79, go_sem]
  refine draw [0, 1, 2, 4, 5, 6, 8, 3, 7, 9, 10, 11, 12, 13] (by kernel_rfl) ?_
  simp [go_sem, h1, fsC, hcap]
  unfold NewP
  intro a ha
  refine ⟨.own f S.files.length 1, ?_⟩
  have hfa := ne_of_new h1 ha
  have hlen1 : ((S.files ++ [(⟨S.files.length, b, [], b⟩ : VFile)]).length : Int) = S.files.length + 1 := by simp
  have hfl := hs.2.1
  have hw : IntKind.i64.wrap ((S.files.length : Int) + 1) = S.files.length + 1 := wrap_id (by omega) (by omega)
  have k1 : Keep (fun _ => True) st (upd st a (.cells true [Val.i S.files.length, .slice bb b.length bc, .slice none 0 0, .slice bb b.length b.length] 4 (.own f S.files.length 1))) := Keep.rfl'.new ha
  have ha' := upd_same st a (.cells true [Val.i S.files.length, .slice bb b.length bc, .slice none 0 0, .slice bb b.length b.length] 4 (.own f S.files.length 1))
  simp [go_sem, h1, fsC, hcap, hfa, hw]
  generalize hst3 : upd st a _ = st3 at *
  have c1 := k1.get h1 trivial
  have k4 : Keep (fun g => g ≠ .own f 0 0) st3 (upd st3 f (.cells true (fsC sm nm tv (S.files.length + 1) S.c) 9 (.own f 0 0))) := Keep.rfl'.old c1 (by simp [HObj.tag])
  have d1 := upd_same st3 f (.cells true (fsC sm nm tv (S.files.length + 1) S.c) 9 (.own f 0 0))
  refine draw [0, 1, 2, 4, 5, 6, 7, 9, 10, 11, 3, 8, 12, 13, 14, 15, 16, 17] (by kernel_rfl) ?_
  simp [go_sem, fsC]
  unfold fsC at k4 d1
  generalize hst4 : upd st3 f _ = st4 at *
  obtain ⟨ad', had⟩ : ∃ ad' : Nat → Nat, ad' = fun i => if i = S.files.length then a else ad i := ⟨_, rfl⟩
  have ead : ∀ i, i < S.files.length → ad i = ad' i := fun i hi => by rw [had]; simp [Nat.ne_of_lt hi]
  have eat : ad' S.files.length = a := by rw [had]; simp
  have e1 := encM_congr (l := S.now) fun p hp => ead p.2 (h6.2.1 p hp)
  have e2 := encM_congr (l := S.sure) fun p hp => ead p.2 (h6.1 p hp)
  have e3 := encT_congr (l := S.turns) fun t ht i hi => ead i (h6.2.2 t ht i hi)
  rw [e1] at h3
  rw [e2] at h2
  rw [e3] at h4
  have d2 := k4.getM (k1.getM h2 trivial) (by simp)
  have d3 := k4.getM (k1.getM h3 trivial) (by simp)
  have hsn : sm ≠ nm := ne_of_tag d2 d3 (by simp [HObj.tag])
  have hsf : f ≠ sm := by rintro rfl; rw [d1] at d2; cases d2
  have hnf : f ≠ nm := by rintro rfl; rw [d1] at d3; cases d3
  refine MapEntryI_enc d2 ?_
  intro old z st5 hE ho
  simp [go_sem]
  refine EntryStoreI_ent (.own f 0 5) hE ?_
  simp [go_sem]
  have hq1 := encSet_ptr ad' S.sure n S.files.length
  rw [eat] at hq1
  rw [show encSet ad' S.sure n (.pointer (some ⟨a, 0, none⟩)) = _ from hq1]
  have k5 : Keep (fun g => g ≠ .own f 0 5) st4 (upd st5 sm (.map (.own f 0 5) (encM ad' (aset S.sure n S.files.length)))) := by
    intro k o g hk ht hp
    have : k ≠ sm := by rintro rfl; rw [d2] at hk; injection hk with hk; subst hk; injection ht with ht; exact hp ht.symm
    rw [upd_ne _ _ this, ho k this]
    exact hk
  have d4 := upd_same st5 sm (.map (.own f 0 5) (encM ad' (aset S.sure n S.files.length)))
  generalize hst6 : upd st5 sm _ = st6 at *
  have d3' := k5.getM d3 (by simp)
  refine MapEntryI_enc d3' ?_
  intro old z st7 hE ho
  simp [go_sem]
  refine EntryStoreI_ent (.own f 0 6) hE ?_
  simp [go_sem]
  have hq2 := encSet_ptr ad' S.now n S.files.length
  rw [eat] at hq2
  rw [show encSet ad' S.now n (.pointer (some ⟨a, 0, none⟩)) = _ from hq2]
  have k6 : Keep (fun g => g ≠ .own f 0 6) st6 (upd st7 nm (.map (.own f 0 6) (encM ad' (aset S.now n S.files.length)))) := by
    intro k o g hk ht hp
    have : k ≠ nm := by rintro rfl; rw [d3'] at hk; injection hk with hk; subst hk; injection ht with ht; exact hp ht.symm
    rw [upd_ne _ _ this, ho k this]
    exact hk
  have d5 := upd_same st7 nm (.map (.own f 0 6) (encM ad' (aset S.now n S.files.length)))
  generalize hst8 : upd st7 nm _ = st8 at *
  refine ⟨⟨sm, nm, tv, ad', ?_, k6.getM d4 (by simp), d5, ?_, ?_, ?_⟩, ?_⟩
  · have := k6.get (k5.get d1 (by simp)) (by simp)
    rw [show (((S.lay n b).files.length : Nat) : Int) = S.files.length + 1 from hlen1]
    exact this
  · exact (((h4.keep k1 trivial).keep k4 (by simp)).keep k5 (by simp)).keep k6 (by simp)
  · intro i F hi
    simp only [VFS.lay] at hi
    by_cases hlt : i < S.files.length
    · rw [List.getElem?_append_left hlt] at hi
      rw [← ead i hlt]
      exact ((((h5 i F hi).keep k1 (fun _ _ _ => trivial)).keep k4 (by intro r h1 h2; simp; omega)).keep k5 (by intro r h1 h2; simp; omega)).keep k6 (by intro r h1 h2; simp; omega)
    · rw [List.getElem?_append_right (by omega)] at hi
      have hi0 : i - S.files.length = 0 := by
        rcases Nat.eq_zero_or_pos (i - S.files.length) with h | h
        · exact h
        · rw [List.getElem?_eq_none (by simp; omega)] at hi; cases hi
      rw [hi0] at hi
      injection hi with hi
      have hii : i = S.files.length := by omega
      subst hi
      subst hii
      have hvv := (((hv.keep k1 trivial).keep k4 (by simp)).keep k5 (by simp)).keep k6 (by simp)
      refine ⟨.slice bb b.length bc, .slice none 0 0, .slice bb b.length b.length, [], ?_, hvv.reg, trivial, Vec.nil, ?_⟩
      · rw [eat]
        exact k6.get (k5.get (k4.get ha' (by simp)) (by simp)) (by simp)
      · obtain ⟨z1, z2, z3, z4, z5, z6⟩ := hvv
        injection z4 with y1 y2 y3; subst y1; subst y3
        refine ⟨z1, bb, b.length, rfl, Nat.le_refl _, ?_⟩
        rcases z6 with ⟨b9, n9, w1, w2, w3⟩ | ⟨w1, w2⟩
        · exact .inl ⟨b9, n9, w1, w2, Nat.le_trans (Nat.mul_le_mul_right _ z5) w3⟩
        · exact .inr ⟨w1, by omega⟩
  · refine ⟨?_, ?_, ?_⟩
    · intro p hp
      simp only [VFS.lay, List.length_append, List.length_singleton] at hp ⊢
      rcases aset_mem hp with hp | hp
      · have := h6.1 p hp; omega
      · omega
    · intro p hp
      simp only [VFS.lay, List.length_append, List.length_singleton] at hp ⊢
      rcases aset_mem hp with hp | hp
      · have := h6.2.1 p hp; omega
      · omega
    · intro t ht i hi
      simp only [VFS.lay, List.length_append, List.length_singleton] at ht ⊢
      have := h6.2.2 t ht i hi; omega
  · exact (((k1.imp fun _ _ => trivial).trans (k4.imp fun g h => h 0 0)).trans (k5.imp fun g h => h 0 5)).trans (k6.imp fun g h => h 0 6)
end
end Go.Proofs.Ytenencpnnjacdaa
