/- Sorting what has at most one element: nothing is done. -/
import Derived.Test.YtadgciaclhjjkaaGreatCTab
import Derived.Test.YtadgciaclhjjkaaGreatC08
import Derived.Test.YtadgciaclhjjkaaGreatC12
import Derived.Test.YtadgciaclhjjkaaGreatC11
set_option linter.unusedVariables false
set_option linter.unusedSimpArgs false
set_option maxRecDepth 100000
namespace Go.Proofs.YtadgciaclhjjkaaGreat
open Go.RowKit (Below)
section
variable {W0 : World} {st : Heap}
end
end Go.Proofs.YtadgciaclhjjkaaGreat
set_option linter.unusedVariables false
set_option linter.unusedSimpArgs false
set_option maxRecDepth 100000
namespace Go.Proofs.YtadgciaclhjjkaaGreat
open Go.RowKit (Below)

def VFS.put (S : VFS) (c : Ctl) (k : Nat) (b : Bs) : VFS := { S with c := c, files := S.files.modify k (·.app b) }
def VFS.lenOf (S : VFS) (k : Nat) : Nat := ((S.files[k]?).map (fun F => F.now.length)).getD 0
def VFS.append (S : VFS) (n : ByteArray) (b : Bs) : Int × VFS :=
  if okName n = false then (if S.c.call.1 = 0 then 1 else S.c.call.1, S.ctl S.c.call.2)
  else match aget S.now n with
    | none => (if S.c.call.1 = 0 then 3 else S.c.call.1, S.ctl S.c.call.2)
    | some k =>
      if S.c.call.1 = 0 then
        if b.length + S.lenOf k ≤ 1073741824 then (0, S.put S.c.call.2 k b) else (2, S.ctl S.c.call.2)
      else (S.c.call.1, if S.c.off = false ∧ b.length / 2 + S.lenOf k ≤ 1073741824 then S.put S.c.call.2 k (b.take (b.length / 2)) else S.ctl S.c.call.2)
section
variable {W0 : World} {st : Heap}
/-- A file's bytes are put, within its file system. -/
theorem put_spec {f k : Nat} {S : VFS} {F : VFile} {sm nm : Nat} {tv : Value} {ad : Nat → Nat} {b : Bs} {bv : Value} (h1 : st f = some (.cells true (fsC sm nm tv S.files.length S.c) 9 (.own f 0 0))) (h2 : st sm = some (.map (.own f 0 5) (encM ad S.sure))) (h3 : st nm = some (.map (.own f 0 6) (encM ad S.now)))
    (h4 : Vec st (.own f 0 7) 4 tv (S.turns.flatMap (encT ad)) S.turns.length) (h5 : ∀ (i : Nat) (F : VFile), S.files[i]? = some F → FileAt st f i (ad i) F) (h6 : S.ok) (hk : S.files[k]? = some F)
    (hb : srcCells 1 st bv = some (b.length, bytesV b)) (hs1 : F.now.length + b.length < 2 ^ 40) (hs2 : F.pend.length < 2 ^ 40) :
    ICalls Tryz.prog W0 81 #[ptr (ad k), bv] st fun e st' => e = .returned (.tuple #[]) ∧ FSAt st' f (S.put S.c k b) ∧ Keep (Out f) st st' := by
  refine (fileAppend_spec (h5 k F hk) hb hs1 hs2).mono ?_
  rintro e st' ⟨rfl, hF, hkp⟩
  refine ⟨rfl, ⟨sm, nm, tv, ad, ?_, hkp.getM h2 (by intro r _ _; simp; omega), hkp.getM h3 (by intro r _ _; simp; omega), h4.keep hkp (by intro r _ _; simp; omega), ?_, ?_⟩, hkp.imp fun g h r _ _ => h k r⟩
  · have := hkp.get h1 (by intro r _ _; simp; omega)
    simpa [VFS.put] using this
  · intro i G hi
    simp only [VFS.put] at hi
    rw [List.getElem?_modify] at hi
    by_cases hik : k = i
    · subst hik
      rw [hk] at hi
      simp at hi
      subst hi
      exact hF
    · cases hj : S.files[i]? with
      | none => rw [hj] at hi; cases hi
      | some G' =>
        rw [hj] at hi
        simp [hik] at hi
        subst hi
        exact (h5 i G' hj).keep hkp (by intro r _ _ r' _ _; simp; omega)
  · obtain ⟨o1, o2, o3⟩ := h6
    exact ⟨by simpa [VFS.put] using o1, by simpa [VFS.put] using o2, by simpa [VFS.put] using o3⟩
theorem Append_spec {f : Nat} {S : VFS} {n : ByteArray} {b : Bs} {bv : Value} {g : Tg} (h : FSAt st f S) (hs : S.small) (hb : Reg st g 1 bv (bytesV b) b.length) (hg : Out f g) (hbl : b.length < 2 ^ 40) :
    ICalls Tryz.prog W0 90 #[ptr f, .string n, bv] st fun e st' => e = .returned (Val.i (S.append n b).1) ∧ FSAt st' f (S.append n b).2 ∧ Keep (Out f) st st' := by
  obtain ⟨sm, nm, tv, ad, h1, h2, h3, h4, h5, h6⟩ := h
  refine enter (args := [_, _, _]) Tryz.func90 rfl ?_
  obtain ⟨base, cap, rfl⟩ := hb.slice
  simp [Tryz.f90, go_sem, h1, fsC]
  refine call_spec h1 ?_
  obtain ⟨k0, hfs, h1, h2, h3, h4, h5⟩ := FSAt.ctl' h1 h2 h3 h4 h5 h6 S.c.call.2
  generalize hst1 : upd st f _ = st1 at *
  have k0' : Keep (Out f) st st1 := k0.imp fun g h => h 0 0
  have hb1 := hb.keep k0' hg
  simp [go_sem]
  refine ICalls.mono (find_spec (n := n) h1 h3) ?_
  rintro e st2 ⟨rfl, rfl⟩
  have hw : IntKind.i64.wrap ((b.length : Int) / 2) = (b.length : Int) / 2 := wrap_id (by omega) (by omega)
  have hn : ((b.length : Int) / 2).toNat = b.length / 2 := by omega
  have hcap := hb1.cap
  have hcap2 : b.length / 2 ≤ cap := by omega
  have h0 : (0 : Int) ≤ (b.length : Int) / 2 := by omega
  unfold VFS.append
  cases hk : okName n with
  | false =>
    by_cases hc : S.c.call.1 = 0
    · simp [go_sem, hc]
      first | exact ⟨hfs, k0'⟩ | exact ⟨Nat.le_refl _, hfs, k0'⟩
    · cases ho : S.c.off
      · simp [go_sem, hc, hw, hn, h0, hcap2, ho]
        first | exact ⟨hfs, k0'⟩ | exact ⟨Nat.le_refl _, hfs, k0'⟩
      · simp [go_sem, hc, hw, hn, h0, hcap2, ho]
        first | exact ⟨hfs, k0'⟩ | exact ⟨Nat.le_refl _, hfs, k0'⟩
  | true =>
    cases hg : aget S.now n with
    | none =>
      by_cases hc : S.c.call.1 = 0
      · simp [go_sem, hc]
        first | exact ⟨hfs, k0'⟩ | exact ⟨Nat.le_refl _, hfs, k0'⟩
      · cases ho : S.c.off
        · simp [go_sem, hc, hw, hn, h0, hcap2, ho]
          first | exact ⟨hfs, k0'⟩ | exact ⟨Nat.le_refl _, hfs, k0'⟩
        · simp [go_sem, hc, hw, hn, h0, hcap2, ho]
          first | exact ⟨hfs, k0'⟩ | exact ⟨Nat.le_refl _, hfs, k0'⟩
    | some k =>
      have hkl : k < S.files.length := by
        unfold aget at hg
        obtain ⟨p, h7, h8⟩ := Option.map_eq_some_iff.1 hg
        obtain ⟨e, h9, h10⟩ := afind_mem h7
        rw [← h8, ← h10]; exact h6.2.1 e h9
      obtain ⟨F, hF⟩ : ∃ F, S.files[k]? = some F := ⟨_, List.getElem?_eq_getElem hkl⟩
      have hlen : S.lenOf k = F.now.length := by simp [VFS.lenOf, hF]
      obtain ⟨s1, s2, s3⟩ := hs
      obtain ⟨q1, q2, q3⟩ := s3 F (List.mem_of_getElem? hF)
      obtain ⟨sv, pv, nv, us, b1, b2, b3, b4, b5⟩ := h5 k F hF
      obtain ⟨nb, nc, rfl⟩ := b5.slice
      have hw2 : IntKind.i64.wrap (1073741824 - (F.now.length : Int)) = 1073741824 - (F.now.length : Int) := wrap_id (by omega) (by omega)
      by_cases hc : S.c.call.1 = 0
      · by_cases hfit : b.length + F.now.length ≤ 1073741824
        · have hfit' : ¬ (1073741824 - (F.now.length : Int) < b.length) := by omega
          simp [go_sem, hc, hlen, hfit, hfit', b1, hw2]
          refine ICalls.mono (put_spec (S := S.ctl S.c.call.2) h1 h2 h3 h4 h5 h6 hF hb1.src (by omega) q1) ?_
          rintro e st3 ⟨rfl, c1, c2⟩
          simp [go_sem]
          exact ⟨c1, k0'.trans c2⟩
        · have hfit' : 1073741824 - (F.now.length : Int) < b.length := by omega
          simp [go_sem, hc, hlen, hfit, hfit', b1, hw2]
          first | exact ⟨hfs, k0'⟩ | exact ⟨Nat.le_refl _, hfs, k0'⟩
      · cases ho : S.c.off
        · by_cases hfit : b.length / 2 + F.now.length ≤ 1073741824
          · have hfit' : (b.length : Int) / 2 ≤ 1073741824 - (F.now.length : Int) := by omega
            simp [go_sem, hc, hw, hn, h0, hcap2, ho, hlen, hfit, hfit', b1, hw2]
            have hb2 := (hb1.take (m := b.length / 2) (by omega)).src
            have e1 : (b.take (b.length / 2)).length = b.length / 2 := by rw [List.length_take]; omega
            have e2 : bytesV (b.take (b.length / 2)) = (bytesV b).take (b.length / 2) := by simp [bytesV, List.map_take]
            have hP := put_spec (W0 := W0) (b := b.take (b.length / 2)) (bv := .slice base (b.length / 2) cap) (S := S.ctl S.c.call.2) h1 h2 h3 h4 h5 h6 hF (by rw [e1, e2]; exact hb2) (by omega) q1
            refine ICalls.mono hP ?_
            rintro e st3 ⟨rfl, c1, c2⟩
            simp [go_sem]
            exact ⟨c1, k0'.trans c2⟩
          · have hfit' : ¬ ((b.length : Int) / 2 ≤ 1073741824 - (F.now.length : Int)) := by omega
            simp [go_sem, hc, hw, hn, h0, hcap2, ho, hlen, hfit, hfit', b1, hw2]
            first | exact ⟨hfs, k0'⟩ | exact ⟨Nat.le_refl _, hfs, k0'⟩
        · simp [go_sem, hc, hw, hn, h0, hcap2, ho]
          first | exact ⟨hfs, k0'⟩ | exact ⟨Nat.le_refl _, hfs, k0'⟩
end
end Go.Proofs.YtadgciaclhjjkaaGreat
set_option linter.unusedVariables false
set_option linter.unusedSimpArgs false
set_option maxRecDepth 100000
namespace Go.Proofs.YtadgciaclhjjkaaGreat
open Go.RowKit (Below)

section
variable {W0 : World} {st : Heap}
end
end Go.Proofs.YtadgciaclhjjkaaGreat
set_option linter.unusedVariables false
set_option linter.unusedSimpArgs false
set_option maxRecDepth 100000
namespace Go.Proofs.YtadgciaclhjjkaaGreat
open Go.RowKit (Below)

def Ent (st : Heap) (r : Nat) (z : Int) (f : Value → KV) : Prop := ∃ (ents : Array MapEntry) (clock : Nat) (es : KV) (j : Nat) (e : MapEntry), st r = some (.other (.map ents clock)) ∧ MapAt ents clock es ∧ ents[j]? = some e ∧ (e.born : Int) = z ∧ ∀ v, es.set j (e.key, v) = f v
def encSet (ad : Nat → Nat) (l : Dir) (k : ByteArray) (v : Value) : KV := match afind k l 0 with | some (j, _) => (encM ad l).set j (.string k, v) | none => encM ad l ++ [(.string k, v)]
theorem encSet_ptr (ad : Nat → Nat) (l : Dir) (k : ByteArray) (x : Nat) : encSet ad l k (ptr (ad x)) = encM ad (aset l k x) := by
  unfold encSet aset
  cases h : afind k l 0 with
  | none => simp [encM]
  | some p => simp [encM, List.map_set]
theorem afind_lt {k : ByteArray} : ∀ {l : Dir} {i : Nat} {p : Nat × Nat}, afind k l i = some p → i ≤ p.1 ∧ p.1 < i + l.length
  | [], i, p, h => by cases h
  | e :: l, i, p, h => by
    unfold afind at h
    split at h
    · injection h with h; subst h; exact ⟨Nat.le_refl _, by simp⟩
    · have := afind_lt h; simp only [List.length_cons]; omega
section
variable {W0 : World} {st : Heap} {K : Value → Heap → Prop}
theorem MapEntryI_enc {r : Nat} {g : Tg} {ad : Nat → Nat} {l : Dir} {k : ByteArray} (hr : st r = some (.map g (encM ad l))) (hk : ∀ old z st1, Ent st1 r z (encSet ad l k) → (∀ x, x ≠ r → st1 x = st x) → K (.tuple #[old, .int .i64 z]) st1) :
    MapEntryI Tryz.prog 146 (.map (some r)) (.string k) K st := by
  unfold MapEntryI mapEntryX
  refine optK_iff.2 ⟨_, mi146, ?_⟩
  refine optK_iff.2 ⟨encM ad l, by rw [mapOf_mk, hr]; rfl, ?_⟩
  simp only
  rw [mfind_encM]
  cases h : afind k l 0 with
  | none =>
    refine optK_iff.2 ⟨_, rfl, fun ents clock ha e he => ?_⟩
    simp only [Option.map_none] at ha he
    refine hk _ _ _ ⟨ents, clock, _, _, e, upd_same _ _ _, ha, he, rfl, ?_⟩ (fun x hx => upd_ne _ _ hx)
    intro v
    have hkey : e.key = .string k := by
      have h1 : (ents.toList.map fun x => (x.key, x.val))[(encM ad l).length]? = some (e.key, e.val) := by simp [he]
      rw [ha.kv] at h1
      simp at h1
      exact h1.1.symm
    unfold encSet
    rw [h, hkey]
    simp
  | some p =>
    have hlt := (afind_lt h).2
    simp only [Nat.zero_add] at hlt
    have hlt' : p.1 < (encM ad l).length := by simpa [encM] using hlt
    refine optK_iff.2 ⟨_, rfl, fun ents clock ha e he => ?_⟩
    simp only [Option.map_some] at ha he
    refine hk _ _ _ ⟨ents, clock, _, _, e, upd_same _ _ _, ha, he, rfl, ?_⟩ (fun x hx => upd_ne _ _ hx)
    intro v
    have hkey : e.key = .string k := by
      have h1 : (ents.toList.map fun x => (x.key, x.val))[p.1]? = some (e.key, e.val) := by simp [he]
      rw [ha.kv] at h1
      rw [List.getElem?_set_self hlt'] at h1
      injection h1 with h1
      exact (Prod.mk.inj h1).1.symm
    unfold encSet
    rw [h, hkey, List.set_set]
theorem EntryStoreI_ent {r : Nat} {z : Int} {f : Value → KV} {v : Value} {kk : IntKind} (g : Tg) (h : Ent st r z f) (hk : K undef (upd st r (.map g (f v)))) : EntryStoreI (.map (some r)) (.int kk z) v K st := by
  obtain ⟨ents, clock, es, j, e, h1, h2, h3, h4, h5⟩ := h
  unfold EntryStoreI entryStoreX
  exact ⟨ents, clock, g, es, j, e, h1, h2, h3, h4, by rw [h5]; exact hk⟩
end
def VFS.lay (S : VFS) (n : ByteArray) (b : Bs) : VFS := { S with sure := aset S.sure n S.files.length, now := aset S.now n S.files.length, files := S.files ++ [⟨S.files.length, b, [], b⟩] }
section
variable {W0 : World} {st : Heap}
theorem lay_spec {f : Nat} {S : VFS} {n : ByteArray} {b : Bs} {bv : Value} (h : FSAt st f S) (hs : S.small) (hv : Vec st (.own f S.files.length 3) 1 bv (bytesV b) b.length) :
    ICalls Tryz.prog W0 80 #[ptr f, .string n, bv] st fun e st' => e = .returned (.tuple #[]) ∧ FSAt st' f (S.lay n b) ∧ Keep (Out f) st st' := by
  obtain ⟨sm, nm, tv, ad, h1, h2, h3, h4, h5, h6⟩ := h
  refine enter (args := [_, _, _]) Tryz.func80 rfl ?_
  obtain ⟨bb, bc, rfl⟩ := hv.slice
  have hcap := hv.reg.cap
  simp [Tryz.f80, go_sem]
  refine draw [0, 1, 2, 4, 5, 6, 8, 3, 7, 9, 10, 11, 12, 13] (by kernel_rfl) ?_
  simp [go_sem, h1, fsC, hcap]
  unfold NewP
  intro a ha
  refine ⟨.own f S.files.length 1, ?_⟩
  have hfa := ne_of_new h1 ha
  have hlen1 : ((S.files ++ [(⟨S.files.length, b, [], b⟩ : VFile)]).length : Int) = S.files.length + 1 := by simp
  have hfl := hs.2.1
  have hw : IntKind.i64.wrap ((S.files.length : Int) + 1) = S.files.length + 1 := wrap_id (by omega) (by omega)
  have k1 : Keep (fun _ => True) st (upd st a (.cells true [Val.i S.files.length, .slice bb b.length bc, .slice none 0 0, .slice bb b.length b.length] 4 (.own f S.files.length 1))) := Keep.rfl'.new ha
  have ha' := upd_same st a (.cells true [Val.i S.files.length, .slice bb b.length bc, .slice none 0 0, .slice bb b.length b.length] 4 (.own f S.files.length 1))
  simp [go_sem, h1, fsC, hcap, hfa, hw]
  generalize hst3 : upd st a _ = st3 at *
  have c1 := k1.get h1 trivial
  have k4 : Keep (fun g => g ≠ .own f 0 0) st3 (upd st3 f (.cells true (fsC sm nm tv (S.files.length + 1) S.c) 9 (.own f 0 0))) := Keep.rfl'.old c1 (by simp [HObj.tag])
  have d1 := upd_same st3 f (.cells true (fsC sm nm tv (S.files.length + 1) S.c) 9 (.own f 0 0))
  refine draw [0, 1, 2, 4, 5, 6, 7, 9, 10, 11, 3, 8, 12, 13, 14, 15, 16, 17] (by kernel_rfl) ?_
  simp [go_sem, fsC]
  unfold fsC at k4 d1
  generalize hst4 : upd st3 f _ = st4 at *
  obtain ⟨ad', had⟩ : ∃ ad' : Nat → Nat, ad' = fun i => if i = S.files.length then a else ad i := ⟨_, rfl⟩
  have ead : ∀ i, i < S.files.length → ad i = ad' i := fun i hi => by rw [had]; simp [Nat.ne_of_lt hi]
  have eat : ad' S.files.length = a := by rw [had]; simp
  have e1 := encM_congr (l := S.now) fun p hp => ead p.2 (h6.2.1 p hp)
  have e2 := encM_congr (l := S.sure) fun p hp => ead p.2 (h6.1 p hp)
  have e3 := encT_congr (l := S.turns) fun t ht i hi => ead i (h6.2.2 t ht i hi)
  rw [e1] at h3
  rw [e2] at h2
  rw [e3] at h4
  have d2 := k4.getM (k1.getM h2 trivial) (by simp)
  have d3 := k4.getM (k1.getM h3 trivial) (by simp)
  have hsn : sm ≠ nm := ne_of_tag d2 d3 (by simp [HObj.tag])
  have hsf : f ≠ sm := by rintro rfl; rw [d1] at d2; cases d2
  have hnf : f ≠ nm := by rintro rfl; rw [d1] at d3; cases d3
  refine MapEntryI_enc d2 ?_
  intro old z st5 hE ho
  simp [go_sem]
  refine EntryStoreI_ent (.own f 0 5) hE ?_
  simp [go_sem]
  have hq1 := encSet_ptr ad' S.sure n S.files.length
  rw [eat] at hq1
  rw [show encSet ad' S.sure n (.pointer (some ⟨a, 0, none⟩)) = _ from hq1]
  have k5 : Keep (fun g => g ≠ .own f 0 5) st4 (upd st5 sm (.map (.own f 0 5) (encM ad' (aset S.sure n S.files.length)))) := by
    intro k o g hk ht hp
    have : k ≠ sm := by rintro rfl; rw [d2] at hk; injection hk with hk; subst hk; injection ht with ht; exact hp ht.symm
    rw [upd_ne _ _ this, ho k this]
    exact hk
  have d4 := upd_same st5 sm (.map (.own f 0 5) (encM ad' (aset S.sure n S.files.length)))
  generalize hst6 : upd st5 sm _ = st6 at *
  have d3' := k5.getM d3 (by simp)
  refine MapEntryI_enc d3' ?_
  intro old z st7 hE ho
  simp [go_sem]
  refine EntryStoreI_ent (.own f 0 6) hE ?_
  simp [go_sem]
  have hq2 := encSet_ptr ad' S.now n S.files.length
  rw [eat] at hq2
  rw [show encSet ad' S.now n (.pointer (some ⟨a, 0, none⟩)) = _ from hq2]
  have k6 : Keep (fun g => g ≠ .own f 0 6) st6 (upd st7 nm (.map (.own f 0 6) (encM ad' (aset S.now n S.files.length)))) := by
    intro k o g hk ht hp
    have : k ≠ nm := by rintro rfl; rw [d3'] at hk; injection hk with hk; subst hk; injection ht with ht; exact hp ht.symm
    rw [upd_ne _ _ this, ho k this]
    exact hk
  have d5 := upd_same st7 nm (.map (.own f 0 6) (encM ad' (aset S.now n S.files.length)))
  generalize hst8 : upd st7 nm _ = st8 at *
  refine ⟨⟨sm, nm, tv, ad', ?_, k6.getM d4 (by simp), d5, ?_, ?_, ?_⟩, ?_⟩
  · have := k6.get (k5.get d1 (by simp)) (by simp)
    rw [show (((S.lay n b).files.length : Nat) : Int) = S.files.length + 1 from hlen1]
    exact this
  · exact (((h4.keep k1 trivial).keep k4 (by simp)).keep k5 (by simp)).keep k6 (by simp)
  · intro i F hi
    simp only [VFS.lay] at hi
    by_cases hlt : i < S.files.length
    · rw [List.getElem?_append_left hlt] at hi
      rw [← ead i hlt]
      exact ((((h5 i F hi).keep k1 (fun _ _ _ => trivial)).keep k4 (by intro r h1 h2; simp; omega)).keep k5 (by intro r h1 h2; simp; omega)).keep k6 (by intro r h1 h2; simp; omega)
    · rw [List.getElem?_append_right (by omega)] at hi
      have hi0 : i - S.files.length = 0 := by
        rcases Nat.eq_zero_or_pos (i - S.files.length) with h | h
        · exact h
        · rw [List.getElem?_eq_none (by simp; omega)] at hi; cases hi
      rw [hi0] at hi
      injection hi with hi
      have hii : i = S.files.length := by omega
      subst hi
      subst hii
      have hvv := (((hv.keep k1 trivial).keep k4 (by simp)).keep k5 (by simp)).keep k6 (by simp)
      refine ⟨.slice bb b.length bc, .slice none 0 0, .slice bb b.length b.length, [], ?_, hvv.reg, trivial, Vec.nil, ?_⟩
      · rw [eat]
        exact k6.get (k5.get (k4.get ha' (by simp)) (by simp)) (by simp)
      · obtain ⟨z1, z2, z3, z4, z5, z6⟩ := hvv
        injection z4 with y1 y2 y3; subst y1; subst y3
        refine ⟨z1, bb, b.length, rfl, Nat.le_refl _, ?_⟩
        rcases z6 with ⟨b9, n9, w1, w2, w3⟩ | ⟨w1, w2⟩
        · exact .inl ⟨b9, n9, w1, w2, Nat.le_trans (Nat.mul_le_mul_right _ z5) w3⟩
        · exact .inr ⟨w1, by omega⟩
  · refine ⟨?_, ?_, ?_⟩
    · intro p hp
      simp only [VFS.lay, List.length_append, List.length_singleton] at hp ⊢
      rcases aset_mem hp with hp | hp
      · have := h6.1 p hp; omega
      · omega
    · intro p hp
      simp only [VFS.lay, List.length_append, List.length_singleton] at hp ⊢
      rcases aset_mem hp with hp | hp
      · have := h6.2.1 p hp; omega
      · omega
    · intro t ht i hi
      simp only [VFS.lay, List.length_append, List.length_singleton] at ht ⊢
      have := h6.2.2 t ht i hi; omega
  · exact (((k1.imp fun _ _ => trivial).trans (k4.imp fun g h => h 0 0)).trans (k5.imp fun g h => h 0 5)).trans (k6.imp fun g h => h 0 6)
end
end Go.Proofs.YtadgciaclhjjkaaGreat
set_option linter.unusedVariables false
set_option linter.unusedSimpArgs false
set_option maxRecDepth 100000
namespace Go.Proofs.YtadgciaclhjjkaaGreat
open Go.RowKit (Below)

theorem Ext.other {g : Tg} {st st' : Heap} (h : Ext g st st') (k : Nat) (o : Obj) (hk : st k = some (.other o)) : st' k = some (.other o) := h.keep k _ hk (by simp [HObj.tag])
section
variable {W0 : World} {st : Heap}
end
end Go.Proofs.YtadgciaclhjjkaaGreat
set_option linter.unusedVariables false
set_option linter.unusedSimpArgs false
set_option maxRecDepth 100000
set_option maxHeartbeats 1000000
namespace Go.Proofs.YtadgciaclhjjkaaGreat
open Go.RowKit (Below)

theorem flatMap_get {ad : Nat → Nat} : ∀ {ts : List VTurn} {j : Nat} {t : VTurn}, ts[j]? = some t → ((ts.flatMap (encT ad)).drop (j * 4)).take 4 = encT ad t ∧ j * 4 + 4 ≤ (ts.flatMap (encT ad)).length
  | t :: ts, 0, x, h => by
    injection h with h; subst h
    simp [encT]
  | t :: ts, j + 1, x, h => by
    obtain ⟨h1, h2⟩ := flatMap_get (ad := ad) (ts := ts) (j := j) (by simpa using h)
    rw [show (j + 1) * 4 = j * 4 + 1 + 1 + 1 + 1 by omega]
    constructor
    · simpa [encT] using h1
    · simp only [List.flatMap_cons, List.length_append, encT, List.length_cons, List.length_nil] at h2 ⊢
      omega
section
variable {W0 : World} {st : Heap}
end
end Go.Proofs.YtadgciaclhjjkaaGreat
set_option linter.unusedVariables false
set_option linter.unusedSimpArgs false
set_option maxRecDepth 100000
set_option maxHeartbeats 1000000
namespace Go.Proofs.YtadgciaclhjjkaaGreat
open Go.RowKit (Below)

theorem mapM_byteOf : ∀ bs : List UInt8, (bytesV bs).mapM byteOf = some bs
  | [] => rfl
  | b :: bs => by
    have h := mapM_byteOf bs
    unfold bytesV at h ⊢
    simp only [List.map_cons, List.mapM_cons, h]
    have hb : byteOf (.int .u8 b.toNat) = some b := by simp [byteOf]
    rw [hb]
    rfl
theorem textOf_reg {st : Heap} {g : Tg} {base : Option Addr} {cap : Nat} {bs : List UInt8} {n : Nat} (h : Reg st g 1 (.slice base n cap) (bytesV bs) n) : textOf st (.slice base n cap) = some ⟨bs.toArray⟩ := by
  have hlen : bs.length = n := by have := h.1; rw [bytesV_length] at this; omega
  have hs := h.src
  cases base with
  | none =>
    simp only [srcCells] at hs
    split at hs
    · rename_i h0
      subst h0
      have : bs = [] := List.eq_nil_of_length_eq_zero hlen
      subst this; rfl
    · cases hs
  | some a =>
    simp only [srcCells] at hs
    simp only [textOf]
    split
    · rename_i h0
      have : bs = [] := List.eq_nil_of_length_eq_zero (by omega)
      subst this; rfl
    · rename_i h0
      rw [if_neg h0] at hs
      obtain ⟨l, h1, h2⟩ := Option.map_eq_some_iff.1 hs
      rw [Nat.mul_one] at h1
      injection h2 with h2 h3
      subst h3
      rw [h1]
      simp [mapM_byteOf]
section
variable {W0 : World} {st : Heap}
end
end Go.Proofs.YtadgciaclhjjkaaGreat
set_option linter.unusedVariables false
set_option linter.unusedSimpArgs false
set_option maxRecDepth 100000
set_option maxHeartbeats 1000000
namespace Go.Proofs.YtadgciaclhjjkaaGreat
open Go.RowKit (Below)

theorem unzz_bits (u : Nat) (h : u < 2 ^ 64) : bits .xor .i64 (IntKind.i64.wrap ((u / 2 : Nat) : Int)) (IntKind.i64.wrap (0 - IntKind.i64.wrap ((u % 2 : Nat) : Int))) = unzz u := by
  have w1 : IntKind.i64.wrap ((u / 2 : Nat) : Int) = ((u / 2 : Nat) : Int) := wrap_id (by omega) (by omega)
  have w2 : IntKind.i64.wrap ((u % 2 : Nat) : Int) = ((u % 2 : Nat) : Int) := wrap_id (by omega) (by omega)
  unfold unzz
  by_cases h2 : u % 2 = 0
  · rw [w1, w2, h2, if_pos rfl, show IntKind.i64.wrap (0 - ((0 : Nat) : Int)) = 0 by rw [wrap_id] <;> omega, xor_izero _ (by omega) (by omega)]
  · have h3 : u % 2 = 1 := by omega
    rw [w1, w2, h3, if_neg (by omega), show IntKind.i64.wrap (0 - ((1 : Nat) : Int)) = -1 by rw [wrap_id] <;> omega, xor_iones _ (by omega) (by omega)]
def vgetTextM (b : Bs) (at_ most : Int) : Option (Bs × Nat) :=
  match vgetM b at_ with
  | none => none
  | some (n, a) => if most < 0 ∨ most < n ∨ b.length - a < n then none else some ((b.drop a).take n, a + n)
def vgetTextV : Option (Bs × Nat) → Value
  | some (s, a) => .tuple #[.string ⟨s.toArray⟩, Val.i a, .bool true]
  | none => .tuple #[.string ⟨#[]⟩, Val.i 0, .bool false]
section
variable {W0 : World} {st : Heap}
theorem vGetInt_spec {bv : Value} {b : Bs} {g0 : Tg} {at_ : Int} (h : Reg st g0 1 bv (bytesV b) b.length) (hl : b.length < 2 ^ 60) :
    ICalls Tryz.prog W0 59 #[bv, Val.i at_] st fun e st' => e = .returned (vgetIntV (vgetIntM b at_)) ∧ st' = st := by
  refine enter (args := [_, _]) Tryz.func59 rfl ?_
  simp [Tryz.f59, go_sem]
  refine (vGet_spec h hl).mono ?_
  rintro e st' ⟨rfl, rfl⟩
  unfold vgetIntM
  cases hg : vgetM b at_ with
  | none =>
    have w0 : IntKind.i64.wrap 0 = 0 := by decide
    have a0 : bits .and .u64 0 1 = 0 := by decide
    have f0 : Int.fdiv 0 2 = 0 := by decide
    have x0 : bits .xor .i64 0 0 = 0 := by decide
    simp [go_sem, vgetV, vgetIntV, w0, a0, f0, x0]
  | some r =>
    obtain ⟨u, a⟩ := r
    have hb := vgetM_bound hg
    simp only at hb
    have hfd : ((u : Int).fdiv 2) = ((u / 2 : Nat) : Int) := by rw [Int.fdiv_eq_ediv_of_nonneg _ (by omega)]; omega
    have hand : bits .and .u64 (u : Int) 1 = ((u % 2 : Nat) : Int) := by rw [bits_and1 _ (by omega) (by omega)]; omega
    have hz := unzz_bits u hb.1
    simp only [Int.zero_sub] at hz
    generalize hA : ((u / 2 : Nat) : Int) = A at *
    generalize hB : ((u % 2 : Nat) : Int) = B at *
    simp [go_sem, vgetV, vgetIntV, hfd, hand, hz]
theorem vPutText_spec {bv : Value} {b : Bs} {g0 : Tg} (g : Tg) {s : ByteArray} (h : Reg st g0 1 bv (bytesV b) b.length) (hs : s.size < 2 ^ 40) (hl : b.length < 2 ^ 40) :
    ICalls Tryz.prog W0 121 #[bv, .string s] st fun e st' => ∃ v, e = .returned v ∧ Vec st' g 1 v (bytesV (b ++ (vputM s.size ++ s.data.toList))) (b ++ (vputM s.size ++ s.data.toList)).length ∧ Fresh st v ∧ New st st' := by
  refine enter (args := [_, _]) Tryz.func121 rfl ?_
  have hw : IntKind.u64.wrap (s.size : Int) = s.size := wraps_u64 _ (by omega) (by omega)
  have hne : (40 : Nat) ≠ 9 := by decide
  simp [Tryz.f121, go_sem, hw]
  refine (vPut_spec g h (show s.size < 2 ^ 64 by omega) hl).mono ?_
  rintro e st1 ⟨v, rfl, hv, hf, hk⟩
  have hpl := vputM_len s.size (by omega)
  simp [go_sem]
  rw [b_append2 _ _ _ _ hne Tryz.underlying9]
  rw [si40]
  have hss : s.data.toList.length = s.size := by simp
  refine AppI_new (m := s.size) (ys := bytesV s.data.toList) si40 hv hf hk (by simp [srcCells, bytesV]) (bytesV_one _) (by rw [List.length_append]; omega) ?_
  intro nb nc st2 hv2 hf2 hk2 _
  simp [go_sem]
  refine ⟨?_, ?_, hk2⟩
  · have e1 : (b ++ vputM s.size).length + s.size = b.length + ((vputM s.size).length + s.size) := by simp; omega
    simp only [bytesV_append, List.append_assoc] at hv2 ⊢
    simpa [Nat.add_assoc] using hv2
  · simpa using hf2
theorem vGetText_spec {bv : Value} {b : Bs} {g0 : Tg} {at_ most : Int} (h : Reg st g0 1 bv (bytesV b) b.length) (hl : b.length < 2 ^ 60) (hm : most < 2 ^ 63) :
    ICalls Tryz.prog W0 178 #[bv, Val.i at_, Val.i most] st fun e st' => e = .returned (vgetTextV (vgetTextM b at_ most)) ∧ st' = st := by
  obtain ⟨base, cap, rfl⟩ := h.slice
  refine enter (args := [_, _, _]) Tryz.func178 rfl ?_
  simp [Tryz.f178, go_sem]
  refine (vGet_spec h hl).mono ?_
  rintro e st' ⟨rfl, rfl⟩
  unfold vgetTextM
  cases hg : vgetM b at_ with
  | none =>
    have q : (false = true) = False := by simp
    simp (config := {maxSteps := 1000000}) [go_sem, vgetV, vgetTextV]
  | some r =>
    obtain ⟨n, a⟩ := r
    have hb := vgetM_bound hg
    simp only at hb
    by_cases h1 : most < 0
    · simp [go_sem, vgetV, vgetTextV, h1]
    · have hwm : IntKind.u64.wrap most = most := wraps_u64 _ (by omega) (by omega)
      by_cases h2 : most < n
      · simp [go_sem, vgetV, vgetTextV, h1, hwm, h2]
      · have hwl : IntKind.i64.wrap ((b.length : Int) - a) = (b.length : Int) - a := wrap_id (by omega) (by omega)
        have hwl2 : IntKind.u64.wrap ((b.length : Int) - a) = (b.length : Int) - a := wraps_u64 _ (by omega) (by omega)
        by_cases h3 : b.length - a < n
        · have h3' : (b.length : Int) - a < n := by omega
          simp [go_sem, vgetV, vgetTextV, h1, hwm, h2, hwl, hwl2, h3, h3']
        · have h3' : ¬ (b.length : Int) - a < n := by omega
          have hwn : IntKind.i64.wrap (n : Int) = n := wrap_id (by omega) (by omega)
          have hwe : IntKind.i64.wrap ((a : Int) + n) = ((a + n : Nat) : Int) := by rw [wrap_id (by omega) (by omega)]; omega
          have hcap := h.cap
          have c1 : a + n ≤ cap := by omega
          have c2 : a ≤ a + n := by omega
          have htx : textOf st' (.slice (if cap = a then base else base.map (·.add a)) n (cap - a)) = some ⟨((b.drop a).take n).toArray⟩ := by
            refine textOf_reg (g := g0) ?_
            obtain ⟨hl1, base', cap', hv, hc, hr⟩ := h
            injection hv with q1 q2 q3; subst q1; subst q3
            refine ⟨by simp [bytesV]; omega, _, _, rfl, by omega, ?_⟩
            by_cases hn0 : n = 0
            · exact .inl hn0
            · rcases hr with hr | ⟨blk, off, rw_, ys, m, rfl, hs, hp, hoff⟩
              · omega
              · right
                rw [if_neg (by omega)]
                refine ⟨blk, off + a, rw_, ys, m, by simp [add_mk], hs, ?_, ?_⟩
                · obtain ⟨t, ht⟩ := hp
                  rw [show bytesV ((b.drop a).take n) = ((bytesV b).drop a).take n by simp [bytesV, List.map_take, List.map_drop], ← List.drop_drop, ← ht]
                  rw [List.drop_append_of_le_length (by rw [bytesV_length]; omega)]
                  exact (List.take_prefix _ _).trans (List.prefix_append _ _)
                · obtain ⟨t, ht⟩ := hp
                  have := congrArg List.length ht
                  simp [bytesV] at this
                  omega
          have e1 : a + n - a = n := by omega
          have b0 : (0 : Int) ≤ (a : Int) + n := by omega
          have b1 : ((a : Int) + n).toNat = a + n := by omega
          simp [go_sem, vgetV, vgetTextV, h1, hwm, h2, hwl, hwl2, h3, h3', hwn, hwe, c1, b0, b1, htx]
end
end Go.Proofs.YtadgciaclhjjkaaGreat
set_option linter.unusedVariables false
set_option linter.unusedSimpArgs false
set_option maxRecDepth 100000
set_option maxHeartbeats 1000000
namespace Go.Proofs.YtadgciaclhjjkaaGreat
open Go.RowKit (Below)

theorem xor_lt32 {a b : Nat} (ha : a < 2 ^ 32) (hb : b < 2 ^ 32) : a ^^^ b < 2 ^ 32 := Nat.xor_lt_two_pow ha hb
theorem bits_xor32 (a b : Nat) (ha : a < 2 ^ 32) (hb : b < 2 ^ 32) : bits .xor .u32 (a : Int) (b : Int) = ((a ^^^ b : Nat) : Int) := by
  have h1 : (BitVec.ofNat 32 a ^^^ BitVec.ofNat 32 b).toNat = a ^^^ b := by
    rw [BitVec.toNat_xor, BitVec.toNat_ofNat, BitVec.toNat_ofNat, Nat.mod_eq_of_lt ha, Nat.mod_eq_of_lt hb]
  unfold bits
  simp only [BitVec.ofInt_natCast]
  show IntKind.u32.wrap ((BitVec.ofNat 32 a ^^^ BitVec.ofNat 32 b).toNat : Int) = _
  rw [h1]
  have := xor_lt32 ha hb
  exact wraps_u32 _ (by omega) (by omega)
theorem bits_and15 (a : Nat) (h : a < 2 ^ 32) : bits .and .u32 (a : Int) 15 = ((a % 16 : Nat) : Int) := by
  have := bits_mask .u32 32 (by decide) wraps_u32 4 (by decide) (a : Int) (by omega) (by omega)
  simpa using this
def crcTab : List Nat := [0, 274646895, 549293790, 820201905, 1098587580, 1361435347, 1640403810, 1905808397, 2197175160, 2460548119, 2722870694, 2987750089, 3280807620, 3553878443, 3811616794, 4084100981]
def crcNib (r : Nat) : Nat := (r / 16) ^^^ crcTab.getD (r % 16) 0
def crcNibs : Nat → Nat → Nat
  | 0, q => q
  | m + 1, q => crcNibs m (crcNib q)
def crcByte (r : Nat) (x : UInt8) : Nat := crcNib (crcNib (r ^^^ x.toNat))
def crcM (b : Bs) : Nat := b.foldl crcByte 4294967295 ^^^ 4294967295
theorem bits_max32 (r : Nat) (h : r < 2 ^ 32) (m : Int) (hm : m = ((4294967295 : Nat) : Int)) : bits .xor .u32 m (r : Int) = ((4294967295 ^^^ r : Nat) : Int) := by
  subst hm
  exact bits_xor32 4294967295 r (by decide) h
theorem crcTab_lt (i : Nat) : crcTab.getD i 0 < 2 ^ 32 := by
  by_cases h : i < 16
  · have : ∀ j : Fin 16, crcTab.getD j.val 0 < 2 ^ 32 := by decide
    exact this ⟨i, h⟩
  · have : crcTab.getD i 0 = 0 := by
      rw [List.getD_eq_getElem?_getD, List.getElem?_eq_none (by simp [crcTab]; omega)]; rfl
    rw [this]; decide
theorem crcNib_lt {r : Nat} (h : r < 2 ^ 32) : crcNib r < 2 ^ 32 := xor_lt32 (by omega) (crcTab_lt _)
theorem crcByte_lt {r : Nat} (h : r < 2 ^ 32) (x : UInt8) : crcByte r x < 2 ^ 32 := crcNib_lt (crcNib_lt (xor_lt32 h (by have := x.toNat_lt; omega)))
theorem crc_lt : ∀ (b : Bs) (r : Nat), r < 2 ^ 32 → b.foldl crcByte r < 2 ^ 32
  | [], r, h => h
  | x :: b, r, h => crc_lt b _ (crcByte_lt h x)
theorem crcM_lt (b : Bs) : crcM b < 2 ^ 32 := xor_lt32 (crc_lt b _ (by decide)) (by decide)
section
variable {W0 : World} {st : Heap}
theorem sumMore_spec {bv : Value} {b : Bs} {g0 : Tg} (h : Reg st g0 1 bv (bytesV b) b.length) (hl : b.length < 2 ^ 60) :
    ICalls Tryz.prog W0 194 #[.int .u32 0, bv] st fun e st' => e = .returned (.int .u32 (crcM b)) ∧ New st st' := by
  obtain ⟨base, cap, rfl⟩ := h.slice
  refine enter (args := [_, _]) Tryz.func194 rfl ?_
  have hx0 : bits .xor .u32 4294967295 0 = 4294967295 := by decide
  have hmax : IntKind.u32.max = 4294967295 := by decide
  have hsg : IntKind.u32.signed = false := by decide
  simp [Tryz.f194, go_sem, hmax, hsg, hx0]
  unfold NewP
  intro tb htb
  refine ⟨.ty 0, ?_⟩
  simp [go_sem, hmax, hsg, hx0]
  have k1 : ∀ o, New st (upd st tb o) := fun o => (New.refl _).add htb
  refine ⟨fun E st' => New st st' ∧ st' tb = some (.cells true (crcTab.map fun n : Nat => Value.int .u32 (n : Int)) 16 (.ty 0)) ∧ E 5 = ptr tb ∧ E 12 = .slice base b.length cap ∧ E 13 = Val.i b.length ∧ ∃ (i r : Nat), E 14 = Val.i i ∧ E 6 = .int .u32 r ∧ i ≤ b.length ∧ r < 2 ^ 32 ∧ (b.drop i).foldl crcByte r = b.foldl crcByte 4294967295,
    fun E _ => match E 14 with | .int _ i => b.length - i.toNat | _ => 0, ⟨_, .rfl' _, k1 _, by rw [upd_same]; rfl, by simp [go_sem], by simp [go_sem], by simp [go_sem], 0, 4294967295, by simp [go_sem], by simp [go_sem], by omega, by decide, by simp⟩, ?_⟩
  rintro E st' ⟨hk, ht, e5, e12, e13, i, r, e14, e6, hi, hr, hrec⟩
  by_cases hlt : i < b.length
  · obtain ⟨x, hx⟩ : ∃ x, b[i]? = some x := ⟨_, List.getElem?_eq_getElem hlt⟩
    obtain ⟨blk, off, rfl, hg⟩ := src_get (h.new hk).src (by omega)
    have hg := hg i (by omega)
    have hgx : (bytesV b)[i]? = some (.int .u8 x.toNat) := by simp [bytesV, hx]
    rw [hgx] at hg
    have hx8 := x.toNat_lt
    have hdrop : b.drop i = x :: b.drop (i + 1) := by
      rw [List.drop_eq_getElem_cons hlt]
      congr 1
      rw [List.getElem?_eq_getElem hlt] at hx
      injection hx
    rw [hdrop] at hrec
    simp only [List.foldl_cons] at hrec
    have hwx : IntKind.u32.wrap (x.toNat : Int) = x.toNat := wraps_u32 _ (by omega) (by omega)
    have hxr := bits_xor32 r x.toNat hr (by omega)
    have hwi : IntKind.i64.wrap ((i : Int) + 1) = ((i + 1 : Nat) : Int) := by rw [wrap_id (by omega) (by omega)]; omega
    simp [go_sem, e5, e12, e13, e14, e6, hlt, hg, hwx, hxr]
    refine ⟨fun E st' => New st st' ∧ st' tb = some (.cells true (crcTab.map fun n : Nat => Value.int .u32 (n : Int)) 16 (.ty 0)) ∧ E 5 = ptr tb ∧ E 12 = .slice (some ⟨blk, off, none⟩) b.length cap ∧ E 13 = Val.i b.length ∧ E 14 = Val.i i ∧ ∃ (k q : Nat), E 22 = Val.i k ∧ E 6 = .int .u32 q ∧ k ≤ 2 ∧ q < 2 ^ 32 ∧ crcNibs (2 - k) q = crcByte r x,
      fun E _ => match E 22 with | .int _ k => 2 - k.toNat | _ => 0, ⟨st', .rfl' _, hk, ht, by simp [go_sem, e5], by simp [go_sem, e12], by simp [go_sem, e13], by simp [go_sem, e14], 0, r ^^^ x.toNat, by simp [go_sem], by simp [go_sem], by omega, xor_lt32 hr (by omega), rfl⟩, ?_⟩
    clear e5 e12 e13 e14 e6 hk ht
    rintro E st2 ⟨hk, ht, e5, e12, e13, e14, k, q, e22, e6, hk2, hq, hrep⟩
    by_cases hk3 : k < 2
    · have hk3' : (k : Int) < 2 := by omega
      obtain ⟨m, hm⟩ : ∃ m, 2 - k = m + 1 := ⟨1 - k, by omega⟩
      rw [hm] at hrep
      have hfd : ((q : Int).fdiv 16) = ((q / 16 : Nat) : Int) := by rw [Int.fdiv_eq_ediv_of_nonneg _ (by omega)]; omega
      have hand := bits_and15 q hq
      have hwk : IntKind.i64.wrap ((k : Int) + 1) = ((k + 1 : Nat) : Int) := by rw [wrap_id (by omega) (by omega)]; omega
      have htab : crcTab[q % 16]? = some (crcTab.getD (q % 16) 0) := by
        rw [List.getD_eq_getElem?_getD, List.getElem?_eq_getElem (by simp [crcTab]; omega)]; rfl
      have hxor := bits_xor32 (q / 16) (crcTab.getD (q % 16) 0) (by omega) (crcTab_lt _)
      generalize hT : crcTab.getD (q % 16) 0 = T at *
      generalize hA : q / 16 = A at *
      have hB : q % 16 < 16 := Nat.mod_lt _ (by decide)
      generalize hBB : q % 16 = B at *
      have hB' : (B : Int) < 16 := by omega
      have hnib : crcNib q = A ^^^ T := by unfold crcNib; rw [hA, hBB, hT]
      simp [go_sem, e5, e12, e13, e14, e6, e22, hk3', hfd, hand, hwk, htab, hxor, ht, hB']
      refine ⟨st2, .rfl' _, ⟨hk, ht, k + 1, by omega, A ^^^ T, by omega, by omega, by rw [← hnib]; exact crcNib_lt hq, ?_⟩, by omega⟩
      rw [← hrep, show 2 - (k + 1) = m by omega, ← hnib]
      rfl
    · have : k = 2 := by omega
      subst this
      simp [go_sem, e5, e12, e13, e14, e6, e22, hwi]
      refine ⟨st2, .rfl' _, ⟨hk, ht, i + 1, by omega, q, by omega, by omega, by omega, ?_⟩, by omega⟩
      rw [← hrec, ← hrep]
      rfl
  · have : i = b.length := by omega
    subst this
    have hxe : bits .xor .u32 4294967295 (r : Int) = ((4294967295 ^^^ r : Nat) : Int) := bits_max32 r hr _ rfl
    simp at hrec
    simp [go_sem, e5, e12, e13, e14, e6, hlt, hmax, hsg, hxe]
    refine ⟨?_, hk⟩
    unfold crcM
    rw [← hrec, Nat.xor_comm]
end
end Go.Proofs.YtadgciaclhjjkaaGreat
