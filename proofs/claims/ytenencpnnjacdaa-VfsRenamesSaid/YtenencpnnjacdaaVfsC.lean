/- The file system: what it is, what its methods do. -/
import Derived.Test.YtenencpnnjacdaaVfsB
set_option linter.unusedVariables false
set_option linter.unusedSimpArgs false
set_option maxRecDepth 100000
namespace Go.Proofs.Ytenencpnnjacdaa
open Go.RowKit (Below)

def VFS.ok (S : VFS) : Prop := (∀ p ∈ S.sure, p.2 < S.files.length) ∧ (∀ p ∈ S.now, p.2 < S.files.length) ∧ (∀ t ∈ S.turns, ∀ i, t.file = some i → i < S.files.length)
def FSAt (st : Heap) (f : Nat) (S : VFS) : Prop := ∃ sm nm tv ad, st f = some (.cells true (fsC sm nm tv S.files.length S.c) 9 (.own f 0 0)) ∧ st sm = some (.map (.own f 0 5) (encM ad S.sure)) ∧ st nm = some (.map (.own f 0 6) (encM ad S.now)) ∧
  Vec st (.own f 0 7) 4 tv (S.turns.flatMap (encT ad)) S.turns.length ∧ (∀ (i : Nat) (F : VFile), S.files[i]? = some F → FileAt st f i (ad i) F) ∧ S.ok
theorem FSAt.keep {st st' : Heap} {f : Nat} {S : VFS} {p : Tg → Prop} (hk : Keep p st st') (hp : ∀ x r, p (.own f x r)) (h : FSAt st f S) : FSAt st' f S := by
  obtain ⟨sm, nm, tv, ad, h1, h2, h3, h4, h5, h6⟩ := h
  exact ⟨sm, nm, tv, ad, hk.get h1 (hp _ _), hk.getM h2 (hp _ _), hk.getM h3 (hp _ _), h4.keep hk (hp _ _), fun i F hi => (h5 i F hi).keep hk (fun r _ _ => hp i r), h6⟩
/-- Nothing but this file system's is changed. -/
abbrev Out (f : Nat) (g : Tg) : Prop := ∀ x r, g ≠ .own f x r

section
variable {W0 : World} {st : Heap}
theorem turned_spec {f sm nm : Nat} {tv : Value} {born : Int} {c : Ctl} {ad : Nat → Nat} {ts : List VTurn} {now now' : Dir} {t : VTurn} (h1 : st f = some (.cells true (fsC sm nm tv born c) 9 (.own f 0 0)))
    (h3 : st nm = some (.map (.own f 0 6) (encM ad now))) (h4 : Vec st (.own f 0 7) 4 tv (ts.flatMap (encT ad)) ts.length) (hs : ts.length < 2 ^ 40) (ht : t.does now = some now') :
    ICalls Try.prog W0 72 #[ptr f, .agg (encT ad t).toArray] st fun e st' => e = .returned (.tuple #[]) ∧ ∃ tv', st' f = some (.cells true (fsC sm nm tv' born c) 9 (.own f 0 0)) ∧ st' nm = some (.map (.own f 0 6) (encM ad now')) ∧
      Vec st' (.own f 0 7) 4 tv' ((ts ++ [t]).flatMap (encT ad)) (ts ++ [t]).length ∧ Keep (fun g => g ≠ .own f 0 0 ∧ g ≠ .own f 0 6 ∧ g ≠ .own f 0 7) st st' := by
  refine enter (args := [_, _]) Try.func72 rfl ?_
  obtain ⟨base, cap, rfl⟩ := h4.slice
  simp [Try.f72, go_sem, encT]
  unfold NewP
  intro b0 hb0
  refine ⟨.ty 0, ?_⟩
  simp [go_sem]
  refine draw [0, 1, 2, 3, 4, 5, 6, 7, 8, 9, 10] (by kernel_rfl) ?_
  have hf0 := ne_of_new h1 hb0
  have k1 : Keep (fun _ => True) st (upd st b0 (.cells true [Val.i t.kind, .string t.name, .string t.to, .pointer (t.file.map fun i => ⟨ad i, 0, none⟩)] 4 (.ty 0))) := Keep.rfl'.new hb0
  simp [go_sem, hf0, h1, fsC]
  unfold NewS
  intro b1 hb1
  refine ⟨.ty 0, ?_⟩
  have h1b := k1.get h1 trivial
  have hf1 := ne_of_new h1b hb1
  have hb01 : b0 ≠ b1 := ne_of_new (upd_same st b0 _) hb1
  simp [go_sem, hf0, hf1, hb01, h1, fsC]
  have k2 := Keep.new (p := fun _ => True) (o := .cells true [Val.i t.kind, .string t.name, .string t.to, .pointer (t.file.map fun i => ⟨ad i, 0, none⟩)] 4 (.ty 0)) k1 hb1
  refine AppI_vec (g := .own f 0 7) (m := 1) (ys := encT ad t) si112 (h4.keep k2 trivial) ?_ (by simp [Value.oneCell', encT]) (by omega) ?_
  · simp [srcCells, lkN_mk, upd_same, cellsOf, encT]
  intro s2 c2 st2 hv2 he2
  have k3 : Keep (fun g => g ≠ .own f 0 7) st st2 := (k2.imp (fun _ _ => trivial)).trans (he2.toKeep (by simp))
  have h1c := k3.get h1 (by simp)
  have h0c := (he2.toKeep (p := fun g => g ≠ .own f 0 7) (by simp)).get (((Keep.rfl' (p := fun _ => True)).new hb1).get (upd_same st b0 _) trivial) (by simp)
  simp [go_sem, h1c, fsC]
  refine draw [1, 2, 3, 0, 4, 5] (by kernel_rfl) ?_
  have hb0f : b0 ≠ f := Ne.symm hf0
  simp [go_sem, h1c, fsC, hb0f, h0c]
  have k4 : Keep (fun g => g ≠ .own f 0 0) st2 (upd st2 f (.cells true (fsC sm nm (.slice s2 (ts.length + 1) c2) born c) 9 (.own f 0 0))) := Keep.rfl'.old h1c (by simp [HObj.tag])
  have h3c := k4.getM (k3.getM h3 (by simp)) (by simp)
  refine ICalls.mono (does_spec (t := t) h3c ht) ?_
  rintro e st3 ⟨rfl, rfl⟩
  have k5 : Keep (fun g => g ≠ .own f 0 6) _ (upd (upd st2 f (.cells true (fsC sm nm (.slice s2 (ts.length + 1) c2) born c) 9 (.own f 0 0))) nm (.map (.own f 0 6) (encM ad now'))) := Keep.rfl'.old h3c (by simp [HObj.tag])
  simp [go_sem]
  refine ⟨_, k5.get (upd_same _ _ _) (by simp), ?_, ?_⟩
  · exact (hv2.keep k4 (by simp)).keep k5 (by simp)
  · exact ((k3.imp (fun g h => h.2.2)).trans (k4.imp (fun g h => h.1))).trans (k5.imp (fun g h => h.2.1))
theorem find_spec {f sm nm : Nat} {tv : Value} {born : Int} {c : Ctl} {ad : Nat → Nat} {now : Dir} {n : ByteArray} (h1 : st f = some (.cells true (fsC sm nm tv born c) 9 (.own f 0 0)))
    (h3 : st nm = some (.map (.own f 0 6) (encM ad now))) :
    ICalls Try.prog W0 73 #[ptr f, .string n] st fun e st' => e = .returned (if okName n then (match aget now n with | some i => .tuple #[ptr (ad i), Val.i 0] | none => .tuple #[.pointer none, Val.i 3]) else .tuple #[.pointer none, Val.i 1]) ∧ st' = st := by
  refine ICalls.post (enter (args := [_, _]) Try.func73 rfl ?_)
  simp [Try.f73, go_sem]
  unfold NewS
  intro b hb
  refine ⟨.ty 0, ?_⟩
  have hf := ne_of_new h1 hb
  have hn := ne_of_new h3 hb
  simp [go_sem]
  refine ICalls.mono (named_spec (names := [n]) (by simp [srcCells, lkN_mk, upd_same, cellsOf]) ⟨_, _, rfl⟩ (by simp)) ?_
  rintro e st1 ⟨rfl, rfl⟩
  simp [go_sem]
  cases hk : okName n with
  | false => simp [go_sem]; exact .drop hb
  | true =>
    unfold aget
    cases hg : afind n now 0 with
    | none => simp [go_sem, hf, hn, h1, h3, fsC, mfind_encM, hg]; exact .drop hb
    | some p => simp [go_sem, hf, hn, h1, h3, fsC, mfind_encM, hg]; exact .drop hb
end
end Go.Proofs.Ytenencpnnjacdaa
