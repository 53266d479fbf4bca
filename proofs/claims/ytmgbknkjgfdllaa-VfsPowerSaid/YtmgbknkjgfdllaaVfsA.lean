/- The file system's small functions: what each call does. -/
import Derived.Test.YtmgbknkjgfdllaaTab
import Derived.Test.YtmgbknkjgfdllaaSepW
set_option linter.unusedVariables false
set_option linter.unusedSimpArgs false
set_option maxRecDepth 100000
namespace Go.Proofs.Ytmgbknkjgfdllaa
open Go.RowKit (Below)

/-- What a call looks at by itself. -/
structure Ctl where
  calls : Int
  armed : Bool
  kind : Int
  after : Int
  off : Bool
def Ctl.call (c : Ctl) : Int × Ctl :=
  if c.off = true then (15, { c with calls := W (c.calls + 1) })
  else if c.armed = false then (0, { c with calls := W (c.calls + 1) })
  else if c.after > 0 then (0, { c with calls := W (c.calls + 1), after := W (c.after - 1) })
  else if c.kind = 0 then (15, { c with calls := W (c.calls + 1), armed := false, off := true })
  else (c.kind, { c with calls := W (c.calls + 1), armed := false })
/-- The cells of a file system. -/
def fsC (sm nm : Nat) (ts : Value) (born : Int) (c : Ctl) : List Value :=
  [.map (some sm), .map (some nm), ts, Val.i born, Val.i c.calls, .bool c.armed, Val.i c.kind, Val.i c.after, .bool c.off]
structure VUnit where
  cut : Bool
  size : Nat
  b : Bs
structure VFile where
  born : Nat
  sure : Bs
  pend : List VUnit
  now : Bs
structure VTurn where
  kind : Int
  name : ByteArray
  to : ByteArray
  file : Option Nat
structure VFS where
  sure : List (ByteArray × Nat)
  now : List (ByteArray × Nat)
  turns : List VTurn
  files : List VFile
  c : Ctl
def unitsAt (st : Heap) (g : Tg) : List VUnit → List Value → Prop
  | [], [] => True
  | u :: us, a :: b :: c :: cs => a = .bool u.cut ∧ b = Val.i u.size ∧ Reg st g 1 c (bytesV u.b) u.b.length ∧ unitsAt st g us cs
  | _, _ => False
theorem unitsAt.keep {st st' : Heap} {g : Tg} {p : Tg → Prop} (hk : Keep p st st') (hp : p g) : ∀ (us : List VUnit) (cs : List Value), unitsAt st g us cs → unitsAt st' g us cs
  | [], [], h => h
  | u :: us, a :: b :: c :: cs, h => ⟨h.1, h.2.1, h.2.2.1.keep hk hp, unitsAt.keep hk hp us cs h.2.2.2⟩
theorem unitsAt.of_ext {st st' : Heap} {g : Tg} (hg : ∀ k rw ys n, st k = some (.cells rw ys n g) → ∃ zs, st' k = some (.cells rw (ys ++ zs) n g)) : ∀ (us : List VUnit) (cs : List Value), unitsAt st g us cs → unitsAt st' g us cs
  | [], [], h => h
  | u :: us, a :: b :: c :: cs, h => ⟨h.1, h.2.1, h.2.2.1.of_ext hg, unitsAt.of_ext hg us cs h.2.2.2⟩
theorem unitsAt.append {st : Heap} {g : Tg} : ∀ (us us' : List VUnit) (cs cs' : List Value), unitsAt st g us cs → unitsAt st g us' cs' → unitsAt st g (us ++ us') (cs ++ cs')
  | [], us', [], cs', _, h' => h'
  | u :: us, us', a :: b :: c :: cs, cs', h, h' => ⟨h.1, h.2.1, h.2.2.1, unitsAt.append us us' cs cs' h.2.2.2 h'⟩
theorem unitsAt.len {st : Heap} {g : Tg} : ∀ (us : List VUnit) (cs : List Value), unitsAt st g us cs → cs.length = us.length * 3
  | [], [], _ => rfl
  | u :: us, a :: b :: c :: cs, h => by simp only [List.length_cons, unitsAt.len us cs h.2.2.2]; omega
def FileAt (st : Heap) (f i a : Nat) (F : VFile) : Prop := ∃ sv pv nv us, st a = some (.cells true [Val.i F.born, sv, pv, nv] 4 (.own f i 1)) ∧ Reg st (.own f i 3) 1 sv (bytesV F.sure) F.sure.length ∧ unitsAt st (.own f i 4) F.pend us ∧ Vec st (.own f i 2) 3 pv us F.pend.length ∧ Vec st (.own f i 3) 1 nv (bytesV F.now) F.now.length
theorem FileAt.keep {st st' : Heap} {f i a : Nat} {F : VFile} {p : Tg → Prop} (hk : Keep p st st') (hp : ∀ r, 1 ≤ r → r ≤ 4 → p (.own f i r)) (h : FileAt st f i a F) : FileAt st' f i a F := by
  obtain ⟨sv, pv, nv, us, h1, h2, h3, h4, h5⟩ := h
  exact ⟨sv, pv, nv, us, hk.get h1 (hp _ (by omega) (by omega)), h2.keep hk (hp _ (by omega) (by omega)), unitsAt.keep hk (hp _ (by omega) (by omega)) _ _ h3, h4.keep hk (hp _ (by omega) (by omega)), h5.keep hk (hp _ (by omega) (by omega))⟩

section
variable {W0 : World} {st : Heap} {R : Ending → Heap → Prop}
theorem call_spec {f sm nm : Nat} {ts : Value} {born : Int} {c : Ctl} {g : Tg} (h : st f = some (.cells true (fsC sm nm ts born c) 9 g))
    (hr : R (.returned (Val.i c.call.1)) (upd st f (.cells true (fsC sm nm ts born c.call.2) 9 g))) : ICalls Try.prog W0 73 #[ptr f] st R := by
  refine enter (args := [_]) Try.func73 rfl ?_
  unfold fsC at h hr
  obtain ⟨calls, armed, kind, after, off⟩ := c
  simp only [Ctl.call] at hr
  simp [Try.f73, go_sem, h]
  cases off <;> cases armed <;> simp [go_sem, h]
  · simpa using hr
  · by_cases ha : 0 < after
    · simpa [go_sem, ha] using hr
    · by_cases hk : kind = 0
      · simpa [go_sem, ha, hk] using hr
      · simpa [go_sem, ha, hk] using hr
  · simpa using hr
  · simpa using hr
theorem fileAppend_spec {f i a : Nat} {F : VFile} {bv : Value} {b : Bs} (h : FileAt st f i a F) (hb : srcCells 1 st bv = some (b.length, bytesV b)) (hs1 : F.now.length + b.length < 2 ^ 40) (hs2 : F.pend.length < 2 ^ 40) :
    ICalls Try.prog W0 79 #[ptr a, bv] st fun e st' => e = .returned (.tuple #[]) ∧ FileAt st' f i a { F with pend := F.pend ++ [⟨false, 0, b⟩], now := F.now ++ b } ∧ Keep (fun g => ∀ r, 1 ≤ r → r ≤ 4 → g ≠ .own f i r) st st' := by
  obtain ⟨sv, pv, nv, us, h1, h2, h3, h4, h5⟩ := h
  refine enter (args := [_, _]) Try.func79 rfl ?_
  simp [Try.f79, go_sem]
  unfold NewS
  intro b0 hb0
  refine ⟨.own f i 4, ?_⟩
  simp [go_sem]
  refine AppI_vec (g := .own f i 4) si29 (Vec.new (xs := []) rfl (Nat.le_refl 0) (upd_same _ _ _) (Nat.zero_le _)) (srcCells_le (.new _ hb0) hb) (bytesV_one _) (by omega) ?_
  intro s1 c1 st1 hv1 he1
  simp only [List.nil_append, Nat.zero_add] at hv1 ⊢
  have k1 : Keep (fun g => g ≠ .own f i 4) st st1 := (Keep.rfl'.new hb0).trans (he1.toKeep (by simp))
  have g1 : ∀ k rw ys n, st k = some (.cells rw ys n (.own f i 4)) → ∃ zs, st1 k = some (.cells rw (ys ++ zs) n (.own f i 4)) := fun k rw ys n hk => he1.grow k rw ys n (by rw [upd_ne _ _ (ne_of_new hk hb0)]; exact hk)
  have h1' := k1.get h1 (by simp)
  have h2' := h2.keep k1 (by simp)
  have h3' := unitsAt.of_ext g1 _ _ h3
  have h4' := h4.keep k1 (by simp)
  have h5' := h5.keep k1 (by simp)
  simp [go_sem, h1']
  unfold NewS
  intro b1 hb1
  refine ⟨.ty 0, ?_⟩
  simp [go_sem]
  have n1 : Heap.Le st1 (upd st1 b1 (.cells true [.bool false, .int .i64 0, .slice s1 b.length c1] 3 (.ty 0))) := .new _ hb1
  have k2 : Keep (fun _ => True) st1 (upd st1 b1 (.cells true [.bool false, .int .i64 0, .slice s1 b.length c1] 3 (.ty 0))) := Keep.rfl'.new hb1
  refine AppI_vec (g := .own f i 2) (m := 1) (ys := [.bool false, .int .i64 0, .slice s1 b.length c1]) si116 (h4'.keep k2 trivial) ?_ (by simp [Value.oneCell']) (by omega) ?_
  · simp [srcCells, lkN_mk, upd_same, cellsOf]
  intro s2 c2 st2 hv2 he2
  have k3 : Keep (fun g => g ≠ .own f i 2) st1 st2 := (Keep.imp (fun _ _ => trivial) k2).trans (he2.toKeep (by simp))
  have h1'' := k3.get h1' (by simp)
  have h2'' := h2'.keep k3 (by simp)
  have h3'' := unitsAt.keep k3 (by simp) _ _ h3'
  have h5'' := h5'.keep k3 (by simp)
  have hv1' := hv1.keep k3 (by simp)
  simp [go_sem, h1'']
  have k4 : Keep (fun g => g ≠ .own f i 1) st2 (upd st2 a (.cells true [Val.i F.born, sv, .slice s2 (F.pend.length + 1) c2, nv] 4 (.own f i 1))) := Keep.rfl'.old h1'' (by simp [HObj.tag])
  refine AppI_vec (g := .own f i 3) si29 (h5''.keep k4 (by simp)) (hv1'.keep k4 (by simp)).src (bytesV_one _) (by omega) ?_
  intro s3 c3 st3 hv3 he3
  have k5 : Keep (fun g => g ≠ .own f i 3) _ st3 := he3.toKeep (by simp)
  have h1a := k5.get (upd_same _ _ _) (by simp)
  simp [go_sem, h1a]
  have k6 : Keep (fun g => g ≠ .own f i 1) st3 (upd st3 a (.cells true [Val.i F.born, sv, .slice s2 (F.pend.length + 1) c2, .slice s3 (F.now.length + b.length) c3] 4 (.own f i 1))) := Keep.rfl'.old h1a (by simp [HObj.tag])
  refine ⟨⟨sv, _, _, us ++ [.bool false, .int .i64 0, .slice s1 b.length c1], upd_same _ _ _, ?_, ?_, ?_, ?_⟩, ?_⟩
  · exact ((h2''.keep k4 (by simp)).of_ext he3.grow).keep k6 (by simp)
  · exact unitsAt.append _ _ _ _ (unitsAt.keep k6 (by simp) _ _ (unitsAt.keep k5 (by simp) _ _ (unitsAt.keep k4 (by simp) _ _ h3''))) ⟨rfl, rfl, (((hv1'.keep k4 (by simp)).keep k5 (by simp)).keep k6 (by simp)).reg, trivial⟩
  · simpa using ((hv2.keep k4 (by simp)).keep k5 (by simp)).keep k6 (by simp)
  · simpa [bytesV_append] using hv3.keep k6 (by simp)
  · exact ((((k1.imp (fun g h => h 4 (by omega) (by omega))).trans (k3.imp (fun g h => h 2 (by omega) (by omega)))).trans (k4.imp (fun g h => h 1 (by omega) (by omega)))).trans (k5.imp (fun g h => h 3 (by omega) (by omega)))).trans (k6.imp (fun g h => h 1 (by omega) (by omega)))
end
end Go.Proofs.Ytmgbknkjgfdllaa
