/- The file system's small functions: what each call does. -/
import Derived.Test.YtflbapmjdfnhhaaGreatCTab
import Derived.Test.YtflbapmjdfnhhaaGreatC09
set_option linter.unusedVariables false
set_option linter.unusedSimpArgs false
set_option maxRecDepth 100000
namespace Go.Proofs.YtflbapmjdfnhhaaGreat
open Go.RowKit (Below)

/-- What a call looks at by itself. -/
structure Ctl where
  calls : Int
  armed : Bool
  kind : Int
  after : Int
  off : Bool
def Ctl.call (c : Ctl) : Int × Ctl :=
  if c.off = true then (15, { c with calls := W (c.calls + 1) })
  else if c.armed = false then (0, { c with calls := W (c.calls + 1) })
  else if c.after > 0 then (0, { c with calls := W (c.calls + 1), after := W (c.after - 1) })
  else if c.kind = 0 then (15, { c with calls := W (c.calls + 1), armed := false, off := true })
  else (c.kind, { c with calls := W (c.calls + 1), armed := false })
/-- The cells of a file system. -/
def fsC (sm nm : Nat) (ts : Value) (born : Int) (c : Ctl) : List Value :=
  [.map (some sm), .map (some nm), ts, Val.i born, Val.i c.calls, .bool c.armed, Val.i c.kind, Val.i c.after, .bool c.off]
structure VUnit where
  cut : Bool
  size : Nat
  b : Bs
structure VFile where
  born : Nat
  sure : Bs
  pend : List VUnit
  now : Bs
structure VTurn where
  kind : Int
  name : ByteArray
  to : ByteArray
  file : Option Nat
structure VFS where
  sure : List (ByteArray × Nat)
  now : List (ByteArray × Nat)
  turns : List VTurn
  files : List VFile
  c : Ctl
def unitsAt (st : Heap) (g : Tg) : List VUnit → List Value → Prop
  | [], [] => True
  | u :: us, a :: b :: c :: cs => a = .bool u.cut ∧ b = Val.i u.size ∧ Reg st g 1 c (bytesV u.b) u.b.length ∧ unitsAt st g us cs
  | _, _ => False
theorem unitsAt.keep {st st' : Heap} {g : Tg} {p : Tg → Prop} (hk : Keep p st st') (hp : p g) : ∀ (us : List VUnit) (cs : List Value), unitsAt st g us cs → unitsAt st' g us cs
  | [], [], h => h
  | u :: us, a :: b :: c :: cs, h => ⟨h.1, h.2.1, h.2.2.1.keep hk hp, unitsAt.keep hk hp us cs h.2.2.2⟩
theorem unitsAt.of_ext {st st' : Heap} {g : Tg} (hg : ∀ k rw ys n, st k = some (.cells rw ys n g) → ∃ zs, st' k = some (.cells rw (ys ++ zs) n g)) : ∀ (us : List VUnit) (cs : List Value), unitsAt st g us cs → unitsAt st' g us cs
  | [], [], h => h
  | u :: us, a :: b :: c :: cs, h => ⟨h.1, h.2.1, h.2.2.1.of_ext hg, unitsAt.of_ext hg us cs h.2.2.2⟩
theorem unitsAt.append {st : Heap} {g : Tg} : ∀ (us us' : List VUnit) (cs cs' : List Value), unitsAt st g us cs → unitsAt st g us' cs' → unitsAt st g (us ++ us') (cs ++ cs')
  | [], us', [], cs', _, h' => h'
  | u :: us, us', a :: b :: c :: cs, cs', h, h' => ⟨h.1, h.2.1, h.2.2.1, unitsAt.append us us' cs cs' h.2.2.2 h'⟩
theorem unitsAt.len {st : Heap} {g : Tg} : ∀ (us : List VUnit) (cs : List Value), unitsAt st g us cs → cs.length = us.length * 3
  | [], [], _ => rfl
  | u :: us, a :: b :: c :: cs, h => by simp only [List.length_cons, unitsAt.len us cs h.2.2.2]; omega
def FileAt (st : Heap) (f i a : Nat) (F : VFile) : Prop := ∃ sv pv nv us, st a = some (.cells true [Val.i F.born, sv, pv, nv] 4 (.own f i 1)) ∧ Reg st (.own f i 3) 1 sv (bytesV F.sure) F.sure.length ∧ unitsAt st (.own f i 4) F.pend us ∧ Vec st (.own f i 2) 3 pv us F.pend.length ∧ Vec st (.own f i 3) 1 nv (bytesV F.now) F.now.length
theorem FileAt.keep {st st' : Heap} {f i a : Nat} {F : VFile} {p : Tg → Prop} (hk : Keep p st st') (hp : ∀ r, 1 ≤ r → r ≤ 4 → p (.own f i r)) (h : FileAt st f i a F) : FileAt st' f i a F := by
  obtain ⟨sv, pv, nv, us, h1, h2, h3, h4, h5⟩ := h
  exact ⟨sv, pv, nv, us, hk.get h1 (hp _ (by omega) (by omega)), h2.keep hk (hp _ (by omega) (by omega)), unitsAt.keep hk (hp _ (by omega) (by omega)) _ _ h3, h4.keep hk (hp _ (by omega) (by omega)), h5.keep hk (hp _ (by omega) (by omega))⟩

section
variable {W0 : World} {st : Heap} {R : Ending → Heap → Prop}
end
end Go.Proofs.YtflbapmjdfnhhaaGreat
set_option linter.unusedVariables false
set_option linter.unusedSimpArgs false
set_option maxRecDepth 100000
set_option maxHeartbeats 1000000
namespace Go.Proofs.YtflbapmjdfnhhaaGreat
open Go.RowKit (Below)

def zz (v : Int) : Nat := if 0 ≤ v then (2 * v).toNat else (-2 * v - 1).toNat
section
variable {W0 : World} {st : Heap}
end
end Go.Proofs.YtflbapmjdfnhhaaGreat
set_option linter.unusedVariables false
set_option linter.unusedSimpArgs false
set_option maxRecDepth 100000
namespace Go.Proofs.YtflbapmjdfnhhaaGreat
open Go.RowKit (Below)

abbrev Dir := List (ByteArray × Nat)
def afind (k : ByteArray) : Dir → Nat → Option (Nat × Nat)
  | [], _ => none
  | e :: l, i => if (k == e.1) = true then some (i, e.2) else afind k l (i + 1)
def aget (l : Dir) (k : ByteArray) : Option Nat := (afind k l 0).map (·.2)
def aset (l : Dir) (k : ByteArray) (x : Nat) : Dir := match afind k l 0 with | some (j, _) => l.set j (k, x) | none => l ++ [(k, x)]
def adel (l : Dir) (k : ByteArray) : Dir := match afind k l 0 with | some (j, _) => l.eraseIdx j | none => l
def encM (ad : Nat → Nat) (l : Dir) : KV := l.map fun p => (.string p.1, ptr (ad p.2))
def VTurn.does (t : VTurn) (l : Dir) : Option Dir :=
  if t.kind = 0 then t.file.map fun i => aset l t.name i
  else if t.kind = 1 then (aget l t.name).map fun i => aset (adel l t.name) t.to i
  else if t.kind = 2 then some (adel l t.name)
  else some l
def encT (ad : Nat → Nat) (t : VTurn) : List Value := [Val.i t.kind, .string t.name, .string t.to, .pointer (t.file.map fun i => ⟨ad i, 0, none⟩)]

section
variable {W0 : World} {st : Heap} {R : Ending → Heap → Prop}
def okName (n : ByteArray) : Bool := decide (1 ≤ n.size) && decide (n.size ≤ 64)
end
end Go.Proofs.YtflbapmjdfnhhaaGreat
set_option linter.unusedVariables false
set_option linter.unusedSimpArgs false
set_option maxRecDepth 100000
namespace Go.Proofs.YtflbapmjdfnhhaaGreat
open Go.RowKit (Below)

def VFS.ok (S : VFS) : Prop := (∀ p ∈ S.sure, p.2 < S.files.length) ∧ (∀ p ∈ S.now, p.2 < S.files.length) ∧ (∀ t ∈ S.turns, ∀ i, t.file = some i → i < S.files.length)
def FSAt (st : Heap) (f : Nat) (S : VFS) : Prop := ∃ sm nm tv ad, st f = some (.cells true (fsC sm nm tv S.files.length S.c) 9 (.own f 0 0)) ∧ st sm = some (.map (.own f 0 5) (encM ad S.sure)) ∧ st nm = some (.map (.own f 0 6) (encM ad S.now)) ∧
  Vec st (.own f 0 7) 4 tv (S.turns.flatMap (encT ad)) S.turns.length ∧ (∀ (i : Nat) (F : VFile), S.files[i]? = some F → FileAt st f i (ad i) F) ∧ S.ok
theorem FSAt.keep {st st' : Heap} {f : Nat} {S : VFS} {p : Tg → Prop} (hk : Keep p st st') (hp : ∀ x r, p (.own f x r)) (h : FSAt st f S) : FSAt st' f S := by
  obtain ⟨sm, nm, tv, ad, h1, h2, h3, h4, h5, h6⟩ := h
  exact ⟨sm, nm, tv, ad, hk.get h1 (hp _ _), hk.getM h2 (hp _ _), hk.getM h3 (hp _ _), h4.keep hk (hp _ _), fun i F hi => (h5 i F hi).keep hk (fun r _ _ => hp i r), h6⟩
section
variable {W0 : World} {st : Heap}
end
end Go.Proofs.YtflbapmjdfnhhaaGreat
set_option linter.unusedVariables false
set_option linter.unusedSimpArgs false
set_option maxRecDepth 100000
namespace Go.Proofs.YtflbapmjdfnhhaaGreat
open Go.RowKit (Below)

def VFS.new : VFS := ⟨[], [], [], [], ⟨0, false, 0, 0, false⟩⟩
def VFS.ctl (S : VFS) (c : Ctl) : VFS := { S with c := c }
def VFile.app (F : VFile) (b : Bs) : VFile := { F with pend := F.pend ++ [⟨false, 0, b⟩], now := F.now ++ b }
section
variable {W0 : World} {st : Heap}
end
end Go.Proofs.YtflbapmjdfnhhaaGreat
set_option linter.unusedVariables false
set_option linter.unusedSimpArgs false
set_option maxRecDepth 100000
namespace Go.Proofs.YtflbapmjdfnhhaaGreat
open Go.RowKit (Below)

def VFS.small (S : VFS) : Prop := S.turns.length < 2 ^ 40 ∧ S.files.length < 2 ^ 40 ∧ ∀ F ∈ S.files, F.pend.length < 2 ^ 40 ∧ F.now.length < 2 ^ 40 ∧ F.sure.length < 2 ^ 40
section
variable {W0 : World} {st : Heap}
end
end Go.Proofs.YtflbapmjdfnhhaaGreat
