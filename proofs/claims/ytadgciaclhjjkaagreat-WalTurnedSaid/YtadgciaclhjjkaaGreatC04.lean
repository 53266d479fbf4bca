/- All operations in forms that a symbolic run can rewrite; that each is sound. -/
import Derived.Test.YtadgciaclhjjkaaGreatC03
set_option linter.unusedVariables false
set_option linter.unusedSimpArgs false
namespace Go.Proofs.YtadgciaclhjjkaaGreat
open Go.RowKit (Below)

def isMapT (P : Program) (t : TypeId) : Bool := match P.underlying t with | some (.map _ _) => true | _ => false
def optS (o : Option Value) (K : Value → Heap → Prop) (st : Heap) : Prop := match o with | some v => K v st | none => False
def optB (o : Option HObj) (b : Nat) (K : Value → Heap → Prop) (st : Heap) : Prop := match o with | some x => K undef (upd st b x) | none => False
def optM (o : Option KV) (g : Tg) (r : Nat) (v : Value) (K : Value → Heap → Prop) (st : Heap) : Prop := match o with | some x => K v (upd st r (.map g x)) | none => False
def optT (o : Option ByteArray) (K : Value → Heap → Prop) (st : Heap) : Prop := match o with | some x => K (.string x) st | none => False
theorem optS_iff {o : Option Value} {K : Value → Heap → Prop} {st : Heap} : optS o K st ↔ optK o (fun v => K v st) := by cases o <;> rfl

/-! New rows and maps: the run stops here, till the new block is named. -/
def NewP (e : TypeId) (xs : List Value) (K : Value → Heap → Prop) (st : Heap) : Prop := ∀ b, st b = none → ∃ g : Tg, K (.pointer (some ⟨b, 0, none⟩)) (upd st b (.cells true xs xs.length g))
def NewS (e : TypeId) (xs : List Value) (len cap : Nat) (K : Value → Heap → Prop) (st : Heap) : Prop := ∀ b, st b = none → ∃ g : Tg, K (.slice (some ⟨b, 0, none⟩) len cap) (upd st b (.cells true xs xs.length g))
def NewB (e : TypeId) (s : ByteArray) (K : Value → Heap → Prop) (st : Heap) : Prop := ∀ b c, st b = none → s.size ≤ c → ∃ g : Tg, K (.slice (some ⟨b, 0, none⟩) s.size c) (upd st b (.cells true (bytesV s.data.toList) c g))
def NewM (K : Value → Heap → Prop) (st : Heap) : Prop := ∀ b, st b = none → ∃ g : Tg, K (.map (some b)) (upd st b (.map g []))

def loadY (ti : Option (Bool × Nat)) (v : Value) (K : Value → Heap → Prop) (st : Heap) : Prop :=
  match ti, v with
  | some (false, _), .pointer (some a) => optS (lk st a) K st
  | some (true, n), .pointer (some a) => optS ((lkN st a n).map fun l => .agg l.toArray) K st
  | _, _ => False
def stB (o : Option HObj) (i : Nat) (u : Value) : Option HObj :=
  match o with
  | some (.cells true xs n e) => if i ≤ xs.length ∧ i < n then some (.cells true (putCell xs i u) n e) else none
  | _ => none
def stA (o : Option HObj) (i : Nat) (us : List Value) : Option HObj :=
  match o with
  | some (.cells true xs n e) => if i + us.length ≤ xs.length ∧ xs.length ≤ n ∧ us.all Value.oneCell' = true then some (.cells true (splice xs i us) n e) else none
  | _ => none
def storeY (ti : Option (Bool × Nat)) (v u : Value) (K : Value → Heap → Prop) (st : Heap) : Prop :=
  match ti, v with
  | some (false, 1), .pointer (some ⟨b, i, none⟩) => if u.oneCell' = true then optB (stB (st b) i u) b K st else False
  | some (true, n), .pointer (some ⟨b, i, none⟩) => match u with
    | .agg cs => if cs.size = n then optB (stA (st b) i cs.toList) b K st else False
    | _ => False
  | _, _ => False
def fieldAddrY (i : Option (Nat × Bool × Nat)) (v : Value) (K : Value → Heap → Prop) (st : Heap) : Prop :=
  match i, v with
  | some i, .pointer (some a) => K (.pointer (some (a.add i.1))) st
  | _, _ => False
def fieldY (i : Option (Nat × Bool × Nat)) (v : Value) (K : Value → Heap → Prop) (st : Heap) : Prop :=
  match i, v with
  | some (off, false, _), .agg cs => optS cs[off]? K st
  | some (off, true, n), .agg cs => K (.agg (cs.extract off (off + n))) st
  | _, _ => False
def extractY (v : Value) (i : Nat) (K : Value → Heap → Prop) (st : Heap) : Prop :=
  match v with
  | .tuple vs => optS vs[i]? K st
  | _ => False
def fillY (ps : List (Nat × Nat)) (z : List Value) : List (Nat × Value) → Option (List Value)
  | [] => some z
  | (i, v) :: rest => match ps[i]? with
    | some (off, size) => if v.oneCell' = true then (if size = 1 ∧ off < z.length then fillY ps (z.set off v) rest else none)
      else if v.cells.size = size ∧ off + size ≤ z.length then fillY ps (splice z off v.cells.toList) rest else none
    | none => none
def buildY (i : Option (List Value × List (Nat × Nat))) (parts : List (Nat × Value)) (K : Value → Heap → Prop) (st : Heap) : Prop :=
  match i with
  | some (z, ps) => optS ((fillY ps z parts).map fun l => .agg l.toArray) K st
  | none => False
def fillS (size : Nat) (z : List Value) : List (Nat × Value) → Option (List Value)
  | [] => some z
  | (i, v) :: rest => if v.oneCell' = true then (if size = 1 ∧ i < z.length then fillS size (z.set i v) rest else none)
      else if v.cells.size = size ∧ i * size + size ≤ z.length then fillS size (splice z (i * size) v.cells.toList) rest else none
def newSO (o : Option (List Value)) (e : TypeId) (len : Nat) (K : Value → Heap → Prop) (st : Heap) : Prop := match o with | some xs => NewS e xs len len K st | none => False
def buildSliceY (i : Option (TypeId × Nat × Nat × List Value)) (len : Nat) (parts : List (Nat × Value)) (K : Value → Heap → Prop) (st : Heap) : Prop :=
  match i with
  | some (e, size, _, z) => if len * size ≤ 16777216 then newSO (fillS size (zerosL z len) parts) e len K st else False
  | none => False
def allocY (z : Option Value) (e : TypeId) (K : Value → Heap → Prop) (st : Heap) : Prop := match z with | some z => NewP e z.cells.toList K st | none => False
def convY (P : Program) (src dst : TypeId) (us ud : Option TypeDesc) (x : Value) (K : Value → Heap → Prop) (st : Heap) : Prop :=
  match us, ud, x with
  | some _, some (.int k), .int _ n => K (.int k (k.wrap n)) st
  | some .string, some .string, .string s => K (.string s) st
  | some .string, some (.slice e), .string s => P.underlying e = some (.int .u8) ∧ NewB e s K st
  | some (.slice e), some .string, .slice a n c => P.underlying e = some (.int .u8) ∧ optT (textOf st (.slice a n c)) K st
  | some (.slice e), some (.slice _), .slice (some a) n c => src = dst ∧ P.underlying e = some (.int .u8) ∧ (∃ xs n e, st a.block = some (.cells true xs n e)) ∧ K (.slice (some a) n c) st
  | _, _, _ => False
def indexAddrY (u : Option TypeDesc) (s : Option (TypeId × Nat × Nat × List Value)) (r : Option (Nat × Bool × Nat × List Value)) (x i : Value) (K : Value → Heap → Prop) (st : Heap) : Prop :=
  match x, i, s, r with
  | .slice (some a) len _, .int _ n, some (_, size, _, _), _ => 0 ≤ n ∧ n < len ∧ K (.pointer (some (a.add (n.toNat * size)))) st
  | .pointer (some a), .int _ n, _, some (len, _, size, _) => 0 ≤ n ∧ n < len ∧ K (.pointer (some (a.add (n.toNat * size)))) st
  | _, _, _, _ => False
def indexY (u : Option TypeDesc) (r : Option (Nat × Bool × Nat × List Value)) (x i : Value) (K : Value → Heap → Prop) (st : Heap) : Prop :=
  match x, i, u, r with
  | .string s, .int _ n, some .string, _ => 0 ≤ n ∧ n < s.size ∧ K (.int .u8 (btOf s n)) st
  | .agg cs, .int _ n, _, some (len, false, size, _) => 0 ≤ n ∧ n < len ∧ optS cs[n.toNat * size]? K st
  | .agg cs, .int _ n, _, some (len, true, size, _) => 0 ≤ n ∧ n < len ∧ K (.agg (cs.extract (n.toNat * size) (n.toNat * size + size))) st
  | _, _, _, _ => False
def sliceTextY (s : ByteArray) (hi lo : Option Nat) (K : Value → Heap → Prop) (st : Heap) : Prop :=
  match hi, lo with
  | some h, some l => h ≤ s.size ∧ l ≤ h ∧ K (.string (s.extract l h)) st
  | _, _ => False
def sliceRowY (a : Option Addr) (cap size : Nat) (bare : Bool) (mx hi lo : Option Nat) (K : Value → Heap → Prop) (st : Heap) : Prop :=
  match mx, hi, lo with
  | some m, some h, some l => m ≤ cap ∧ (h ≤ m ∨ bare = true) ∧ l ≤ h ∧ K (.slice (if m = l then a else a.map (·.add (l * size))) (h - l) (m - l)) st
  | _, _, _ => False
def sliceY (u : Option TypeDesc) (s : Option (TypeId × Nat × Nat × List Value)) (r : Option (Nat × Bool × Nat × List Value)) (x : Value) (lo hi mx : Option Value) (K : Value → Heap → Prop) (st : Heap) : Prop :=
  match x, u, s, r with
  | .string t, some .string, _, _ => mx = none ∧ sliceTextY t (bnd hi t.size) (bnd lo 0) K st
  | .slice a len cap, _, some (_, size, _, _), _ => (mx = none ∨ hi ≠ none) ∧ sliceRowY a cap size hi.isNone (bnd mx cap) (bnd hi len) (bnd lo 0) K st
  | .pointer (some a), _, _, some (n, _, size, _) => (mx = none ∨ hi ≠ none) ∧ sliceRowY (some a) n size hi.isNone (bnd mx n) (bnd hi n) (bnd lo 0) K st
  | _, _, _, _ => False
def makeSliceY (i : Option (TypeId × Nat × Nat × List Value)) (l c : Value) (K : Value → Heap → Prop) (st : Heap) : Prop :=
  match i, l, c with
  | some (e, _, bytes, z), .int .i64 n, .int .i64 m => 0 ≤ n ∧ n ≤ m ∧ m * bytes ≤ 281474976710656 ∧ NewS e (zerosL z m.toNat) n.toNat m.toNat K st
  | _, _, _ => False
def lookupR (r : Option (Option (Nat × Value))) (z : Value) (ok : Bool) (K : Value → Heap → Prop) (st : Heap) : Prop :=
  match r, ok with
  | some (some (_, v)), false => K v st
  | some none, false => K z st
  | some (some (_, v)), true => K (.tuple #[v, .bool true]) st
  | some none, true => K (.tuple #[z, .bool false]) st
  | none, _ => False
def lookupY (i : Option (TypeId × TypeDesc × Value)) (es : Option KV) (k : Value) (ok : Bool) (K : Value → Heap → Prop) (st : Heap) : Prop :=
  match i, es with
  | some (_, kd, z), some es => lookupR (mfind kd k es 0) z ok K st
  | _, _ => False
def mapUpdY (i : Option (TypeId × TypeDesc × Value)) (x : Value) (es : Option KV) (k v : Value) (K : Value → Heap → Prop) (st : Heap) : Prop :=
  match i, x, es with
  | some (_, kd, _), .map (some r), some es => optM (mset kd k v es) (mapTag (st r)) r undef K st
  | _, _, _ => False
def delY (i : Option (TypeId × TypeDesc × Value)) (x : Value) (es : Option KV) (k : Value) (K : Value → Heap → Prop) (st : Heap) : Prop :=
  match i, x, es with
  | some (_, kd, _), .map (some r), some es => optM (mdel kd k es) (mapTag (st r)) r (.tuple #[]) K st
  | _, _, _ => False
/-- An append: the run stops here. -/
def AppI (i : Option (TypeId × Nat × Nat × List Value)) (P : Program) (t : TypeId) (v x : Value) (K : Value → Heap → Prop) (st : Heap) : Prop := appX P t v x K st
def CopyI (P : Program) (t : TypeId) (v x : Value) (K : Value → Heap → Prop) (st : Heap) : Prop := copyX P t v x K st
def ClearI (P : Program) (t : TypeId) (x : Value) (K : Value → Heap → Prop) (st : Heap) : Prop := clearX P t x K st
/-- An append of a text, of a row of zeros. -/
def app2Y (P : Program) (u : Option TypeDesc) (t : TypeId) (x y : Value) (K : Value → Heap → Prop) (st : Heap) : Prop :=
  match u, y with
  | some .string, .string s => AppI (slInfo P t) P t x (.string s) K st
  | some (.int _), .int _ n => 0 ≤ n ∧ n ≤ 140737488355328 ∧ (∃ e, slInfo P t = some (e, 1, 1, [.int .u8 0])) ∧ AppI (slInfo P t) P t x (.string (zerosT n.toNat)) K st
  | _, _ => False
def builtinY (P : Program) (b : Builtin) (xs : List Value) (ts : List TypeId) (K : Value → Heap → Prop) (st : Heap) : Prop :=
  match b, xs, ts with
  | .len, [x], [t] => optS (lenV P st t x) K st
  | .append, [x, y], [t, u] => if t = u then AppI (slInfo P t) P t x y K st else app2Y P (P.underlying u) t x y K st
  | .copy, [x, y], [t, _] => CopyI P t x y K st
  | .delete, [x, y], [t, _] => delY (mapInfo P t) x (mapOf st x) y K st
  | .min, [x, y], _ => optS (minV false x y) K st
  | .max, [x, y], _ => optS (minV true x y) K st
  | .clear, [x], [t] => ClearI P t x K st
  | _, _, _ => False
def RangeI (x : Value) (K : Value → Heap → Prop) (st : Heap) : Prop := rangeX x K st
def NextI' (x : Value) (K : Value → Heap → Prop) (st : Heap) : Prop := nextX x K st
def EntryI (x : Value) (K : Value → Heap → Prop) (st : Heap) : Prop := entryX x K st
def MapEntryI (P : Program) (t : TypeId) (x k : Value) (K : Value → Heap → Prop) (st : Heap) : Prop := mapEntryX P t x k K st
def EntryStoreI (x n v : Value) (K : Value → Heap → Prop) (st : Heap) : Prop := entryStoreX x n v K st
def opX (P : Program) (W0 : World) (o : Oper) (E : Env) (K : Value → Heap → Prop) (Kp : List PanicEntry → Heap → Prop) (st : Heap) : Prop :=
  match o.op with
  | .move x => K (E.ev x) st
  | .assign x => K (E.ev x) st
  | .pick c a b => pickX (E.ev c) (E.ev a) (E.ev b) K st
  | .extract x i => extractY (E.ev x) i K st
  | .nilCheck x => nilX (E.ev x) K st
  | .fieldAddr t x f => fieldAddrY (fldInfo P t f) (E.ev x) K st
  | .field t x f => fieldY (fldInfo P t f) (E.ev x) K st
  | .load t x => loadY (tyInfo P t) (E.ev x) K st
  | .store t x y => storeY (tyInfo P t) (E.ev x) (E.ev y) K st
  | .binOp op t x y _ => optS (binV P op t (E.ev x) (E.ev y)) K st
  | .unOp op _ x => optS (unV op (E.ev x)) K st
  | .box e x => NewP e (E.ev x).cells.toList K st
  | .alloc e => allocY (zeroOf P e) e K st
  | .build t ps => buildY (bldInfo P t) (ps.toList.map fun p => (p.1, E.ev p.2)) K st
  | .buildSlice t n ps => buildSliceY (slInfo P t) n (ps.toList.map fun p => (p.1, E.ev p.2)) K st
  | .convert src dst x => convY P src dst (P.underlying src) (P.underlying dst) (E.ev x) K st
  | .indexAddr t x i => indexAddrY (P.underlying t) (slInfo P t) (arrInfo P t) (E.ev x) (E.ev i) K st
  | .index t x i => indexY (P.underlying t) (arrInfo P t) (E.ev x) (E.ev i) K st
  | .slice t x lo hi mx => sliceY (P.underlying t) (slInfo P t) (arrInfo P t) (E.ev x) (lo.map E.ev) (hi.map E.ev) (mx.map E.ev) K st
  | .makeSlice t l c => makeSliceY (slInfo P t) (E.ev l) (E.ev c) K st
  | .makeMap _ none => NewM K st
  | .makeFunc fn first captured => K (.func fn (first.map E.ev) (captured.map E.ev)) st
  | .makeInterface t x => notIface P t = true ∧ K (.iface t (E.ev x)) st
  | .lookup t x k ok => lookupY (mapInfo P t) (mapOf st (E.ev x)) (E.ev k) ok K st
  | .mapUpdate t x k v => mapUpdY (mapInfo P t) (E.ev x) (mapOf st (E.ev x)) (E.ev k) (E.ev v) K st
  | .mapEntry t x k => MapEntryI P t (E.ev x) (E.ev k) K st
  | .entryStore _ x n v => EntryStoreI (E.ev x) (E.ev n) (E.ev v) K st
  | .range t x => isMapT P t = true ∧ RangeI (E.ev x) K st
  | .next x false => NextI' (E.ev x) K st
  | .entry x => EntryI (E.ev x) K st
  | .call ⟨.value f, args, _⟩ => callX P W0 (E.ev f) (args.map E.ev) K Kp st
  | .call ⟨.builtin b, args, ts⟩ => builtinY P b (args.toList.map E.ev) ts.toList K st
  | _ => opW P W0 o E K Kp st

section
variable {P : Program} {W0 : World} {E : Env} {K : Value → Heap → Prop} {Kp : List PanicEntry → Heap → Prop} {st : Heap}
theorem toList_two {α β : Type} {a : Array α} {f : α → β} {x y : β} (h : a.toList.map f = [x, y]) : ∃ p q, a = #[p, q] ∧ f p = x ∧ f q = y := by
  obtain ⟨l⟩ := a
  match l, h with
  | [p, q], h => simp at h; exact ⟨p, q, rfl, h.1, h.2⟩
theorem toList_one {α β : Type} {a : Array α} {f : α → β} {x : β} (h : a.toList.map f = [x]) : ∃ p, a = #[p] ∧ f p = x := by
  obtain ⟨l⟩ := a
  match l, h with
  | [p], h => simp at h; exact ⟨p, rfl, h⟩
theorem toList_id2 {α : Type} {a : Array α} {x y : α} (h : a.toList = [x, y]) : a = #[x, y] := by
  obtain ⟨l⟩ := a; simp at h; rw [h]
theorem toList_id1 {α : Type} {a : Array α} {x : α} (h : a.toList = [x]) : a = #[x] := by
  obtain ⟨l⟩ := a; simp at h; rw [h]
theorem Y_load {t : TypeId} {v : Value} (h : loadY (tyInfo P t) v K st) : loadX P t v K st := by
  unfold loadY at h
  unfold loadX
  split at h
  · rename_i n a hi
    obtain ⟨u, hu, h⟩ := optK_iff.1 (optS_iff.1 h)
    exact optK_iff.2 ⟨a, rfl, optK_iff.2 ⟨u, by unfold ldV; rw [hi]; exact hu, h⟩⟩
  · rename_i n a hi
    obtain ⟨u, hu, h⟩ := optK_iff.1 (optS_iff.1 h)
    exact optK_iff.2 ⟨a, rfl, optK_iff.2 ⟨u, by unfold ldV; rw [hi]; exact hu, h⟩⟩
  · exact h.elim
theorem Y_store {t : TypeId} {v u : Value} (h : storeY (tyInfo P t) v u K st) : storeX P t v u K st := by
  unfold storeY at h
  unfold storeX
  split at h
  · rename_i b i hi
    split at h
    · rename_i h1
      unfold optB at h
      split at h
      · rename_i x hx
        refine optK_iff.2 ⟨_, rfl, optK_iff.2 ⟨_, ?_, h⟩⟩
        unfold stV
        rw [hi]
        simp only [h1, and_self, if_true]
        unfold stB at hx
        split at hx
        · rename_i xs n e hb
          split at hx
          · rename_i hc
            injection hx with hx; subst hx
            unfold stC
            simp only [hb]
            rw [if_pos hc]
          · cases hx
        · cases hx
      · exact h.elim
    · exact h.elim
  · rename_i n b i hi
    split at h
    · rename_i cs
      split at h
      · rename_i hsz
        unfold optB at h
        split at h
        · rename_i x hx
          refine optK_iff.2 ⟨_, rfl, optK_iff.2 ⟨_, ?_, h⟩⟩
          unfold stV
          rw [hi]
          simp only [hsz, if_true]
          unfold stA at hx
          split at hx
          · rename_i xs n' e hb
            split at hx
            · rename_i hc
              injection hx with hx; subst hx
              exact stN_splice cs.toList i xs st hb hc.1 hc.2.1 (List.all_eq_true.1 hc.2.2)
            · cases hx
          · cases hx
        · exact h.elim
      · exact h.elim
    · exact h.elim
  · exact h.elim
theorem Y_fill {ps : List (Nat × Nat)} : ∀ {parts : List (Nat × Value)} {z l : List Value}, fillY ps z parts = some l → fillL (fun i => ps[i]?) z parts = some l
  | [], z, l, h => h
  | (i, v) :: rest, z, l, h => by
    unfold fillY at h
    unfold fillL
    split at h
    · rename_i off size hp
      simp only [hp]
      split at h
      · rename_i h1
        split at h
        · rename_i hc
          obtain ⟨rfl, hlt⟩ := hc
          have hcs : v.cells = #[v] := by cases v <;> simp_all [Value.cells, Value.oneCell']
          rw [if_pos (by simp [hcs]; omega), hcs]
          have : splice z off #[v].toList = z.set off v := splice_one z off v hlt
          rw [this]
          exact Y_fill h
        · cases h
      · split at h
        · rename_i hc
          rw [if_pos hc]
          exact Y_fill h
        · cases h
    · cases h
theorem Y_fillS {size : Nat} : ∀ {parts : List (Nat × Value)} {z l : List Value}, fillS size z parts = some l → fillL (elemPlaces size) z parts = some l
  | [], z, l, h => h
  | (i, v) :: rest, z, l, h => by
    unfold fillS at h
    unfold fillL
    simp only [elemPlaces]
    split at h
    · rename_i h1
      split at h
      · rename_i hc
        obtain ⟨rfl, hlt⟩ := hc
        have hcs : v.cells = #[v] := by cases v <;> simp_all [Value.cells, Value.oneCell']
        rw [if_pos (by simp [hcs]; omega), hcs, Nat.mul_one]
        have : splice z i #[v].toList = z.set i v := splice_one z i v hlt
        rw [this]
        exact Y_fillS h
      · cases h
    · split at h
      · rename_i hc
        rw [if_pos hc]
        exact Y_fillS h
      · cases h
theorem Y_index {t : TypeId} {x i : Value} (h : indexAddrY (P.underlying t) (slInfo P t) (arrInfo P t) x i K st) : indexAddrX P t x i K st := by
  unfold indexAddrY at h
  unfold indexAddrX
  split at h
  · rename_i hs
    exact optK_iff.2 ⟨_, hs, h⟩
  · rename_i hs
    exact optK_iff.2 ⟨_, hs, h⟩
  · exact h.elim
theorem Y_index2 {t : TypeId} {x i : Value} (h : indexY (P.underlying t) (arrInfo P t) x i K st) : indexX P t x i K st := by
  unfold indexY at h
  unfold indexX
  split at h
  · rename_i hs
    exact ⟨hs, h⟩
  · rename_i hs
    obtain ⟨h0, h1, h⟩ := h
    exact optK_iff.2 ⟨_, hs, h0, h1, by simpa using optS_iff.1 h⟩
  · rename_i hs
    exact optK_iff.2 ⟨_, hs, h.1, h.2.1, h.2.2⟩
  · exact h.elim
theorem Y_slice {t : TypeId} {x : Value} {lo hi mx : Option Value} (h : sliceY (P.underlying t) (slInfo P t) (arrInfo P t) x lo hi mx K st) : sliceX P t x lo hi mx K st := by
  unfold sliceY at h
  unfold sliceX
  split at h
  · rename_i hu
    obtain ⟨rfl, h⟩ := h
    unfold sliceTextY at h
    split at h
    · rename_i hh l h1 h2
      exact ⟨hu, rfl, optK_iff.2 ⟨_, h1, h.1, optK_iff.2 ⟨_, h2, h.2.1, h.2.2⟩⟩⟩
    · exact h.elim
  · rename_i a len cap e size _ _ _ hs
    obtain ⟨hor, h⟩ := h
    unfold sliceRowY at h
    split at h
    · rename_i m hh l h1 h2 h3
      refine ⟨hor, optK_iff.2 ⟨_, hs, optK_iff.2 ⟨_, h1, h.1, optK_iff.2 ⟨_, h2, ?_, optK_iff.2 ⟨_, h3, h.2.2.1, h.2.2.2⟩⟩⟩⟩⟩
      rcases h.2.1 with h' | h'
      · exact .inl h'
      · exact .inr (by simpa using h')
    · exact h.elim
  · rename_i hs
    obtain ⟨hor, h⟩ := h
    unfold sliceRowY at h
    split at h
    · rename_i m hh l h1 h2 h3
      refine ⟨hor, optK_iff.2 ⟨_, hs, optK_iff.2 ⟨_, h1, h.1, optK_iff.2 ⟨_, h2, ?_, optK_iff.2 ⟨_, h3, h.2.2.1, h.2.2.2⟩⟩⟩⟩⟩
      rcases h.2.1 with h' | h'
      · exact .inl h'
      · exact .inr (by simpa using h')
    · exact h.elim
  · exact h.elim
theorem Y_builtin {b : Builtin} {args : Array Operand} {ts : Array TypeId} {d : Option Nat} {ty : TypeId} {pos : String} {af : Array Edge} {g : Option (Nat × Bool)} (h : builtinY P b (args.toList.map E.ev) ts.toList K st) : opW P W0 ⟨d, .call ⟨.builtin b, args, ts⟩, ty, pos, af, g⟩ E K Kp st := by
  generalize hx : args.toList.map E.ev = xs at h
  generalize ht : ts.toList = tl at h
  unfold builtinY at h
  split at h
  · obtain ⟨p, rfl, rfl⟩ := toList_one hx
    obtain rfl := toList_id1 ht
    exact X_len (optS_iff.1 h)
  · obtain ⟨p, q, rfl, rfl, hq⟩ := toList_two hx
    obtain rfl := toList_id2 ht
    split at h
    · rename_i htu; subst htu; subst hq; exact X_append h
    · unfold app2Y at h
      split at h
      · rename_i s hu
        exact X_append2 hu hq (hq ▸ h)
      · rename_i n hu
        obtain ⟨h0, h1, ⟨e, h2⟩, h⟩ := h
        exact X_append3 hu h0 h1 h2 hq h
      · exact h.elim
  · obtain ⟨p, q, rfl, rfl, rfl⟩ := toList_two hx
    obtain rfl := toList_id2 ht
    exact X_copy h
  · obtain ⟨p, q, rfl, rfl, rfl⟩ := toList_two hx
    obtain rfl := toList_id2 ht
    refine X_delete ?_
    unfold delY at h
    unfold delX
    split at h
    · rename_i key kd z r es hi hm he
      rw [hm]
      refine optK_iff.2 ⟨_, hi, optK_iff.2 ⟨es, by rw [hm] at he; exact he, ?_⟩⟩
      unfold optM at h
      split at h
      · rename_i x hx'; exact optK_iff.2 ⟨x, hx', h⟩
      · exact h.elim
    · exact h.elim
  · obtain ⟨p, q, rfl, rfl, rfl⟩ := toList_two hx
    exact X_min (optS_iff.1 h)
  · obtain ⟨p, q, rfl, rfl, rfl⟩ := toList_two hx
    exact X_max (optS_iff.1 h)
  · obtain ⟨p, rfl, rfl⟩ := toList_one hx
    obtain rfl := toList_id1 ht
    exact X_clear h
  · exact h.elim
theorem opX_sound {o : Oper} (h : opX P W0 o E K Kp st) : opSem P W0 o E K Kp st := by
  obtain ⟨d, op, ty, pos, af, g⟩ := o
  unfold opX at h
  simp only at h
  split at h
  · exact opSem_of h
  · exact opSem_of h
  · exact opSem_of (X_pick h)
  · refine opSem_of (X_extract ?_)
    unfold extractY at h
    unfold extractX
    split at h
    · rename_i he; rw [he]; exact optS_iff.1 h
    · exact h.elim
  · exact opSem_of (X_nil h)
  · refine opSem_of (X_fieldAddr ?_)
    unfold fieldAddrY at h
    split at h
    · rename_i i a hi he
      exact optK_iff.2 ⟨a, by rw [he]; rfl, optK_iff.2 ⟨i, hi, h⟩⟩
    · exact h.elim
  · refine opSem_of (X_field ?_)
    unfold fieldY at h
    unfold fieldX
    split at h
    · rename_i hi he
      rw [he]
      exact optK_iff.2 ⟨_, hi, by simpa using optS_iff.1 h⟩
    · rename_i hi he
      rw [he]
      exact optK_iff.2 ⟨_, hi, by simpa using h⟩
    · exact h.elim
  · exact opSem_of (X_load (Y_load h))
  · exact opSem_of (X_store (Y_store h))
  · exact opSem_of (X_bin (optS_iff.1 h))
  · exact opSem_of (X_un (optS_iff.1 h))
  · exact opSem_of (X_box h)
  · refine opSem_of (X_alloc ?_)
    unfold allocY at h
    split at h
    · rename_i z hz; exact optK_iff.2 ⟨z, hz, h⟩
    · exact h.elim
  · refine opSem_of (X_build ?_)
    unfold buildY at h
    unfold buildV
    split at h
    · rename_i z ps hi
      rw [hi]
      obtain ⟨v, hv, h⟩ := optK_iff.1 (optS_iff.1 h)
      obtain ⟨l, hl, rfl⟩ := Option.map_eq_some_iff.1 hv
      exact optK_iff.2 ⟨_, by simp [Y_fill hl], h⟩
    · exact h.elim
  · refine opSem_of (X_buildSlice ?_)
    unfold buildSliceY at h
    unfold buildSliceX
    split at h
    · rename_i e size by_ z hi
      split at h
      · rename_i hle
        unfold newSO at h
        split at h
        · rename_i xs hxs
          exact optK_iff.2 ⟨_, hi, hle, optK_iff.2 ⟨xs, Y_fillS hxs, h⟩⟩
        · exact h.elim
      · exact h.elim
    · exact h.elim
  · refine opSem_of (X_conv ?_)
    unfold convY at h
    unfold convX
    split at h
    · rename_i hs hd he; rw [hd, he]; exact ⟨⟨_, hs⟩, h⟩
    · rename_i hs hd he; rw [hd, he]; exact ⟨hs, h⟩
    · rename_i hs hd he; rw [hd, he]; exact ⟨hs, h.1, h.2⟩
    · rename_i hs hd he
      rw [hd, he]
      refine ⟨⟨_, hs, h.1⟩, ?_⟩
      have h2 := h.2
      unfold optT at h2
      split at h2
      · rename_i x hx; exact optK_iff.2 ⟨x, hx, h2⟩
      · exact h2.elim
    · rename_i hs hd he
      obtain ⟨rfl, hu, hb, hk⟩ := h
      rw [hs] at hd
      injection hd with hd
      injection hd with hd
      subst hd
      rw [hs, he]
      exact ⟨rfl, hu, hb, hk⟩
    · exact h.elim
  · exact opSem_of (X_indexAddr (Y_index h))
  · exact opSem_of (X_index (Y_index2 h))
  · exact opSem_of (X_slice (Y_slice h))
  · refine opSem_of (X_makeSlice ?_)
    unfold makeSliceY at h
    unfold makeSliceX
    split at h
    · rename_i hi he1 he2
      rw [he1, he2]
      exact optK_iff.2 ⟨_, hi, h.1, h.2.1, h.2.2.1, h.2.2.2⟩
    · exact h.elim
  · exact opSem_of (X_makeMap h)
  · exact opSem_of (X_makeFunc h)
  · exact opSem_of (X_makeInterface h.1 h.2)
  · refine opSem_of (X_lookup ?_)
    unfold lookupY at h
    split at h
    · rename_i key kd z es hi hes
      refine optK_iff.2 ⟨_, hi, optK_iff.2 ⟨es, hes, ?_⟩⟩
      unfold lookupR at h
      split at h
      · rename_i hr; exact optK_iff.2 ⟨_, hr, h⟩
      · rename_i hr; exact optK_iff.2 ⟨_, hr, h⟩
      · rename_i hr; exact optK_iff.2 ⟨_, hr, h⟩
      · rename_i hr; exact optK_iff.2 ⟨_, hr, h⟩
      · exact h.elim
    · exact h.elim
  · refine opSem_of (X_mapUpdate ?_)
    unfold mapUpdY at h
    unfold mapUpdX
    split at h
    · rename_i key kd z r es hi hm he
      rw [hm] at he ⊢
      refine optK_iff.2 ⟨_, hi, optK_iff.2 ⟨es, he, ?_⟩⟩
      unfold optM at h
      split at h
      · rename_i x hx'; exact optK_iff.2 ⟨x, hx', h⟩
      · exact h.elim
    · exact h.elim
  · exact X_mapEntry h
  · exact X_entryStore h
  · obtain ⟨hm, h⟩ := h
    unfold isMapT at hm
    split at hm
    · rename_i hu; exact X_range hu h
    · cases hm
  · exact X_next h
  · exact X_entry h
  · exact opSem_of (X_call h)
  · exact opSem_of (Y_builtin h)
  · exact opSem_of h
end
end Go.Proofs.YtadgciaclhjjkaaGreat
