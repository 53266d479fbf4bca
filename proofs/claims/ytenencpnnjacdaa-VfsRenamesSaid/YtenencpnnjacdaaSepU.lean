/- The model's operations in plain forms, fourth part: conversions, indexes, slicing, copy, make, maps, calls. -/
import Derived.Test.YtenencpnnjacdaaSepZ
import Derived.Laws.BytesString
set_option linter.unusedVariables false
set_option linter.unusedSimpArgs false
namespace Go.Proofs.Ytenencpnnjacdaa
open Go.RowKit (Below)

/-! ### Bytes -/
def bytesV (l : List UInt8) : List Value := l.map fun b => .int .u8 b.toNat
def byteOf : Value → Option UInt8
  | .int .u8 n => some (UInt8.ofNat n.toNat)
  | _ => none
theorem wpS_pushBytes {P : Program} {Kp : Value → Heap → Prop} {st : Heap} : ∀ (l : List Value) (bs : List UInt8) (s : ByteArray) (K : ByteArray → Heap → Prop), l.mapM byteOf = some bs → K ⟨s.data ++ bs.toArray⟩ st →
    wpS P (forIn l s fun c s => (match c with | .int .u8 n => pure (ForInStep.yield (s.push (UInt8.ofNat n.toNat))) | _ => stuck "bytesToString: byte expected" : Sem (ForInStep ByteArray))) K Kp st
  | [], bs, s, K, h, hk => by
    simp only [List.mapM_nil] at h
    injection h with h; subst h
    simpa [wpS_pure] using hk
  | c :: l, bs, s, K, h, hk => by
    simp only [List.mapM_cons] at h
    obtain ⟨x, hx, h⟩ := Option.bind_eq_some_iff.1 h
    obtain ⟨xs, hxs, h⟩ := Option.bind_eq_some_iff.1 h
    injection h with h; subst h
    rw [List.forIn_cons, wpS_bind]
    unfold byteOf at hx
    split at hx
    · injection hx with hx; subst hx
      rw [wpS_pure]
      refine wpS_pushBytes l xs _ K hxs ?_
      rename_i v n _
      have e : (s.push (UInt8.ofNat n.toNat)).data ++ xs.toArray = s.data ++ ((UInt8.ofNat n.toNat) :: xs).toArray := by
        apply Array.ext'
        simp [ByteArray.push]
      rw [e]
      exact hk
    · cases hx
/-- A slice of bytes as a text. -/
def textOf (st : Heap) : Value → Option ByteArray
  | .slice none _ _ => some .empty
  | .slice (some a) len _ => if len = 0 then some .empty else (lkN st a len).bind fun l => (l.mapM byteOf).map fun bs => ⟨bs.toArray⟩
  | _ => none
theorem toString_spec {P : Program} {Kp : Value → Heap → Prop} {st : Heap} {x : Value} {s : ByteArray} {K : Value → Heap → Prop} (h : textOf st x = some s) (hk : K (.string s) st) : wpS P (Conv.bytesToString x) K Kp st := by
  unfold textOf at h
  unfold Conv.bytesToString
  split at h
  · injection h with h; subst h; exact hk
  · split at h
    · rename_i h0; subst h0
      injection h with h; subst h
      exact hk
    obtain ⟨l, hl, h⟩ := Option.bind_eq_some_iff.1 h
    obtain ⟨bs, hbs, rfl⟩ := Option.map_eq_some_iff.1 h
    simp only
    rw [wpS_bind]
    refine wpS_loadCells hl ?_
    rw [wpS_bind]
    have e : (fun (a : ByteArray) st => wpS P (pure (Value.string a) : Sem Value) K Kp st) = fun a st => K (.string a) st := rfl
    rw [e]
    have := wpS_pushBytes (P := P) (Kp := Kp) (st := st) l bs ByteArray.empty (fun a st => K (.string a) st) hbs (by
      have e0 : (⟨ByteArray.empty.data ++ bs.toArray⟩ : ByteArray) = ⟨bs.toArray⟩ := by
        show (⟨#[] ++ bs.toArray⟩ : ByteArray) = ⟨bs.toArray⟩
        rw [Array.empty_append]
      rw [e0]; exact hk)
    rw [← List.forIn_toArray] at this
    exact this
  · cases h
def convX (P : Program) (src dst : TypeId) (x : Value) (K : Value → Heap → Prop) (st : Heap) : Prop :=
  match P.underlying dst, x with
  | some (.int k), .int _ n => (∃ d, P.underlying src = some d) ∧ K (.int k (k.wrap n)) st
  | some .string, .string s => (P.underlying src = some .string) ∧ K (.string s) st
  | some (.slice e), .string s => (P.underlying src = some .string) ∧ P.underlying e = some (.int .u8) ∧ ∀ b c, st b = none → s.size ≤ c → ∃ g : Tg, K (.slice (some ⟨b, 0, none⟩) s.size c) (upd st b (.cells true (bytesV s.data.toList) c g))
  | some (.slice e), .slice (some a) _ _ => src = dst ∧ P.underlying e = some (.int .u8) ∧ (∃ xs n e, st a.block = some (.cells true xs n e)) ∧ K x st
  | some .string, .slice a n c => (∃ e, P.underlying src = some (.slice e) ∧ P.underlying e = some (.int .u8)) ∧ optK (textOf st (.slice a n c)) fun s => K (.string s) st
  | _, _ => False
section
variable {P : Program} {W0 : World} {E : Env} {K : Value → Heap → Prop} {Kp : List PanicEntry → Heap → Prop} {st : Heap} {d : Option Nat} {ty : TypeId} {pos : String} {af : Array Edge} {g : Option (Nat × Bool)}
theorem toBytes_spec {Kp : Value → Heap → Prop} {e : TypeId} {s : ByteArray} {K : Value → Heap → Prop} (h : ∀ b c, st b = none → s.size ≤ c → ∃ g : Tg, K (.slice (some ⟨b, 0, none⟩) s.size c) (upd st b (.cells true (bytesV s.data.toList) c g))) : wpS P (Conv.stringToBytes e s) K Kp st := by
  unfold Conv.stringToBytes
  rw [wpS_bind]
  show wpS P (Sem.choose _ Sem.pure) _ _ _
  unfold wpS
  rw [if_neg (by simp [Question.forced])]
  intro c0
  generalize hc : (Question.appendCap s.size 0 e).cut c0 = c
  have hcle : s.size ≤ c := by rw [← hc]; simp [Question.cut]
  rw [wpS_pure', wpS_bind]
  refine wpS_newRow_le (bytesV s.data.toList) ?_ fun b hb => ?_
  · exact ⟨_, by simp [bytesV]; rfl⟩
  · have hsize : ((s.data.map fun b => Value.int .u8 b.toNat) ++ Array.replicate (c - s.size) (Value.int .u8 0)).size = c := by
      simp; omega
    rw [hsize]
    obtain ⟨g, h⟩ := h b c hb hcle
    refine ⟨g, ?_⟩
    rw [wpS_bind]
    unfold markStringish
    rw [wpS_bind]
    refine .inl ⟨true, _, _, _, upd_same _ _ _, fun tt => ?_⟩
    simp only
    exact ⟨_, _, _, upd_same _ _ _, Nat.le_refl _, h⟩
theorem X_conv {src dst : TypeId} {x : Operand} (h : convX P src dst (E.ev x) K st) : opW P W0 ⟨d, .convert src dst x, ty, pos, af, g⟩ E K Kp st := by
  show wpS P _ _ _ _
  unfold execOp
  refine execOp_v ?_
  show wpS P _ K _ st
  generalize E.ev x = a at *
  unfold convX at h
  unfold convert
  split at h
  · rename_i k kk n hd
    obtain ⟨⟨ds, hs⟩, h⟩ := h
    rw [wpS_bind, wpS_underlying hs, wpS_bind, wpS_underlying hd]
    cases ds <;> exact h
  · rename_i s hd
    obtain ⟨hs, h⟩ := h
    rw [wpS_bind, wpS_underlying hs, wpS_bind, wpS_underlying hd]
    exact h
  · rename_i e s hd
    obtain ⟨hs, he, h⟩ := h
    rw [wpS_bind, wpS_underlying hs, wpS_bind, wpS_underlying hd]
    simp only
    rw [wpS_bind, wpS_underlying he]
    exact toBytes_spec h
  · rename_i e a n c hd
    obtain ⟨hsd, he, ⟨xs, n', e', hb⟩, h⟩ := h
    subst hsd
    rw [wpS_bind, wpS_underlying hd, wpS_bind, wpS_underlying hd]
    simp only
    rw [wpS_bind, wpS_underlying he]
    simp only [beq_self_eq_true]
    rw [wpS_bind]
    unfold markStringish
    rw [wpS_bind]
    refine .inl ⟨true, _, _, _, hb, fun tt => ?_⟩
    exact ⟨_, _, _, hb, Nat.le_refl _, h⟩
  · rename_i b n c hd
    obtain ⟨⟨e, hs, he⟩, h⟩ := h
    obtain ⟨s, ht, h⟩ := optK_iff.1 h
    rw [wpS_bind, wpS_underlying hs, wpS_bind, wpS_underlying hd]
    simp only
    rw [wpS_bind, wpS_underlying he]
    exact toString_spec ht h
  · exact h.elim

/-! ### Places in slices, arrays, texts -/
def indexAddrX (P : Program) (t : TypeId) (x i : Value) (K : Value → Heap → Prop) (st : Heap) : Prop :=
  match x, i with
  | .slice (some a) len _, .int _ n => optK (slInfo P t) fun s => 0 ≤ n ∧ n < len ∧ K (.pointer (some (a.add (n.toNat * s.2.1)))) st
  | .pointer (some a), .int _ n => optK (arrInfo P t) fun s => 0 ≤ n ∧ n < s.1 ∧ K (.pointer (some (a.add (n.toNat * s.2.2.1)))) st
  | _, _ => False
theorem arrInfo_some {P : Program} {t : TypeId} {n k : Nat} {ag : Bool} {z : List Value} (h : arrInfo P t = some (n, ag, k, z)) : ∃ e, P.underlying t = some (.array n e) ∧ tyInfo P e = some (ag, k) := by
  unfold arrInfo at h
  split at h
  · rename_i n' e hu
    split at h
    · rename_i a k' zz he hz
      injection h with h; injection h with h1 h2; injection h2 with h2 h3; injection h3 with h3 h4
      subst h1; subst h2; subst h3
      exact ⟨e, hu, he⟩
    · cases h
  · cases h
theorem X_indexAddr {t : TypeId} {x i : Operand} (h : indexAddrX P t (E.ev x) (E.ev i) K st) : opW P W0 ⟨d, .indexAddr t x i, ty, pos, af, g⟩ E K Kp st := by
  show wpS P _ _ _ _
  unfold execOp
  refine execOp_v ?_
  show wpS P _ K _ st
  generalize E.ev x = a at *
  generalize E.ev i = b at *
  unfold indexAddrX at h
  unfold Instr.indexAt
  split at h
  · rename_i ad len cap k n
    obtain ⟨⟨e, size, bytes, z⟩, hi, h⟩ := optK_iff.1 h
    obtain ⟨hu, inf, zv, hinfo, hsz, _⟩ := slInfo_some hi
    obtain ⟨h0, h1, h⟩ := h
    simp only [asIntOf]
    rw [wpS_bind, wpS_pure]
    simp only
    rw [wpS_bind, wpS_underlying hu]
    simp only
    rw [wpS_bind, wpS_pure]
    simp only
    rw [wpS_bind, wpS_underlying hu]
    simp only
    rw [if_pos ⟨h0, h1⟩, wpS_bind, wpS_sizeOf hinfo, hsz]
    exact h
  · rename_i ad k n
    obtain ⟨⟨m, ag, size, z⟩, hi, h⟩ := optK_iff.1 h
    obtain ⟨e, hu, hte⟩ := arrInfo_some hi
    obtain ⟨h0, h1, h⟩ := h
    simp only [asIntOf]
    rw [wpS_bind, wpS_pure]
    simp only
    rw [wpS_bind, wpS_underlying hu]
    simp only [Instr.sureAddr]
    rw [wpS_bind, wpS_pure, wpS_bind, wpS_pure]
    simp only
    rw [wpS_bind, wpS_underlying hu]
    simp only
    rw [if_pos ⟨h0, h1⟩, wpS_bind, wpS_size hte]
    exact h
  · exact h.elim
def btOf (s : ByteArray) (n : Int) : Int := ((s.data.toList[n.toNat]?).map fun b => (b.toNat : Int)).getD 0
def indexX (P : Program) (t : TypeId) (x i : Value) (K : Value → Heap → Prop) (st : Heap) : Prop :=
  match x, i with
  | .string s, .int _ n => P.underlying t = some .string ∧ 0 ≤ n ∧ n < s.size ∧ K (.int .u8 (btOf s n)) st
  | .agg cs, .int _ n => optK (arrInfo P t) fun s => 0 ≤ n ∧ n < s.1 ∧ (if s.2.1 = true then K (.agg (cs.extract (n.toNat * s.2.2.1) (n.toNat * s.2.2.1 + s.2.2.1))) st else optK cs[n.toNat * s.2.2.1]? fun u => K u st)
  | _, _ => False
theorem X_index {t : TypeId} {x i : Operand} (h : indexX P t (E.ev x) (E.ev i) K st) : opW P W0 ⟨d, .index t x i, ty, pos, af, g⟩ E K Kp st := by
  show wpS P _ _ _ _
  unfold execOp
  refine execOp_v ?_
  show wpS P _ K _ st
  generalize E.ev x = a at *
  generalize E.ev i = b at *
  unfold indexX at h
  unfold Instr.index
  split at h
  · rename_i s k n
    obtain ⟨hu, h0, h1, h⟩ := h
    simp only [asIntOf]
    rw [wpS_bind, wpS_pure]
    simp only
    rw [wpS_bind, wpS_underlying hu]
    simp only
    rw [if_pos h0]
    have hlt : n.toNat < s.size := by omega
    have : s[n.toNat]? = some s[n.toNat] := getElem?_pos s n.toNat hlt
    rw [this]
    have hb : btOf s n = (s[n.toNat].toNat : Int) := by
      unfold btOf
      have hl : n.toNat < s.data.toList.length := by simpa using hlt
      rw [List.getElem?_eq_getElem hl]
      rfl
    rw [hb] at h
    exact h
  · rename_i cs k n
    obtain ⟨⟨m, ag, size, z⟩, hi, h⟩ := optK_iff.1 h
    obtain ⟨e, hu, hte⟩ := arrInfo_some hi
    obtain ⟨h0, h1, h⟩ := h
    simp only [asIntOf]
    rw [wpS_bind, wpS_pure]
    simp only
    rw [wpS_bind, wpS_underlying hu]
    simp only
    rw [if_pos ⟨h0, h1⟩, wpS_bind, wpS_size hte]
    exact part_get hte h
  · exact h.elim
def bnd (x : Option Value) (dflt : Nat) : Option Nat :=
  match x with
  | none => some dflt
  | some (.int _ n) => if 0 ≤ n then some n.toNat else none
  | _ => none
theorem bound_spec {Kp : Value → Heap → Prop} {v : Value} {dflt y n : Nat} {code : BoundsCode} {K : Nat → Heap → Prop} (h : bnd (some v) dflt = some n) (hy : n ≤ y) (hk : K n st) : wpS P (Instr.sliceBound v y code) K Kp st := by
  unfold bnd at h
  split at h
  · cases v <;> simp_all
  · rename_i k m hv
    injection hv with hv; subst hv
    split at h
    · rename_i h0
      injection h with h; subst h
      unfold Instr.sliceBound
      simp only [asIntOf]
      rw [wpS_bind, wpS_pure]
      simp only
      rw [if_pos ⟨h0, by omega⟩]
      exact hk
    · cases h
  · cases h
def sliceX (P : Program) (t : TypeId) (x : Value) (lo hi mx : Option Value) (K : Value → Heap → Prop) (st : Heap) : Prop :=
  match x with
  | .string s => P.underlying t = some .string ∧ mx = none ∧ optK (bnd hi s.size) fun h => h ≤ s.size ∧ optK (bnd lo 0) fun l => l ≤ h ∧ K (.string (s.extract l h)) st
  | .slice a len cap => (mx = none ∨ hi ≠ none) ∧ optK (slInfo P t) fun s => optK (bnd mx cap) fun m => m ≤ cap ∧ optK (bnd hi len) fun h => (h ≤ m ∨ hi = none) ∧ optK (bnd lo 0) fun l => l ≤ h ∧
      K (.slice (if m = l then a else a.map (·.add (l * s.2.1))) (h - l) (m - l)) st
  | _ => False
theorem bounds_spec {Kp : Value → Heap → Prop} {isS : Bool} {len cap m h l : Nat} {lo hi mx : Option Value} {K : Nat × Nat × Nat → Heap → Prop} (hm : bnd mx cap = some m) (hmc : m ≤ cap) (hh : bnd hi len = some h) (hhm : h ≤ m ∨ hi = none) (hl : bnd lo 0 = some l) (hlh : l ≤ h)
    (hor : mx = none ∨ hi ≠ none) (hk : K (l, h, m) st) : wpS P (Instr.sliceBounds isS len cap lo hi mx) K Kp st := by
  unfold Instr.sliceBounds
  cases mx with
  | none =>
    injection hm with hm; subst hm
    cases hi with
    | none =>
      injection hh with hh; subst hh
      dsimp only
      rw [wpS_bind, wpS_pure, wpS_bind, wpS_pure]
      cases lo with
      | none => injection hl with hl; subst hl; exact hk
      | some v =>
        dsimp only
        rw [wpS_bind]
        exact bound_spec hl hlh hk
    | some u =>
      have hle : h ≤ cap := by
        rcases hhm with h | h
        · exact h
        · cases h
      dsimp only
      rw [wpS_bind, wpS_pure, wpS_bind]
      refine bound_spec hh hle ?_
      cases lo with
      | none => injection hl with hl; subst hl; exact hk
      | some v =>
        dsimp only
        rw [wpS_bind]
        exact bound_spec hl hlh hk
  | some x =>
    cases hi with
    | none => rcases hor with h | h <;> simp at h
    | some u =>
      have hle : h ≤ m := by
        rcases hhm with h | h
        · exact h
        · cases h
      dsimp only
      rw [wpS_bind]
      refine bound_spec hm hmc ?_
      rw [wpS_bind]
      refine bound_spec hh hle ?_
      cases lo with
      | none => injection hl with hl; subst hl; exact hk
      | some v =>
        dsimp only
        rw [wpS_bind]
        exact bound_spec hl hlh hk
theorem X_slice {t : TypeId} {x : Operand} {lo hi mx : Option Operand} (h : sliceX P t (E.ev x) (lo.map E.ev) (hi.map E.ev) (mx.map E.ev) K st) : opW P W0 ⟨d, .slice t x lo hi mx, ty, pos, af, g⟩ E K Kp st := by
  show wpS P _ _ _ _
  unfold execOp
  refine execOp_v ?_
  show wpS P _ K _ st
  generalize E.ev x = a at *
  generalize lo.map E.ev = lo' at *
  generalize hi.map E.ev = hi' at *
  generalize mx.map E.ev = mx' at *
  unfold sliceX at h
  unfold Instr.sliceAt Instr.slice
  split at h
  · obtain ⟨hu, rfl, h⟩ := h
    obtain ⟨hh, h1, h⟩ := optK_iff.1 h
    obtain ⟨h2, h⟩ := h
    obtain ⟨l, h3, h⟩ := optK_iff.1 h
    obtain ⟨h4, h⟩ := h
    rw [wpS_bind, wpS_underlying hu]
    simp only
    rw [wpS_bind, wpS_underlying hu]
    simp only [Option.isSome_none, Bool.false_eq_true, if_false]
    rw [wpS_bind]
    exact bounds_spec rfl (Nat.le_refl _) h1 (.inl h2) h3 h4 (.inl rfl) h
  · obtain ⟨hor, h⟩ := h
    obtain ⟨⟨e, size, bytes, z⟩, hi0, h⟩ := optK_iff.1 h
    obtain ⟨hu, inf, zv, hinfo, hsz, _⟩ := slInfo_some hi0
    obtain ⟨m, h1, h2, h⟩ := optK_iff.1 h
    obtain ⟨hh, h3, h4, h⟩ := optK_iff.1 h
    obtain ⟨l, h5, h6, h⟩ := optK_iff.1 h
    rw [wpS_bind, wpS_underlying hu]
    simp only
    rw [wpS_bind, wpS_underlying hu]
    simp only
    rw [wpS_bind]
    refine bounds_spec h1 h2 h3 h4 h5 h6 hor ?_
    rw [wpS_bind, wpS_sizeOf hinfo, hsz]
    exact h
  · exact h.elim
end
end Go.Proofs.Ytenencpnnjacdaa
