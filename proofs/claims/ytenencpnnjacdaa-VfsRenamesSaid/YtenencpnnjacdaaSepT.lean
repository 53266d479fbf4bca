/- The model's operations in plain forms, fifth part: copy, make, functions, interfaces, least and greatest, maps, calls. -/
import Derived.Test.YtenencpnnjacdaaSepU
set_option linter.unusedVariables false
set_option linter.unusedSimpArgs false
namespace Go.Proofs.Ytenencpnnjacdaa
open Go.RowKit (Below)

/-! ### copy -/
def copyX (P : Program) (t : TypeId) (dst src : Value) (K : Value → Heap → Prop) (st : Heap) : Prop :=
  optK (slInfo P t) fun i => match dst with
  | .slice base dl cap => optK (srcCells i.2.1 st src) fun s =>
      match base with
      | some a => optK (stN st a.block a.off (s.2.take (Nat.min s.1 dl * i.2.1))) fun st' => a.spot = none ∧ K (.int .i64 (Nat.min s.1 dl)) st'
      | none => K (.int .i64 (Nat.min s.1 dl)) st
  | _ => False
theorem src_first {P : Program} {Kp : Value → Heap → Prop} {size n m : Nat} {st : Heap} {x : Value} {l : List Value} (h : srcCells size st x = some (n, l)) (hm : m ≤ n) {K : Array Value → Heap → Prop} (hk : K (l.take (m * size)).toArray st) : wpS P (Builtin.firstCells size m x) K Kp st := by
  unfold srcCells at h
  split at h
  · split at h
    · injection h with h; injection h with h1 h2; subst h2
      show K #[] st
      simpa using hk
    · cases h
  · rename_i a n' c
    split at h
    · rename_i h0
      injection h with h; injection h with h1 h2; subst h1; subst h2
      have hm0 : m = 0 := by omega
      subst hm0
      unfold Builtin.firstCells
      rw [Nat.zero_mul]
      simp only [Nat.zero_mul, List.take_nil] at hk
      exact hk
    obtain ⟨l', hl, he⟩ := Option.map_eq_some_iff.1 h
    injection he with h1 h2; subst h1; subst h2
    refine wpS_loadCells (l := l'.take (m * size)) ?_ hk
    have hmul : m * size ≤ n' * size := Nat.mul_le_mul_right _ hm
    unfold lkN at hl ⊢
    split at hl
    · cases hl
    · split at hl
      · rename_i hs hle
        injection hl with hl; subst hl
        rw [if_pos (by omega), List.take_take, Nat.min_eq_left hmul]
      · cases hl
  · split at h
    · rename_i s hs
      injection h with h; injection h with h1 h2; subst h1; subst h2; subst hs
      unfold Builtin.firstCells
      have : (((s.extract 0 m).data.map fun b => Value.int .u8 b.toNat) : Array Value) = ((s.data.toList.map fun b => Value.int .u8 b.toNat).take (m * 1)).toArray := by
        apply Array.ext'
        simp [ByteArray.data_extract, List.map_take]
      show K _ st
      rw [this]
      exact hk
    · cases h
  · cases h
theorem copy_spec {P : Program} {K : Value → Heap → Prop} {Kp : Value → Heap → Prop} {st : Heap} {t u r : TypeId} {dst src : Value} (h : copyX P t dst src K st) : wpS P (Builtin.copy_ #[t, u] r #[dst, src]) K Kp st := by
  obtain ⟨⟨e, size, bytes, z⟩, hi, h⟩ := optK_iff.1 h
  obtain ⟨hu, i, zv, hinfo, hsz, hby, hz, hzl, hzs, hpos, hbpos⟩ := slInfo_some hi
  cases dst with
  | slice base dl cap =>
    obtain ⟨⟨m, ys⟩, hs, h⟩ := optK_iff.1 h
    simp only at hs h
    obtain ⟨hl, hf⟩ := src_spec (P := P) (Kp := Kp) hs
    unfold Builtin.copy_
    simp only [List.getElem?_toArray, List.getElem?_cons_zero, List.getElem?_cons_succ]
    rw [wpS_bind, wpS_underlying hu]
    simp only
    rw [wpS_bind]
    refine hl _ ?_
    rw [wpS_bind, wpS_sizeOf hinfo, hsz, wpS_bind]
    refine src_first hs (Nat.min_le_left _ _) ?_
    cases base with
    | none => simpa [wpS_bind, wpS_pure, goInt] using h
    | some a =>
      obtain ⟨st', hst, hsp, hk⟩ := optK_iff.1 h
      obtain ⟨b, o, sp⟩ := a
      simp only at hsp hst
      subst hsp
      simp only
      rw [wpS_bind]
      exact wpS_storeCells b _ o 0 st st' _ hst hk
  | _ => exact h.elim

/-! ### make -/
def makeSliceX (P : Program) (t : TypeId) (l c : Value) (K : Value → Heap → Prop) (st : Heap) : Prop :=
  match l, c with
  | .int .i64 n, .int .i64 m => optK (slInfo P t) fun i => 0 ≤ n ∧ n ≤ m ∧ m * i.2.2.1 ≤ 281474976710656 ∧
      newX i.1 (zerosL i.2.2.2 m.toNat) (fun b st' => K (.slice (some ⟨b, 0, none⟩) n.toNat m.toNat) st') st
  | _, _ => False
theorem makeSlice_spec {P : Program} {K : Value → Heap → Prop} {Kp : Value → Heap → Prop} {st : Heap} {t : TypeId} {l c : Value} (h : makeSliceX P t l c K st) : wpS P (Instr.makeSlice t l c) K Kp st := by
  unfold makeSliceX at h
  split at h
  · rename_i n m
    obtain ⟨⟨e, size, bytes, z⟩, hi, h0, h1, h2, h⟩ := optK_iff.1 h
    obtain ⟨hu, i, zv, hinfo, hsz, hby, hz, hzl, hzs, hpos, hbpos⟩ := slInfo_some hi
    simp only at h2 h
    have hz' : zeroOf P e = some zv := by simp [zeroOf, hinfo, hz]
    have hmle : m ≤ 281474976710656 := by
      have hb : (1 : Int) ≤ bytes := by omega
      have : m * 1 ≤ m * bytes := Int.mul_le_mul_of_nonneg_left hb (by omega)
      omega
    have hwn : IntKind.i64.wrap n = n := IntWalk.i64_in _ (by omega)
    have hwm : IntKind.i64.wrap m = m := IntWalk.i64_in _ (by omega)
    unfold Instr.makeSlice
    rw [wpS_bind, wpS_underlying hu]
    simp only [asInt, asIntOf]
    simp only [pure_bind]
    rw [wpS_bind, wpS_typeInfo hinfo, hby]
    simp only [hwn, hwm]
    have c1 : (decide (m < 0) || decide ((bytes : Int) * m > 2 ^ 48)) = false := by
      rw [Int.mul_comm]
      simp
      omega
    rw [if_neg (by simp only [c1]; simp; omega)]
    rw [wpS_bind, wpS_mark, wpS_bind, wpS_sizeOf hinfo, hsz]
    have key : ∀ zz : Array Value, (m.toNat * size ≠ 0 → zz = zv.cells) → wpS P (do
        let a ← newRow e ((Array.range (m.toNat * size)).map (fun x => zz[x % zz.size]!))
        pure (.slice (some a) n.toNat m.toNat) : Sem Value) K Kp st := by
      intro zz hzz
      have hcells : ((Array.range (m.toNat * size)).map (fun x => zz[x % zz.size]!)).toList = zerosL z m.toNat := by
        by_cases hz0 : m.toNat * size = 0
        · have hl0 : m.toNat = 0 := by
            rcases Nat.mul_eq_zero.1 hz0 with h | h
            · exact h
            · omega
          rw [hl0]
          simp [zerosL]
        · rw [hzz hz0, ← hzs, ← hzl]
          exact zerosL_eq zv.cells (by omega) m.toNat
      rw [wpS_bind]
      refine wpS_newRow fun b hb => ?_
      obtain ⟨g, this⟩ := h b hb
      refine ⟨g, ?_⟩
      rw [wpS_pure]
      rw [← hcells] at this
      simpa using this
    by_cases hz0 : m.toNat * size = 0
    · rw [if_pos hz0]
      exact key #[] (fun hne => absurd hz0 hne)
    · rw [if_neg hz0, wpS_bind, wpS_zeroValue hz']
      exact key zv.cells (fun _ => rfl)
  · exact h.elim

def minV (greatest : Bool) : Value → Value → Option Value
  | .int k x, .int k' y => some (.int k (if greatest then (if x < y then y else x) else (if y < x then y else x)))
  | _, _ => none
def notIface (P : Program) (t : TypeId) : Bool :=
  match P.underlying t with
  | some (.interface _) => false
  | some _ => true
  | none => false
section
variable {P : Program} {W0 : World} {E : Env} {K : Value → Heap → Prop} {Kp : List PanicEntry → Heap → Prop} {st : Heap} {d : Option Nat} {ty : TypeId} {pos : String} {af : Array Edge} {g : Option (Nat × Bool)}
theorem X_makeSlice {t : TypeId} {x y : Operand} (h : makeSliceX P t (E.ev x) (E.ev y) K st) : opW P W0 ⟨d, .makeSlice t x y, ty, pos, af, g⟩ E K Kp st := by
  show wpS P _ _ _ _
  unfold execOp
  exact execOp_v (makeSlice_spec h)
theorem X_makeMap {t : TypeId} (h : ∀ b, st b = none → ∃ g : Tg, K (.map (some b)) (upd st b (.map g []))) : opW P W0 ⟨d, .makeMap t none, ty, pos, af, g⟩ E K Kp st := by
  show wpS P _ _ _ _
  unfold execOp
  refine execOp_v ?_
  unfold Instr.makeMap
  simp only [Option.map_none]
  exact ⟨rfl, h⟩
theorem X_makeFunc {fn : Fn} {first captured : Array Operand} (h : K (.func fn (first.map E.ev) (captured.map E.ev)) st) : opW P W0 ⟨d, .makeFunc fn first captured, ty, pos, af, g⟩ E K Kp st := h
theorem X_makeInterface {t : TypeId} {x : Operand} (hn : notIface P t = true) (h : K (.iface t (E.ev x)) st) : opW P W0 ⟨d, .makeInterface t x, ty, pos, af, g⟩ E K Kp st := by
  show wpS P _ _ _ _
  unfold execOp
  refine execOp_v ?_
  unfold Instr.makeInterface
  unfold notIface at hn
  split at hn
  · cases hn
  · rename_i ds hu hno
    rw [wpS_bind, wpS_underlying hno]
    cases ds <;> first | exact h | exact absurd rfl (hu _)
  · cases hn

/-! ### Calls -/
def callX (P : Program) (W0 : World) (f : Value) (args : Array Value) (K : Value → Heap → Prop) (Kp : List PanicEntry → Heap → Prop) (st : Heap) : Prop :=
  match f with
  | .func (.func fid) first captured => callOK P fid = true ∧ ICalls P W0 fid (first ++ args ++ captured) st (EndI K Kp)
  | _ => False
theorem X_call {f : Operand} {args : Array Operand} {at_ : Array TypeId} (h : callX P W0 (E.ev f) (args.map E.ev) K Kp st) : opW P W0 ⟨d, .call ⟨.value f, args, at_⟩, ty, pos, af, g⟩ E K Kp st := by
  unfold callX at h
  split at h
  · rename_i fid first captured he
    obtain ⟨hok, h⟩ := h
    show wpS P _ _ _ _
    unfold execOp
    simp only [resolve, he, Deferred.ofValue]
    rw [wpS_bind, wpS_pure]
    unfold invoke
    simp only
    unfold callFunc
    rw [wpS_bind, wpS_program]
    unfold callOK at hok
    split at hok
    · rename_i fn hf
      simp only [Bool.and_eq_true, Bool.not_eq_true'] at hok
      simp only [hf]
      rw [if_neg (by simp [hok.1])]
      have hb : fn.body.isNone = false := by
        cases hfb : fn.body with
        | none => rw [hfb] at hok; simp at hok
        | some c => rfl
      rw [if_neg (by simp [hb])]
      exact h
    · cases hok
  · exact h.elim
theorem X_builtin {b : Builtin} {args : Array Operand} {at_ : Array TypeId} {s : Sem Value} (hs : ∀ c, builtin b at_ ty c (args.map E.ev) = (do pure (.value (← s)) : Sem Next)) (h : wpS P s K (fun v st => Kp (one v) st) st) :
    opW P W0 ⟨d, .call ⟨.builtin b, args, at_⟩, ty, pos, af, g⟩ E K Kp st := by
  show wpS P _ _ _ _
  unfold execOp
  simp only [resolve]
  rw [wpS_bind, wpS_pure]
  unfold invoke
  simp only
  rw [hs]
  exact execOp_v h
theorem X_len {x : Operand} {t : TypeId} (h : optK (lenV P st t (E.ev x)) fun v => K v st) : opW P W0 ⟨d, .call ⟨.builtin .len, #[x], #[t]⟩, ty, pos, af, g⟩ E K Kp st := by
  obtain ⟨v, hv, hk⟩ := optK_iff.1 h
  exact X_builtin (s := Builtin.len_ #[t] ty #[E.ev x]) (by intro c; simp [builtin]) (len_spec hv hk)
theorem X_append {x y : Operand} {t : TypeId} (h : appX P t (E.ev x) (E.ev y) K st) : opW P W0 ⟨d, .call ⟨.builtin .append, #[x, y], #[t, t]⟩, ty, pos, af, g⟩ E K Kp st :=
  X_builtin (s := Builtin.append_ #[t, t] ty #[E.ev x, E.ev y]) (by intro c; simp [builtin]) (append_spec h)
theorem append_text {t u r : TypeId} {v : Value} {s : ByteArray} {Kp : Value → Heap → Prop} (hu : P.underlying u = some .string) (h : appX P t v (.string s) K st) : wpS P (Builtin.append_ #[t, u] r #[v, .string s]) K Kp st := by
  have := append_spec (r := r) (Kp := Kp) h
  obtain ⟨⟨e, size, bytes, z⟩, hi, _⟩ := optK_iff.1 h
  obtain ⟨hut, i, zv, hinfo, _⟩ := slInfo_some hi
  unfold Builtin.append_ at this ⊢
  simp only [List.getElem?_toArray, List.getElem?_cons_zero, List.getElem?_cons_succ] at this ⊢
  rw [wpS_bind, wpS_underlying hut] at this ⊢
  simp only at this ⊢
  cases v with
  | slice a l c =>
    simp only at this ⊢
    rw [wpS_bind, wpS_sizeOf hinfo, wpS_bind, wpS_underlying hut] at this
    rw [wpS_bind, wpS_sizeOf hinfo, wpS_bind, wpS_underlying hu]
    exact this
  | _ => exact this
theorem X_append2 {x y : Operand} {t u : TypeId} {s : ByteArray} (hu : P.underlying u = some .string) (hy : E.ev y = .string s) (h : appX P t (E.ev x) (E.ev y) K st) : opW P W0 ⟨d, .call ⟨.builtin .append, #[x, y], #[t, u]⟩, ty, pos, af, g⟩ E K Kp st := by
  rw [hy] at h
  refine X_builtin (s := Builtin.append_ #[t, u] ty #[E.ev x, E.ev y]) (by intro c; simp [builtin]) ?_
  rw [hy]
  exact append_text hu h
theorem X_copy {x y : Operand} {t u : TypeId} (h : copyX P t (E.ev x) (E.ev y) K st) : opW P W0 ⟨d, .call ⟨.builtin .copy, #[x, y], #[t, u]⟩, ty, pos, af, g⟩ E K Kp st :=
  X_builtin (s := Builtin.copy_ #[t, u] ty #[E.ev x, E.ev y]) (by intro c; simp [builtin]) (copy_spec h)
theorem X_min {x y : Operand} {at_ : Array TypeId} (h : optK (minV false (E.ev x) (E.ev y)) fun v => K v st) : opW P W0 ⟨d, .call ⟨.builtin .min, #[x, y], at_⟩, ty, pos, af, g⟩ E K Kp st := by
  obtain ⟨v, hv, hk⟩ := optK_iff.1 h
  refine X_builtin (s := Builtin.min_ at_ ty #[E.ev x, E.ev y]) (by intro c; simp [builtin]) ?_
  generalize E.ev x = a at *
  generalize E.ev y = b at *
  unfold minV at hv
  split at hv
  · cases hv; exact hk
  · cases hv
theorem X_max {x y : Operand} {at_ : Array TypeId} (h : optK (minV true (E.ev x) (E.ev y)) fun v => K v st) : opW P W0 ⟨d, .call ⟨.builtin .max, #[x, y], at_⟩, ty, pos, af, g⟩ E K Kp st := by
  obtain ⟨v, hv, hk⟩ := optK_iff.1 h
  refine X_builtin (s := Builtin.max_ at_ ty #[E.ev x, E.ev y]) (by intro c; simp [builtin]) ?_
  generalize E.ev x = a at *
  generalize E.ev y = b at *
  unfold minV at hv
  split at hv
  · cases hv; exact hk
  · cases hv
end
end Go.Proofs.Ytenencpnnjacdaa
