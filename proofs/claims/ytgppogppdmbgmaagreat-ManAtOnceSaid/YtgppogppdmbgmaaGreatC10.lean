/- Functions that only make new rows; numbers' bits. Plain definitions and theorems, over any program. -/
import Derived.Test.YtgppogppdmbgmaaGreatC09
import Derived.Laws.BitsLemmas
set_option linter.unusedVariables false
set_option linter.unusedSimpArgs false
namespace Go.Proofs.YtgppogppdmbgmaaGreat
open Go.RowKit (Below)

/-- All that was is as it was. -/
def New (st st' : Heap) : Prop := ∀ k o, st k = some o → st' k = some o
theorem New.refl (st : Heap) : New st st := fun _ _ h => h
theorem New.trans {a b c : Heap} (h : New a b) (h' : New b c) : New a c := fun k o hk => h' k o (h k o hk)
theorem New.add {st0 st : Heap} {b : Nat} {o : HObj} (h : New st0 st) (hb : st b = none) : New st0 (upd st b o) := fun k x hk => by
  have h1 := h k x hk
  rw [upd_ne _ _ (ne_of_new h1 hb)]
  exact h1
theorem New.put {st0 st : Heap} {b : Nat} {o : HObj} (h : New st0 st) (hb : st0 b = none) : New st0 (upd st b o) := fun k x hk => by
  rw [upd_ne _ _ (by rintro rfl; rw [hb] at hk; cases hk)]
  exact h k x hk
theorem New.to {st st' : Heap} (h : New st st') (p : Tg → Prop) : Keep p st st' := fun k o g hk _ _ => h k o hk
theorem New.none {st0 st : Heap} (h : New st0 st) {b : Nat} (hb : st b = none) : st0 b = none := by
  cases hz : st0 b with
  | none => rfl
  | some o => have := h b o hz; rw [hb] at this; cases this
theorem New.le {st st' : Heap} (h : New st st') : Heap.Le st st' := fun k o hk => ⟨o, h k o hk, .refl o⟩
theorem Reg.new {st st' : Heap} {g : Tg} {size len : Nat} {v : Value} {xs : List Value} (h : Reg st g size v xs len) (hk : New st st') : Reg st' g size v xs len := h.keep (hk.to fun _ => True) trivial
theorem Vec.new' {st st' : Heap} {g : Tg} {size len : Nat} {v : Value} {xs : List Value} (h : Vec st g size v xs len) (hk : New st st') : Vec st' g size v xs len := h.keep (hk.to fun _ => True) trivial
/-- A row that was not there. -/
def Fresh (st0 : Heap) (v : Value) : Prop := ∀ b off n c, v = .slice (some ⟨b, off, none⟩) n c → st0 b = none
theorem Fresh.none {st0 : Heap} {n c : Nat} : Fresh st0 (.slice none n c) := by intro b off n' c' h; injection h with h; cases h
theorem Fresh.some {st0 : Heap} {b off n c : Nat} (h : st0 b = .none) : Fresh st0 (.slice (.some ⟨b, off, .none⟩) n c) := by
  intro b' off' n' c' e; injection e with e; injection e with e; injection e with e; subst e; exact h
theorem Fresh.at {st0 : Heap} {b off n c : Nat} (h : Fresh st0 (.slice (.some ⟨b, off, .none⟩) n c)) : st0 b = .none := h b off n c rfl
theorem AppI_new {P : Program} {t e size bytes : Nat} {z : List Value} {K : Value → Heap → Prop} {st0 st : Heap} {g : Tg} {v x : Value} {xs ys : List Value} {len m : Nat} (hi : slInfo P t = some (e, size, bytes, z)) (hv : Vec st g size v xs len) (hf : Fresh st0 v) (hk0 : New st0 st) (hs : srcCells size st x = some (m, ys)) (h1 : ∀ y ∈ ys, y.oneCell' = true)
    (hmax : (len + m) * bytes ≤ 140737488355328) (hk : ∀ base cap st', Vec st' g size (.slice base (len + m) cap) (xs ++ ys) (len + m) → Fresh st0 (.slice base (len + m) cap) → New st0 st' → Ext g st st' → K (.slice base (len + m) cap) st') : AppI (some (e, size, bytes, z)) P t v x K st := by
  have hvs := hv.src
  have hv0 := hv
  obtain ⟨hl, base, cap, rfl, hc, h⟩ := hv
  have hyl : ys.length = m * size := src_length hs
  unfold AppI appX
  refine optK_iff.2 ⟨_, hi, ?_⟩
  simp only
  refine optK_iff.2 ⟨_, hs, ?_⟩
  simp only
  by_cases h0 : m = 0 ∧ len ≤ cap
  · rw [if_pos h0]
    obtain ⟨rfl, _⟩ := h0
    have : ys = [] := List.eq_nil_of_length_eq_zero (by simpa using hyl)
    subst this
    exact hk _ _ _ (by simpa using hv0) (by simpa using hf) hk0 .rfl'
  · rw [if_neg h0]
    refine ⟨hmax, fun hle => ?_, fun hlt => ?_⟩
    · rcases h with ⟨b, n, rfl, hb, hn⟩ | ⟨rfl, h0'⟩
      · simp only
        refine ⟨by trivial, xs, n, g, hb, by simp only [Nat.zero_add]; omega, by simp only [Nat.zero_add]; omega, h1, hk _ _ _ ⟨by simp [hl, hyl, Nat.add_mul], _, cap, rfl, hle, .inl ⟨b, n, rfl, upd_same _ _ _, hn⟩⟩ (Fresh.some hf.at) ?_ (.old hb)⟩
        exact hk0.put hf.at
      · exact absurd ⟨by omega, by omega⟩ h0
    · refine optK_iff.2 ⟨_, hvs, fun b c hb hcc => ⟨g, ?_⟩⟩
      exact hk _ _ _ ⟨by simp [hl, hyl, Nat.add_mul], _, c, rfl, hcc, .inl ⟨b, c * size, rfl, upd_same _ _ _, Nat.le_refl _⟩⟩ (Fresh.some (hk0.none hb)) (hk0.add hb) (.new hb)
/-- Something is appended to a row that ends where it is cut: a new row. -/
theorem AppI_tight {P : Program} {t e size bytes : Nat} {z : List Value} {K : Value → Heap → Prop} {st0 st : Heap} {g0 : Tg} (g : Tg) {base : Option Addr} {x : Value} {xs ys : List Value} {len m : Nat} (hi : slInfo P t = some (e, size, bytes, z)) (hv : Reg st g0 size (.slice base len len) xs len) (hk0 : New st0 st) (hs : srcCells size st x = some (m, ys)) (hm : 0 < m)
    (hmax : (len + m) * bytes ≤ 140737488355328) (hk : ∀ base cap st', Vec st' g size (.slice base (len + m) cap) (xs ++ ys) (len + m) → Fresh st0 (.slice base (len + m) cap) → New st0 st' → New st st' → K (.slice base (len + m) cap) st') : AppI (some (e, size, bytes, z)) P t (.slice base len len) x K st := by
  have hvs := hv.src
  have hl := hv.1
  have hyl : ys.length = m * size := src_length hs
  unfold AppI appX
  refine optK_iff.2 ⟨_, hi, ?_⟩
  simp only
  refine optK_iff.2 ⟨_, hs, ?_⟩
  simp only
  rw [if_neg (by omega)]
  refine ⟨hmax, fun hle => by omega, fun hlt => ?_⟩
  refine optK_iff.2 ⟨_, hvs, fun b c hb hcc => ⟨g, ?_⟩⟩
  exact hk _ _ _ ⟨by simp [hl, hyl, Nat.add_mul], _, c, rfl, hcc, .inl ⟨b, c * size, rfl, upd_same _ _ _, Nat.le_refl _⟩⟩ (Fresh.some (hk0.none hb)) (hk0.add hb) ((New.refl _).add hb)
/-- Something is appended to nothing: a new row. -/
theorem AppI_newg {P : Program} {t e size bytes : Nat} {z : List Value} {K : Value → Heap → Prop} {st : Heap} (g : Tg) {x : Value} {ys : List Value} {m : Nat} (hi : slInfo P t = some (e, size, bytes, z)) (hs : srcCells size st x = some (m, ys))
    (hmax : m * bytes ≤ 140737488355328) (hk : ∀ base cap st', Vec st' g size (.slice base m cap) ys m → Fresh st (.slice base m cap) → New st st' → K (.slice base m cap) st') : AppI (some (e, size, bytes, z)) P t (.slice none 0 0) x K st := by
  have hyl : ys.length = m * size := src_length hs
  unfold AppI appX
  refine optK_iff.2 ⟨_, hi, ?_⟩
  simp only
  refine optK_iff.2 ⟨_, hs, ?_⟩
  simp only
  by_cases h0 : m = 0 ∧ 0 ≤ 0
  · rw [if_pos h0]
    obtain ⟨rfl, _⟩ := h0
    have : ys = [] := List.eq_nil_of_length_eq_zero (by simpa using hyl)
    subst this
    exact hk _ _ _ Vec.nil Fresh.none (New.refl _)
  · rw [if_neg h0]
    refine ⟨by simpa using hmax, fun hle => absurd ⟨by omega, by omega⟩ h0, fun hlt => ?_⟩
    refine optK_iff.2 ⟨(0, []), by simp [srcCells], fun b c hb hcc => ⟨g, ?_⟩⟩
    simp only [Nat.zero_add, List.nil_append] at hcc ⊢
    exact hk _ _ _ ⟨hyl, _, c, rfl, hcc, .inl ⟨b, c * size, rfl, upd_same _ _ _, Nat.le_refl _⟩⟩ (Fresh.some hb) ((New.refl _).add hb)
theorem Reg.tight {st : Heap} {g : Tg} {size len cap : Nat} {base : Option Addr} {xs : List Value} (h : Reg st g size (.slice base len cap) xs len) : Reg st g size (.slice base len len) xs len := by
  obtain ⟨hl, base', cap', hv, hc, h⟩ := h
  injection hv with e1 e2 e3; subst e1; subst e3
  exact ⟨hl, _, _, rfl, Nat.le_refl _, h⟩
/-! ### Bits -/
@[go_sem] theorem guard_undef (want : Bool) (x y : Prop) : GuardI undef want x y = y := (rfl)
@[go_sem] theorem bin_shl {P : Program} (t : TypeId) (k k' : IntKind) (a b : Int) : binV P .shl t (.int k a) (.int k' b) = shiftBin .shl k a b := by simp [binV, isShift]
@[go_sem] theorem bin_shr {P : Program} (t : TypeId) (k k' : IntKind) (a b : Int) : binV P .shr t (.int k a) (.int k' b) = shiftBin .shr k a b := by simp [binV, isShift]
theorem wraps_u64 (n : Int) (h₀ : 0 ≤ n) (h₁ : n < 2 ^ 64) : IntKind.u64.wrap n = n := by rw [IntKind.wrap_u64]; omega
theorem wraps_u32 (n : Int) (h₀ : 0 ≤ n) (h₁ : n < 2 ^ 32) : IntKind.u32.wrap n = n := by rw [IntKind.wrap_u32]; omega
theorem or128 (x : Nat) (h : x < 256) : x ||| 128 = x % 128 + 128 := by
  have h1 : x = 2 ^ 7 * (x / 128) + x % 128 := by omega
  have h2 : x / 128 = 0 ∨ x / 128 = 1 := by omega
  have h3 : x % 128 < 2 ^ 7 := by omega
  have e := Nat.two_pow_add_eq_or_of_lt h3 1
  rcases h2 with h2 | h2
  · have : x = x % 128 := by omega
    rw [this, Nat.or_comm, show (128 : Nat) = 2 ^ 7 * 1 from rfl, ← e]
    omega
  · have : x = 2 ^ 7 * 1 ||| x % 128 := by rw [← e]; omega
    rw [this, Nat.or_assoc, Nat.or_comm (x % 128), ← Nat.or_assoc, show (2 ^ 7 * 1 : Nat) ||| 128 = 2 ^ 7 * 1 from by decide, ← e]
    omega
theorem bits_or128 (x : Int) (h0 : 0 ≤ x) (h : x < 256) : bits .or .u8 x 128 = x % 128 + 128 := by
  obtain ⟨a, rfl⟩ := Int.eq_ofNat_of_zero_le h0
  have := (bits_nat .u8 8 (by decide) wraps_u8 a 128 (by omega) (by decide)).2
  rw [or128 a (by omega)] at this
  simpa using this
theorem bits_and127 (x : Int) (h0 : 0 ≤ x) (h : x < 256) : bits .and .u8 x 127 = x % 128 := by
  have := bits_mask .u8 8 (by decide) wraps_u8 7 (by decide) x h0 h
  simpa using this
theorem bits_and1 (x : Int) (h0 : 0 ≤ x) (h : x < 2 ^ 64) : bits .and .u64 x 1 = x % 2 := by
  have := bits_mask .u64 64 (by decide) wraps_u64 1 (by decide) x h0 h
  simpa using this
theorem bits_join64 (i : Nat) (x y : Int) (hx₀ : 0 ≤ x) (hx : x < 2 ^ i) (hy₀ : 0 ≤ y) (hy : y % 2 ^ i = 0) (hx₁ : x < 2 ^ 64) (hy₁ : y < 2 ^ 64) : bits .or .u64 x y = x + y := by
  have h := bits_join .u64 64 (by decide) wraps_u64 i y x hy₀ hy hy₁ hx₀ hx hx₁
  have hc : bits .or .u64 x y = bits .or .u64 y x := by
    unfold bits
    simp only [BitVec.or_comm]
  rw [hc, h]; omega
theorem xor_zero64 (x : Int) (h0 : 0 ≤ x) (h : x < 2 ^ 64) : bits .xor .u64 x 0 = x := by
  obtain ⟨a, rfl⟩ := Int.eq_ofNat_of_zero_le h0
  unfold bits
  simp only [BitVec.ofInt_natCast]
  have ha : (BitVec.ofNat 64 a ^^^ 0#64).toNat = a := by rw [BitVec.xor_zero, BitVec.toNat_ofNat]; exact Nat.mod_eq_of_lt (by omega)
  show IntKind.u64.wrap ((BitVec.ofNat 64 a ^^^ 0#64).toNat : Int) = _
  rw [ha]
  exact wraps_u64 _ h0 h
theorem xor_ones64 (x : Int) (h0 : 0 ≤ x) (h : x < 2 ^ 64) : bits .xor .u64 x 18446744073709551615 = 18446744073709551615 - x := by
  obtain ⟨a, rfl⟩ := Int.eq_ofNat_of_zero_le h0
  unfold bits
  simp only [BitVec.ofInt_natCast]
  have e : BitVec.ofInt IntKind.u64.bits 18446744073709551615 = BitVec.allOnes 64 := by rfl
  have ha : (BitVec.ofNat 64 a).toNat = a := by rw [BitVec.toNat_ofNat]; exact Nat.mod_eq_of_lt (by omega)
  have : (BitVec.ofNat 64 a ^^^ BitVec.allOnes 64).toNat = 2 ^ 64 - 1 - a := by
    rw [BitVec.xor_allOnes, BitVec.toNat_not, ha]
  rw [e]
  show IntKind.u64.wrap ((BitVec.ofNat 64 a ^^^ BitVec.allOnes 64).toNat : Int) = _
  rw [this, wraps_u64 _ (by omega) (by omega)]
  omega
theorem xor_izero (x : Int) (h0 : 0 ≤ x) (h : x < 2 ^ 63) : bits .xor .i64 x 0 = x := by
  obtain ⟨a, rfl⟩ := Int.eq_ofNat_of_zero_le h0
  unfold bits
  simp only [BitVec.ofInt_natCast]
  have ha : (BitVec.ofNat 64 a ^^^ 0#64).toNat = a := by rw [BitVec.xor_zero, BitVec.toNat_ofNat]; exact Nat.mod_eq_of_lt (by omega)
  show IntKind.i64.wrap ((BitVec.ofNat 64 a ^^^ 0#64).toNat : Int) = _
  rw [ha]
  exact wrap_id (by omega) (by omega)
theorem xor_iones (x : Int) (h0 : 0 ≤ x) (h : x < 2 ^ 63) : bits .xor .i64 x (-1) = -x - 1 := by
  obtain ⟨a, rfl⟩ := Int.eq_ofNat_of_zero_le h0
  unfold bits
  simp only [BitVec.ofInt_natCast]
  have e : BitVec.ofInt IntKind.i64.bits (-1) = BitVec.allOnes 64 := by rfl
  have ha : (BitVec.ofNat 64 a).toNat = a := by rw [BitVec.toNat_ofNat]; exact Nat.mod_eq_of_lt (by omega)
  have : (BitVec.ofNat 64 a ^^^ BitVec.allOnes 64).toNat = 2 ^ 64 - 1 - a := by
    rw [BitVec.xor_allOnes, BitVec.toNat_not, ha]
  rw [e]
  show IntKind.i64.wrap ((BitVec.ofNat 64 a ^^^ BitVec.allOnes 64).toNat : Int) = _
  rw [this, IntKind.wrap_i64]
  omega
end Go.Proofs.YtgppogppdmbgmaaGreat
