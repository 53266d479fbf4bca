/- The document's own look at a matcher: its parts. -/
import Derived.Test.YtadgciaclhjjkaaGreatC17
import Derived.Test.YtadgciaclhjjkaaGreatC10
import Derived.Test.YtadgciaclhjjkaaGreatC18
import Derived.Test.YtadgciaclhjjkaaGreatC13
import Derived.Test.YtadgciaclhjjkaaGreatC14
import Derived.Test.YtadgciaclhjjkaaGreatC16
import Derived.Test.YtadgciaclhjjkaaGreatC19
set_option linter.unusedVariables false
set_option linter.unusedSimpArgs false
set_option maxRecDepth 100000
set_option maxHeartbeats 2000000
namespace Go.Proofs.YtadgciaclhjjkaaGreat
open Go.RowKit (Below)
section
variable {W0 : World} {st : Heap}
end
end Go.Proofs.YtadgciaclhjjkaaGreat
set_option linter.unusedVariables false
set_option linter.unusedSimpArgs false
set_option maxRecDepth 100000
set_option maxHeartbeats 4000000
namespace Go.Proofs.YtadgciaclhjjkaaGreat
open Go.RowKit (Below)
section
variable {W0 : World} {st : Heap}
end
end Go.Proofs.YtadgciaclhjjkaaGreat
set_option linter.unusedVariables false
set_option linter.unusedSimpArgs false
set_option maxRecDepth 100000
set_option maxHeartbeats 4000000
namespace Go.Proofs.YtadgciaclhjjkaaGreat
open Go.RowKit (Below)
section
variable {W0 : World}
end
end Go.Proofs.YtadgciaclhjjkaaGreat
set_option linter.unusedVariables false
set_option linter.unusedSimpArgs false
set_option maxRecDepth 100000
set_option maxHeartbeats 4000000
namespace Go.Proofs.YtadgciaclhjjkaaGreat
open Go.RowKit (Below)
structure MetaD where
  id : Int
  level : Int
  day : Int
  lo : Int
  hi : Int
  done : Int
  rows : Int
def nameOKM (n : Int) : Prop := 0 ≤ n ∧ n ≤ 99999999
instance (n : Int) : Decidable (nameOKM n) := by unfold nameOKM; infer_instance
def metaOK (x : MetaD) : Prop := nameOKM x.id ∧ (0 ≤ x.level ∧ x.level ≤ 3) ∧ 0 ≤ x.day ∧ x.day ≤ 127258290 ∧ 1 ≤ x.lo ∧ x.lo ≤ x.hi ∧ x.hi ≤ x.done ∧ x.done ≤ 1099511627776 ∧ 1 ≤ x.rows
instance (x : MetaD) : Decidable (metaOK x) := by unfold metaOK; infer_instance
structure TombD where
  seq : Int
  m : Mat
  fro : Int
  to : Int
def TombAt (st : Heap) (cs : List Value) (t : TombD) : Prop := ∃ ms, MatAt st ms t.m ∧ cs = Val.i t.seq :: (ms ++ [Val.i t.fro, Val.i t.to])
def alignedM (fro to : Int) : Prop := 0 ≤ fro ∧ fro < to ∧ to ≤ 1099511634240 ∧ fro % 8640 = 0 ∧ to % 8640 = 0
instance (fro to : Int) : Decidable (alignedM fro to) := by unfold alignedM; infer_instance
def tombOK (t : TombD) : Prop := (1 ≤ t.seq ∧ t.seq ≤ 1099511627776) ∧ alignedM t.fro t.to ∧ checkM t.m = true
instance (t : TombD) : Decidable (tombOK t) := by unfold tombOK; infer_instance
theorem bytesV_set (bs : Bs) (j : Nat) (q : Int) (h0 : 0 ≤ q) (h1 : q < 256) : (bytesV bs).set j (.int .u8 q) = bytesV (bs.set j (UInt8.ofNat q.toNat)) := by
  unfold bytesV
  rw [List.map_set]
  have : (UInt8.ofNat q.toNat).toNat = q.toNat := by simp; omega
  rw [this, Int.toNat_of_nonneg h0]
section
variable {W0 : World} {st : Heap}
end
end Go.Proofs.YtadgciaclhjjkaaGreat
set_option linter.unusedVariables false
set_option linter.unusedSimpArgs false
set_option maxRecDepth 100000
set_option maxHeartbeats 8000000
namespace Go.Proofs.YtadgciaclhjjkaaGreat
open Go.RowKit (Below)
/-- A row's elements, where they lie. -/
theorem rows_get {st : Heap} {size len : Nat} {v : Value} {ys : List Value} (h : RegF st size v ys len) (hl : 0 < len) : ∃ mb off cap rw zs m g, v = .slice (some ⟨mb, off, none⟩) len cap ∧ st mb = some (.cells rw zs m g) ∧
    ∀ j, j < len → off + j * size + size ≤ zs.length ∧ (zs.drop (off + j * size)).take size = (ys.drop (j * size)).take size ∧ ∀ c, c < size → zs[off + j * size + c]? = ((ys.drop (j * size)).take size)[c]? := by
  obtain ⟨g, hg, hlen, base, cap, rfl, hc, hreg⟩ := h
  rcases hreg with h0 | ⟨mb, off, rw_, zs, m, rfl, hs, hp, ho⟩
  · omega
  refine ⟨mb, off, cap, rw_, zs, m, g, rfl, hs, fun j hj => ?_⟩
  obtain ⟨t, ht⟩ := hp
  have hl2 : ys.length + t.length = zs.length - off := by
    have := congrArg List.length ht
    rw [List.length_append, List.length_drop] at this
    exact this
  have hm : j * size + size ≤ len * size := by rw [← Nat.succ_mul]; exact Nat.mul_le_mul_right _ hj
  have a1 : j * size ≤ ys.length := by omega
  have a2 : size ≤ (ys.drop (j * size)).length := by rw [List.length_drop]; omega
  have hcell : (zs.drop (off + j * size)).take size = (ys.drop (j * size)).take size := by
    rw [← List.drop_drop, ← ht, List.drop_append_of_le_length a1, List.take_append_of_le_length a2]
  refine ⟨by omega, hcell, fun c hc => ?_⟩
  rw [← hcell, List.getElem?_take, if_pos hc, List.getElem?_drop]
structure ManD where
  seq : Int
  log : Int
  next : Int
  now : Int
  blocks : List MetaD
  tombs : List TombD
def headOK (m : ManD) : Prop := 0 ≤ m.seq ∧ m.seq ≤ 1099511627776 ∧ nameOKM m.log ∧ nameOKM m.next ∧ 0 ≤ m.now ∧ m.now < 1099511627776 ∧ m.blocks.length ≤ 900 ∧ m.tombs.length ≤ 64
instance (m : ManD) : Decidable (headOK m) := by unfold headOK; infer_instance
section
variable {W0 : World} {st : Heap}
end
end Go.Proofs.YtadgciaclhjjkaaGreat
set_option linter.unusedVariables false
set_option linter.unusedSimpArgs false
set_option maxRecDepth 100000
set_option maxHeartbeats 8000000
namespace Go.Proofs.YtadgciaclhjjkaaGreat
open Go.RowKit (Below)
def intB (v : Int) : Bs := vputM (zz v)
theorem vput1 {n : Nat} (h : n < 128) : (vputM n).length = 1 := by unfold vputM; rw [if_pos h]; rfl
theorem textB_len1 {s : ByteArray} (h : s.size < 128) : (textB s).length = 1 + s.size := by unfold textB; rw [List.length_append, vput1 h]; simp
theorem intB_len {v : Int} (h0 : -2 ^ 63 ≤ v) (h1 : v < 2 ^ 63) : (intB v).length ≤ 10 := (vputM_len _ (zz_lt h0 h1)).1
section
variable {W0 : World} {st : Heap}
end
end Go.Proofs.YtadgciaclhjjkaaGreat
set_option linter.unusedVariables false
set_option linter.unusedSimpArgs false
set_option maxRecDepth 100000
set_option maxHeartbeats 8000000
namespace Go.Proofs.YtadgciaclhjjkaaGreat
open Go.RowKit (Below)
section
variable {W0 : World} {st : Heap}
end
end Go.Proofs.YtadgciaclhjjkaaGreat
set_option linter.unusedVariables false
set_option linter.unusedSimpArgs false
set_option maxRecDepth 100000
set_option maxHeartbeats 8000000
namespace Go.Proofs.YtadgciaclhjjkaaGreat
open Go.RowKit (Below)
/-! ### Bit by bit -/
def polyS : Nat := 2197175160
def bitS (r : Nat) : Nat := (r / 2) ^^^ (if r % 2 = 1 then polyS else 0)
/-- One bit of a byte. -/
def bitT (r b : Nat) : Nat := (r / 2) ^^^ (if r % 2 ≠ b % 2 then polyS else 0)
theorem xor_div2 (a b : Nat) : (a ^^^ b) / 2 = (a / 2) ^^^ (b / 2) := by
  have := Nat.shiftRight_xor_distrib (a := a) (b := b) (i := 1)
  simpa [Nat.shiftRight_eq_div_pow] using this
theorem xor_mod2 (a b : Nat) : (a ^^^ b) % 2 = (a % 2 + b % 2) % 2 := by
  have h : (a ^^^ b).testBit 0 = (a.testBit 0 ^^ b.testBit 0) := Nat.testBit_xor ..
  rw [Nat.testBit_zero, Nat.testBit_zero, Nat.testBit_zero] at h
  rcases Nat.mod_two_eq_zero_or_one a with ha | ha <;> rcases Nat.mod_two_eq_zero_or_one b with hb | hb <;> rcases Nat.mod_two_eq_zero_or_one (a ^^^ b) with hc | hc
  all_goals simp [ha, hb, hc] at h ⊢
theorem bitS_xor (a b : Nat) : bitS (a ^^^ b) = bitS a ^^^ bitS b := by
  unfold bitS
  rw [xor_div2, xor_mod2]
  rcases Nat.mod_two_eq_zero_or_one a with ha | ha <;> rcases Nat.mod_two_eq_zero_or_one b with hb | hb
  all_goals simp only [ha, hb]
  all_goals simp
  · exact Nat.xor_assoc _ _ _
  · rw [Nat.xor_assoc, Nat.xor_assoc, Nat.xor_comm (b / 2)]
  · rw [Nat.xor_assoc, ← Nat.xor_assoc polyS, Nat.xor_comm polyS (b / 2), Nat.xor_assoc (b / 2), Nat.xor_self, Nat.xor_zero]
theorem bitT_eq (r x : Nat) : bitS (r ^^^ x) = bitT r x ^^^ (x / 2) := by
  unfold bitS bitT
  rw [xor_div2, xor_mod2]
  rcases Nat.mod_two_eq_zero_or_one r with ha | ha <;> rcases Nat.mod_two_eq_zero_or_one x with hb | hb
  all_goals simp only [ha, hb]
  all_goals simp
  all_goals rw [Nat.xor_assoc, Nat.xor_assoc, Nat.xor_comm (x / 2)]
def itS : Nat → Nat → Nat
  | 0, r => r
  | k + 1, r => itS k (bitS r)
def itT : Nat → Nat → Nat → Nat
  | 0, r, _ => r
  | k + 1, r, x => itT k (bitT r x) (x / 2)
theorem itS_xor : ∀ (k a b : Nat), itS k (a ^^^ b) = itS k a ^^^ itS k b
  | 0, _, _ => rfl
  | k + 1, a, b => by unfold itS; rw [bitS_xor, itS_xor k]
theorem itT_eq : ∀ (k r x : Nat), itS k (r ^^^ x) = itT k r x ^^^ (x / 2 ^ k)
  | 0, r, x => by simp [itS, itT]
  | k + 1, r, x => by
    unfold itS itT
    rw [bitT_eq, itT_eq k, Nat.div_div_eq_div_mul, ← Nat.pow_succ']
theorem itS_add : ∀ (j k r : Nat), itS (j + k) r = itS k (itS j r)
  | 0, k, r => by simp [itS]
  | j + 1, k, r => by
    rw [show j + 1 + k = (j + k) + 1 by omega]
    show itS (j + k) (bitS r) = itS k (itS j (bitS r))
    exact itS_add j k _
theorem bitS_even (q : Nat) : bitS (2 * q) = q := by unfold bitS; simp
theorem crcNib_eq (r : Nat) : itS 4 r = crcNib r := by
  have h1 : (16 * (r / 16)) ^^^ (r % 16) = r := by
    apply Nat.eq_of_testBit_eq
    intro i
    rw [Nat.testBit_xor, show 16 * (r / 16) = 2 ^ 4 * (r / 2 ^ 4) from rfl, show r % 16 = r % 2 ^ 4 from rfl, Nat.testBit_two_pow_mul, Nat.testBit_mod_two_pow]
    by_cases hi : 4 ≤ i
    · have h5 : (r / 2 ^ 4).testBit (i - 4) = r.testBit i := by
        rw [Nat.testBit_div_two_pow]
        congr 1
        omega
      have h6 : ¬ i < 4 := by omega
      simp [hi, h5, h6]
    · have h6 : i < 4 := by omega
      simp [hi, h6]
  have h16 : ∀ q, itS 4 (16 * q) = q := by
    intro q
    have : 16 * q = 2 * (2 * (2 * (2 * q))) := by omega
    rw [this]
    simp only [itS, bitS_even]
  have htab : ∀ j : Fin 16, itS 4 j.val = crcTab.getD j.val 0 := by decide
  conv => lhs; rw [← h1]
  rw [itS_xor, h16]
  unfold crcNib
  rw [htab ⟨r % 16, Nat.mod_lt _ (by decide)⟩]
theorem crcByte_eq (r : Nat) (x : UInt8) : itT 8 r x.toNat = crcByte r x := by
  have h := itT_eq 8 r x.toNat
  have h0 : x.toNat / 2 ^ 8 = 0 := Nat.div_eq_of_lt x.toNat_lt
  rw [h0, Nat.xor_zero] at h
  rw [← h]
  unfold crcByte
  rw [show 8 = 4 + 4 from rfl, itS_add, crcNib_eq, crcNib_eq]
end Go.Proofs.YtadgciaclhjjkaaGreat
set_option linter.unusedVariables false
set_option linter.unusedSimpArgs false
set_option maxRecDepth 100000
set_option maxHeartbeats 8000000
namespace Go.Proofs.YtadgciaclhjjkaaGreat
open Go.RowKit (Below)
section
variable {W0 : World} {st : Heap}
theorem put04_spec (g : Tg) {n : Nat} (hn : n < 2 ^ 64) : ICalls Tryz.prog W0 64 #[Val.u n] st (MatPutR st g (vputM n)) := by
  refine enter (args := [_]) Tryz.func64 rfl ?_
  simp [Tryz.f64, go_sem]
  refine ⟨fun E st' => New st st' ∧ ∃ (k : Nat) (pre : Bs), E 0 = Val.u k ∧ k < 2 ^ 64 ∧ pre ++ vputM k = vputM n ∧ Vec st' g 1 (E 3) (bytesV pre) pre.length ∧ Fresh st (E 3),
    fun E _ => match E 0 with | .int _ k => k.toNat | _ => 0, ⟨st, .rfl' _, New.refl _, n, [], by simp [go_sem], hn, rfl, by simpa [go_sem, bytesV] using Vec.nil, by simpa [go_sem] using Fresh.none⟩, ?_⟩
  rintro E st2 ⟨hk2, k, pre, e0, hk, hpre, hV, hF⟩
  have hvl := vputM_len n hn
  have hpl := congrArg List.length hpre
  rw [List.length_append] at hpl
  by_cases hlt : 128 ≤ k
  · have hlt' : ((128 : Int) ≤ k) = True := eq_true (by omega)
    have hm : Int.tmod (k : Int) 128 = ((k % 128 : Nat) : Int) := by rw [Int.tmod_eq_emod_of_nonneg (by omega)]; omega
    have hq : Int.tdiv (k : Int) 128 = ((k / 128 : Nat) : Int) := by rw [Int.tdiv_eq_ediv_of_nonneg (by omega)]; omega
    have hw1 : IntKind.u8.wrap ((k % 128 : Nat) : Int) = ((k % 128 : Nat) : Int) := by rw [IntKind.wrap_u8]; omega
    have hw2 : IntKind.u8.wrap (((k % 128 : Nat) : Int) + 128) = ((k % 128 + 128 : Nat) : Int) := by rw [IntKind.wrap_u8]; omega
    have hw3 : IntKind.u64.wrap ((k / 128 : Nat) : Int) = ((k / 128 : Nat) : Int) := wraps_u64 _ (by omega) (by omega)
    obtain ⟨r, hr⟩ : ∃ r, k % 128 = r := ⟨_, rfl⟩
    obtain ⟨q, hqq⟩ : ∃ q, k / 128 = q := ⟨_, rfl⟩
    rw [hr] at hm hw1 hw2
    rw [hqq] at hq hw3
    have hun : vputM k = UInt8.ofNat (r + 128) :: vputM q := by rw [vputM, if_neg (by omega), hr, hqq]
    simp [go_sem, e0, hlt', hlt, hm, hq, hw1, hw2, hw3]
    unfold NewS
    intro nb hnb
    refine ⟨.own nb 0 84, ?_⟩
    simp [go_sem, e0]
    have hN : New st2 (upd st2 nb (.cells true [.int .u8 ((r + 128 : Nat) : Int)] 1 (.own nb 0 84))) := (New.refl _).add hnb
    refine AppI_new (st0 := st) (g := g) (m := 1) (ys := bytesV [UInt8.ofNat (r + 128)]) si40 (hV.new' hN) hF (hk2.trans hN) ?_ (bytesV_one _) (by omega) ?_
    · have : ((r + 128) % 256 : Nat) = r + 128 := by omega
      simp [srcCells, lkN_mk, upd_same, cellsOf, bytesV, this]
    intro base cap st3 hV3 hF3 hN3 hE3
    simp [go_sem, e0, hq, hw3]
    refine ⟨_, .rfl' _, ⟨hN3, q, by omega, by omega, pre ++ [UInt8.ofNat (r + 128)], ?_, ?_, hF3⟩, by omega⟩
    · rw [← hpre, hun]; simp
    · simpa [bytesV] using hV3
  · have hlt' : ((128 : Int) ≤ k) = False := eq_false (by omega)
    have hw1 : IntKind.u8.wrap (k : Int) = (k : Int) := by rw [IntKind.wrap_u8]; omega
    have hun : vputM k = [UInt8.ofNat k] := by rw [vputM, if_pos (by omega)]
    simp [go_sem, e0, hlt', hlt, hw1]
    unfold NewS
    intro nb hnb
    refine ⟨.own nb 0 84, ?_⟩
    simp [go_sem, e0]
    have hN : New st2 (upd st2 nb (.cells true [.int .u8 (k : Int)] 1 (.own nb 0 84))) := (New.refl _).add hnb
    refine AppI_new (st0 := st) (g := g) (m := 1) (ys := bytesV [UInt8.ofNat k]) si40 (hV.new' hN) hF (hk2.trans hN) ?_ (bytesV_one _) (by omega) ?_
    · have : (k % 256 : Nat) = k := by omega
      simp [srcCells, lkN_mk, upd_same, cellsOf, bytesV, this]
    intro base cap st3 hV3 hF3 hN3 hE3
    simp [go_sem]
    refine ⟨_, rfl, ?_, hF3, hN3⟩
    rw [← hpre, hun]
    simpa [bytesV] using hV3
theorem int04_spec (g : Tg) {n : Int} (h0 : -2 ^ 63 ≤ n) (h1 : n < 2 ^ 63) : ICalls Tryz.prog W0 63 #[Val.i n] st (MatPutR st g (intB n)) := by
  refine enter (args := [_]) Tryz.func63 rfl ?_
  have hz := zz_lt h0 h1
  unfold intB
  by_cases hn : n < 0
  · have q := eq_true hn
    have hw1 : IntKind.i64.wrap (n + 1) = n + 1 := wrap_id (by omega) (by omega)
    have hw2 : IntKind.i64.wrap (-(n + 1)) = -(n + 1) := wrap_id (by omega) (by omega)
    have hw3 : IntKind.u64.wrap (-(n + 1)) = -(n + 1) := wraps_u64 _ (by omega) (by omega)
    have hw4 : IntKind.u64.wrap (-(n + 1) * 2) = -(n + 1) * 2 := wraps_u64 _ (by omega) (by omega)
    have hzz : (zz n : Int) = -(n + 1) * 2 + 1 := by unfold zz; rw [if_neg (by omega)]; omega
    have hw5 : IntKind.u64.wrap (-(n + 1) * 2 + 1) = (zz n : Int) := by rw [hzz]; exact wraps_u64 _ (by omega) (by omega)
    simp [Tryz.f63, go_sem, q, hw1, hw2, hw3, hw4, hw5]
    refine (put04_spec g hz).mono ?_
    rintro e st2 ⟨v, rfl, hV, hF, hN⟩
    simp [go_sem]
    exact ⟨_, rfl, hV, hF, hN⟩
  · have q := eq_false hn
    have hw3 : IntKind.u64.wrap n = n := wraps_u64 _ (by omega) (by omega)
    have hzz : (zz n : Int) = n * 2 := by unfold zz; rw [if_pos (by omega)]; omega
    have hw5 : IntKind.u64.wrap (n * 2) = (zz n : Int) := by rw [hzz]; exact wraps_u64 _ (by omega) (by omega)
    simp [Tryz.f63, go_sem, q, hw3, hw5]
    refine (put04_spec g hz).mono ?_
    rintro e st2 ⟨v, rfl, hV, hF, hN⟩
    simp [go_sem]
    exact ⟨_, rfl, hV, hF, hN⟩
theorem text04_spec (g : Tg) {s : ByteArray} (hs : s.size < 2 ^ 30) : ICalls Tryz.prog W0 130 #[.string s] st (MatPutR st g (textB s)) := by
  refine enter (args := [_]) Tryz.func130 rfl ?_
  have hw : IntKind.u64.wrap (s.size : Int) = s.size := wraps_u64 _ (by omega) (by omega)
  have hvl := vputM_len s.size (by omega)
  simp [Tryz.f130, go_sem, hw]
  refine (put04_spec g (show s.size < 2 ^ 64 by omega)).mono ?_
  rintro e st2 ⟨v, rfl, hV, hF, hN⟩
  simp [go_sem]
  rw [b_append2 _ _ _ _ (by decide) rfl]
  rw [show slInfo Tryz.prog 40 = _ from si40]
  refine AppI_new (st0 := st) (g := g) (m := s.size) (x := .string s) (ys := bytesV s.data.toList) si40 hV hF hN (by simp [srcCells, bytesV]) (bytesV_one _) (by omega) ?_
  intro base cap st3 hV3 hF3 hN3 hE3
  simp [go_sem]
  refine ⟨_, rfl, ?_, hF3, hN3⟩
  unfold textB
  simpa [bytesV] using hV3
theorem more03_spec {bv : Value} {b : Bs} {g0 : Tg} (h : Reg st g0 1 bv (bytesV b) b.length) (hl : b.length < 2 ^ 60) :
    ICalls Tryz.prog W0 146 #[.int .u32 0, bv] st fun e st' => e = .returned (.int .u32 (crcM b)) ∧ st' = st := by
  obtain ⟨base, cap, rfl⟩ := h.slice
  refine enter (args := [_, _]) Tryz.func146 rfl ?_
  have hx0 : bits .xor .u32 0 4294967295 = 4294967295 := by decide
  simp [Tryz.f146, go_sem, hx0]
  refine ⟨fun E st' => st' = st ∧ E 1 = .slice base b.length cap ∧ ∃ (i r : Nat), E 6 = Val.i i ∧ E 5 = .int .u32 r ∧ i ≤ b.length ∧ r < 2 ^ 32 ∧ (b.drop i).foldl crcByte r = b.foldl crcByte 4294967295,
    fun E _ => match E 6 with | .int _ i => b.length - i.toNat | _ => 0, ⟨_, .rfl' _, rfl, by simp [go_sem], 0, 4294967295, by simp [go_sem], by simp [go_sem], by omega, by decide, by simp⟩, ?_⟩
  rintro E st' ⟨rfl, e1, i, r, e6, e5, hi, hr, hrec⟩
  by_cases hlt : i < b.length
  · have hlt' : ((i : Int) < b.length) = True := eq_true (by omega)
    obtain ⟨x, hx⟩ : ∃ x, b[i]? = some x := ⟨_, List.getElem?_eq_getElem hlt⟩
    obtain ⟨blk, off, rfl, hg⟩ := src_get h.src (by omega)
    have hg := hg i (by omega)
    have hgx : (bytesV b)[i]? = some (.int .u8 x.toNat) := by simp [bytesV, hx]
    rw [hgx] at hg
    have hx8 := x.toNat_lt
    have hdrop : b.drop i = x :: b.drop (i + 1) := by
      rw [List.drop_eq_getElem_cons hlt]
      congr 1
      rw [List.getElem?_eq_getElem hlt] at hx
      injection hx
    rw [hdrop] at hrec
    simp only [List.foldl_cons] at hrec
    have hwi : IntKind.i64.wrap ((i : Int) + 1) = ((i + 1 : Nat) : Int) := by rw [wrap_id (by omega) (by omega)]; omega
    simp [go_sem, e1, e5, e6, hlt', hlt]
    refine ⟨fun E st2 => st2 = st' ∧ E 1 = .slice (some ⟨blk, off, none⟩) b.length cap ∧ E 6 = Val.i i ∧ ∃ (k q : Nat), E 7 = Val.i k ∧ E 5 = .int .u32 q ∧ k ≤ 8 ∧ q < 2 ^ 32 ∧ itT (8 - k) q (x.toNat / 2 ^ k) = crcByte r x,
      fun E _ => match E 7 with | .int _ k => 8 - k.toNat | _ => 0, ⟨st', .rfl' _, rfl, by simp [go_sem, e1], by simp [go_sem, e6], 0, r, by simp [go_sem], by simp [go_sem, e5], by omega, hr, by simpa using crcByte_eq r x⟩, ?_⟩
    clear e1 e5 e6
    rintro E st2 ⟨rfl, e1, e6, k, q, e7, e5, hk8, hq, hrep⟩
    by_cases hk3 : k < 8
    · have hk3' : ((k : Int) < 8) = True := eq_true (by omega)
      have hwk : IntKind.i64.wrap ((k : Int) + 1) = ((k + 1 : Nat) : Int) := by rw [wrap_id (by omega) (by omega)]; omega
      obtain ⟨m, hm⟩ : ∃ m, 8 - k = m + 1 := ⟨7 - k, by omega⟩
      rw [hm] at hrep
      unfold itT at hrep
      have hm1 : Int.tmod (q : Int) 2 = ((q % 2 : Nat) : Int) := by rw [Int.tmod_eq_emod_of_nonneg (by omega)]; omega
      have hfd : ((q : Int).fdiv 2) = ((q / 2 : Nat) : Int) := by rw [Int.fdiv_eq_ediv_of_nonneg _ (by omega)]; omega
      obtain ⟨y, hy⟩ : ∃ y, x.toNat / 2 ^ k = y := ⟨_, rfl⟩
      have hy8 : y < 256 := by
        have := Nat.div_le_self x.toNat (2 ^ k)
        omega
      have hsh : ((x.toNat : Int).fdiv (2 ^ k)) = (y : Int) := by
        rw [Int.fdiv_eq_ediv_of_nonneg _ (Int.pow_nonneg (by omega)), ← hy]
        simp
      have hmin : min k 8 = k := by omega
      have hmin2 : (min (k : Int).toNat IntKind.u8.bits) = k := by simp [IntKind.bits]; omega
      have hm2 : Int.tmod (y : Int) 2 = ((y % 2 : Nat) : Int) := by rw [Int.tmod_eq_emod_of_nonneg (by omega)]; omega
      have hw2 : IntKind.u32.wrap ((y % 2 : Nat) : Int) = ((y % 2 : Nat) : Int) := wraps_u32 _ (by omega) (by omega)
      have hwk64 : IntKind.u64.wrap (k : Int) = (k : Int) := wraps_u64 _ (by omega) (by omega)
      rw [hy] at hrep
      have hxor := bits_xor32 (q / 2) polyS (by omega) (by decide)
      have hdd : y / 2 = x.toNat / 2 ^ (k + 1) := by rw [← hy, Nat.div_div_eq_div_mul, ← Nat.pow_succ]
      have hk0 : ((k : Int) < 0) = False := eq_false (by omega)
      have hxp : bits .xor .u32 ((q / 2 : Nat) : Int) 2197175160 = ((q / 2 ^^^ polyS : Nat) : Int) := hxor
      have hbl : q / 2 ^^^ polyS < 2 ^ 32 := Nat.xor_lt_two_pow (by omega) (by decide)
      obtain ⟨q1, hq1⟩ : ∃ q1, q % 2 = q1 := ⟨_, rfl⟩
      obtain ⟨y1, hy1⟩ : ∃ y1, y % 2 = y1 := ⟨_, rfl⟩
      unfold bitT at hrep
      rw [hq1, hy1] at hrep
      rw [hq1] at hm1
      rw [hy1] at hm2 hw2
      obtain ⟨q2, hq2⟩ : ∃ q2, q / 2 = q2 := ⟨_, rfl⟩
      rw [hq2] at hrep hfd hxp hbl
      have hq2l : q2 < 2 ^ 32 := by omega
      by_cases he : q1 = y1
      · rw [if_neg (by simpa using he), Nat.xor_zero] at hrep
        have he' : ((q1 : Int) = (y1 : Int)) = True := eq_true (by omega)
        simp [go_sem, e1, e5, e6, e7, hk3', hm1, hg, hlt, hsh, hmin, hmin2, hm2, hw2, hwk64, hwk, hk0, hfd, hxp, he, he']
        refine ⟨st2, .rfl' _, ⟨rfl, k + 1, by omega, q2, rfl, by omega, by omega, ?_⟩, by omega⟩
        rw [← hrep, ← hdd, show 8 - (k + 1) = m by omega]
      · rw [if_pos he] at hrep
        have he' : ((q1 : Int) = (y1 : Int)) = False := eq_false (by omega)
        simp [go_sem, e1, e5, e6, e7, hk3', hm1, hg, hlt, hsh, hmin, hmin2, hm2, hw2, hwk64, hwk, hk0, hfd, hxp, he, he']
        refine ⟨st2, .rfl' _, ⟨rfl, k + 1, by omega, q2 ^^^ polyS, rfl, by omega, by omega, ?_⟩, by omega⟩
        rw [← hrep, ← hdd, show 8 - (k + 1) = m by omega]
    · have : k = 8 := by omega
      subst this
      simp [itT] at hrep
      simp [go_sem, e1, e5, e6, e7, hwi]
      refine ⟨st2, .rfl' _, ⟨rfl, i + 1, by omega, q, by omega, by omega, by omega, ?_⟩, by omega⟩
      rw [← hrec, ← hrep]
  · have hlt' : ((i : Int) < b.length) = False := eq_false (by omega)
    rw [List.drop_eq_nil_of_le (by omega)] at hrec
    simp only [List.foldl_nil] at hrec
    have hxr : bits .xor .u32 (r : Int) 4294967295 = ((r ^^^ 4294967295 : Nat) : Int) := bits_xor32 r 4294967295 hr (by decide)
    simp [go_sem, e1, e5, e6, hlt', hlt, hxr]
    unfold crcM
    rw [hrec]
end
end Go.Proofs.YtadgciaclhjjkaaGreat
set_option linter.unusedVariables false
set_option linter.unusedSimpArgs false
set_option maxRecDepth 100000
set_option maxHeartbeats 8000000
namespace Go.Proofs.YtadgciaclhjjkaaGreat
open Go.RowKit (Below)
mutual
/-- A matcher of all has no kids, one of none has one. -/
def EdgeM : Mat → Prop
  | .mk op name value vals kids => (op = 0 → kids.length = 0) ∧ (op = 7 → kids.length ≤ 1) ∧ EdgesM kids
def EdgesM : List Mat → Prop
  | [] => True
  | k :: ks => EdgeM k ∧ EdgesM ks
end
theorem aloneM_edge {op : Int} {name value : ByteArray} {vals : List ByteArray} {nk : Nat} (h : aloneM op name value vals nk = true) : (op = 0 → nk = 0) ∧ (op = 7 → nk ≤ 1) := by
  unfold aloneM at h
  simp only at h
  constructor
  · rintro rfl
    simp at h
    exact h.2
  · rintro rfl
    simp at h
    omega
mutual
theorem holdsM_edge : ∀ (m : Mat) (deep : Nat) (n b : Int), (holdsM m deep n b).1 = true → EdgeM m
  | .mk op name value vals kids, deep, n, b, h => by
    unfold holdsM at h
    split at h
    · cases h
    split at h
    · cases h
    rename_i h1 h2
    have hal : aloneM op name value vals kids.length = true := by
      cases h : aloneM op name value vals kids.length with
      | true => rfl
      | false => exact absurd (.inr (.inr h)) h1
    obtain ⟨z1, z2⟩ := aloneM_edge hal
    unfold EdgeM
    exact ⟨z1, z2, kidsM_edge kids _ _ _ h⟩
theorem kidsM_edge : ∀ (ms : List Mat) (deep : Nat) (n b : Int), (kidsM ms deep n b).1 = true → EdgesM ms
  | [], deep, n, b, h => by unfold EdgesM; trivial
  | k :: ks, deep, n, b, h => by
    unfold kidsM at h
    split at h
    · rename_i n' b' hh
      unfold EdgesM
      exact ⟨holdsM_edge k deep n b (by rw [hh]), kidsM_edge ks _ _ _ h⟩
    · cases h
end
theorem EdgesM.get : ∀ {ms : List Mat} {i : Nat} {m : Mat}, EdgesM ms → ms[i]? = some m → EdgeM m
  | [], i, m, h, hi => by simp at hi
  | x :: ms, 0, m, h, hi => by
    unfold EdgesM at h
    injection hi with hi; subst hi; exact h.1
  | x :: ms, i + 1, m, h, hi => by
    unfold EdgesM at h
    exact EdgesM.get h.2 (by simpa using hi)
section
variable {W0 : World} {st : Heap}
/-- Bytes behind bytes that are one's own. -/
theorem appB {P : Program} {t e : Nat} {z : List Value} {K : Value → Heap → Prop} {st0 st : Heap} {g g' : Tg} {v w : Value} {B D : Bs} (hi : slInfo P t = some (e, 1, 1, z)) (hv : Vec st g 1 v (bytesV B) B.length) (hf : Fresh st0 v) (hN : New st0 st) (hw : Reg st g' 1 w (bytesV D) D.length) (hl : (B ++ D).length < 2 ^ 46)
    (hk : ∀ v' st', Vec st' g 1 v' (bytesV (B ++ D)) (B ++ D).length → Fresh st0 v' → New st0 st' → K v' st') : AppI (some (e, 1, 1, z)) P t v w K st := by
  rw [List.length_append] at hl
  refine AppI_new (st0 := st0) hi hv hf hN hw.src (bytesV_one _) (by omega) ?_
  intro base cap st3 hV3 hF3 hN3 hE3
  refine hk _ _ ?_ hF3 hN3
  rw [List.length_append]
  simpa [bytesV] using hV3
/-- The cells of a kid. -/
theorem kid_get {kb : Option Addr} {kc n i : Nat} {ks : List Value} {kids : List Mat} {m : Mat} (hk : RegF st 5 (.slice kb n kc) ks n) (hkids : KidsAt st ks kids) (hn : kids.length = n) (hi : kids[i]? = some m) :
    ∃ blk off rw ys z g op name value vb vl vc kb' kl kc', kb = some ⟨blk, off, none⟩ ∧ st blk = some (.cells rw ys z g) ∧ off + i * 5 + 5 ≤ ys.length ∧ (ys.drop (off + i * 5)).take 5 = [Val.i op, .string name, .string value, .slice vb vl vc, .slice kb' kl kc'] ∧ MatAt st [Val.i op, .string name, .string value, .slice vb vl vc, .slice kb' kl kc'] m := by
  obtain ⟨g5, hg5, hl5, base5, cap5, hv5, hc5, hreg5⟩ := hk
  injection hv5 with q1 q2 q3; subst q1; subst q3
  have hil : i < kids.length := (List.getElem?_eq_some_iff.1 hi).1
  rcases hreg5 with h0 | ⟨blk, off, rw5, ys5, m5, rfl, hs5', hp5, ho5⟩
  · omega
  obtain ⟨hmi, hil⟩ := KidsAt.get hkids hi
  have hcell : ((ys5.drop (off + i * 5)).take 5) = (ks.drop (i * 5)).take 5 := by
    obtain ⟨t, ht⟩ := hp5
    have a1 : i * 5 ≤ ks.length := by omega
    have a2 : 5 ≤ (ks.drop (i * 5)).length := by rw [List.length_drop]; omega
    rw [← List.drop_drop, ← ht, List.drop_append_of_le_length a1, List.take_append_of_le_length a2]
  have hlen5 : off + i * 5 + 5 ≤ ys5.length := by
    obtain ⟨t, ht⟩ := hp5
    have := congrArg List.length ht
    simp at this
    omega
  obtain ⟨op', name', value', vals', kids'⟩ := m
  have hmi' := hmi
  unfold MatAt at hmi'
  obtain ⟨vv', kv', ks', hcs, hv', hk', -⟩ := hmi'
  obtain ⟨vb', vc', rfl⟩ := hv'.slice
  obtain ⟨kb', kc', rfl⟩ := hk'.slice
  rw [hcs] at hmi
  exact ⟨blk, off, rw5, ys5, m5, _, op', name', value', vb', _, vc', kb', _, kc', rfl, hs5', hlen5, by rw [hcell, hcs], hmi⟩
theorem ref12Put_spec (m : Mat) : ∀ {st : Heap} {cs : List Value} (g : Tg), SmallM m → EdgeM m → MatAt st cs m → (putM m).length < 2 ^ 40 →
    ICalls Tryz.prog W0 67 #[.agg cs.toArray] st (MatPutR st g (putM m)) := by
  intro st cs g hsm hed hm hlen
  match m with
  | .mk op name value vals kids =>
  have hm0 := hm
  unfold MatAt at hm
  obtain ⟨vv, kv, ks, rfl, hv, hk, hkids⟩ := hm
  obtain ⟨vb, vc, rfl⟩ := hv.slice
  obtain ⟨kb, kc, rfl⟩ := hk.slice
  unfold SmallM at hsm
  obtain ⟨ho0, ho1, hs1, hs2, hs3, hs4, hs5, hsk⟩ := hsm
  unfold EdgeM at hed
  obtain ⟨hd0, hd7, hdk⟩ := hed
  obtain ⟨o, rfl⟩ := Int.eq_ofNat_of_zero_le ho0
  generalize hRES : putM (.mk o name value vals kids) = RES at *
  unfold putM at hRES
  have hwo : IntKind.u64.wrap (o : Int) = (o : Int) := wraps_u64 _ (by omega) (by omega)
  rw [hwo, Int.toNat_natCast] at hRES
  have hRl : (vputM o).length ≤ RES.length := by rw [← hRES, List.length_append]; omega
  refine enter (args := [_]) Tryz.func67 rfl ?_
  refine IW_cut (fun E' st' => ∃ tb, New st st' ∧ E' 1 = ptr tb ∧ st' tb = some (.cells true [Val.i o, .string name, .string value, .slice vb vals.length vc, .slice kb kids.length kc] 5 (.ty 0))) ?_ ?_
  · simp [go_sem]
    unfold NewP
    intro tb htb
    refine ⟨.ty 0, ?_⟩
    simp [go_sem]
    exact (New.refl _).add htb
  rintro E1 st1 ⟨tb, hk1, e1, ht⟩
  refine IW_cut (fun E' st' => New st1 st' ∧ E' 1 = ptr tb ∧ Vec st' g 1 (E' 3) (bytesV (vputM o)) (vputM o).length ∧ Fresh st1 (E' 3)) ?_ ?_
  · simp [go_sem, e1, ht, hwo]
    refine (put04_spec g (show o < 2 ^ 64 by omega)).mono ?_
    rintro e st2 ⟨v, rfl, hv2, hf2, hk2⟩
    simp [go_sem, e1]
    exact ⟨hk2, hv2, hf2⟩
  clear e1
  rintro E2 st2 ⟨hk2, e1, hv2, hf2⟩
  have ht2 := hk2 _ _ ht
  obtain ⟨v2, hv0⟩ : ∃ v, E2 3 = v := ⟨_, rfl⟩
  rw [hv0] at hv2 hf2
  refine IW_cut (fun E' st' => New st1 st' ∧ Vec st' g 1 (E' 3) (bytesV RES) RES.length ∧ Fresh st1 (E' 3)) ?_ ?_
  · have hwk : IntKind.u64.wrap (kids.length : Int) = (kids.length : Int) := wraps_u64 _ (by omega) (by omega)
    have hwv : IntKind.u64.wrap (vals.length : Int) = (vals.length : Int) := wraps_u64 _ (by omega) (by omega)
    obtain ⟨vo, hvo⟩ : ∃ vo, vputM o = vo := ⟨_, rfl⟩
    rw [hvo] at hv2 hRES hRl
    have hoc' : o = 0 ∨ (o = 1 ∨ o = 2 ∨ o = 3) ∨ o = 4 ∨ (o = 5 ∨ o = 6) ∨ o = 7 := by omega
    rcases hoc' with h0 | h123 | h4 | h56 | h7
    · have hkn : kids = [] := List.eq_nil_of_length_eq_zero (hd0 (by omega))
      have hR1 : vo = RES := by rw [← hRES, if_neg (by omega), if_neg (by omega), if_neg (by omega), hkn]; unfold putsM; simp
      subst h0
      simp [go_sem, e1, ht2, hv0]
      exact ⟨hk2, by rw [← hR1]; exact hv2, hf2⟩
    · have hR1 : vo ++ textB name ++ textB value = RES := by rw [← hRES, if_pos (by omega)]; simp
      have hR2 : (vo ++ textB name).length ≤ RES.length := by rw [← hR1]; simp
      clear hRES hvo
      rcases h123 with rfl | rfl | rfl
      all_goals
        simp [go_sem, e1, ht2, hv0]
        refine drawK [0, 1, 5, 2, 6] [3, 4, 7, 8, 9] (fun i => match i with | 0 => v2 | 1 => .pointer (some ⟨tb, 1, none⟩) | 2 => .string name | 5 => .pointer (some ⟨tb, 2, none⟩) | _ => .string value) (fun st' => ∃ op, st' tb = some (.cells true [Val.i op, .string name, .string value, .slice vb vals.length vc, .slice kb kids.length kc] 5 (.ty 0))) (by kernel_rfl) (by kernel_rfl) (by kernel_rfl) (by kernel_rfl) (by kernel_rfl) (by kernel_rfl) (by kernel_rfl) (by kernel_rfl) ⟨_, ht2⟩ ?_ ?_
        · simp [knownW, go_sem, hv0, e1]
          refine ⟨?_, ?_⟩ <;> (intro st' op' h'; simp [go_sem, h'])
        · simp [chainW, knownE, go_sem]
          refine (text04_spec (s := name) g (by omega)).mono ?_
          rintro e st3 ⟨w, rfl, hw3, hfw, hk3⟩
          refine ⟨⟨_, hk3 _ _ ht2⟩, ?_⟩
          refine appB (st0 := st1) si40 (hv2.new' hk3) hf2 (hk2.trans hk3) hw3.reg (by omega) ?_
          intro v4 st4 hv4 hf4 hk4
          refine ⟨⟨_, hk4 _ _ ht⟩, ?_⟩
          refine (text04_spec (s := value) g (by omega)).mono ?_
          rintro e st5 ⟨w5, rfl, hw5, hfw5, hk5⟩
          refine ⟨⟨_, hk5 _ _ (hk4 _ _ ht)⟩, ?_⟩
          refine appB (st0 := st1) si40 (hv4.new' hk5) hf4 (hk4.trans hk5) hw5.reg (by rw [hR1]; omega) ?_
          intro v6 st6 hv6 hf6 hk6
          rw [hR1] at hv6
          exact ⟨⟨_, hk6 _ _ ht⟩, hk6, hv6, hf6⟩
    · subst h4
      have hR1 : (vo ++ textB name ++ vputM vals.length) ++ (vals.map textB).flatten = RES := by rw [← hRES, if_neg (by omega), if_pos (by omega)]; simp
      have hR2 : (vo ++ textB name ++ vputM vals.length).length ≤ RES.length := by rw [← hR1]; simp
      have hR3 : (vo ++ textB name).length ≤ RES.length := by rw [← hR1]; simp
      clear hRES hvo
      simp [go_sem, e1, ht2, hv0]
      refine drawK [0, 1, 5, 2, 6, 7, 8] [3, 4, 9, 10, 11] (fun i => match i with | 0 => v2 | 1 => .pointer (some ⟨tb, 1, none⟩) | 2 => .string name | 5 => .pointer (some ⟨tb, 3, none⟩) | 6 => .slice vb vals.length vc | 7 => Val.i vals.length | _ => Val.u vals.length) (fun st' => ∃ op, st' tb = some (.cells true [Val.i op, .string name, .string value, .slice vb vals.length vc, .slice kb kids.length kc] 5 (.ty 0))) (by kernel_rfl) (by kernel_rfl) (by kernel_rfl) (by kernel_rfl) (by kernel_rfl) (by kernel_rfl) (by kernel_rfl) (by kernel_rfl) ⟨_, ht2⟩ ?_ ?_
      · simp [knownW, go_sem, hv0, e1, hwv]
        refine ⟨?_, ?_⟩ <;> (intro st' op' h'; simp [go_sem, h'])
      · simp [chainW, knownE, go_sem]
        refine (text04_spec (s := name) g (by omega)).mono ?_
        rintro e st3 ⟨w, rfl, hw3, hfw, hk3⟩
        refine ⟨⟨_, hk3 _ _ ht2⟩, ?_⟩
        refine appB (st0 := st1) si40 (hv2.new' hk3) hf2 (hk2.trans hk3) hw3.reg (by omega) ?_
        intro v4 st4 hv4 hf4 hk4
        refine ⟨⟨_, hk4 _ _ ht⟩, ?_⟩
        refine (put04_spec g (show vals.length < 2 ^ 64 by omega)).mono ?_
        rintro e st5 ⟨w5, rfl, hw5, hfw5, hk5⟩
        refine ⟨⟨_, hk5 _ _ (hk4 _ _ ht)⟩, ?_⟩
        refine appB (st0 := st1) si40 (hv4.new' hk5) hf4 (hk4.trans hk5) hw5.reg (by omega) ?_
        intro v6 st6 hv6 hf6 hk6
        refine ⟨⟨_, hk6 _ _ ht⟩, ?_⟩
        refine ⟨fun E st' => New st1 st' ∧ E 1 = ptr tb ∧ ∃ (i : Nat) (B : Bs), E 4 = Val.i i ∧ i ≤ vals.length ∧ Vec st' g 1 (E 3) (bytesV B) B.length ∧ Fresh st1 (E 3) ∧ B ++ ((vals.drop i).map textB).flatten = RES,
          fun E _ => match E 4 with | .int _ i => vals.length - i.toNat | _ => 0, ⟨st6, .rfl' _, hk6, by simp [go_sem, e1], 0, vo ++ textB name ++ vputM vals.length, by simp [go_sem], by omega, by simpa [go_sem] using hv6, by simpa [go_sem] using hf6, by simpa using hR1⟩, ?_⟩
        clear hv2 hf2 hv4 hf4 hv6 hf6 hw3 hw5 e1 hv0
        rintro E' st7 ⟨hk7, e1, i, B, e4, hi, hvB, hfB, hrec⟩
        have ht7 := hk7 _ _ ht
        by_cases hlt : i < vals.length
        · have hlt' : ((i : Int) < vals.length) = True := eq_true (by omega)
          obtain ⟨blk, off, rfl, hg⟩ := src_get (hv.new (hk1.trans hk7)).src (by omega)
          have hgi := hg i (by omega)
          have hvi : vals[i]? = some vals[i] := List.getElem?_eq_getElem hlt
          have hgv : (vals.map Value.string)[i]? = some (.string vals[i]) := by simp [hvi]
          rw [hgv] at hgi
          rw [List.drop_eq_getElem_cons hlt] at hrec
          have hvz := hs4 vals[i] (List.getElem_mem hlt)
          generalize vals[i] = s at hgi hrec hvz
          have hwi : IntKind.i64.wrap ((i : Int) + 1) = ((i + 1 : Nat) : Int) := by rw [wrap_id (by omega) (by omega)]; omega
          have hBl : (B ++ textB s).length ≤ RES.length := by rw [← hrec]; simp
          simp [go_sem, e1, e4, ht7, hlt, hlt', hgi, hwi]
          refine (text04_spec (s := s) g (by omega)).mono ?_
          rintro e st8 ⟨w8, rfl, hw8, hfw8, hk8⟩
          simp [go_sem]
          refine appB (st0 := st1) si40 (hvB.new' hk8) hfB (hk7.trans hk8) hw8.reg (by omega) ?_
          intro v9 st9 hv9 hf9 hk9
          simp [go_sem, e1, e4, hwi]
          refine ⟨_, .rfl' _, ⟨hk9, i + 1, by omega, by omega, B ++ textB s, by simpa using hv9, hf9, by simpa using hrec⟩, by omega⟩
        · have hlt' : ((i : Int) < vals.length) = False := eq_false (by omega)
          have : i = vals.length := by omega
          subst this
          rw [List.drop_length] at hrec
          simp at hrec
          subst hrec
          simp [go_sem, e1, e4, ht7]
          exact ⟨hk7, hvB, hfB⟩
    · have hR1 : (vo ++ vputM kids.length) ++ putsM kids = RES := by rw [← hRES, if_neg (by omega), if_neg (by omega), if_pos (by omega)]; simp
      have hR2 : (vo ++ vputM kids.length).length ≤ RES.length := by rw [← hR1]; simp
      clear hRES hvo
      rcases h56 with rfl | rfl
      all_goals
        simp [go_sem, e1, ht2, hv0, hwk]
        refine (put04_spec g (show kids.length < 2 ^ 64 by omega)).mono ?_
        rintro e st3 ⟨w, rfl, hw3, hfw3, hk3⟩
        simp [go_sem]
        refine appB (st0 := st1) si40 (hv2.new' hk3) hf2 (hk2.trans hk3) hw3.reg (by omega) ?_
        intro v4 st4 hv4 hf4 hk4
        simp [go_sem]
        refine ⟨fun E st' => New st1 st' ∧ E 1 = ptr tb ∧ ∃ (i : Nat) (B : Bs), E 5 = Val.i i ∧ i ≤ kids.length ∧ Vec st' g 1 (E 3) (bytesV B) B.length ∧ Fresh st1 (E 3) ∧ B ++ putsM (kids.drop i) = RES,
          fun E _ => match E 5 with | .int _ i => kids.length - i.toNat | _ => 0, ⟨st4, .rfl' _, hk4, by simp [go_sem, e1], 0, vo ++ vputM kids.length, by simp [go_sem], by omega, by simpa [go_sem] using hv4, by simpa [go_sem] using hf4, by simpa using hR1⟩, ?_⟩
        clear hv2 hf2 hv4 hf4 hw3 e1 hv0
        rintro E' st7 ⟨hk7, e1, i, B, e5, hi, hvB, hfB, hrec⟩
        have ht7 := hk7 _ _ ht
        by_cases hlt : i < kids.length
        · have hlt' : ((i : Int) < kids.length) = True := eq_true (by omega)
          have hki : kids[i]? = some kids[i] := List.getElem?_eq_getElem hlt
          have hmem : kids[i] ∈ kids := List.getElem_mem hlt
          obtain ⟨blk, off, rw', ys, z, g5, op', name', value', vb', vl', vc', kb', kl', kc', rfl, hs5', hlen5, hcell, hmi⟩ := kid_get (hk.new (hk1.trans hk7)) (KidsAt.new (hk1.trans hk7) hkids) rfl hki
          have hd : kids.drop i = kids[i] :: kids.drop (i + 1) := List.drop_eq_getElem_cons hlt
          rw [hd] at hrec
          unfold putsM at hrec
          have hsmi := hsk.get hki
          have hedi := hdk.get hki
          have hwi : IntKind.i64.wrap ((i : Int) + 1) = ((i + 1 : Nat) : Int) := by rw [wrap_id (by omega) (by omega)]; omega
          have hBl : (B ++ putM kids[i]).length ≤ RES.length := by rw [← hrec]; simp
          have hBl2 : (putM kids[i]).length ≤ RES.length := by rw [← hrec]; simp; omega
          simp [go_sem, e1, e5, ht7, hlt, hlt', hs5', hlen5, hcell]
          refine (ref12Put_spec kids[i] g hsmi hedi hmi (by omega)).mono ?_
          rintro e st8 ⟨w8, rfl, hw8, hfw8, hk8⟩
          simp [go_sem]
          refine appB (st0 := st1) si40 (hvB.new' hk8) hfB (hk7.trans hk8) hw8.reg (by omega) ?_
          intro v9 st9 hv9 hf9 hk9
          simp [go_sem, e1, e5, hwi]
          refine ⟨_, .rfl' _, ⟨hk9, i + 1, by omega, by omega, B ++ putM kids[i], by simpa using hv9, hf9, by simpa using hrec⟩, by omega⟩
        · have hlt' : ((i : Int) < kids.length) = False := eq_false (by omega)
          have : i = kids.length := by omega
          subst this
          rw [List.drop_length] at hrec
          unfold putsM at hrec
          simp at hrec
          subst hrec
          simp [go_sem, e1, e5, ht7]
          exact ⟨hk7, hvB, hfB⟩
    · subst h7
      have hR1 : vo ++ putsM kids = RES := by rw [← hRES, if_neg (by omega), if_neg (by omega), if_neg (by omega)]; simp
      have hk1l := hd7 (by omega)
      clear hRES hvo
      simp [go_sem, e1, ht2, hv0]
      refine ⟨fun E st' => New st1 st' ∧ E 1 = ptr tb ∧ ∃ (i : Nat) (B : Bs), E 6 = Val.i i ∧ i ≤ kids.length ∧ Vec st' g 1 (E 3) (bytesV B) B.length ∧ Fresh st1 (E 3) ∧ B ++ putsM (kids.drop i) = RES,
        fun E _ => match E 6 with | .int _ i => kids.length - i.toNat | _ => 0, ⟨st2, .rfl' _, hk2, by simp [go_sem, e1], 0, vo, by simp [go_sem], by omega, by simpa [go_sem, hv0] using hv2, by simpa [go_sem, hv0] using hf2, by simpa using hR1⟩, ?_⟩
      clear hv2 hf2 e1 hv0
      rintro E' st7 ⟨hk7, e1, i, B, e6, hi, hvB, hfB, hrec⟩
      have ht7 := hk7 _ _ ht
      by_cases hlt : i < kids.length
      · have hlt' : ((i : Int) < kids.length) = True := eq_true (by omega)
        have hlt1 : ((i : Int) < 1) = True := eq_true (by omega)
        have hki : kids[i]? = some kids[i] := List.getElem?_eq_getElem hlt
        have hmem : kids[i] ∈ kids := List.getElem_mem hlt
        obtain ⟨blk, off, rw', ys, z, g5, op', name', value', vb', vl', vc', kb', kl', kc', rfl, hs5', hlen5, hcell, hmi⟩ := kid_get (hk.new (hk1.trans hk7)) (KidsAt.new (hk1.trans hk7) hkids) rfl hki
        have hd : kids.drop i = kids[i] :: kids.drop (i + 1) := List.drop_eq_getElem_cons hlt
        rw [hd] at hrec
        unfold putsM at hrec
        have hsmi := hsk.get hki
        have hedi := hdk.get hki
        have hwi : IntKind.i64.wrap ((i : Int) + 1) = ((i + 1 : Nat) : Int) := by rw [wrap_id (by omega) (by omega)]; omega
        have hBl : (B ++ putM kids[i]).length ≤ RES.length := by rw [← hrec]; simp
        have hBl2 : (putM kids[i]).length ≤ RES.length := by rw [← hrec]; simp; omega
        simp [go_sem, e1, e6, ht7, hlt, hlt', hlt1, hs5', hlen5, hcell]
        refine (ref12Put_spec kids[i] g hsmi hedi hmi (by omega)).mono ?_
        rintro e st8 ⟨w8, rfl, hw8, hfw8, hk8⟩
        simp [go_sem]
        refine appB (st0 := st1) si40 (hvB.new' hk8) hfB (hk7.trans hk8) hw8.reg (by omega) ?_
        intro v9 st9 hv9 hf9 hk9
        simp [go_sem, e1, e6, hwi]
        refine ⟨_, .rfl' _, ⟨hk9, i + 1, by omega, by omega, B ++ putM kids[i], by simpa using hv9, hf9, by simpa using hrec⟩, by omega⟩
      · have hlt' : ((i : Int) < kids.length) = False := eq_false (by omega)
        have : i = kids.length := by omega
        subst this
        rw [List.drop_length] at hrec
        unfold putsM at hrec
        simp at hrec
        subst hrec
        simp [go_sem, e1, e6, ht7]
        exact ⟨hk7, hvB, hfB⟩
  rintro E3 st3 ⟨hk3, hv3, hf3⟩
  simp [go_sem]
  exact ⟨_, rfl, hv3, hf3.old hk1, hk1.trans hk3⟩
termination_by SizeOf.sizeOf m
decreasing_by
  all_goals
    have := List.sizeOf_lt_of_mem hmem
    simp
    omega
end
end Go.Proofs.YtadgciaclhjjkaaGreat
set_option linter.unusedVariables false
set_option linter.unusedSimpArgs false
set_option maxRecDepth 100000
set_option maxHeartbeats 8000000
namespace Go.Proofs.YtadgciaclhjjkaaGreat
open Go.RowKit (Below)
section
variable {W0 : World} {st : Heap}
end
end Go.Proofs.YtadgciaclhjjkaaGreat
set_option linter.unusedVariables false
set_option linter.unusedSimpArgs false
set_option maxRecDepth 100000
set_option maxHeartbeats 8000000
namespace Go.Proofs.YtadgciaclhjjkaaGreat
open Go.RowKit (Below)
section
variable {W0 : World} {st : Heap}
end
end Go.Proofs.YtadgciaclhjjkaaGreat
set_option linter.unusedVariables false
set_option linter.unusedSimpArgs false
set_option maxRecDepth 100000
set_option maxHeartbeats 8000000
namespace Go.Proofs.YtadgciaclhjjkaaGreat
open Go.RowKit (Below)
section
variable {W0 : World} {st : Heap}
/-- The same; and rows that are not the bytes' are as they were. -/
theorem appC {P : Program} {t e : Nat} {z : List Value} {K : Value → Heap → Prop} {st0 st : Heap} {g g' : Tg} {v w : Value} {B D : Bs} (hi : slInfo P t = some (e, 1, 1, z)) (hv : Vec st g 1 v (bytesV B) B.length) (hf : Fresh st0 v) (hN : New st0 st) (hw : Reg st g' 1 w (bytesV D) D.length) (hl : (B ++ D).length < 2 ^ 46)
    (hk : ∀ v' st', Vec st' g 1 v' (bytesV (B ++ D)) (B ++ D).length → Fresh st0 v' → New st0 st' → (∀ k o, st k = some o → o.tag ≠ some g → st' k = some o) → K v' st') : AppI (some (e, 1, 1, z)) P t v w K st := by
  rw [List.length_append] at hl
  refine AppI_new (st0 := st0) hi hv hf hN hw.src (bytesV_one _) (by omega) ?_
  intro base cap st3 hV3 hF3 hN3 hE3
  refine hk _ _ ?_ hF3 hN3 hE3.keep
  rw [List.length_append]
  simpa [bytesV] using hV3
theorem of03_spec {bv : Value} {b : Bs} {g0 : Tg} (h : Reg st g0 1 bv (bytesV b) b.length) (hl : b.length < 2 ^ 60) :
    ICalls Tryz.prog W0 78 #[bv] st fun e st' => e = .returned (.int .u32 (crcM b)) ∧ st' = st := by
  refine enter (args := [_]) Tryz.func78 rfl ?_
  simp [Tryz.f78, go_sem]
  refine (more03_spec h hl).mono ?_
  rintro e st2 ⟨rfl, rfl⟩
  simp [go_sem]
theorem put05_spec {yv : Value} {body : Bs} {g1 : Tg} (g : Tg) (hy : Reg st g1 1 yv (bytesV body) body.length) (hly : body.length < 2 ^ 40) :
    ICalls Tryz.prog W0 27 #[yv] st (MatPutR st g (frameM body)) := by
  obtain ⟨ybase, ycap, rfl⟩ := hy.slice
  refine enter (args := [_]) Tryz.func27 rfl ?_
  have hw : IntKind.u64.wrap (body.length : Int) = body.length := wraps_u64 _ (by omega) (by omega)
  have hc := crcM_lt body
  simp [Tryz.f27, go_sem]
  refine (of03_spec hy (by omega)).mono ?_
  rintro e st1 ⟨rfl, rfl⟩
  generalize hcc : crcM body = c at *
  simp [go_sem, hw]
  refine (put04_spec g (show body.length < 2 ^ 64 by omega)).mono ?_
  rintro e st2 ⟨v, rfl, hv, hf, hk2⟩
  have hpl := vputM_len body.length (by omega)
  have w0 : IntKind.u8.wrap (c : Int) = ((UInt8.ofNat (c % 256)).toNat : Int) := by rw [ofNat_u8 _ (by omega), IntKind.wrap_u8]; omega
  have f1 : IntKind.u8.wrap ((c : Int).fdiv 256) = ((UInt8.ofNat (c / 256 % 256)).toNat : Int) := by rw [ofNat_u8 _ (by omega), IntKind.wrap_u8, Int.fdiv_eq_ediv_of_nonneg _ (by omega)]; omega
  have f2 : IntKind.u8.wrap ((c : Int).fdiv 65536) = ((UInt8.ofNat (c / 65536 % 256)).toNat : Int) := by rw [ofNat_u8 _ (by omega), IntKind.wrap_u8, Int.fdiv_eq_ediv_of_nonneg _ (by omega)]; omega
  have f3 : IntKind.u8.wrap ((c : Int).fdiv 16777216) = ((UInt8.ofNat (c / 16777216 % 256)).toNat : Int) := by rw [ofNat_u8 _ (by omega), IntKind.wrap_u8, Int.fdiv_eq_ediv_of_nonneg _ (by omega)]; omega
  generalize hB0 : UInt8.ofNat (c % 256) = B0 at *
  generalize hB1 : UInt8.ofNat (c / 256 % 256) = B1 at *
  generalize hB2 : UInt8.ofNat (c / 65536 % 256) = B2 at *
  generalize hB3 : UInt8.ofNat (c / 16777216 % 256) = B3 at *
  have hle : le4 c = [B0, B1, B2, B3] := by unfold le4; rw [hB0, hB1, hB2, hB3]
  simp [go_sem, w0, f1, f2, f3]
  unfold NewS
  intro b3 hb3
  refine ⟨.ty 0, ?_⟩
  simp [go_sem]
  have k3 : New st2 (upd st2 b3 (.cells true [.int .u8 B0.toNat, .int .u8 B1.toNat, .int .u8 B2.toNat, .int .u8 B3.toNat] 4 (.ty 0))) := (New.refl _).add hb3
  refine AppI_new (m := 4) (ys := bytesV (le4 c)) si40 (hv.new' k3) hf (hk2.trans k3) ?_ (bytesV_one _) (by omega) ?_
  · rw [hle]; simp [srcCells, lkN_mk, upd_same, cellsOf, bytesV]
  intro nb nc st4 hv4 hf4 hk4 _
  simp [go_sem]
  refine AppI_new (m := body.length) (ys := bytesV body) si40 hv4 hf4 hk4 (hy.new hk4).src (bytesV_one _) (by omega) ?_
  intro nb2 nc2 st5 hv5 hf5 hk5 _
  simp [go_sem]
  refine ⟨_, rfl, ?_, hf5, hk5⟩
  have : frameM body = vputM body.length ++ (le4 c ++ body) := by unfold frameM; rw [hcc]
  rw [this]
  have hl4 : (le4 c).length = 4 := by rw [hle]; rfl
  have e1 : (vputM body.length ++ (le4 c ++ body)).length = (vputM body.length).length + 4 + body.length := by simp [hl4]; omega
  have e2 : bytesV (vputM body.length ++ (le4 c ++ body)) = bytesV (vputM body.length) ++ bytesV (le4 c) ++ bytesV body := by simp [bytesV_append]
  rw [e1, e2]
  exact hv5
end
end Go.Proofs.YtadgciaclhjjkaaGreat
set_option linter.unusedVariables false
set_option linter.unusedSimpArgs false
set_option maxRecDepth 100000
set_option maxHeartbeats 8000000
namespace Go.Proofs.YtadgciaclhjjkaaGreat
open Go.RowKit (Below)
section
variable {W0 : World} {st : Heap}
end
end Go.Proofs.YtadgciaclhjjkaaGreat
set_option linter.unusedVariables false
set_option linter.unusedSimpArgs false
set_option maxRecDepth 100000
set_option maxHeartbeats 8000000
namespace Go.Proofs.YtadgciaclhjjkaaGreat
open Go.RowKit (Below)
section
variable {W0 : World} {st : Heap}
end
end Go.Proofs.YtadgciaclhjjkaaGreat
set_option linter.unusedVariables false
set_option linter.unusedSimpArgs false
set_option maxRecDepth 100000
set_option maxHeartbeats 8000000
namespace Go.Proofs.YtadgciaclhjjkaaGreat
open Go.RowKit (Below)
section
variable {W0 : World} {st : Heap}
end
end Go.Proofs.YtadgciaclhjjkaaGreat
set_option linter.unusedVariables false
set_option linter.unusedSimpArgs false
set_option maxRecDepth 100000
set_option maxHeartbeats 8000000
namespace Go.Proofs.YtadgciaclhjjkaaGreat
open Go.RowKit (Below)
theorem Reg.row {st : Heap} {b n : Nat} {rw_ : Bool} {xs : List Value} {g : Tg} (h : st b = some (.cells rw_ xs n g)) (hl : xs.length ≤ n) : Reg st g 1 (.slice (some ⟨b, 0, none⟩) xs.length xs.length) xs xs.length :=
  ⟨by simp, _, _, rfl, Nat.le_refl _, .inr ⟨b, 0, rw_, xs, n, rfl, h, by simp, by simp⟩⟩
section
variable {W0 : World} {st : Heap}
end
end Go.Proofs.YtadgciaclhjjkaaGreat
