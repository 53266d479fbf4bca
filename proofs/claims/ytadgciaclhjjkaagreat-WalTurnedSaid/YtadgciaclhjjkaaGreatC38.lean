/- Names that end with a number of eight digits, to the byte: plain laws, and the walks of both makers. -/
import Derived.Test.YtadgciaclhjjkaaGreatC20
set_option linter.unusedVariables false
set_option linter.unusedSimpArgs false
set_option maxRecDepth 100000
set_option maxHeartbeats 4000000
namespace Go.Proofs.YtadgciaclhjjkaaGreat
open Go.RowKit (Below)
/-- The last digits of a number. -/
def digs : Nat → Nat → Bs
  | 0, _ => []
  | t + 1, k => digs t (k / 10) ++ [UInt8.ofNat (48 + k % 10)]
def numT (s : ByteArray) (n : Nat) : ByteArray := ⟨(s.data.toList ++ digs 8 n).toArray⟩
def nameT (s : ByteArray) (n : Int) : ByteArray := if nameOKM n then numT s n.toNat else ⟨#[]⟩
theorem digs_len : ∀ (t k : Nat), (digs t k).length = t
  | 0, _ => rfl
  | t + 1, k => by rw [digs, List.length_append, digs_len]; rfl
theorem digs_zero : ∀ t : Nat, digs t 0 = List.replicate t 48
  | 0 => rfl
  | t + 1 => by rw [digs, Nat.zero_div, digs_zero, List.replicate_succ']; rfl
def isD (x : UInt8) : Bool := decide (48 ≤ x.toNat) && decide (x.toNat ≤ 57)
/-- The number that digits say. -/
def numGo : Bs → Nat → Option Nat
  | [], a => some a
  | x :: l, a => if isD x = true then numGo l (10 * a + (x.toNat - 48)) else none
def numberM (s t : ByteArray) : Option Nat := if t.size = s.size + 8 ∧ t.data.toList.take s.size = s.data.toList then numGo (t.data.toList.drop s.size) 0 else none
theorem numGo_app : ∀ (l r : Bs) (a : Nat), numGo (l ++ r) a = (numGo l a).bind fun b => numGo r b
  | [], r, a => rfl
  | x :: l, r, a => by
    rw [List.cons_append, numGo, numGo]
    split
    · exact numGo_app l r _
    · rfl
theorem numGo_digs : ∀ (t k : Nat), k < 10 ^ t → numGo (digs t k) 0 = some k
  | 0, k, h => by rw [Nat.pow_zero] at h; rw [digs, numGo, show k = 0 by omega]
  | t + 1, k, h => by
    have hk : k / 10 < 10 ^ t := by rw [Nat.div_lt_iff_lt_mul (by omega), Nat.mul_comm, ← Nat.pow_succ']; exact h
    rw [digs, numGo_app, numGo_digs t (k / 10) hk]
    have e : (UInt8.ofNat (48 + k % 10)).toNat = 48 + k % 10 := by simp; omega
    have hd : isD (UInt8.ofNat (48 + k % 10)) = true := by
      unfold isD
      rw [e]
      simp only [Bool.and_eq_true, decide_eq_true_eq]
      omega
    simp only [Option.bind_some, numGo]
    rw [if_pos hd, e]
    congr 1
    omega
theorem numT_data (s : ByteArray) (n : Nat) : (numT s n).data.toList = s.data.toList ++ digs 8 n := by simp [numT]
theorem numT_size (s : ByteArray) (n : Nat) : (numT s n).size = s.size + 8 := by
  have : (numT s n).size = (numT s n).data.toList.length := by simp
  rw [this, numT_data, List.length_append, digs_len]
  simp
theorem nameT_ok {s : ByteArray} {n : Int} (h : nameOKM n) : nameT s n = numT s n.toNat := if_pos h
theorem nameT_no {s : ByteArray} {n : Int} (h : ¬ nameOKM n) : nameT s n = ⟨#[]⟩ := if_neg h
theorem numT_ne (s : ByteArray) (n : Nat) : numT s n ≠ ⟨#[]⟩ := fun h => by
  have := numT_size s n
  rw [h] at this
  have h0 : (⟨#[]⟩ : ByteArray).size = 0 := rfl
  omega
theorem number_name {s : ByteArray} {n : Int} (h : nameOKM n) : numberM s (nameT s n) = some n.toNat := by
  rw [nameT_ok h]
  unfold numberM
  have hs : s.data.toList.length = s.size := by simp
  rw [numT_size, numT_data, if_pos ⟨rfl, by rw [← hs, List.take_left]⟩, ← hs, List.drop_left]
  exact numGo_digs _ _ (by unfold nameOKM at h; omega)
theorem nameT_inj {s : ByteArray} {n m : Int} (hn : nameOKM n) (hm : nameOKM m) (h : nameT s n = nameT s m) : n = m := by
  have h1 := number_name (s := s) hn
  rw [h, number_name hm] at h1
  injection h1 with h1
  unfold nameOKM at hn hm
  omega
section
variable {W0 : World} {st : Heap}
theorem plainName_exact {s : ByteArray} {n : Int} (hs : s.size < 100) : ICalls Tryz.prog W0 74 #[.string s, Val.i n] st fun e st' => e = .returned (.string (nameT s n)) ∧ New st st' := by
  refine enter (args := [_, _]) Tryz.func74 rfl ?_
  by_cases h1 : n < 0
  · have q1 := eq_true h1
    have hno : ¬ nameOKM n := by unfold nameOKM; omega
    rw [nameT_no hno]
    simp [Tryz.f74, go_sem, q1]
    exact New.refl _
  have q1 := eq_false h1
  by_cases h2 : 99999999 < n
  · have q2 := eq_true h2
    have hno : ¬ nameOKM n := by unfold nameOKM; omega
    rw [nameT_no hno]
    simp [Tryz.f74, go_sem, q1, q2]
    exact New.refl _
  have q2 := eq_false h2
  have hok : nameOKM n := ⟨by omega, by omega⟩
  rw [nameT_ok hok]
  simp [Tryz.f74, go_sem, q1, q2]
  have q3 : (s.size ≤ 9223372036854775799) = True := eq_true (by omega)
  simp [go_sem, q3]
  unfold NewB
  intro bb bc hbb hbc
  refine ⟨.own bb 0 83, ?_⟩
  obtain ⟨s8, hs8⟩ : ∃ s8, s ++ (⟨#[48, 48, 48, 48, 48, 48, 48, 48]⟩ : ByteArray) = s8 := ⟨_, rfl⟩
  have hsz : s8.size = s.size + 8 := by rw [← hs8]; simp; rfl
  have hsl : s.data.toList.length = s.size := by simp
  have hd8 : s8.data.toList = s.data.toList ++ List.replicate 8 48 := by rw [← hs8]; simp
  rw [hs8] at hbc ⊢
  have hwl : IntKind.i64.wrap ((s8.size : Int) - 1) = ((s8.size - 1 : Nat) : Int) := by rw [wrap_id (by omega) (by omega)]; omega
  simp [go_sem, hwl]
  have hN0 : New st (upd st bb (.cells true (bytesV s8.data.toList) bc (.own bb 0 83))) := (New.refl _).add hbb
  refine ⟨fun E st' => New st st' ∧ E 5 = .slice (some ⟨bb, 0, none⟩) s8.size bc ∧ ∃ (t : Nat) (k : Int) (tail : Bs), t ≤ 8 ∧ 0 ≤ k ∧ k < 10 ^ t ∧ E 1 = Val.i k ∧ E 6 = Val.i ((s.size : Int) + t - 1) ∧ digs t k.toNat ++ tail = digs 8 n.toNat ∧ st' bb = some (.cells true (bytesV (s.data.toList ++ (List.replicate t 48 ++ tail))) bc (.own bb 0 83)),
    fun E _ => match E 1 with | .int _ k => k.toNat | _ => 0, ⟨_, .rfl' _, hN0, by simp [go_sem], 8, n, [], by omega, by omega, by simp; omega, by simp [go_sem], by simp [go_sem]; omega, by simp, by rw [List.append_nil, ← hd8]; exact upd_same _ _ _⟩, ?_⟩
  rintro E st2 ⟨hk2, e5, t, k, tail, ht, hk0, hk1, e1, e6, hdg, hs2⟩
  have htl : t + tail.length = 8 := by
    have := congrArg List.length hdg
    rw [List.length_append, digs_len, digs_len] at this
    exact this
  have hbl : (s.data.toList ++ (List.replicate t (48 : UInt8) ++ tail)).length = s8.size := by rw [List.length_append, List.length_append, List.length_replicate, hsl]; omega
  by_cases hpos : 0 < k
  · have hpos' := eq_true hpos
    obtain ⟨t, rfl⟩ : ∃ t', t = t' + 1 := by
      cases t with
      | zero => simp at hk1; omega
      | succ t => exact ⟨t, rfl⟩
    have hj : (s.size : Int) + ((t + 1 : Nat) : Int) - 1 = ((s.size + t : Nat) : Int) := by omega
    rw [hj] at e6
    have hnew : (s.data.toList ++ (List.replicate (t + 1) (48 : UInt8) ++ tail)).set (s.size + t) (UInt8.ofNat (48 + k % 10).toNat) = s.data.toList ++ (List.replicate t 48 ++ (UInt8.ofNat (48 + k.toNat % 10) :: tail)) := by
      rw [List.set_append_right _ _ (by omega), hsl, Nat.add_sub_cancel_left, List.replicate_succ', List.append_assoc, List.set_append_right _ _ (by simp), List.length_replicate, Nat.sub_self]
      have : (48 + k % 10).toNat = 48 + k.toNat % 10 := by omega
      rw [this]
      rfl
    have hb : (s.data.toList ++ (List.replicate (t + 1) (48 : UInt8) ++ tail))[s.size + t]? = some 48 := by
      rw [List.getElem?_append_right (by omega), hsl, Nat.add_sub_cancel_left, List.getElem?_append_left (by simp), List.getElem?_replicate, if_pos (by omega)]
    have hdg' : digs t (k / 10).toNat ++ (UInt8.ofNat (48 + k.toNat % 10) :: tail) = digs 8 n.toNat := by
      rw [← hdg, digs, List.append_assoc, List.singleton_append, show (k / 10).toNat = k.toNat / 10 by omega]
    generalize s.data.toList ++ (List.replicate (t + 1) (48 : UInt8) ++ tail) = bs at hbl hs2 hb hnew
    obtain ⟨p, hp⟩ : ∃ p, s.size + t = p := ⟨_, rfl⟩
    rw [hp] at e6 hb hnew
    have hjl : p < bs.length := by omega
    have hjb : p < s8.size := by omega
    have hm : Int.tmod k 10 = k % 10 := Int.tmod_eq_emod_of_nonneg hk0
    have hq : Int.tdiv k 10 = k / 10 := Int.tdiv_eq_ediv_of_nonneg hk0
    have hpw : (10 : Int) ^ (t + 1) = 10 * 10 ^ t := by rw [Int.pow_succ]; omega
    have hk3 : k < 10000000000 := by
      have h10 : (10 : Int) ^ (t + 1) ≤ 10 ^ 8 := by
        have : t = 0 ∨ t = 1 ∨ t = 2 ∨ t = 3 ∨ t = 4 ∨ t = 5 ∨ t = 6 ∨ t = 7 := by omega
        rcases this with rfl | rfl | rfl | rfl | rfl | rfl | rfl | rfl <;> decide
      have : (10 : Int) ^ 8 = 100000000 := by decide
      omega
    have hw2 : IntKind.i64.wrap (k / 10) = k / 10 := wrap_id (by omega) (by omega)
    have hwj : IntKind.i64.wrap ((p : Int) - 1) = (s.size : Int) + t - 1 := by rw [wrap_id (by omega) (by omega)]; omega
    have hgb : (bytesV bs)[p]? = some (.int .u8 48) := by simp [bytesV, hb]
    have hgb2 : ∀ (h : p < (bytesV bs).length), (bytesV bs)[p] = .int .u8 48 := fun h => by
      have := List.getElem?_eq_getElem h
      rw [hgb] at this
      exact (Option.some.inj this).symm
    have hlb : (bytesV bs).length = s8.size := by simp [bytesV, hbl]
    have hbcn : p < bc := by omega
    have hple : p ≤ s8.size := by omega
    simp [go_sem, e1, e5, e6, hpos', hs2, hm, hq, hw2, hgb, hgb2, hlb, hjb, hbcn, hwj, hple]
    have hq0 : IntKind.u8.wrap ((48 : Int) + IntKind.u8.wrap (k % 10)) = 48 + k % 10 := by rw [IntKind.wrap_u8, IntKind.wrap_u8]; omega
    rw [hq0, bytesV_set _ _ _ (by omega) (by omega), hnew]
    exact ⟨_, .rfl' _, ⟨hk2.put hbb, t, by omega, k / 10, by omega, by omega, rfl, rfl, _, hdg', upd_same _ _ _⟩, by omega⟩
  · have hpos' := eq_false hpos
    have hk : k = 0 := by omega
    subst hk
    rw [show (0 : Int).toNat = 0 from rfl, digs_zero] at hdg
    rw [hdg] at hs2 hbl
    have hV : Vec st2 (.own bb 0 83) 1 (.slice (some ⟨bb, 0, none⟩) s8.size bc) (bytesV (s.data.toList ++ digs 8 n.toNat)) s8.size := Vec.new (by simp only [bytesV, List.length_map]; omega) hbc hs2 (by omega)
    have htx := textOf_reg hV.reg
    simp [go_sem, e1, e5, e6, hpos', hs2, htx]
    exact ⟨by simp [numT], hk2⟩
theorem walName_exact {n : Int} : ICalls Tryz.prog W0 21 #[Val.i n] st fun e st' => e = .returned (.string (nameT ⟨#[108, 111, 103, 45]⟩ n)) ∧ New st st' := by
  refine enter (args := [_]) Tryz.func21 rfl ?_
  simp [Tryz.f21, go_sem]
  refine (plainName_exact (by decide)).mono ?_
  rintro e st' ⟨rfl, h3⟩
  simp [go_sem]
  exact h3
end
end Go.Proofs.YtadgciaclhjjkaaGreat
