/- The document's file system as data, and where it lies. -/
import Derived.Test.YtadgciaclhjjkaaGreatC11
import Derived.Test.YtadgciaclhjjkaaGreatC18
import Derived.Test.YtadgciaclhjjkaaGreatC08
import Derived.Test.YtadgciaclhjjkaaGreatC36
set_option linter.unusedVariables false
set_option linter.unusedSimpArgs false
set_option maxRecDepth 100000
set_option maxHeartbeats 2000000
namespace Go.Proofs.YtadgciaclhjjkaaGreat
open Go.RowKit (Below)
theorem strEq_iff (a b : ByteArray) : strEq a b = true ↔ a = b := by
  unfold strEq
  rw [beq_iff_eq]
  constructor
  · intro h
    exact ByteArray.ext (Array.toList_inj.1 h)
  · rintro rfl; rfl
/-! ### Rows of structs -/
/-! ### Data -/
structure RU where
  b : UInt8
  cut : Bool
  n : Int
structure RF where
  sure : Bs
  us : List RU
structure RTn where
  kind : Int
  name : ByteArray
  to : ByteArray
  file : Int
abbrev RDir := List (ByteArray × Int)
structure RFS where
  files : List RF
  sure : RDir
  turns : List RTn
  c : Ctl
end Go.Proofs.YtadgciaclhjjkaaGreat
set_option linter.unusedVariables false
set_option linter.unusedSimpArgs false
set_option maxRecDepth 100000
set_option maxHeartbeats 4000000
namespace Go.Proofs.YtadgciaclhjjkaaGreat
open Go.RowKit (Below)
def numberV : Option Nat → Value
  | some n => .tuple #[Val.i (n : Int), .bool true]
  | none => .tuple #[Val.i 0, .bool false]
section
variable {W0 : World} {st : Heap}
theorem plainNumber_spec {s t : ByteArray} (hs : s.size < 100) : ICalls Tryz.prog W0 75 #[.string s, .string t] st fun e st' => e = .returned (numberV (numberM s t)) ∧ st' = st := by
  refine enter (args := [_, _]) Tryz.func75 rfl ?_
  generalize hres : numberM s t = res
  unfold numberM at hres
  have hq : s.size + 8 < 2 ^ 62 := by omega
  have hw8 : IntKind.i64.wrap ((s.size : Int) + 8) = ((s.size + 8 : Nat) : Int) := by rw [wrap_id (by omega) (by omega)]; omega
  by_cases h1 : t.size = s.size + 8
  rotate_left
  · rw [if_neg (fun h => h1 h.1)] at hres
    subst hres
    have q1 : ((t.size : Int) = (s.size : Int) + 8) = False := eq_false (by omega)
    simp [Tryz.f75, go_sem, hw8, q1, numberV]
  have q1 : ((t.size : Int) = (s.size : Int) + 8) = True := eq_true (by omega)
  have hle : s.size ≤ t.size := by omega
  have htl : t.data.toList.length = t.size := by simp
  have hsl : s.data.toList.length = s.size := by simp
  have hex : (t.extract 0 s.size = s) ↔ t.data.toList.take s.size = s.data.toList := by
    constructor
    · intro h
      have := congrArg (fun x : ByteArray => x.data.toList) h
      simpa using this
    · intro h
      apply ByteArray.ext
      apply Array.ext'
      simpa using h
  by_cases h2 : t.data.toList.take s.size = s.data.toList
  rotate_left
  · rw [if_neg (fun h => h2 h.2)] at hres
    subst hres
    have q2 : (t.extract 0 s.size = s) = False := eq_false (fun h => h2 (hex.1 h))
    have q3 : strEq (t.extract 0 s.size) s = false := Bool.eq_false_iff.2 fun h => h2 (hex.1 ((strEq_iff _ _).1 h))
    simp [Tryz.f75, go_sem, hw8, q1, hle, q2, q3, numberV]
  rw [if_pos ⟨h1, h2⟩] at hres
  have q2 : (t.extract 0 s.size = s) = True := eq_true (hex.2 h2)
  have q3 : strEq (t.extract 0 s.size) s = true := (strEq_iff _ _).2 (hex.2 h2)
  simp [Tryz.f75, go_sem, hw8, q1, hle, q2, q3]
  refine ⟨fun E st' => st' = st ∧ E 1 = .string t ∧ ∃ (j acc : Nat), j ≤ 8 ∧ acc < 10 ^ j ∧ E 6 = Val.i (acc : Int) ∧ E 7 = Val.i ((s.size + j : Nat) : Int) ∧ numGo (t.data.toList.drop (s.size + j)) acc = res,
    fun E _ => match E 7 with | .int _ z => t.size - z.toNat | _ => 0, ⟨st, .rfl' _, rfl, by simp [go_sem], 0, 0, by omega, by simp, by simp [go_sem], by simp [go_sem], hres⟩, ?_⟩
  rintro E st' ⟨rfl, e1, j, acc, hj, hacc, e6, e7, hrec⟩
  obtain ⟨p, hp⟩ : ∃ p, s.size + j = p := ⟨_, rfl⟩
  rw [hp] at e7 hrec
  by_cases hlt : p < t.size
  · have hlt' : ((p : Int) < t.size) = True := eq_true (by omega)
    have hbi := btOf_eq t p hlt
    have hd : t.data.toList.drop p = t.data.toList.getD p 0 :: t.data.toList.drop (p + 1) := by
      have hl : p < t.data.toList.length := by omega
      rw [List.drop_eq_getElem_cons hl, List.getD_eq_getElem?_getD, List.getElem?_eq_getElem hl]
      rfl
    rw [hd, numGo] at hrec
    unfold isD at hrec
    have hc8 := (t.data.toList.getD p 0).toNat_lt
    generalize (t.data.toList.getD p 0).toNat = c at *
    have hwi : IntKind.i64.wrap ((p : Int) + 1) = ((p + 1 : Nat) : Int) := by rw [wrap_id (by omega) (by omega)]; omega
    by_cases c1 : c < 48
    · have x1 : ((c : Int) < 48) = True := eq_true (by omega)
      have x1' : ((48 : Int) ≤ c) = False := eq_false (by omega)
      rw [if_neg (by simp; omega)] at hrec
      subst hrec
      simp [go_sem, e1, e6, e7, hlt', hlt, hbi, x1, x1', numberV]
    have x1 : ((c : Int) < 48) = False := eq_false (by omega)
    have x1' : ((48 : Int) ≤ c) = True := eq_true (by omega)
    by_cases c2 : 57 < c
    · have x2 : ((57 : Int) < c) = True := eq_true (by omega)
      have x2' : ((c : Int) ≤ 57) = False := eq_false (by omega)
      rw [if_neg (by simp; omega)] at hrec
      subst hrec
      simp [go_sem, e1, e6, e7, hlt', hlt, hbi, x1, x1', x2, x2', numberV]
    have x2 : ((57 : Int) < c) = False := eq_false (by omega)
    have x2' : ((c : Int) ≤ 57) = True := eq_true (by omega)
    rw [if_pos (by simp; omega)] at hrec
    have hp8 : (10 : Nat) ^ j ≤ 10 ^ 8 := Nat.pow_le_pow_right (by omega) hj
    have hp8' : (10 : Nat) ^ 8 = 100000000 := by decide
    have hw1 : IntKind.i64.wrap (10 * (acc : Int)) = ((10 * acc : Nat) : Int) := by rw [wrap_id (by omega) (by omega)]; omega
    have hw2 : IntKind.u8.wrap ((c : Int) - 48) = ((c - 48 : Nat) : Int) := by rw [IntKind.wrap_u8]; omega
    have hw3 : IntKind.i64.wrap ((c - 48 : Nat) : Int) = ((c - 48 : Nat) : Int) := wrap_id (by omega) (by omega)
    have hw4 : IntKind.i64.wrap (((10 * acc : Nat) : Int) + ((c - 48 : Nat) : Int)) = ((10 * acc + (c - 48) : Nat) : Int) := by rw [wrap_id (by omega) (by omega)]; omega
    have hac : 10 * acc + (c - 48) < 10 ^ (j + 1) := by rw [Nat.pow_succ]; omega
    obtain ⟨u, hu⟩ : ∃ u, c - 48 = u := ⟨_, rfl⟩
    rw [hu] at hw2 hw3 hw4 hrec hac
    obtain ⟨x, hx⟩ : ∃ x, 10 * acc = x := ⟨_, rfl⟩
    rw [hx] at hw1 hw4 hrec hac
    simp only [Int.natCast_add] at hw4
    simp [go_sem, e1, e6, e7, hlt', hlt, hbi, x1, x1', x2, x2', hw1, hw2, hw3, hw4, hwi]
    exact ⟨_, .rfl' _, ⟨rfl, j + 1, by omega, x + u, hac, by omega, by omega, by rw [show s.size + (j + 1) = p + 1 by omega]; exact hrec⟩, by omega⟩
  · have hlt' : ((p : Int) < t.size) = False := eq_false (by omega)
    rw [List.drop_eq_nil_of_le (by omega), numGo] at hrec
    subst hrec
    simp [go_sem, e1, e6, e7, hlt', hlt, numberV]
theorem refNumber_spec {s t : ByteArray} (hs : s.size < 100) : ICalls Tryz.prog W0 23 #[.string s, .string t] st fun e st' => e = .returned (numberV (numberM s t)) ∧ st' = st := by
  refine enter (args := [_, _]) Tryz.func23 rfl ?_
  generalize hres : numberM s t = res
  unfold numberM at hres
  have hq : s.size + 8 < 2 ^ 62 := by omega
  have hw8 : IntKind.i64.wrap ((s.size : Int) + 8) = ((s.size + 8 : Nat) : Int) := by rw [wrap_id (by omega) (by omega)]; omega
  by_cases h1 : t.size = s.size + 8
  rotate_left
  · rw [if_neg (fun h => h1 h.1)] at hres
    subst hres
    have q1 : ((t.size : Int) = (s.size : Int) + 8) = False := eq_false (by omega)
    simp [Tryz.f23, go_sem, hw8, q1, numberV]
  have q1 : ((t.size : Int) = (s.size : Int) + 8) = True := eq_true (by omega)
  have hle : s.size ≤ t.size := by omega
  have htl : t.data.toList.length = t.size := by simp
  have hsl : s.data.toList.length = s.size := by simp
  have hex : (t.extract 0 s.size = s) ↔ t.data.toList.take s.size = s.data.toList := by
    constructor
    · intro h
      have := congrArg (fun x : ByteArray => x.data.toList) h
      simpa using this
    · intro h
      apply ByteArray.ext
      apply Array.ext'
      simpa using h
  by_cases h2 : t.data.toList.take s.size = s.data.toList
  rotate_left
  · rw [if_neg (fun h => h2 h.2)] at hres
    subst hres
    have q2 : (t.extract 0 s.size = s) = False := eq_false (fun h => h2 (hex.1 h))
    have q3 : strEq (t.extract 0 s.size) s = false := Bool.eq_false_iff.2 fun h => h2 (hex.1 ((strEq_iff _ _).1 h))
    simp [Tryz.f23, go_sem, hw8, q1, hle, q2, q3, numberV]
  rw [if_pos ⟨h1, h2⟩] at hres
  have q2 : (t.extract 0 s.size = s) = True := eq_true (hex.2 h2)
  have q3 : strEq (t.extract 0 s.size) s = true := (strEq_iff _ _).2 (hex.2 h2)
  simp [Tryz.f23, go_sem, hw8, q1, hle, q2, q3]
  refine ⟨fun E st' => st' = st ∧ E 1 = .string t ∧ ∃ (j acc : Nat), j ≤ 8 ∧ acc < 10 ^ j ∧ E 6 = Val.i (acc : Int) ∧ E 7 = Val.i ((s.size + j : Nat) : Int) ∧ numGo (t.data.toList.drop (s.size + j)) acc = res,
    fun E _ => match E 7 with | .int _ z => t.size - z.toNat | _ => 0, ⟨st, .rfl' _, rfl, by simp [go_sem], 0, 0, by omega, by simp, by simp [go_sem], by simp [go_sem], hres⟩, ?_⟩
  rintro E st' ⟨rfl, e1, j, acc, hj, hacc, e6, e7, hrec⟩
  obtain ⟨p, hp⟩ : ∃ p, s.size + j = p := ⟨_, rfl⟩
  rw [hp] at e7 hrec
  by_cases hlt : p < t.size
  · have hlt' : ((p : Int) < t.size) = True := eq_true (by omega)
    have hbi := btOf_eq t p hlt
    have hd : t.data.toList.drop p = t.data.toList.getD p 0 :: t.data.toList.drop (p + 1) := by
      have hl : p < t.data.toList.length := by omega
      rw [List.drop_eq_getElem_cons hl, List.getD_eq_getElem?_getD, List.getElem?_eq_getElem hl]
      rfl
    rw [hd, numGo] at hrec
    unfold isD at hrec
    have hc8 := (t.data.toList.getD p 0).toNat_lt
    generalize (t.data.toList.getD p 0).toNat = c at *
    have hwi : IntKind.i64.wrap ((p : Int) + 1) = ((p + 1 : Nat) : Int) := by rw [wrap_id (by omega) (by omega)]; omega
    by_cases c1 : c < 48
    · have x1 : ((c : Int) < 48) = True := eq_true (by omega)
      have x1' : ((48 : Int) ≤ c) = False := eq_false (by omega)
      rw [if_neg (by simp; omega)] at hrec
      subst hrec
      simp [go_sem, e1, e6, e7, hlt', hlt, hbi, x1, x1', numberV]
    have x1 : ((c : Int) < 48) = False := eq_false (by omega)
    have x1' : ((48 : Int) ≤ c) = True := eq_true (by omega)
    by_cases c2 : 57 < c
    · have x2 : ((57 : Int) < c) = True := eq_true (by omega)
      have x2' : ((c : Int) ≤ 57) = False := eq_false (by omega)
      rw [if_neg (by simp; omega)] at hrec
      subst hrec
      simp [go_sem, e1, e6, e7, hlt', hlt, hbi, x1, x1', x2, x2', numberV]
    have x2 : ((57 : Int) < c) = False := eq_false (by omega)
    have x2' : ((c : Int) ≤ 57) = True := eq_true (by omega)
    rw [if_pos (by simp; omega)] at hrec
    have hp8 : (10 : Nat) ^ j ≤ 10 ^ 8 := Nat.pow_le_pow_right (by omega) hj
    have hp8' : (10 : Nat) ^ 8 = 100000000 := by decide
    have hw1 : IntKind.i64.wrap (10 * (acc : Int)) = ((10 * acc : Nat) : Int) := by rw [wrap_id (by omega) (by omega)]; omega
    have hw2 : IntKind.u8.wrap ((c : Int) - 48) = ((c - 48 : Nat) : Int) := by rw [IntKind.wrap_u8]; omega
    have hw3 : IntKind.i64.wrap ((c - 48 : Nat) : Int) = ((c - 48 : Nat) : Int) := wrap_id (by omega) (by omega)
    have hw4 : IntKind.i64.wrap (((10 * acc : Nat) : Int) + ((c - 48 : Nat) : Int)) = ((10 * acc + (c - 48) : Nat) : Int) := by rw [wrap_id (by omega) (by omega)]; omega
    have hac : 10 * acc + (c - 48) < 10 ^ (j + 1) := by rw [Nat.pow_succ]; omega
    obtain ⟨u, hu⟩ : ∃ u, c - 48 = u := ⟨_, rfl⟩
    rw [hu] at hw2 hw3 hw4 hrec hac
    obtain ⟨x, hx⟩ : ∃ x, 10 * acc = x := ⟨_, rfl⟩
    rw [hx] at hw1 hw4 hrec hac
    simp only [Int.natCast_add] at hw4
    simp [go_sem, e1, e6, e7, hlt', hlt, hbi, x1, x1', x2, x2', hw1, hw2, hw3, hw4, hwi]
    exact ⟨_, .rfl' _, ⟨rfl, j + 1, by omega, x + u, hac, by omega, by omega, by rw [show s.size + (j + 1) = p + 1 by omega]; exact hrec⟩, by omega⟩
  · have hlt' : ((p : Int) < t.size) = False := eq_false (by omega)
    rw [List.drop_eq_nil_of_le (by omega), numGo] at hrec
    subst hrec
    simp [go_sem, e1, e6, e7, hlt', hlt, numberV]
theorem walNumber_spec {t : ByteArray} : ICalls Tryz.prog W0 22 #[.string t] st fun e st' => e = .returned (numberV (numberM ⟨#[108, 111, 103, 45]⟩ t)) ∧ st' = st := by
  refine enter (args := [_]) Tryz.func22 rfl ?_
  simp [Tryz.f22, go_sem]
  refine (plainNumber_spec (by decide)).mono ?_
  rintro e st' ⟨rfl, rfl⟩
  cases numberM ⟨#[108, 111, 103, 45]⟩ t <;> simp [go_sem, numberV]
end
end Go.Proofs.YtadgciaclhjjkaaGreat
