/- Sorting rows of numbers in place: rows as arrays; cmp.Less; the insertion sort. -/
import Derived.Test.YtflbapmjdfnhhaaGreatC27
import Derived.Sort.AssemblyPlain
import Derived.Test.YtflbapmjdfnhhaaGreatC14
set_option linter.unusedVariables false
set_option linter.unusedSimpArgs false
set_option maxRecDepth 100000
set_option maxHeartbeats 1000000
namespace Go.Proofs.YtflbapmjdfnhhaaGreat
open Go.RowKit (Below)
def ltN (x y : Nat) : Bool := decide (x < y)
theorem ltN_swo : Go.Sort.SWO ltN := ⟨fun x => by simp [ltN], fun x y z => by simp [ltN]; omega, fun x y z => by simp [ltN]; omega⟩
/-- The cells of a row of numbers. -/
def cellsA (d : Array Nat) : List Value := cellsU d.toList
theorem cellsA_length (d : Array Nat) : (cellsA d).length = d.size := by simp [cellsA, cellsU]
theorem cellsA_get {d : Array Nat} {i : Nat} (h : i < d.size) : (cellsA d)[i]? = some (.int .u64 ((d[i]! : Nat) : Int)) := by
  unfold cellsA cellsU
  rw [List.getElem?_map, Array.getElem?_toList, Array.getElem?_eq_getElem h, getElem!_pos d i h]
  rfl
theorem cellsA_elem {d : Array Nat} {i : Nat} (h : i < (cellsA d).length) : (cellsA d)[i] = .int .u64 ((d[i]! : Nat) : Int) := by
  have h1 := cellsA_get (d := d) (i := i) (by rw [← cellsA_length]; exact h)
  rw [List.getElem?_eq_getElem h] at h1
  exact Option.some.inj h1
theorem cellsA_set (d : Array Nat) (i x : Nat) : (cellsA d).set i (.int .u64 (x : Int)) = cellsA (d.setIfInBounds i x) := by
  unfold cellsA cellsU
  rw [Array.toList_setIfInBounds, List.map_set]
theorem cellsA_swp (d : Array Nat) (i j : Nat) : ((cellsA d).set i (.int .u64 ((d[j]! : Nat) : Int))).set j (.int .u64 ((d[i]! : Nat) : Int)) = cellsA (Go.Sort.swp d i j) := by
  rw [cellsA_set, cellsA_set]
  rfl
section
variable {W0 : World} {st : Heap}
theorem LessU_spec {x y : Nat} : ICalls Tryz.prog W0 133 #[.int .u64 (x : Int), .int .u64 (y : Int)] st fun e st' => e = .returned (.bool (ltN x y)) ∧ st' = st := by
  have nan : ∀ {z : Nat} {K : Ending → Heap → Prop}, K (.returned (.bool false)) st → ICalls Tryz.prog W0 145 #[.int .u64 (z : Int)] st K := fun {z K} hK => by
    refine enter (args := [_]) Tryz.func145 rfl ?_
    simp [Tryz.f145, go_sem]
    exact hK
  refine enter (args := [_, _]) Tryz.func133 rfl ?_
  simp [Tryz.f133, go_sem]
  refine nan ?_
  simp [go_sem, ltN]
theorem ins_spec {b N cap lo hi : Nat} {d : Array Nat} {g : Tg} (h : st b = some (.cells true (cellsA d) N g)) (hN : d.size ≤ N) (hn : d.size < 2 ^ 50) (hlo : lo ≤ d.size) (hhi : hi ≤ d.size) :
    ICalls Tryz.prog W0 127 #[.slice (some ⟨b, 0, none⟩) d.size cap, Val.i lo, Val.i hi] st fun e st' => e = .returned (.tuple #[]) ∧ st' = upd st b (.cells true (cellsA (Go.Sort.insertionSort ltN d lo hi)) N g) := by
  refine enter (args := [_, _, _]) Tryz.func127 rfl ?_
  have hwl : IntKind.i64.wrap ((lo : Int) + 1) = (lo : Int) + 1 := wrap_id (by omega) (by omega)
  simp [Tryz.f127, go_sem, hwl]
  refine ⟨fun E st' => E 0 = .slice (some ⟨b, 0, none⟩) d.size cap ∧ E 1 = Val.i lo ∧ E 2 = Val.i hi ∧ ∃ (i : Nat) (d1 : Array Nat), E 6 = Val.i (i : Int) ∧ lo + 1 ≤ i ∧ (i ≤ hi ∨ i = lo + 1) ∧ d1.size = d.size ∧ st' = upd st b (.cells true (cellsA d1) N g) ∧ Go.Sort.insOuter ltN lo hi i d1 = Go.Sort.insertionSort ltN d lo hi,
    fun E _ => match E 6 with | .int _ i => hi - i.toNat | _ => 0, ⟨st, .rfl' _, by simp [go_sem], by simp [go_sem], by simp [go_sem], lo + 1, d, by simp [go_sem], by omega, .inr rfl, rfl, (upd_self h).symm, rfl⟩, ?_⟩
  rintro E st' ⟨e0, e1, e2, i, d1, e6, hi1, hi2, hd1, rfl, hs⟩
  by_cases hlt : i < hi
  · have hlt' : ((i : Int) < hi) = True := eq_true (by omega)
    have hwi : IntKind.i64.wrap ((i : Int) + 1) = (i : Int) + 1 := wrap_id (by omega) (by omega)
    rw [Go.Sort.insOuter, if_pos hlt] at hs
    simp [go_sem, e0, e1, e2, e6, hlt', hlt]
    refine ⟨fun E st' => E 0 = .slice (some ⟨b, 0, none⟩) d.size cap ∧ E 1 = Val.i lo ∧ E 2 = Val.i hi ∧ E 6 = Val.i (i : Int) ∧ ∃ (j : Nat) (m : Array Nat), E 7 = Val.i (j : Int) ∧ j ≤ i ∧ m.size = d.size ∧ st' = upd st b (.cells true (cellsA m) N g) ∧ Go.Sort.insInner ltN lo j m = Go.Sort.insInner ltN lo i d1,
      fun E _ => match E 7 with | .int _ j => j.toNat | _ => 0, ⟨_, .rfl' _, by simp [go_sem, e0], by simp [go_sem, e1], by simp [go_sem, e2], by simp [go_sem, e6], i, d1, by simp [go_sem, e6], Nat.le_refl _, hd1, rfl, rfl⟩, ?_⟩
    clear e0 e1 e2 e6
    clear E
    rintro E st' ⟨e0, e1, e2, e6, j, m, e7, hji, hm, rfl, hdn⟩
    have hml := cellsA_length m
    simp [go_sem]
    refine draw [0, 1, 2, 3, 4, 5, 6, 8, 9, 10, 11, 7, 12, 13, 14] (by kernel_rfl) ?_
    by_cases hj : lo < j
    · obtain ⟨j', rfl⟩ : ∃ j', j = j' + 1 := ⟨j - 1, by omega⟩
      have q1 : ((lo : Int) < (j' : Int) + 1) = True := eq_true (by omega)
      have hwj : IntKind.i64.wrap (j' : Int) = (j' : Int) := wrap_id (by omega) (by omega)
      have b1 : ((0 : Int) ≤ (j' : Int) + 1) = True := eq_true (by omega)
      have b2 : ((j' : Int) + 1 < d.size) = True := eq_true (by omega)
      have b3 : ((j' : Int) < d.size) = True := eq_true (by omega)
      have b4 : ((j' : Int) + 1).toNat = j' + 1 := by omega
      have b5 : j' + 1 < d.size := by omega
      have b6 : j' < d.size := by omega
      have hq : lo < j' + 1 := hj
      obtain ⟨x, hx⟩ : ∃ x, m[j' + 1]! = x := ⟨_, rfl⟩
      obtain ⟨y, hy⟩ : ∃ y, m[j']! = y := ⟨_, rfl⟩
      have hset := cellsA_swp m (j' + 1) j'
      rw [hx, hy] at hset
      have gx : ∀ h : j' + 1 < (cellsA m).length, (cellsA m)[j' + 1] = .int .u64 (x : Int) := fun h => by rw [← hx]; exact cellsA_elem h
      have gy : ∀ h : j' < (cellsA m).length, (cellsA m)[j'] = .int .u64 (y : Int) := fun h => by rw [← hy]; exact cellsA_elem h
      simp [go_sem, e0, e1, e2, e6, e7, q1, hq, hwj, b1, b2, b3, b4, b5, b6, gx, gy, hml, hm, upd_same]
      refine LessU_spec.mono ?_
      rintro e s2 ⟨rfl, rfl⟩
      have hL : Go.Sort.insInner ltN lo (j' + 1) m = if ltN m[j' + 1]! m[j']! = true then Go.Sort.insInner ltN lo j' (Go.Sort.swp m (j' + 1) j') else m := by
        rw [Go.Sort.insInner]
        simp [hq]
      rw [hL, hx, hy] at hdn
      by_cases hc : ltN x y = true
      · rw [if_pos hc] at hdn
        simp [go_sem, e0, e1, e2, e6, e7, hc]
        refine draw [0, 1, 2, 3, 4, 5, 6, 7, 8, 10, 11, 12, 9, 13, 14, 15, 16, 17] (by kernel_rfl) ?_
        have b7 : j' + 1 ≤ d.size := by omega
        have b8 : j' + 1 < N := by omega
        have b9 : j' < N := by omega
        have b10 : j' ≤ d.size := by omega
        simp [go_sem, e0, e1, e2, e6, e7, q1, hq, hwj, b1, b2, b3, b4, b5, b6, b7, b8, b9, b10, gx, gy, hml, hm, upd_same, hset]
        exact ⟨_, .rfl' _, j', by simp, by omega, Go.Sort.swp m (j' + 1) j', by rw [Go.Sort.size_swp, hm], rfl, hdn⟩
      · rw [if_neg hc] at hdn
        have hc' : ltN x y = false := by simpa using hc
        simp [go_sem, e0, e1, e2, e6, e7, hc', hwi]
        rw [← hdn] at hs
        exact ⟨_, .rfl' _, ⟨i + 1, by simp, by omega, by omega, m, hm, rfl, hs⟩, by omega⟩
    · have q1 : ((lo : Int) < (j : Int)) = False := eq_false (by omega)
      have hL : Go.Sort.insInner ltN lo j m = m := by
        cases j with
        | zero => rfl
        | succ j => rw [Go.Sort.insInner]; simp [show ¬ (j + 1 > lo) by omega]
      rw [hL] at hdn
      simp [go_sem, e0, e1, e2, e6, e7, q1, hj, hwi]
      rw [← hdn] at hs
      exact ⟨_, .rfl' _, ⟨i + 1, by simp, by omega, by omega, m, hm, rfl, hs⟩, by omega⟩
  · have hlt' : ((i : Int) < hi) = False := eq_false (by omega)
    rw [Go.Sort.insOuter, if_neg hlt] at hs
    simp [go_sem, e0, e1, e2, e6, hlt', hlt]
    rw [hs]
end
end Go.Proofs.YtflbapmjdfnhhaaGreat
set_option linter.unusedVariables false
set_option linter.unusedSimpArgs false
set_option maxRecDepth 100000
set_option maxHeartbeats 4000000
namespace Go.Proofs.YtflbapmjdfnhhaaGreat
open Go.RowKit (Below)
section
variable {W0 : World} {st : Heap}
theorem sift_spec {b N cap lo hi first : Nat} {d : Array Nat} {g : Tg} (h : st b = some (.cells true (cellsA d) N g)) (hN : d.size ≤ N) (hn : d.size < 2 ^ 50) (hlo : lo ≤ d.size) (hhi : first + hi ≤ d.size) :
    ICalls Tryz.prog W0 140 #[.slice (some ⟨b, 0, none⟩) d.size cap, Val.i lo, Val.i hi, Val.i first] st fun e st' => e = .returned (.tuple #[]) ∧ st' = upd st b (.cells true (cellsA (Go.Sort.siftDown ltN hi first lo d)) N g) := by
  refine enter (args := [_, _, _, _]) Tryz.func140 rfl ?_
  simp [Tryz.f140, go_sem]
  refine ⟨fun E st' => E 0 = .slice (some ⟨b, 0, none⟩) d.size cap ∧ E 2 = Val.i hi ∧ E 3 = Val.i first ∧ ∃ (root : Nat) (m : Array Nat), E 8 = Val.i (root : Int) ∧ root ≤ d.size ∧ m.size = d.size ∧ st' = upd st b (.cells true (cellsA m) N g) ∧ Go.Sort.siftDown ltN hi first root m = Go.Sort.siftDown ltN hi first lo d,
    fun E _ => match E 8 with | .int _ i => d.size - i.toNat | _ => 0, ⟨st, .rfl' _, by simp [go_sem], by simp [go_sem], by simp [go_sem], lo, d, by simp [go_sem], hlo, rfl, (upd_self h).symm, rfl⟩, ?_⟩
  rintro E st' ⟨e0, e2, e3, root, m, e8, hr, hm, rfl, hs⟩
  have hml := cellsA_length m
  have hw1 : IntKind.i64.wrap (2 * (root : Int)) = 2 * (root : Int) := wrap_id (by omega) (by omega)
  have hw2 : IntKind.i64.wrap (2 * (root : Int) + 1) = 2 * (root : Int) + 1 := wrap_id (by omega) (by omega)
  have hw3 : IntKind.i64.wrap (2 * (root : Int) + 1 + 1) = 2 * (root : Int) + 1 + 1 := wrap_id (by omega) (by omega)
  rw [Go.Sort.siftDown] at hs
  by_cases c1 : hi ≤ 2 * root + 1
  · have q1 : ((hi : Int) ≤ 2 * (root : Int) + 1) = True := eq_true (by omega)
    rw [dif_pos c1] at hs
    simp [go_sem, e0, e2, e3, e8, hw1, hw2, q1, c1]
    rw [hs]
  have q1 : ((hi : Int) ≤ 2 * (root : Int) + 1) = False := eq_false (by omega)
  rw [dif_neg (by omega)] at hs
  simp [go_sem, e0, e2, e3, e8, hw1, hw2, q1, c1]
  refine draw [0, 1, 2, 3, 4, 5, 6, 7, 8, 9, 11, 12, 13, 14, 15, 16, 10, 17, 18, 19] (by kernel_rfl) ?_
  have aw : IntKind.i64.wrap ((first : Int) + (root : Int)) = (first : Int) + (root : Int) := wrap_id (by omega) (by omega)
  have a0 : ((0 : Int) ≤ (first : Int) + (root : Int)) = True := eq_true (by omega)
  have a1 : ((first : Int) + (root : Int) < (d.size : Int)) = True := eq_true (by omega)
  have a2 : ((first : Int) + (root : Int)).toNat = first + root := by omega
  have a3 : first + root < d.size := by omega
  have a4 : first + root ≤ d.size := by omega
  have a5 : first + root < N := by omega
  have uw : IntKind.i64.wrap ((first : Int) + (2 * (root : Int) + 1)) = (first : Int) + (2 * (root : Int) + 1) := wrap_id (by omega) (by omega)
  have u0 : ((0 : Int) ≤ (first : Int) + (2 * (root : Int) + 1)) = True := eq_true (by omega)
  have u1 : ((first : Int) + (2 * (root : Int) + 1) < (d.size : Int)) = True := eq_true (by omega)
  have u2 : ((first : Int) + (2 * (root : Int) + 1)).toNat = first + (2 * root + 1) := by omega
  have u3 : first + (2 * root + 1) < d.size := by omega
  have u4 : first + (2 * root + 1) ≤ d.size := by omega
  have u5 : first + (2 * root + 1) < N := by omega
  obtain ⟨x, hx⟩ : ∃ x, m[first + root]! = x := ⟨_, rfl⟩
  have gx : ∀ h : first + root < (cellsA m).length, (cellsA m)[first + root] = .int .u64 (x : Int) := fun h => by rw [← hx]; exact cellsA_elem h
  obtain ⟨y, hy⟩ : ∃ y, m[first + (2 * root + 1)]! = y := ⟨_, rfl⟩
  have gy : ∀ h : first + (2 * root + 1) < (cellsA m).length, (cellsA m)[first + (2 * root + 1)] = .int .u64 (y : Int) := fun h => by rw [← hy]; exact cellsA_elem h
  by_cases c2 : 2 * root + 1 + 1 < hi
  · have q2 : (2 * (root : Int) + 1 + 1 < (hi : Int)) = True := eq_true (by omega)
    have fw : IntKind.i64.wrap ((first : Int) + (2 * (root : Int) + 1 + 1)) = (first : Int) + (2 * (root : Int) + 1 + 1) := wrap_id (by omega) (by omega)
    have f0 : ((0 : Int) ≤ (first : Int) + (2 * (root : Int) + 1 + 1)) = True := eq_true (by omega)
    have f1 : ((first : Int) + (2 * (root : Int) + 1 + 1) < (d.size : Int)) = True := eq_true (by omega)
    have f2 : ((first : Int) + (2 * (root : Int) + 1 + 1)).toNat = first + (2 * root + 2) := by omega
    have f3 : first + (2 * root + 2) < d.size := by omega
    have f4 : first + (2 * root + 2) ≤ d.size := by omega
    have f5 : first + (2 * root + 2) < N := by omega
    have kw : IntKind.i64.wrap ((first : Int) + (2 * (root : Int) + 1) + 1) = (first : Int) + (2 * (root : Int) + 1) + 1 := wrap_id (by omega) (by omega)
    have k0 : ((0 : Int) ≤ (first : Int) + (2 * (root : Int) + 1) + 1) = True := eq_true (by omega)
    have k1 : ((first : Int) + (2 * (root : Int) + 1) + 1 < (d.size : Int)) = True := eq_true (by omega)
    have k2 : ((first : Int) + (2 * (root : Int) + 1) + 1).toNat = first + (2 * root + 2) := by omega
    have k3 : first + (2 * root + 2) < d.size := by omega
    have k4 : first + (2 * root + 2) ≤ d.size := by omega
    have k5 : first + (2 * root + 2) < N := by omega
    obtain ⟨z, hz⟩ : ∃ z, m[first + (2 * root + 2)]! = z := ⟨_, rfl⟩
    have gz : ∀ h : first + (2 * root + 2) < (cellsA m).length, (cellsA m)[first + (2 * root + 2)] = .int .u64 (z : Int) := fun h => by rw [← hz]; exact cellsA_elem h
    have ez : first + (2 * root + 1) + 1 = first + (2 * root + 2) := by omega
    rw [ez, hx, hy, hz] at hs
    simp [go_sem, e0, e2, e3, e8, hw1, hw2, hw3, uw, u0, u1, u2, u3, u4, u5, kw, k0, k1, k2, k3, k4, k5, gy, gz, hml, hm, upd_same, q2, c2]
    refine LessU_spec.mono ?_
    rintro e s2 ⟨rfl, rfl⟩
    cases hl : ltN y z with
    | true =>
      simp only [hl, c2, decide_true, Bool.and_true, if_true] at hs
      simp [go_sem, e0, e2, e3, e8, hw1, hw2, hw3, hl]
      refine draw [0, 1, 2, 3, 4, 6, 7, 8, 9, 10, 5, 11, 12, 13] (by kernel_rfl) ?_
      simp [go_sem, e0, e2, e3, e8, hw1, hw2, hw3, aw, a0, a1, a2, a3, a4, a5, fw, f0, f1, f2, f3, f4, f5, gx, gz, hml, hm, upd_same, hl, q2, c2]
      refine LessU_spec.mono ?_
      rintro e s3 ⟨rfl, rfl⟩
      cases hk : ltN x z with
      | false =>
        simp only [hk, Bool.not_false, if_true] at hs
        simp [go_sem, e0, e2, e3, e8, hw1, hw2, hw3, aw, a0, a1, a2, a3, a4, a5, fw, f0, f1, f2, f3, f4, f5, gx, gz, hml, hm, upd_same, hl, q2, c2, hk]
        rw [hs]
      | true =>
        simp only [hk, Bool.not_true, Bool.false_eq_true, if_false] at hs
        rw [dif_pos trivial] at hs
        simp [go_sem, e0, e2, e3, e8, hw1, hw2, hw3, aw, a0, a1, a2, a3, a4, a5, fw, f0, f1, f2, f3, f4, f5, gx, gz, hml, hm, upd_same, hl, q2, c2, hk]
        refine draw [0, 1, 2, 3, 4, 5, 6, 7, 8, 9, 10, 11, 12, 14, 15, 16, 17, 18, 13, 19, 20, 21, 22, 23] (by kernel_rfl) ?_
        have hset := cellsA_swp m (first + root) (first + (2 * root + 2))
        rw [hx, hz] at hset
        simp [go_sem, e0, e2, e3, e8, hw1, hw2, hw3, aw, a0, a1, a2, a3, a4, a5, fw, f0, f1, f2, f3, f4, f5, gx, gz, hml, hm, upd_same, hl, q2, c2, hk, hset]
        exact ⟨_, .rfl' _, ⟨2 * root + 2, by simp; try omega, by omega, Go.Sort.swp m (first + root) (first + (2 * root + 2)), by rw [Go.Sort.size_swp, hm], rfl, hs⟩, by omega⟩
    | false =>
      simp only [hl, Bool.and_false, Bool.false_eq_true, if_false] at hs
      simp [go_sem, e0, e2, e3, e8, hw1, hw2, hw3, hl]
      refine draw [0, 1, 2, 3, 4, 6, 7, 8, 9, 10, 5, 11, 12, 13] (by kernel_rfl) ?_
      simp [go_sem, e0, e2, e3, e8, hw1, hw2, hw3, aw, a0, a1, a2, a3, a4, a5, uw, u0, u1, u2, u3, u4, u5, gx, gy, hml, hm, upd_same, hl, q2, c2]
      refine LessU_spec.mono ?_
      rintro e s3 ⟨rfl, rfl⟩
      cases hk : ltN x y with
      | false =>
        simp only [hk, Bool.not_false, if_true] at hs
        simp [go_sem, e0, e2, e3, e8, hw1, hw2, hw3, aw, a0, a1, a2, a3, a4, a5, uw, u0, u1, u2, u3, u4, u5, gx, gy, hml, hm, upd_same, hl, q2, c2, hk]
        rw [hs]
      | true =>
        simp only [hk, Bool.not_true, Bool.false_eq_true, if_false] at hs
        simp [go_sem, e0, e2, e3, e8, hw1, hw2, hw3, aw, a0, a1, a2, a3, a4, a5, uw, u0, u1, u2, u3, u4, u5, gx, gy, hml, hm, upd_same, hl, q2, c2, hk]
        refine draw [0, 1, 2, 3, 4, 5, 6, 7, 8, 9, 10, 11, 12, 14, 15, 16, 17, 18, 13, 19, 20, 21, 22, 23] (by kernel_rfl) ?_
        have hset := cellsA_swp m (first + root) (first + (2 * root + 1))
        rw [hx, hy] at hset
        simp [go_sem, e0, e2, e3, e8, hw1, hw2, hw3, aw, a0, a1, a2, a3, a4, a5, uw, u0, u1, u2, u3, u4, u5, gx, gy, hml, hm, upd_same, hl, q2, c2, hk, hset]
        exact ⟨_, .rfl' _, ⟨2 * root + 1, by simp; try omega, by omega, Go.Sort.swp m (first + root) (first + (2 * root + 1)), by rw [Go.Sort.size_swp, hm], rfl, hs⟩, by omega⟩
  · have q2 : (2 * (root : Int) + 1 + 1 < (hi : Int)) = False := eq_false (by omega)
    have hl : True := trivial
    rw [hx, hy] at hs
    simp only [c2, decide_false, Bool.false_and, Bool.false_eq_true, if_false] at hs
    simp [go_sem, e0, e2, e3, e8, hw1, hw2, hw3, q2, c2]
    refine draw [0, 1, 2, 3, 4, 6, 7, 8, 9, 10, 5, 11, 12, 13] (by kernel_rfl) ?_
    simp [go_sem, e0, e2, e3, e8, hw1, hw2, hw3, aw, a0, a1, a2, a3, a4, a5, uw, u0, u1, u2, u3, u4, u5, gx, gy, hml, hm, upd_same, hl, q2, c2]
    refine LessU_spec.mono ?_
    rintro e s3 ⟨rfl, rfl⟩
    cases hk : ltN x y with
    | false =>
      simp only [hk, Bool.not_false, if_true] at hs
      simp [go_sem, e0, e2, e3, e8, hw1, hw2, hw3, aw, a0, a1, a2, a3, a4, a5, uw, u0, u1, u2, u3, u4, u5, gx, gy, hml, hm, upd_same, hl, q2, c2, hk]
      rw [hs]
    | true =>
      simp only [hk, Bool.not_true, Bool.false_eq_true, if_false] at hs
      simp [go_sem, e0, e2, e3, e8, hw1, hw2, hw3, aw, a0, a1, a2, a3, a4, a5, uw, u0, u1, u2, u3, u4, u5, gx, gy, hml, hm, upd_same, hl, q2, c2, hk]
      refine draw [0, 1, 2, 3, 4, 5, 6, 7, 8, 9, 10, 11, 12, 14, 15, 16, 17, 18, 13, 19, 20, 21, 22, 23] (by kernel_rfl) ?_
      have hset := cellsA_swp m (first + root) (first + (2 * root + 1))
      rw [hx, hy] at hset
      simp [go_sem, e0, e2, e3, e8, hw1, hw2, hw3, aw, a0, a1, a2, a3, a4, a5, uw, u0, u1, u2, u3, u4, u5, gx, gy, hml, hm, upd_same, hl, q2, c2, hk, hset]
      exact ⟨_, .rfl' _, ⟨2 * root + 1, by simp; try omega, by omega, Go.Sort.swp m (first + root) (first + (2 * root + 1)), by rw [Go.Sort.size_swp, hm], rfl, hs⟩, by omega⟩
end
end Go.Proofs.YtflbapmjdfnhhaaGreat
set_option linter.unusedVariables false
set_option linter.unusedSimpArgs false
set_option maxRecDepth 100000
set_option maxHeartbeats 4000000
namespace Go.Proofs.YtflbapmjdfnhhaaGreat
open Go.RowKit (Below)
theorem sift_size (hi first root : Nat) (d : Array Nat) : (Go.Sort.siftDown ltN hi first root d).size = d.size := by
  fun_induction Go.Sort.siftDown ltN hi first root d <;> simp_all [Go.Sort.size_swp]
section
variable {W0 : World} {st : Heap}
theorem heap_spec {b N cap lo hi : Nat} {d : Array Nat} {g : Tg} (h : st b = some (.cells true (cellsA d) N g)) (hN : d.size ≤ N) (hn : d.size < 2 ^ 50) (hlo : lo ≤ hi) (hhi : hi ≤ d.size) :
    ICalls Tryz.prog W0 128 #[.slice (some ⟨b, 0, none⟩) d.size cap, Val.i lo, Val.i hi] st fun e st' => e = .returned (.tuple #[]) ∧ st' = upd st b (.cells true (cellsA (Go.Sort.heapSort ltN d lo hi)) N g) := by
  obtain ⟨n, hnn⟩ : ∃ n, hi - lo = n := ⟨_, rfl⟩
  have hw1 : IntKind.i64.wrap ((hi : Int) - lo) = n := by rw [wrap_id (by omega) (by omega)]; omega
  have hw2 : IntKind.i64.wrap ((n : Int) - 1) = (n : Int) - 1 := wrap_id (by omega) (by omega)
  obtain ⟨K, hK⟩ : ∃ K, (n - 1) / 2 + 1 = K := ⟨_, rfl⟩
  have hw3 : IntKind.i64.wrap (((n : Int) - 1).tdiv 2) = (K : Int) - 1 := by
    by_cases h0 : n = 0
    · subst h0; have : K = 1 := by omega
      subst this; decide
    · rw [Int.tdiv_eq_ediv_of_nonneg (by omega), wrap_id (by omega) (by omega)]; omega
  obtain ⟨D, hD⟩ : ∃ D, Go.Sort.heapBuild ltN n lo K d = D := ⟨_, rfl⟩
  have hS : Go.Sort.heapSort ltN d lo hi = Go.Sort.heapPop ltN lo n D := by unfold Go.Sort.heapSort; rw [hnn, hK, hD]
  rw [hS]
  refine enter (args := [_, _, _]) Tryz.func128 rfl ?_
  simp [Tryz.f128, go_sem, hw1, hw2, hw3]
  refine ⟨fun E st' => E 0 = .slice (some ⟨b, 0, none⟩) d.size cap ∧ E 6 = Val.i lo ∧ E 7 = Val.i 0 ∧ E 8 = Val.i n ∧ ∃ (k : Nat) (m : Array Nat), E 9 = Val.i ((k : Int) - 1) ∧ k ≤ K ∧ m.size = d.size ∧ st' = upd st b (.cells true (cellsA m) N g) ∧ Go.Sort.heapBuild ltN n lo k m = D,
    fun E _ => match E 9 with | .int _ i => (i + 1).toNat | _ => 0, ⟨st, .rfl' _, by simp [go_sem], by simp [go_sem], by simp [go_sem], by simp [go_sem], K, d, by simp [go_sem], by omega, rfl, (upd_self h).symm, hD⟩, ?_⟩
  rintro E st' ⟨e0, e6, e7, e8, k, m, e9, hk, hm, rfl, hs⟩
  have hml := cellsA_length m
  cases k with
  | succ k =>
    have q1 : ((0 : Int) ≤ ((k + 1 : Nat) : Int) - 1) = True := eq_true (by omega)
    have q2 : ((k + 1 : Nat) : Int) - 1 = (k : Int) := by omega
    have hwk : IntKind.i64.wrap ((k : Int) - 1) = (k : Int) - 1 := wrap_id (by omega) (by omega)
    rw [q2] at e9
    rw [Go.Sort.heapBuild] at hs
    simp [go_sem, e0, e6, e7, e8, e9]
    rw [← hm]
    refine (sift_spec (d := m) (upd_same _ _ _) (by omega) (by omega) (by omega) (by omega)).mono ?_
    rintro e s2 ⟨rfl, rfl⟩
    simp [go_sem, e0, e6, e7, e8, e9, hwk, hm]
    exact ⟨_, .rfl' _, k, rfl, by omega, _, by rw [sift_size, hm], rfl, hs⟩
  | zero =>
    have q1 : ((0 : Int) ≤ ((0 : Nat) : Int) - 1) = False := eq_false (by omega)
    rw [Go.Sort.heapBuild] at hs
    subst hs
    simp [go_sem, e0, e6, e7, e8, e9, hw2]
    refine ⟨fun E st' => E 0 = .slice (some ⟨b, 0, none⟩) d.size cap ∧ E 6 = Val.i lo ∧ E 7 = Val.i 0 ∧ ∃ (k : Nat) (p : Array Nat), E 10 = Val.i ((k : Int) - 1) ∧ k ≤ n ∧ p.size = d.size ∧ st' = upd st b (.cells true (cellsA p) N g) ∧ Go.Sort.heapPop ltN lo k p = Go.Sort.heapPop ltN lo n m,
      fun E _ => match E 10 with | .int _ i => (i + 1).toNat | _ => 0, ⟨_, .rfl' _, by simp [go_sem, e0], by simp [go_sem, e6], by simp [go_sem, e7], n, m, by simp [go_sem], by omega, hm, rfl, rfl⟩, ?_⟩
    clear e0 e6 e7 e8 e9
    clear E
    rintro E st' ⟨e0, e6, e7, k, p, e10, hk, hp, rfl, hs⟩
    have hpl := cellsA_length p
    cases k with
    | zero =>
      rw [Go.Sort.heapPop] at hs
      subst hs
      simp [go_sem, e0, e6, e7, e10]
    | succ k =>
      have q2 : ((k + 1 : Nat) : Int) - 1 = (k : Int) := by omega
      have hwk : IntKind.i64.wrap ((k : Int) - 1) = (k : Int) - 1 := wrap_id (by omega) (by omega)
      rw [q2] at e10
      rw [Go.Sort.heapPop] at hs
      obtain ⟨u, hu⟩ : ∃ u, lo + k = u := ⟨_, rfl⟩
      have hwu : IntKind.i64.wrap ((lo : Int) + (k : Int)) = (u : Int) := by rw [wrap_id (by omega) (by omega)]; omega
      rw [hu] at hs
      have u1 : u < d.size := by omega
      have u2 : u ≤ d.size := by omega
      have u3 : u < N := by omega
      have l1 : lo < d.size := by omega
      have l2 : lo ≤ d.size := by omega
      have l3 : lo < N := by omega
      obtain ⟨x, hx⟩ : ∃ x, p[lo]! = x := ⟨_, rfl⟩
      obtain ⟨y, hy⟩ : ∃ y, p[u]! = y := ⟨_, rfl⟩
      have gx : ∀ h : lo < (cellsA p).length, (cellsA p)[lo] = .int .u64 (x : Int) := fun h => by rw [← hx]; exact cellsA_elem h
      have gy : ∀ h : u < (cellsA p).length, (cellsA p)[u] = .int .u64 (y : Int) := fun h => by rw [← hy]; exact cellsA_elem h
      have hset := cellsA_swp p lo u
      rw [hx, hy] at hset
      simp [go_sem, e0, e6, e7, e10]
      refine draw [0, 1, 2, 3, 4, 5, 6, 7, 8, 9, 10, 12, 13, 14, 11, 15, 16, 17, 18, 19] (by kernel_rfl) ?_
      simp [go_sem, e0, e6, e7, e10, hwu, u1, u2, u3, l1, l2, l3, gx, gy, hpl, hp, upd_same, hset]
      have hps : (Go.Sort.swp p lo u).size = d.size := by rw [Go.Sort.size_swp, hp]
      rw [← hps]
      refine ICalls.mono (by simpa using sift_spec (W0 := W0) (lo := 0) (hi := k) (first := lo) (cap := cap) (d := Go.Sort.swp p lo u) (upd_same st b (.cells true (cellsA (Go.Sort.swp p lo u)) N g)) (by omega) (by omega) (by omega) (by omega)) ?_
      rintro e s2 ⟨rfl, rfl⟩
      simp [go_sem, e0, e6, e7, e10, hwk, hps]
      exact ⟨_, .rfl' _, k, rfl, by omega, _, by rw [sift_size, hps], rfl, hs⟩
end
end Go.Proofs.YtflbapmjdfnhhaaGreat
set_option linter.unusedVariables false
set_option linter.unusedSimpArgs false
set_option maxRecDepth 100000
set_option maxHeartbeats 4000000
namespace Go.Proofs.YtflbapmjdfnhhaaGreat
open Go.RowKit (Below)
section
variable {W0 : World} {st : Heap}
theorem partEq_spec {b N cap lo hi p : Nat} {d : Array Nat} {g : Tg} (h : st b = some (.cells true (cellsA d) N g)) (hN : d.size ≤ N) (hn : d.size < 2 ^ 50) (hlo : lo < hi) (hhi : hi ≤ d.size) (hp : p < d.size) :
    ICalls Tryz.prog W0 134 #[.slice (some ⟨b, 0, none⟩) d.size cap, Val.i lo, Val.i hi, Val.i p] st fun e st' => e = .returned (Val.i (Go.Sort.partitionEqual ltN d lo hi p).1) ∧ st' = upd st b (.cells true (cellsA (Go.Sort.partitionEqual ltN d lo hi p).2) N g) := by
  obtain ⟨d1, hd1⟩ : ∃ d1, Go.Sort.swp d lo p = d1 := ⟨_, rfl⟩
  have hs1 : d1.size = d.size := by rw [← hd1, Go.Sort.size_swp]
  obtain ⟨R, hR⟩ : ∃ R, Go.Sort.partEqLoop ltN lo (lo + 1) (hi - 1) d1 = R := ⟨_, rfl⟩
  have hE : Go.Sort.partitionEqual ltN d lo hi p = R := by unfold Go.Sort.partitionEqual; rw [hd1, hR]
  rw [hE]
  have l1 : lo < d.size := by omega
  have l2 : lo ≤ d.size := by omega
  have l3 : lo < N := by omega
  have p2 : p ≤ d.size := by omega
  have p3 : p < N := by omega
  have hw1 : IntKind.i64.wrap ((lo : Int) + 1) = ((lo + 1 : Nat) : Int) := by rw [wrap_id (by omega) (by omega)]; omega
  have hw2 : IntKind.i64.wrap ((hi : Int) - 1) = ((hi - 1 : Nat) : Int) := by rw [wrap_id (by omega) (by omega)]; omega
  have hdl := cellsA_length d
  obtain ⟨x, hx⟩ : ∃ x, d[lo]! = x := ⟨_, rfl⟩
  have gx : ∀ h : lo < (cellsA d).length, (cellsA d)[lo] = .int .u64 (x : Int) := fun h => by rw [← hx]; exact cellsA_elem h
  obtain ⟨y, hy⟩ : ∃ y, d[p]! = y := ⟨_, rfl⟩
  have gy : ∀ h : p < (cellsA d).length, (cellsA d)[p] = .int .u64 (y : Int) := fun h => by rw [← hy]; exact cellsA_elem h
  have hset := cellsA_swp d lo p
  rw [hx, hy, hd1] at hset
  generalize hlo1 : lo + 1 = lo1 at *
  generalize hhi1 : hi - 1 = hi1 at *
  refine enter (args := [_, _, _, _]) Tryz.func134 rfl ?_
  iterate 2 refine IW_assoc ?_
  refine IW_cut (fun E' st' => st' = upd st b (.cells true (cellsA d1) N g) ∧ E' 0 = .slice (some ⟨b, 0, none⟩) d.size cap ∧ E' 1 = Val.i lo ∧ E' 9 = Val.i lo1 ∧ E' 10 = Val.i hi1) ?_ ?_
  · simp [go_sem]
    refine draw [0, 1, 2, 3, 4, 5, 6, 8, 9, 10, 7, 11, 12, 13, 14, 15] (by kernel_rfl) ?_
    simp [go_sem, h, hdl, gx, gy, l1, l2, l3, hp, p2, p3, hset, hw1, hw2]
  rintro E st' ⟨rfl, e0, e1, e9, e10⟩
  clear hx gx hy gy
  clear x y hset
  refine IW_cut (fun E' st' => st' = upd st b (.cells true (cellsA R.2) N g) ∧ E' 9 = Val.i R.1) ?_ ?_
  · rw [IW_block, IW_loop]
    refine ⟨fun E st' => E 0 = .slice (some ⟨b, 0, none⟩) d.size cap ∧ E 1 = Val.i lo ∧ ∃ (i j : Nat) (m : Array Nat), E 9 = Val.i (i : Int) ∧ E 10 = Val.i (j : Int) ∧ lo < i ∧ j < hi ∧ m.size = d.size ∧ st' = upd st b (.cells true (cellsA m) N g) ∧ Go.Sort.partEqLoop ltN lo i j m = R,
      fun E _ => match E 9, E 10 with | .int _ i, .int _ j => (j + 1 - i).toNat | _, _ => 0, ⟨_, .rfl' _, e0, e1, lo1, hi1, d1, e9, e10, by omega, by omega, hs1, rfl, hR⟩, ?_⟩
    clear e0 e1 e9 e10
    clear E
    rintro E st' ⟨e0, e1, i, j, m, e9, e10, hi0, hj0, hm, rfl, hs⟩
    have hml := cellsA_length m
    rw [Go.Sort.partEqLoop_eq] at hs
    rw [IW_block]
    obtain ⟨y, hy⟩ : ∃ y, m[lo]! = y := ⟨_, rfl⟩
    have gy : ∀ h : lo < (cellsA m).length, (cellsA m)[lo] = .int .u64 (y : Int) := fun h => by rw [← hy]; exact cellsA_elem h
    have zi := e9
    have zj := e10
    obtain ⟨P1, hP1⟩ : ∃ P : Nat → Bool, (fun x => !ltN m[lo]! x) = P := ⟨_, rfl⟩
    obtain ⟨P2, hP2⟩ : ∃ P : Nat → Bool, (fun x => ltN m[lo]! x) = P := ⟨_, rfl⟩
    obtain ⟨i2, hi2⟩ : ∃ i2, Go.Sort.scanUp P1 m j i = i2 := ⟨_, rfl⟩
    have ii : i ≤ i2 := by rw [← hi2]; exact Go.Sort.scanUp_ge _ _ _ _
    refine IW_cut (fun E' st' => st' = upd st b (.cells true (cellsA m) N g) ∧ E' 0 = .slice (some ⟨b, 0, none⟩) d.size cap ∧ E' 1 = Val.i lo ∧ E' 9 = Val.i (i2 : Int) ∧ E' 10 = Val.i (j : Int)) ?_ ?_
    · rw [IW_block, IW_loop]
      refine ⟨fun E st' => st' = upd st b (.cells true (cellsA m) N g) ∧ E 0 = .slice (some ⟨b, 0, none⟩) d.size cap ∧ E 1 = Val.i lo ∧ E 10 = Val.i (j : Int) ∧ ∃ k : Nat, E 9 = Val.i (k : Int) ∧ i ≤ k ∧ Go.Sort.scanUp P1 m j k = i2,
        fun E _ => match E 9 with | .int _ z => j + 1 - z.toNat | _ => 0, ⟨_, .rfl' _, rfl, e0, e1, e10, i, e9, Nat.le_refl _, hi2⟩, ?_⟩
      clear e0 e1 e9 e10
      try clear zi zj
      clear E
      rintro E st' ⟨rfl, e0, e1, e10, k, e9, hk, hs2⟩
      simp [go_sem]
      refine draw [0, 1, 2, 3, 4, 5, 6, 8, 9, 10, 7, 11, 12, 13, 14] (by kernel_rfl) ?_
      by_cases c : k ≤ j
      · have kb1 : k < d.size := by omega
        have kb2 : k ≤ d.size := by omega
        have hwk : IntKind.i64.wrap ((k : Int) + 1) = ((k + 1 : Nat) : Int) := by rw [wrap_id (by omega) (by omega)]; omega
        obtain ⟨x, hx⟩ : ∃ x, m[k]! = x := ⟨_, rfl⟩
        have gx : ∀ h : k < (cellsA m).length, (cellsA m)[k] = .int .u64 (x : Int) := fun h => by rw [← hx]; exact cellsA_elem h
        rw [Go.Sort.scanUp] at hs2
        simp only [c, decide_true, Bool.true_and] at hs2
        have hcm : P1 m[k]! = (!ltN y x) := by rw [← hP1]; simp only [hx, hy]
        rw [hcm] at hs2
        simp [go_sem, e0, e1, e9, e10, c, kb1, kb2, l1, l2, gx, gy, hml, hm, upd_same]
        refine LessU_spec.mono ?_
        rintro e s2 ⟨rfl, rfl⟩
        cases hl : ltN y x with
        | true =>
          simp [hl] at hs2
          simp [go_sem, e0, e1, e9, e10, hl, hs2]
        | false =>
          simp [hl] at hs2
          simp [go_sem, e0, e1, e9, e10, hl, hwk]
          exact ⟨_, .rfl' _, ⟨rfl, k + 1, by simp, by omega, hs2⟩, by omega⟩
      · rw [Go.Sort.scanUp] at hs2
        simp [c] at hs2
        subst hs2
        simp [go_sem, e0, e1, e9, e10, c]
    rintro E st' ⟨rfl, e0, e1, e9, e10⟩
    obtain ⟨j2, hj2⟩ : ∃ j2, Go.Sort.scanDown P2 m i2 j = j2 := ⟨_, rfl⟩
    have jj : j2 ≤ j := by rw [← hj2]; exact Go.Sort.scanDown_le _ _ _ _
    refine IW_cut (fun E' st' => st' = upd st b (.cells true (cellsA m) N g) ∧ E' 0 = .slice (some ⟨b, 0, none⟩) d.size cap ∧ E' 1 = Val.i lo ∧ E' 9 = Val.i (i2 : Int) ∧ E' 10 = Val.i (j2 : Int)) ?_ ?_
    · rw [IW_block, IW_loop]
      refine ⟨fun E st' => st' = upd st b (.cells true (cellsA m) N g) ∧ E 0 = .slice (some ⟨b, 0, none⟩) d.size cap ∧ E 1 = Val.i lo ∧ E 9 = Val.i (i2 : Int) ∧ ∃ k : Nat, E 10 = Val.i (k : Int) ∧ k ≤ j ∧ Go.Sort.scanDown P2 m i2 k = j2,
        fun E _ => match E 10 with | .int _ z => z.toNat | _ => 0, ⟨_, .rfl' _, rfl, e0, e1, e9, j, e10, Nat.le_refl _, hj2⟩, ?_⟩
      clear e0 e1 e9 e10
      try clear zi zj
      clear E
      rintro E st' ⟨rfl, e0, e1, e9, k, e10, hk, hs2⟩
      simp [go_sem]
      refine draw [0, 1, 2, 3, 4, 5, 6, 8, 9, 10, 7, 11, 12, 13] (by kernel_rfl) ?_
      by_cases c : i2 ≤ k
      · have kb1 : k < d.size := by omega
        have kb2 : k ≤ d.size := by omega
        obtain ⟨k2, hk2⟩ : ∃ k2, k = k2 + 1 := ⟨k - 1, by omega⟩
        have hwk : IntKind.i64.wrap ((k : Int) - 1) = (k2 : Int) := by rw [wrap_id (by omega) (by omega)]; omega
        obtain ⟨x, hx⟩ : ∃ x, m[k]! = x := ⟨_, rfl⟩
        have gx : ∀ h : k < (cellsA m).length, (cellsA m)[k] = .int .u64 (x : Int) := fun h => by rw [← hx]; exact cellsA_elem h
        have hd2 : Go.Sort.scanDown P2 m i2 k = if (P2 m[k]!) = true then Go.Sort.scanDown P2 m i2 k2 else k := by
          subst hk2
          rw [Go.Sort.scanDown]
          simp only [c, decide_true, Bool.true_and]
        rw [hd2] at hs2
        have hcm : P2 m[k]! = (ltN y x) := by rw [← hP2]; simp only [hx, hy]
        rw [hcm] at hs2
        simp [go_sem, e0, e1, e9, e10, c, kb1, kb2, l1, l2, gx, gy, hml, hm, upd_same]
        refine LessU_spec.mono ?_
        rintro e s2 ⟨rfl, rfl⟩
        cases hl : ltN y x with
        | false =>
          simp [hl] at hs2
          simp [go_sem, e0, e1, e9, e10, hl, hs2]
        | true =>
          simp [hl] at hs2
          simp [go_sem, e0, e1, e9, e10, hl, hwk]
          exact ⟨_, .rfl' _, ⟨rfl, k2, by simp, by omega, hs2⟩, by omega⟩
      · have hs2 : k = j2 := by
          rw [← hs2]
          cases k with
          | zero => rfl
          | succ k => rw [Go.Sort.scanDown]; simp [c]
        subst hs2
        simp [go_sem, e0, e1, e9, e10, c]
    rintro E st' ⟨rfl, e0, e1, e9, e10⟩
    rw [hP1, hP2, hi2, hj2] at hs
    by_cases c : j2 < i2
    · rw [if_pos (show i2 > j2 from c)] at hs
      subst hs
      simp [go_sem, e0, e1, e9, e10, c]
    · rw [if_neg (show ¬ i2 > j2 from c)] at hs
      have hwi : IntKind.i64.wrap ((i2 : Int) + 1) = ((i2 + 1 : Nat) : Int) := by rw [wrap_id (by omega) (by omega)]; omega
      have hwj : IntKind.i64.wrap ((j2 : Int) - 1) = ((j2 - 1 : Nat) : Int) := by rw [wrap_id (by omega) (by omega)]; omega
      have u1 : i2 < d.size := by omega
      have u2 : i2 ≤ d.size := by omega
      have u3 : i2 < N := by omega
      have v1 : j2 < d.size := by omega
      have v2 : j2 ≤ d.size := by omega
      have v3 : j2 < N := by omega
      obtain ⟨x, hx⟩ : ∃ x, m[i2]! = x := ⟨_, rfl⟩
      have gx : ∀ h : i2 < (cellsA m).length, (cellsA m)[i2] = .int .u64 (x : Int) := fun h => by rw [← hx]; exact cellsA_elem h
      obtain ⟨z, hz⟩ : ∃ z, m[j2]! = z := ⟨_, rfl⟩
      have gz : ∀ h : j2 < (cellsA m).length, (cellsA m)[j2] = .int .u64 (z : Int) := fun h => by rw [← hz]; exact cellsA_elem h
      have hset := cellsA_swp m i2 j2
      rw [hx, hz] at hset
      simp [go_sem, e0, e1, e9, e10, c, hwi, hwj, zi, zj]
      refine draw [0, 1, 2, 3, 4, 5, 6, 8, 9, 10, 7, 11, 12, 13, 14, 15] (by kernel_rfl) ?_
      simp [go_sem, e0, e1, e9, e10, c, hwi, hwj, zi, zj, u1, u2, u3, v1, v2, v3, gx, gz, hml, hm, upd_same, hset]
      exact ⟨_, .rfl' _, ⟨i2 + 1, by simp, j2 - 1, rfl, by omega, by omega, Go.Sort.swp m i2 j2, by rw [Go.Sort.size_swp, hm], rfl, hs⟩, by omega⟩
  · rintro E st' ⟨rfl, e9⟩
    simp [go_sem, e9]
end
end Go.Proofs.YtflbapmjdfnhhaaGreat
