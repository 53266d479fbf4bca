/- Sorting rows of strings in place: the parting by what is equal. -/
import Derived.Test.YtadgciaclhjjkaaGreatC45
import Derived.Test.YtadgciaclhjjkaaGreatC10
set_option linter.unusedVariables false
set_option linter.unusedSimpArgs false
set_option maxRecDepth 100000
set_option maxHeartbeats 4000000
namespace Go.Proofs.YtadgciaclhjjkaaGreat
open Go.RowKit (Below)
section
variable {W0 : World} {st : Heap}
theorem partEqS_spec {b N cap lo hi p : Nat} {d : Array ByteArray} {g : Tg} (h : st b = some (.cells true (cellsAS d) N g)) (hN : d.size ≤ N) (hn : d.size < 2 ^ 50) (hlo : lo < hi) (hhi : hi ≤ d.size) (hp : p < d.size) :
    ICalls Tryz.prog W0 202 #[.slice (some ⟨b, 0, none⟩) d.size cap, Val.i lo, Val.i hi, Val.i p] st fun e st' => e = .returned (Val.i (Go.Sort.partitionEqual ltT d lo hi p).1) ∧ st' = upd st b (.cells true (cellsAS (Go.Sort.partitionEqual ltT d lo hi p).2) N g) := by
  obtain ⟨d1, hd1⟩ : ∃ d1, Go.Sort.swp d lo p = d1 := ⟨_, rfl⟩
  have hs1 : d1.size = d.size := by rw [← hd1, Go.Sort.size_swp]
  obtain ⟨R, hR⟩ : ∃ R, Go.Sort.partEqLoop ltT lo (lo + 1) (hi - 1) d1 = R := ⟨_, rfl⟩
  have hE : Go.Sort.partitionEqual ltT d lo hi p = R := by unfold Go.Sort.partitionEqual; rw [hd1, hR]
  rw [hE]
  have l1 : lo < d.size := by omega
  have l2 : lo ≤ d.size := by omega
  have l3 : lo < N := by omega
  have p2 : p ≤ d.size := by omega
  have p3 : p < N := by omega
  have hw1 : IntKind.i64.wrap ((lo : Int) + 1) = ((lo + 1 : Nat) : Int) := by rw [wrap_id (by omega) (by omega)]; omega
  have hw2 : IntKind.i64.wrap ((hi : Int) - 1) = ((hi - 1 : Nat) : Int) := by rw [wrap_id (by omega) (by omega)]; omega
  have hdl := cellsA_lengthS d
  obtain ⟨x, hx⟩ : ∃ x, d[lo]! = x := ⟨_, rfl⟩
  have gx : ∀ h : lo < (cellsAS d).length, (cellsAS d)[lo] = .string x := fun h => by rw [← hx]; exact cellsA_elemS h
  obtain ⟨y, hy⟩ : ∃ y, d[p]! = y := ⟨_, rfl⟩
  have gy : ∀ h : p < (cellsAS d).length, (cellsAS d)[p] = .string y := fun h => by rw [← hy]; exact cellsA_elemS h
  have hset := cellsA_swpS d lo p
  rw [hx, hy, hd1] at hset
  generalize hlo1 : lo + 1 = lo1 at *
  generalize hhi1 : hi - 1 = hi1 at *
  refine enter (args := [_, _, _, _]) Tryz.func202 rfl ?_
  iterate 2 refine IW_assoc ?_
  refine IW_cut (fun E' st' => st' = upd st b (.cells true (cellsAS d1) N g) ∧ E' 0 = .slice (some ⟨b, 0, none⟩) d.size cap ∧ E' 1 = Val.i lo ∧ E' 9 = Val.i lo1 ∧ E' 10 = Val.i hi1) ?_ ?_
  · simp [go_sem]
    refine draw [0, 1, 2, 3, 4, 5, 6, 8, 9, 10, 7, 11, 12, 13, 14, 15] (by kernel_rfl) ?_
    simp [go_sem, h, hdl, gx, gy, l1, l2, l3, hp, p2, p3, hset, hw1, hw2]
  rintro E st' ⟨rfl, e0, e1, e9, e10⟩
  clear hx gx hy gy
  clear x y hset
  refine IW_cut (fun E' st' => st' = upd st b (.cells true (cellsAS R.2) N g) ∧ E' 9 = Val.i R.1) ?_ ?_
  · rw [IW_block, IW_loop]
    refine ⟨fun E st' => E 0 = .slice (some ⟨b, 0, none⟩) d.size cap ∧ E 1 = Val.i lo ∧ ∃ (i j : Nat) (m : Array ByteArray), E 9 = Val.i (i : Int) ∧ E 10 = Val.i (j : Int) ∧ lo < i ∧ j < hi ∧ m.size = d.size ∧ st' = upd st b (.cells true (cellsAS m) N g) ∧ Go.Sort.partEqLoop ltT lo i j m = R,
      fun E _ => match E 9, E 10 with | .int _ i, .int _ j => (j + 1 - i).toNat | _, _ => 0, ⟨_, .rfl' _, e0, e1, lo1, hi1, d1, e9, e10, by omega, by omega, hs1, rfl, hR⟩, ?_⟩
    clear e0 e1 e9 e10
    clear E
    rintro E st' ⟨e0, e1, i, j, m, e9, e10, hi0, hj0, hm, rfl, hs⟩
    have hml := cellsA_lengthS m
    rw [Go.Sort.partEqLoop_eq] at hs
    rw [IW_block]
    obtain ⟨y, hy⟩ : ∃ y, m[lo]! = y := ⟨_, rfl⟩
    have gy : ∀ h : lo < (cellsAS m).length, (cellsAS m)[lo] = .string y := fun h => by rw [← hy]; exact cellsA_elemS h
    have zi := e9
    have zj := e10
    obtain ⟨P1, hP1⟩ : ∃ P : ByteArray → Bool, (fun x => !ltT m[lo]! x) = P := ⟨_, rfl⟩
    obtain ⟨P2, hP2⟩ : ∃ P : ByteArray → Bool, (fun x => ltT m[lo]! x) = P := ⟨_, rfl⟩
    obtain ⟨i2, hi2⟩ : ∃ i2, Go.Sort.scanUp P1 m j i = i2 := ⟨_, rfl⟩
    have ii : i ≤ i2 := by rw [← hi2]; exact Go.Sort.scanUp_ge _ _ _ _
    refine IW_cut (fun E' st' => st' = upd st b (.cells true (cellsAS m) N g) ∧ E' 0 = .slice (some ⟨b, 0, none⟩) d.size cap ∧ E' 1 = Val.i lo ∧ E' 9 = Val.i (i2 : Int) ∧ E' 10 = Val.i (j : Int)) ?_ ?_
    · rw [IW_block, IW_loop]
      refine ⟨fun E st' => st' = upd st b (.cells true (cellsAS m) N g) ∧ E 0 = .slice (some ⟨b, 0, none⟩) d.size cap ∧ E 1 = Val.i lo ∧ E 10 = Val.i (j : Int) ∧ ∃ k : Nat, E 9 = Val.i (k : Int) ∧ i ≤ k ∧ Go.Sort.scanUp P1 m j k = i2,
        fun E _ => match E 9 with | .int _ z => j + 1 - z.toNat | _ => 0, ⟨_, .rfl' _, rfl, e0, e1, e10, i, e9, Nat.le_refl _, hi2⟩, ?_⟩
      clear e0 e1 e9 e10
      try clear zi zj
      clear E
      rintro E st' ⟨rfl, e0, e1, e10, k, e9, hk, hs2⟩
      simp [go_sem]
      refine draw [0, 1, 2, 3, 4, 5, 6, 8, 9, 10, 7, 11, 12, 13, 14] (by kernel_rfl) ?_
      by_cases c : k ≤ j
      · have kb1 : k < d.size := by omega
        have kb2 : k ≤ d.size := by omega
        have hwk : IntKind.i64.wrap ((k : Int) + 1) = ((k + 1 : Nat) : Int) := by rw [wrap_id (by omega) (by omega)]; omega
        obtain ⟨x, hx⟩ : ∃ x, m[k]! = x := ⟨_, rfl⟩
        have gx : ∀ h : k < (cellsAS m).length, (cellsAS m)[k] = .string x := fun h => by rw [← hx]; exact cellsA_elemS h
        rw [Go.Sort.scanUp] at hs2
        simp only [c, decide_true, Bool.true_and] at hs2
        have hcm : P1 m[k]! = (!ltT y x) := by rw [← hP1]; simp only [hx, hy]
        rw [hcm] at hs2
        simp [go_sem, e0, e1, e9, e10, c, kb1, kb2, l1, l2, gx, gy, hml, hm, upd_same]
        refine cmpLess_spec.mono ?_
        rintro e s2 ⟨rfl, rfl⟩
        cases hl : ltT y x with
        | true =>
          simp [hl] at hs2
          simp [go_sem, e0, e1, e9, e10, hl, hs2]
        | false =>
          simp [hl] at hs2
          simp [go_sem, e0, e1, e9, e10, hl, hwk]
          exact ⟨_, .rfl' _, ⟨rfl, k + 1, by simp, by omega, hs2⟩, by omega⟩
      · rw [Go.Sort.scanUp] at hs2
        simp [c] at hs2
        subst hs2
        simp [go_sem, e0, e1, e9, e10, c]
    rintro E st' ⟨rfl, e0, e1, e9, e10⟩
    obtain ⟨j2, hj2⟩ : ∃ j2, Go.Sort.scanDown P2 m i2 j = j2 := ⟨_, rfl⟩
    have jj : j2 ≤ j := by rw [← hj2]; exact Go.Sort.scanDown_le _ _ _ _
    refine IW_cut (fun E' st' => st' = upd st b (.cells true (cellsAS m) N g) ∧ E' 0 = .slice (some ⟨b, 0, none⟩) d.size cap ∧ E' 1 = Val.i lo ∧ E' 9 = Val.i (i2 : Int) ∧ E' 10 = Val.i (j2 : Int)) ?_ ?_
    · rw [IW_block, IW_loop]
      refine ⟨fun E st' => st' = upd st b (.cells true (cellsAS m) N g) ∧ E 0 = .slice (some ⟨b, 0, none⟩) d.size cap ∧ E 1 = Val.i lo ∧ E 9 = Val.i (i2 : Int) ∧ ∃ k : Nat, E 10 = Val.i (k : Int) ∧ k ≤ j ∧ Go.Sort.scanDown P2 m i2 k = j2,
        fun E _ => match E 10 with | .int _ z => z.toNat | _ => 0, ⟨_, .rfl' _, rfl, e0, e1, e9, j, e10, Nat.le_refl _, hj2⟩, ?_⟩
      clear e0 e1 e9 e10
      try clear zi zj
      clear E
      rintro E st' ⟨rfl, e0, e1, e9, k, e10, hk, hs2⟩
      simp [go_sem]
      refine draw [0, 1, 2, 3, 4, 5, 6, 8, 9, 10, 7, 11, 12, 13] (by kernel_rfl) ?_
      by_cases c : i2 ≤ k
      · have kb1 : k < d.size := by omega
        have kb2 : k ≤ d.size := by omega
        obtain ⟨k2, hk2⟩ : ∃ k2, k = k2 + 1 := ⟨k - 1, by omega⟩
        have hwk : IntKind.i64.wrap ((k : Int) - 1) = (k2 : Int) := by rw [wrap_id (by omega) (by omega)]; omega
        obtain ⟨x, hx⟩ : ∃ x, m[k]! = x := ⟨_, rfl⟩
        have gx : ∀ h : k < (cellsAS m).length, (cellsAS m)[k] = .string x := fun h => by rw [← hx]; exact cellsA_elemS h
        have hd2 : Go.Sort.scanDown P2 m i2 k = if (P2 m[k]!) = true then Go.Sort.scanDown P2 m i2 k2 else k := by
          subst hk2
          rw [Go.Sort.scanDown]
          simp only [c, decide_true, Bool.true_and]
        rw [hd2] at hs2
        have hcm : P2 m[k]! = (ltT y x) := by rw [← hP2]; simp only [hx, hy]
        rw [hcm] at hs2
        simp [go_sem, e0, e1, e9, e10, c, kb1, kb2, l1, l2, gx, gy, hml, hm, upd_same]
        refine cmpLess_spec.mono ?_
        rintro e s2 ⟨rfl, rfl⟩
        cases hl : ltT y x with
        | false =>
          simp [hl] at hs2
          simp [go_sem, e0, e1, e9, e10, hl, hs2]
        | true =>
          simp [hl] at hs2
          simp [go_sem, e0, e1, e9, e10, hl, hwk]
          exact ⟨_, .rfl' _, ⟨rfl, k2, by simp, by omega, hs2⟩, by omega⟩
      · have hs2 : k = j2 := by
          rw [← hs2]
          cases k with
          | zero => rfl
          | succ k => rw [Go.Sort.scanDown]; simp [c]
        subst hs2
        simp [go_sem, e0, e1, e9, e10, c]
    rintro E st' ⟨rfl, e0, e1, e9, e10⟩
    rw [hP1, hP2, hi2, hj2] at hs
    by_cases c : j2 < i2
    · rw [if_pos (show i2 > j2 from c)] at hs
      subst hs
      simp [go_sem, e0, e1, e9, e10, c]
    · rw [if_neg (show ¬ i2 > j2 from c)] at hs
      have hwi : IntKind.i64.wrap ((i2 : Int) + 1) = ((i2 + 1 : Nat) : Int) := by rw [wrap_id (by omega) (by omega)]; omega
      have hwj : IntKind.i64.wrap ((j2 : Int) - 1) = ((j2 - 1 : Nat) : Int) := by rw [wrap_id (by omega) (by omega)]; omega
      have u1 : i2 < d.size := by omega
      have u2 : i2 ≤ d.size := by omega
      have u3 : i2 < N := by omega
      have v1 : j2 < d.size := by omega
      have v2 : j2 ≤ d.size := by omega
      have v3 : j2 < N := by omega
      obtain ⟨x, hx⟩ : ∃ x, m[i2]! = x := ⟨_, rfl⟩
      have gx : ∀ h : i2 < (cellsAS m).length, (cellsAS m)[i2] = .string x := fun h => by rw [← hx]; exact cellsA_elemS h
      obtain ⟨z, hz⟩ : ∃ z, m[j2]! = z := ⟨_, rfl⟩
      have gz : ∀ h : j2 < (cellsAS m).length, (cellsAS m)[j2] = .string z := fun h => by rw [← hz]; exact cellsA_elemS h
      have hset := cellsA_swpS m i2 j2
      rw [hx, hz] at hset
      simp [go_sem, e0, e1, e9, e10, c, hwi, hwj, zi, zj]
      refine draw [0, 1, 2, 3, 4, 5, 6, 8, 9, 10, 7, 11, 12, 13, 14, 15] (by kernel_rfl) ?_
      simp [go_sem, e0, e1, e9, e10, c, hwi, hwj, zi, zj, u1, u2, u3, v1, v2, v3, gx, gz, hml, hm, upd_same, hset]
      exact ⟨_, .rfl' _, ⟨i2 + 1, by simp, j2 - 1, rfl, by omega, by omega, Go.Sort.swp m i2 j2, by rw [Go.Sort.size_swp, hm], rfl, hs⟩, by omega⟩
  · rintro E st' ⟨rfl, e9⟩
    simp [go_sem, e9]
end
end Go.Proofs.YtadgciaclhjjkaaGreat
set_option linter.unusedVariables false
set_option linter.unusedSimpArgs false
set_option maxRecDepth 100000
set_option maxHeartbeats 4000000
namespace Go.Proofs.YtadgciaclhjjkaaGreat
open Go.RowKit (Below)
section
variable {W0 : World} {st : Heap}
theorem partS_spec {b N cap lo hi p : Nat} {d : Array ByteArray} {g : Tg} (h : st b = some (.cells true (cellsAS d) N g)) (hN : d.size ≤ N) (hn : d.size < 2 ^ 50) (hlo : lo < hi) (hhi : hi ≤ d.size) (hp : p < d.size) :
    ICalls Tryz.prog W0 203 #[.slice (some ⟨b, 0, none⟩) d.size cap, Val.i lo, Val.i hi, Val.i p] st fun e st' => e = .returned (.tuple #[Val.i (Go.Sort.partition ltT d lo hi p).1, .bool (Go.Sort.partition ltT d lo hi p).2.1]) ∧ st' = upd st b (.cells true (cellsAS (Go.Sort.partition ltT d lo hi p).2.2) N g) := by
  obtain ⟨m, hd1⟩ : ∃ d1, Go.Sort.swp d lo p = d1 := ⟨_, rfl⟩
  have hm : m.size = d.size := by rw [← hd1, Go.Sort.size_swp]
  have hml := cellsA_lengthS m
  obtain ⟨R, hR⟩ : ∃ R, Go.Sort.partition ltT d lo hi p = R := ⟨_, rfl⟩
  rw [hR]
  unfold Go.Sort.partition at hR
  simp only [hd1] at hR
  have l1 : lo < d.size := by omega
  have l2 : lo ≤ d.size := by omega
  have l3 : lo < N := by omega
  have p2 : p ≤ d.size := by omega
  have p3 : p < N := by omega
  have hw1 : IntKind.i64.wrap ((lo : Int) + 1) = ((lo + 1 : Nat) : Int) := by rw [wrap_id (by omega) (by omega)]; omega
  have hw2 : IntKind.i64.wrap ((hi : Int) - 1) = ((hi - 1 : Nat) : Int) := by rw [wrap_id (by omega) (by omega)]; omega
  have hdl := cellsA_lengthS d
  obtain ⟨x, hx⟩ : ∃ x, d[lo]! = x := ⟨_, rfl⟩
  have gx : ∀ h : lo < (cellsAS d).length, (cellsAS d)[lo] = .string x := fun h => by rw [← hx]; exact cellsA_elemS h
  obtain ⟨y, hy⟩ : ∃ y, d[p]! = y := ⟨_, rfl⟩
  have gy : ∀ h : p < (cellsAS d).length, (cellsAS d)[p] = .string y := fun h => by rw [← hy]; exact cellsA_elemS h
  have hset := cellsA_swpS d lo p
  rw [hx, hy, hd1] at hset
  generalize hlo1 : lo + 1 = i at *
  generalize hhi1 : hi - 1 = j at *
  have hi0 : lo < i := by omega
  have hj0 : j < hi := by omega
  refine enter (args := [_, _, _, _]) Tryz.func203 rfl ?_
  iterate 2 refine IW_assoc ?_
  refine IW_cut (fun E' st' => st' = upd st b (.cells true (cellsAS m) N g) ∧ E' 0 = .slice (some ⟨b, 0, none⟩) d.size cap ∧ E' 1 = Val.i lo ∧ E' 10 = Val.i i ∧ E' 11 = Val.i j) ?_ ?_
  · simp [go_sem]
    refine draw [0, 1, 2, 3, 4, 5, 6, 8, 9, 10, 7, 11, 12, 13, 14, 15] (by kernel_rfl) ?_
    simp [go_sem, h, hdl, gx, gy, l1, l2, l3, hp, p2, p3, hset, hw1, hw2]
  rintro E st' ⟨rfl, e0, e1, e10, e11⟩
  clear hx gx hy gy
  clear x y hset
  obtain ⟨y, hy⟩ : ∃ y, m[lo]! = y := ⟨_, rfl⟩
  have gy : ∀ h : lo < (cellsAS m).length, (cellsAS m)[lo] = .string y := fun h => by rw [← hy]; exact cellsA_elemS h
  have zi := e10
  have zj := e11
  obtain ⟨P1, hP1⟩ : ∃ P : ByteArray → Bool, (fun x => ltT x m[lo]!) = P := ⟨_, rfl⟩
  obtain ⟨P2, hP2⟩ : ∃ P : ByteArray → Bool, (fun x => !ltT x m[lo]!) = P := ⟨_, rfl⟩
  obtain ⟨i2, hi2⟩ : ∃ i2, Go.Sort.scanUp P1 m j i = i2 := ⟨_, rfl⟩
  have ii : i ≤ i2 := by rw [← hi2]; exact Go.Sort.scanUp_ge _ _ _ _
  refine IW_cut (fun E' st' => st' = upd st b (.cells true (cellsAS m) N g) ∧ E' 0 = .slice (some ⟨b, 0, none⟩) d.size cap ∧ E' 1 = Val.i lo ∧ E' 10 = Val.i (i2 : Int) ∧ E' 11 = Val.i (j : Int)) ?_ ?_
  · rw [IW_block, IW_loop]
    refine ⟨fun E st' => st' = upd st b (.cells true (cellsAS m) N g) ∧ E 0 = .slice (some ⟨b, 0, none⟩) d.size cap ∧ E 1 = Val.i lo ∧ E 11 = Val.i (j : Int) ∧ ∃ k : Nat, E 10 = Val.i (k : Int) ∧ i ≤ k ∧ Go.Sort.scanUp P1 m j k = i2,
      fun E _ => match E 10 with | .int _ z => j + 1 - z.toNat | _ => 0, ⟨_, .rfl' _, rfl, e0, e1, e11, i, e10, Nat.le_refl _, hi2⟩, ?_⟩
    clear e0 e1 e10 e11
    try clear zi zj
    clear E
    rintro E st' ⟨rfl, e0, e1, e11, k, e10, hk, hs2⟩
    simp [go_sem]
    refine draw [0, 1, 2, 3, 4, 5, 6, 8, 9, 10, 7, 11, 12, 13] (by kernel_rfl) ?_
    by_cases c : k ≤ j
    · have kb1 : k < d.size := by omega
      have kb2 : k ≤ d.size := by omega
      have hwk : IntKind.i64.wrap ((k : Int) + 1) = ((k + 1 : Nat) : Int) := by rw [wrap_id (by omega) (by omega)]; omega
      obtain ⟨x, hx⟩ : ∃ x, m[k]! = x := ⟨_, rfl⟩
      have gx : ∀ h : k < (cellsAS m).length, (cellsAS m)[k] = .string x := fun h => by rw [← hx]; exact cellsA_elemS h
      rw [Go.Sort.scanUp] at hs2
      simp only [c, decide_true, Bool.true_and] at hs2
      have hcm : P1 m[k]! = (ltT x y) := by rw [← hP1]; simp only [hx, hy]
      rw [hcm] at hs2
      simp [go_sem, e0, e1, e10, e11, c, kb1, kb2, l1, l2, gx, gy, hml, hm, upd_same]
      refine cmpLess_spec.mono ?_
      rintro e s2 ⟨rfl, rfl⟩
      cases hl : ltT x y with
      | false =>
        simp [hl] at hs2
        simp [go_sem, e0, e1, e10, e11, hl, hs2]
      | true =>
        simp [hl] at hs2
        simp [go_sem, e0, e1, e10, e11, hl, hwk]
        exact ⟨_, .rfl' _, ⟨rfl, k + 1, by simp, by omega, hs2⟩, by omega⟩
    · rw [Go.Sort.scanUp] at hs2
      simp [c] at hs2
      subst hs2
      simp [go_sem, e0, e1, e10, e11, c]
  rintro E st' ⟨rfl, e0, e1, e10, e11⟩
  obtain ⟨j2, hj2⟩ : ∃ j2, Go.Sort.scanDown P2 m i2 j = j2 := ⟨_, rfl⟩
  have jj : j2 ≤ j := by rw [← hj2]; exact Go.Sort.scanDown_le _ _ _ _
  refine IW_cut (fun E' st' => st' = upd st b (.cells true (cellsAS m) N g) ∧ E' 0 = .slice (some ⟨b, 0, none⟩) d.size cap ∧ E' 1 = Val.i lo ∧ E' 10 = Val.i (i2 : Int) ∧ E' 11 = Val.i (j2 : Int)) ?_ ?_
  · rw [IW_block, IW_loop]
    refine ⟨fun E st' => st' = upd st b (.cells true (cellsAS m) N g) ∧ E 0 = .slice (some ⟨b, 0, none⟩) d.size cap ∧ E 1 = Val.i lo ∧ E 10 = Val.i (i2 : Int) ∧ ∃ k : Nat, E 11 = Val.i (k : Int) ∧ k ≤ j ∧ Go.Sort.scanDown P2 m i2 k = j2,
      fun E _ => match E 11 with | .int _ z => z.toNat | _ => 0, ⟨_, .rfl' _, rfl, e0, e1, e10, j, e11, Nat.le_refl _, hj2⟩, ?_⟩
    clear e0 e1 e10 e11
    try clear zi zj
    clear E
    rintro E st' ⟨rfl, e0, e1, e10, k, e11, hk, hs2⟩
    simp [go_sem]
    refine draw [0, 1, 2, 3, 4, 5, 6, 8, 9, 10, 7, 11, 12, 13, 14] (by kernel_rfl) ?_
    by_cases c : i2 ≤ k
    · have kb1 : k < d.size := by omega
      have kb2 : k ≤ d.size := by omega
      obtain ⟨k2, hk2⟩ : ∃ k2, k = k2 + 1 := ⟨k - 1, by omega⟩
      have hwk : IntKind.i64.wrap ((k : Int) - 1) = (k2 : Int) := by rw [wrap_id (by omega) (by omega)]; omega
      obtain ⟨x, hx⟩ : ∃ x, m[k]! = x := ⟨_, rfl⟩
      have gx : ∀ h : k < (cellsAS m).length, (cellsAS m)[k] = .string x := fun h => by rw [← hx]; exact cellsA_elemS h
      have hd2 : Go.Sort.scanDown P2 m i2 k = if (P2 m[k]!) = true then Go.Sort.scanDown P2 m i2 k2 else k := by
        subst hk2
        rw [Go.Sort.scanDown]
        simp only [c, decide_true, Bool.true_and]
      rw [hd2] at hs2
      have hcm : P2 m[k]! = (!ltT x y) := by rw [← hP2]; simp only [hx, hy]
      rw [hcm] at hs2
      simp [go_sem, e0, e1, e10, e11, c, kb1, kb2, l1, l2, gx, gy, hml, hm, upd_same]
      refine cmpLess_spec.mono ?_
      rintro e s2 ⟨rfl, rfl⟩
      cases hl : ltT x y with
      | true =>
        simp [hl] at hs2
        simp [go_sem, e0, e1, e10, e11, hl, hs2]
      | false =>
        simp [hl] at hs2
        simp [go_sem, e0, e1, e10, e11, hl, hwk]
        exact ⟨_, .rfl' _, ⟨rfl, k2, by simp, by omega, hs2⟩, by omega⟩
    · have hs2 : k = j2 := by
        rw [← hs2]
        cases k with
        | zero => rfl
        | succ k => rw [Go.Sort.scanDown]; simp [c]
      subst hs2
      simp [go_sem, e0, e1, e10, e11, c]
  rintro E st' ⟨rfl, e0, e1, e10, e11⟩
  rw [hP1, hP2, hi2, hj2] at hR
  iterate 3 refine IW_assoc ?_
  refine IW_cut' (fun E' st' => ¬ j2 < i2 ∧ st' = upd st b (.cells true (cellsAS (Go.Sort.swp m i2 j2)) N g) ∧ E' 0 = .slice (some ⟨b, 0, none⟩) d.size cap ∧ E' 1 = Val.i lo ∧ E' 10 = Val.i ((i2 + 1 : Nat) : Int) ∧ E' 11 = Val.i ((j2 - 1 : Nat) : Int)) ?_ ?_
  · by_cases c : j2 < i2
    · rw [if_pos (show i2 > j2 from c)] at hR
      subst hR
      have u1 : j2 < d.size := by omega
      have u2 : j2 ≤ d.size := by omega
      have u3 : j2 < N := by omega
      have v1 : lo < d.size := by omega
      have v2 : lo ≤ d.size := by omega
      have v3 : lo < N := by omega
      obtain ⟨x, hx⟩ : ∃ x, m[j2]! = x := ⟨_, rfl⟩
      have gx : ∀ h : j2 < (cellsAS m).length, (cellsAS m)[j2] = .string x := fun h => by rw [← hx]; exact cellsA_elemS h
      obtain ⟨z, hz⟩ : ∃ z, m[lo]! = z := ⟨_, rfl⟩
      have gz : ∀ h : lo < (cellsAS m).length, (cellsAS m)[lo] = .string z := fun h => by rw [← hz]; exact cellsA_elemS h
      have hset := cellsA_swpS m j2 lo
      rw [hx, hz] at hset
      simp [go_sem, e0, e1, e10, e11, c]
      refine draw [0, 1, 2, 3, 4, 5, 6, 8, 9, 10, 7, 11, 12, 13, 14, 15] (by kernel_rfl) ?_
      simp [go_sem, e0, e1, e10, e11, c, u1, u2, u3, v1, v2, v3, gx, gz, hml, hm, upd_same, hset]
    · clear hR
      have hwi : IntKind.i64.wrap ((i2 : Int) + 1) = ((i2 + 1 : Nat) : Int) := by rw [wrap_id (by omega) (by omega)]; omega
      have hwj : IntKind.i64.wrap ((j2 : Int) - 1) = ((j2 - 1 : Nat) : Int) := by rw [wrap_id (by omega) (by omega)]; omega
      have u1 : i2 < d.size := by omega
      have u2 : i2 ≤ d.size := by omega
      have u3 : i2 < N := by omega
      have v1 : j2 < d.size := by omega
      have v2 : j2 ≤ d.size := by omega
      have v3 : j2 < N := by omega
      obtain ⟨x, hx⟩ : ∃ x, m[i2]! = x := ⟨_, rfl⟩
      have gx : ∀ h : i2 < (cellsAS m).length, (cellsAS m)[i2] = .string x := fun h => by rw [← hx]; exact cellsA_elemS h
      obtain ⟨z, hz⟩ : ∃ z, m[j2]! = z := ⟨_, rfl⟩
      have gz : ∀ h : j2 < (cellsAS m).length, (cellsAS m)[j2] = .string z := fun h => by rw [← hz]; exact cellsA_elemS h
      have hset := cellsA_swpS m i2 j2
      rw [hx, hz] at hset
      simp [go_sem, e0, e1, e10, e11, c, hwi, hwj]
      refine draw [0, 1, 2, 3, 4, 5, 6, 8, 9, 10, 7, 11, 12, 13, 14, 15] (by kernel_rfl) ?_
      simp [go_sem, e0, e1, e10, e11, c, hwi, hwj, u1, u2, u3, v1, v2, v3, gx, gz, hml, hm, upd_same, hset]
  rintro E st' ⟨c, rfl, e0, e1, e10, e11⟩
  rw [if_neg (show ¬ i2 > j2 from c)] at hR
  obtain ⟨m1, hm1⟩ : ∃ m1, Go.Sort.swp m i2 j2 = m1 := ⟨_, rfl⟩
  have hms : m1.size = d.size := by rw [← hm1, Go.Sort.size_swp, hm]
  rw [hm1] at hR ⊢
  obtain ⟨Q, hQ⟩ : ∃ Q, Go.Sort.partLoop ltT lo (i2 + 1) (j2 - 1) m1 = Q := ⟨_, rfl⟩
  rw [hQ] at hR
  subst hR
  have b1 : lo < i2 + 1 := by omega
  have b2 : j2 - 1 < hi := by omega
  generalize i2 + 1 = i0 at *
  generalize j2 - 1 = j0 at *
  refine IW_cut (fun E' st' => st' = upd st b (.cells true (cellsAS Q.2) N g) ∧ Q.2.size = d.size ∧ Q.1 < hi ∧ E' 0 = .slice (some ⟨b, 0, none⟩) d.size cap ∧ E' 1 = Val.i lo ∧ E' 11 = Val.i Q.1) ?_ ?_
  · rw [IW_block, IW_loop]
    refine ⟨fun E st' => E 0 = .slice (some ⟨b, 0, none⟩) d.size cap ∧ E 1 = Val.i lo ∧ ∃ (i j : Nat) (m : Array ByteArray), E 10 = Val.i (i : Int) ∧ E 11 = Val.i (j : Int) ∧ lo < i ∧ j < hi ∧ m.size = d.size ∧ st' = upd st b (.cells true (cellsAS m) N g) ∧ Go.Sort.partLoop ltT lo i j m = Q,
      fun E _ => match E 10, E 11 with | .int _ i, .int _ j => (j + 1 - i).toNat | _, _ => 0, ⟨_, .rfl' _, e0, e1, i0, j0, m1, e10, e11, b1, b2, hms, rfl, hQ⟩, ?_⟩
    clear e0 e1 e10 e11
    clear E
    rintro E st' ⟨e0, e1, i, j, m, e10, e11, hi0, hj0, hm, rfl, hs⟩
    have hml := cellsA_lengthS m
    rw [Go.Sort.partLoop_eq] at hs
    rw [IW_block]
    obtain ⟨y, hy⟩ : ∃ y, m[lo]! = y := ⟨_, rfl⟩
    have gy : ∀ h : lo < (cellsAS m).length, (cellsAS m)[lo] = .string y := fun h => by rw [← hy]; exact cellsA_elemS h
    have zi := e10
    have zj := e11
    obtain ⟨P1, hP1⟩ : ∃ P : ByteArray → Bool, (fun x => ltT x m[lo]!) = P := ⟨_, rfl⟩
    obtain ⟨P2, hP2⟩ : ∃ P : ByteArray → Bool, (fun x => !ltT x m[lo]!) = P := ⟨_, rfl⟩
    obtain ⟨i2, hi2⟩ : ∃ i2, Go.Sort.scanUp P1 m j i = i2 := ⟨_, rfl⟩
    have ii : i ≤ i2 := by rw [← hi2]; exact Go.Sort.scanUp_ge _ _ _ _
    refine IW_cut (fun E' st' => st' = upd st b (.cells true (cellsAS m) N g) ∧ E' 0 = .slice (some ⟨b, 0, none⟩) d.size cap ∧ E' 1 = Val.i lo ∧ E' 10 = Val.i (i2 : Int) ∧ E' 11 = Val.i (j : Int)) ?_ ?_
    · rw [IW_block, IW_loop]
      refine ⟨fun E st' => st' = upd st b (.cells true (cellsAS m) N g) ∧ E 0 = .slice (some ⟨b, 0, none⟩) d.size cap ∧ E 1 = Val.i lo ∧ E 11 = Val.i (j : Int) ∧ ∃ k : Nat, E 10 = Val.i (k : Int) ∧ i ≤ k ∧ Go.Sort.scanUp P1 m j k = i2,
        fun E _ => match E 10 with | .int _ z => j + 1 - z.toNat | _ => 0, ⟨_, .rfl' _, rfl, e0, e1, e11, i, e10, Nat.le_refl _, hi2⟩, ?_⟩
      clear e0 e1 e10 e11
      try clear zi zj
      clear E
      rintro E st' ⟨rfl, e0, e1, e11, k, e10, hk, hs2⟩
      simp [go_sem]
      refine draw [0, 1, 2, 3, 4, 5, 6, 8, 9, 10, 7, 11, 12, 13] (by kernel_rfl) ?_
      by_cases c : k ≤ j
      · have kb1 : k < d.size := by omega
        have kb2 : k ≤ d.size := by omega
        have hwk : IntKind.i64.wrap ((k : Int) + 1) = ((k + 1 : Nat) : Int) := by rw [wrap_id (by omega) (by omega)]; omega
        obtain ⟨x, hx⟩ : ∃ x, m[k]! = x := ⟨_, rfl⟩
        have gx : ∀ h : k < (cellsAS m).length, (cellsAS m)[k] = .string x := fun h => by rw [← hx]; exact cellsA_elemS h
        rw [Go.Sort.scanUp] at hs2
        simp only [c, decide_true, Bool.true_and] at hs2
        have hcm : P1 m[k]! = (ltT x y) := by rw [← hP1]; simp only [hx, hy]
        rw [hcm] at hs2
        simp [go_sem, e0, e1, e10, e11, c, kb1, kb2, l1, l2, gx, gy, hml, hm, upd_same]
        refine cmpLess_spec.mono ?_
        rintro e s2 ⟨rfl, rfl⟩
        cases hl : ltT x y with
        | false =>
          simp [hl] at hs2
          simp [go_sem, e0, e1, e10, e11, hl, hs2]
        | true =>
          simp [hl] at hs2
          simp [go_sem, e0, e1, e10, e11, hl, hwk]
          exact ⟨_, .rfl' _, ⟨rfl, k + 1, by simp, by omega, hs2⟩, by omega⟩
      · rw [Go.Sort.scanUp] at hs2
        simp [c] at hs2
        subst hs2
        simp [go_sem, e0, e1, e10, e11, c]
    rintro E st' ⟨rfl, e0, e1, e10, e11⟩
    obtain ⟨j2, hj2⟩ : ∃ j2, Go.Sort.scanDown P2 m i2 j = j2 := ⟨_, rfl⟩
    have jj : j2 ≤ j := by rw [← hj2]; exact Go.Sort.scanDown_le _ _ _ _
    refine IW_cut (fun E' st' => st' = upd st b (.cells true (cellsAS m) N g) ∧ E' 0 = .slice (some ⟨b, 0, none⟩) d.size cap ∧ E' 1 = Val.i lo ∧ E' 10 = Val.i (i2 : Int) ∧ E' 11 = Val.i (j2 : Int)) ?_ ?_
    · rw [IW_block, IW_loop]
      refine ⟨fun E st' => st' = upd st b (.cells true (cellsAS m) N g) ∧ E 0 = .slice (some ⟨b, 0, none⟩) d.size cap ∧ E 1 = Val.i lo ∧ E 10 = Val.i (i2 : Int) ∧ ∃ k : Nat, E 11 = Val.i (k : Int) ∧ k ≤ j ∧ Go.Sort.scanDown P2 m i2 k = j2,
        fun E _ => match E 11 with | .int _ z => z.toNat | _ => 0, ⟨_, .rfl' _, rfl, e0, e1, e10, j, e11, Nat.le_refl _, hj2⟩, ?_⟩
      clear e0 e1 e10 e11
      try clear zi zj
      clear E
      rintro E st' ⟨rfl, e0, e1, e10, k, e11, hk, hs2⟩
      simp [go_sem]
      refine draw [0, 1, 2, 3, 4, 5, 6, 8, 9, 10, 7, 11, 12, 13, 14] (by kernel_rfl) ?_
      by_cases c : i2 ≤ k
      · have kb1 : k < d.size := by omega
        have kb2 : k ≤ d.size := by omega
        obtain ⟨k2, hk2⟩ : ∃ k2, k = k2 + 1 := ⟨k - 1, by omega⟩
        have hwk : IntKind.i64.wrap ((k : Int) - 1) = (k2 : Int) := by rw [wrap_id (by omega) (by omega)]; omega
        obtain ⟨x, hx⟩ : ∃ x, m[k]! = x := ⟨_, rfl⟩
        have gx : ∀ h : k < (cellsAS m).length, (cellsAS m)[k] = .string x := fun h => by rw [← hx]; exact cellsA_elemS h
        have hd2 : Go.Sort.scanDown P2 m i2 k = if (P2 m[k]!) = true then Go.Sort.scanDown P2 m i2 k2 else k := by
          subst hk2
          rw [Go.Sort.scanDown]
          simp only [c, decide_true, Bool.true_and]
        rw [hd2] at hs2
        have hcm : P2 m[k]! = (!ltT x y) := by rw [← hP2]; simp only [hx, hy]
        rw [hcm] at hs2
        simp [go_sem, e0, e1, e10, e11, c, kb1, kb2, l1, l2, gx, gy, hml, hm, upd_same]
        refine cmpLess_spec.mono ?_
        rintro e s2 ⟨rfl, rfl⟩
        cases hl : ltT x y with
        | true =>
          simp [hl] at hs2
          simp [go_sem, e0, e1, e10, e11, hl, hs2]
        | false =>
          simp [hl] at hs2
          simp [go_sem, e0, e1, e10, e11, hl, hwk]
          exact ⟨_, .rfl' _, ⟨rfl, k2, by simp, by omega, hs2⟩, by omega⟩
      · have hs2 : k = j2 := by
          rw [← hs2]
          cases k with
          | zero => rfl
          | succ k => rw [Go.Sort.scanDown]; simp [c]
        subst hs2
        simp [go_sem, e0, e1, e10, e11, c]
    rintro E st' ⟨rfl, e0, e1, e10, e11⟩
    rw [hP1, hP2, hi2, hj2] at hs
    by_cases c : j2 < i2
    · rw [if_pos (show i2 > j2 from c)] at hs
      subst hs
      simp [go_sem, e0, e1, e10, e11, c, hm]
      omega
    · rw [if_neg (show ¬ i2 > j2 from c)] at hs
      have hwi : IntKind.i64.wrap ((i2 : Int) + 1) = ((i2 + 1 : Nat) : Int) := by rw [wrap_id (by omega) (by omega)]; omega
      have hwj : IntKind.i64.wrap ((j2 : Int) - 1) = ((j2 - 1 : Nat) : Int) := by rw [wrap_id (by omega) (by omega)]; omega
      have u1 : i2 < d.size := by omega
      have u2 : i2 ≤ d.size := by omega
      have u3 : i2 < N := by omega
      have v1 : j2 < d.size := by omega
      have v2 : j2 ≤ d.size := by omega
      have v3 : j2 < N := by omega
      obtain ⟨x, hx⟩ : ∃ x, m[i2]! = x := ⟨_, rfl⟩
      have gx : ∀ h : i2 < (cellsAS m).length, (cellsAS m)[i2] = .string x := fun h => by rw [← hx]; exact cellsA_elemS h
      obtain ⟨z, hz⟩ : ∃ z, m[j2]! = z := ⟨_, rfl⟩
      have gz : ∀ h : j2 < (cellsAS m).length, (cellsAS m)[j2] = .string z := fun h => by rw [← hz]; exact cellsA_elemS h
      have hset := cellsA_swpS m i2 j2
      rw [hx, hz] at hset
      simp [go_sem, e0, e1, e10, e11, c, hwi, hwj, zi, zj]
      refine draw [0, 1, 2, 3, 4, 5, 6, 8, 9, 10, 7, 11, 12, 13, 14, 15] (by kernel_rfl) ?_
      simp [go_sem, e0, e1, e10, e11, c, hwi, hwj, zi, zj, u1, u2, u3, v1, v2, v3, gx, gz, hml, hm, upd_same, hset]
      exact ⟨_, .rfl' _, ⟨i2 + 1, by simp, j2 - 1, rfl, by omega, by omega, Go.Sort.swp m i2 j2, by rw [Go.Sort.size_swp, hm], rfl, hs⟩, by omega⟩
  · rintro E st' ⟨rfl, hm, hq, e0, e1, e11⟩
    obtain ⟨q, m⟩ := Q
    simp only at hm hq e11 ⊢
    have hml := cellsA_lengthS m
    have u1 : q < d.size := by omega
    have u2 : q ≤ d.size := by omega
    have u3 : q < N := by omega
    have v1 : lo < d.size := by omega
    have v2 : lo ≤ d.size := by omega
    have v3 : lo < N := by omega
    obtain ⟨x, hx⟩ : ∃ x, m[q]! = x := ⟨_, rfl⟩
    have gx : ∀ h : q < (cellsAS m).length, (cellsAS m)[q] = .string x := fun h => by rw [← hx]; exact cellsA_elemS h
    obtain ⟨z, hz⟩ : ∃ z, m[lo]! = z := ⟨_, rfl⟩
    have gz : ∀ h : lo < (cellsAS m).length, (cellsAS m)[lo] = .string z := fun h => by rw [← hz]; exact cellsA_elemS h
    have hset := cellsA_swpS m q lo
    rw [hx, hz] at hset
    simp [go_sem, e0, e1, e11, l1]
    refine draw [0, 1, 2, 3, 4, 5, 6, 8, 9, 10, 7, 11, 12, 13, 14, 15] (by kernel_rfl) ?_
    simp [go_sem, e0, e1, e11, l1, u1, u2, u3, v1, v2, v3, gx, gz, hml, hm, upd_same, hset]
end
end Go.Proofs.YtadgciaclhjjkaaGreat
set_option linter.unusedVariables false
set_option linter.unusedSimpArgs false
set_option maxRecDepth 100000
set_option maxHeartbeats 4000000
namespace Go.Proofs.YtadgciaclhjjkaaGreat
open Go.RowKit (Below)
theorem shiftDown_sizeS (k : Nat) (d : Array ByteArray) : (Go.Sort.shiftDown ltT k d).size = d.size := by
  fun_induction Go.Sort.shiftDown ltT k d <;> simp_all [Go.Sort.size_swp]
theorem shiftUp_sizeS (b k : Nat) (d : Array ByteArray) : (Go.Sort.shiftUp ltT b k d).size = d.size := by
  fun_induction Go.Sort.shiftUp ltT b k d <;> simp_all [Go.Sort.size_swp]
theorem scanSorted_rangeS {d : Array ByteArray} {b i : Nat} (h : i ≤ b) : i ≤ Go.Sort.scanSorted ltT d b i ∧ Go.Sort.scanSorted ltT d b i ≤ b := by
  fun_induction Go.Sort.scanSorted ltT d b i with
  | case1 i h1 ih => simp at h1; have := ih (by omega); omega
  | case2 i h1 => omega
section
variable {W0 : World} {st : Heap}
theorem partInsS_spec {b N cap lo hi : Nat} {d : Array ByteArray} {g : Tg} (h : st b = some (.cells true (cellsAS d) N g)) (hN : d.size ≤ N) (hn : d.size < 2 ^ 50) (hlo : lo < hi) (hhi : hi ≤ d.size) :
    ICalls Tryz.prog W0 200 #[.slice (some ⟨b, 0, none⟩) d.size cap, Val.i lo, Val.i hi] st fun e st' => e = .returned (.bool (Go.Sort.partialInsertionSort ltT d lo hi).2) ∧ st' = upd st b (.cells true (cellsAS (Go.Sort.partialInsertionSort ltT d lo hi).1) N g) := by
  obtain ⟨R, hR⟩ : ∃ R, Go.Sort.partialInsertionSort ltT d lo hi = R := ⟨_, rfl⟩
  rw [hR]
  unfold Go.Sort.partialInsertionSort at hR
  have hw1 : IntKind.i64.wrap ((lo : Int) + 1) = ((lo + 1 : Nat) : Int) := by rw [wrap_id (by omega) (by omega)]; omega
  refine enter (args := [_, _, _]) Tryz.func200 rfl ?_
  refine IW_assoc ?_
  refine IW_cut (fun E' st' => st' = upd st b (.cells true (cellsAS d) N g) ∧ E' 0 = .slice (some ⟨b, 0, none⟩) d.size cap ∧ E' 1 = Val.i lo ∧ E' 2 = Val.i hi ∧ E' 7 = Val.i ((lo + 1 : Nat) : Int)) ?_ ?_
  · rw [upd_self h]
    simp [go_sem, hw1]
  rintro E st' ⟨rfl, e0, e1, e2, e7⟩
  refine IW_cut' (fun E' st' => R.2 = false ∧ st' = upd st b (.cells true (cellsAS R.1) N g)) ?_ ?_
  rotate_left
  · rintro E st' ⟨hr, rfl⟩
    simp [go_sem, hr]
  refine IW_cut (fun E' st' => st' = upd st b (.cells true (cellsAS d) N g) ∧ E' 0 = .slice (some ⟨b, 0, none⟩) d.size cap ∧ E' 1 = Val.i lo ∧ E' 2 = Val.i hi ∧ E' 7 = Val.i ((lo + 1 : Nat) : Int) ∧ E' 8 = Val.i 0) ?_ ?_
  · simp [go_sem, e0, e1, e2, e7]
  rintro E st' ⟨rfl, e0, e1, e2, e7, e8⟩
  rw [IW_block, IW_loop]
  refine ⟨fun E st' => E 0 = .slice (some ⟨b, 0, none⟩) d.size cap ∧ E 1 = Val.i lo ∧ E 2 = Val.i hi ∧ ∃ (s i : Nat) (m : Array ByteArray), E 7 = Val.i (i : Int) ∧ E 8 = Val.i (5 - (s : Int)) ∧ s ≤ 5 ∧ lo < i ∧ i ≤ hi ∧ m.size = d.size ∧ st' = upd st b (.cells true (cellsAS m) N g) ∧ Go.Sort.partialIns ltT lo hi s i m = R,
    fun E _ => match E 8 with | .int _ i => (5 - i).toNat | _ => 0, ⟨_, .rfl' _, e0, e1, e2, 5, lo + 1, d, e7, e8, by omega, by omega, by omega, rfl, rfl, hR⟩, ?_⟩
  clear e0 e1 e2 e7 e8
  clear E
  rintro E st' ⟨e0, e1, e2, s, i, m, e7, e8, hs5, hi0, hi1, hm, rfl, hs⟩
  have hml := cellsA_lengthS m
  cases s with
  | zero =>
    rw [Go.Sort.partialIns] at hs
    subst hs
    simp [go_sem, e0, e1, e2, e7, e8]
  | succ s =>
  have hz8 : (5 : Int) - ((s + 1 : Nat) : Int) = 4 - (s : Int) := by omega
  rw [hz8] at e8
  have q5 : (4 - (s : Int) < 5) = True := eq_true (by omega)
  have zz := e8
  rw [Go.Sort.partialIns_succ] at hs
  have hi3 := scanSorted_rangeS (d := m) hi1
  obtain ⟨i2, hi2⟩ : ∃ i2, Go.Sort.scanSorted ltT m hi i = i2 := ⟨_, rfl⟩
  rw [hi2] at hs hi3
  refine IW_cut (fun E' st' => st' = upd st b (.cells true (cellsAS m) N g) ∧ E' 0 = .slice (some ⟨b, 0, none⟩) d.size cap ∧ E' 1 = Val.i lo ∧ E' 2 = Val.i hi ∧ E' 7 = Val.i (i : Int) ∧ E' 8 = Val.i (4 - (s : Int))) ?_ ?_
  · simp [go_sem, e0, e1, e2, e7, e8, q5]
  rintro E st' ⟨rfl, e0, e1, e2, e7, e8⟩
  obtain ⟨m1, hm1⟩ : ∃ m1, Go.Sort.swp m i2 (i2 - 1) = m1 := ⟨_, rfl⟩
  have hms1 : m1.size = d.size := by rw [← hm1, Go.Sort.size_swp, hm]
  obtain ⟨m2, hm2⟩ : ∃ m2, Go.Sort.fixDown ltT lo i2 m1 = m2 := ⟨_, rfl⟩
  have hms2 : m2.size = d.size := by rw [← hm2]; unfold Go.Sort.fixDown; split; rw [shiftDown_sizeS, hms1]; exact hms1
  obtain ⟨m3, hm3⟩ : ∃ m3, Go.Sort.fixUp ltT hi i2 m2 = m3 := ⟨_, rfl⟩
  have hms3 : m3.size = d.size := by rw [← hm3]; unfold Go.Sort.fixUp; split; rw [shiftUp_sizeS, hms2]; exact hms2
  rw [hm1, hm2, hm3] at hs
  refine IW_cut' (fun E' st' => i2 < hi ∧ Go.Sort.partialIns ltT lo hi s i2 m3 = R ∧ st' = upd st b (.cells true (cellsAS m3) N g) ∧ E' 0 = .slice (some ⟨b, 0, none⟩) d.size cap ∧ E' 1 = Val.i lo ∧ E' 2 = Val.i hi ∧ E' 7 = Val.i (i2 : Int) ∧ E' 8 = Val.i (4 - (s : Int))) ?_ ?_
  rotate_left
  · rintro E st' ⟨hlt, hs, rfl, e0, e1, e2, e7, e8⟩
    have hw8 : IntKind.i64.wrap (4 - (s : Int) + 1) = 5 - (s : Int) := by rw [wrap_id (by omega) (by omega)]; omega
    simp [go_sem, e0, e1, e2, e7, e8, hw8, zz]
    exact ⟨_, .rfl' _, ⟨s, i2, by simp, by simp, by omega, by omega, by omega, m3, hms3, rfl, hs⟩, by omega⟩
  rw [IW_block]
  refine IW_cut (fun E' st' => st' = upd st b (.cells true (cellsAS m) N g) ∧ E' 0 = .slice (some ⟨b, 0, none⟩) d.size cap ∧ E' 1 = Val.i lo ∧ E' 2 = Val.i hi ∧ E' 7 = Val.i (i2 : Int) ∧ E' 8 = Val.i (4 - (s : Int))) ?_ ?_
  · rw [IW_block, IW_loop]
    refine ⟨fun E st' => st' = upd st b (.cells true (cellsAS m) N g) ∧ E 0 = .slice (some ⟨b, 0, none⟩) d.size cap ∧ E 1 = Val.i lo ∧ E 2 = Val.i hi ∧ E 8 = Val.i (4 - (s : Int)) ∧ ∃ k : Nat, E 7 = Val.i (k : Int) ∧ i ≤ k ∧ Go.Sort.scanSorted ltT m hi k = i2,
      fun E _ => match E 7 with | .int _ z => hi - z.toNat | _ => 0, ⟨_, .rfl' _, rfl, e0, e1, e2, e8, i, e7, Nat.le_refl _, hi2⟩, ?_⟩
    clear e0 e1 e2 e7 e8
    clear E
    rintro E st' ⟨rfl, e0, e1, e2, e8, k, e7, hk, hs2⟩
    simp [go_sem]
    refine draw [0, 1, 2, 3, 4, 5, 6, 8, 9, 10, 11, 7, 12, 13, 14, 15] (by kernel_rfl) ?_
    rw [Go.Sort.scanSorted] at hs2
    by_cases c : k < hi
    · obtain ⟨k2, hk2⟩ : ∃ k2, k - 1 = k2 := ⟨_, rfl⟩
      have kb1 : k < d.size := by omega
      have kb2 : k ≤ d.size := by omega
      have kc1 : k2 < d.size := by omega
      have hwk : IntKind.i64.wrap ((k : Int) + 1) = ((k + 1 : Nat) : Int) := by rw [wrap_id (by omega) (by omega)]; omega
      have hwk2 : IntKind.i64.wrap ((k : Int) - 1) = (k2 : Int) := by rw [wrap_id (by omega) (by omega)]; omega
      obtain ⟨x, hx⟩ : ∃ x, m[k]! = x := ⟨_, rfl⟩
      have gx : ∀ h : k < (cellsAS m).length, (cellsAS m)[k] = .string x := fun h => by rw [← hx]; exact cellsA_elemS h
      obtain ⟨y, hy⟩ : ∃ y, m[k2]! = y := ⟨_, rfl⟩
      have gy : ∀ h : k2 < (cellsAS m).length, (cellsAS m)[k2] = .string y := fun h => by rw [← hy]; exact cellsA_elemS h
      simp only [c, decide_true, Bool.true_and, hk2, hx, hy] at hs2
      simp [go_sem, e0, e1, e2, e7, e8, c, kb1, kb2, kc1, hwk2, gx, gy, hml, hm, upd_same]
      refine cmpLess_spec.mono ?_
      rintro e s2 ⟨rfl, rfl⟩
      cases hl : ltT x y with
      | true =>
        simp [hl] at hs2
        simp [go_sem, e0, e1, e2, e7, e8, hl, hs2]
      | false =>
        simp [hl] at hs2
        simp [go_sem, e0, e1, e2, e7, e8, hl, hwk]
        exact ⟨_, .rfl' _, ⟨rfl, k + 1, by simp, by omega, hs2⟩, by omega⟩
    · simp [c] at hs2
      subst hs2
      simp [go_sem, e0, e1, e2, e7, e8, c]
  rintro E st' ⟨rfl, e0, e1, e2, e7, e8⟩
  iterate 2 refine IW_assoc ?_
  refine IW_cut' (fun E' st' => i2 < hi ∧ Go.Sort.partialIns ltT lo hi s i2 m3 = R ∧ st' = upd st b (.cells true (cellsAS m1) N g) ∧ E' 0 = .slice (some ⟨b, 0, none⟩) d.size cap ∧ E' 1 = Val.i lo ∧ E' 2 = Val.i hi ∧ E' 7 = Val.i (i2 : Int) ∧ E' 8 = Val.i (4 - (s : Int))) ?_ ?_
  · by_cases c : i2 = hi
    · rw [if_pos c] at hs
      subst c
      subst hs
      simp [go_sem, e0, e1, e2, e7, e8]
    rw [if_neg c] at hs
    have hlt : i2 < hi := by omega
    have hw50 : IntKind.i64.wrap ((hi : Int) - (lo : Int)) = ((hi - lo : Nat) : Int) := by rw [wrap_id (by omega) (by omega)]; omega
    have c' : ((i2 : Int) = hi) = False := eq_false (by omega)
    by_cases c2 : hi - lo < 50
    · rw [if_pos c2] at hs
      subst hs
      have q50 : (((hi - lo : Nat) : Int) < 50) = True := eq_true (by omega)
      simp [go_sem, e0, e1, e2, e7, e8, c, c', hw50, q50]
    rw [if_neg c2] at hs
    have q50 : (((hi - lo : Nat) : Int) < 50) = False := eq_false (by omega)
    obtain ⟨i3, hi3'⟩ : ∃ i3, i2 - 1 = i3 := ⟨_, rfl⟩
    rw [hi3'] at hm1
    have hwi : IntKind.i64.wrap ((i2 : Int) - 1) = (i3 : Int) := by rw [wrap_id (by omega) (by omega)]; omega
    have u1 : i2 < d.size := by omega
    have u2 : i2 ≤ d.size := by omega
    have u3 : i2 < N := by omega
    have v1 : i3 < d.size := by omega
    have v2 : i3 ≤ d.size := by omega
    have v3 : i3 < N := by omega
    obtain ⟨x, hx⟩ : ∃ x, m[i2]! = x := ⟨_, rfl⟩
    have gx : ∀ h : i2 < (cellsAS m).length, (cellsAS m)[i2] = .string x := fun h => by rw [← hx]; exact cellsA_elemS h
    obtain ⟨z, hz⟩ : ∃ z, m[i3]! = z := ⟨_, rfl⟩
    have gz : ∀ h : i3 < (cellsAS m).length, (cellsAS m)[i3] = .string z := fun h => by rw [← hz]; exact cellsA_elemS h
    have hset := cellsA_swpS m i2 i3
    rw [hx, hz] at hset
    simp [go_sem, e0, e1, e2, e7, e8, c, c', hw50, q50, hwi, hm1]
    refine draw [0, 1, 2, 3, 4, 5, 6, 7, 8, 10, 11, 12, 9, 13, 14, 15, 16, 17] (by kernel_rfl) ?_
    simp [go_sem, e0, e1, e2, e7, e8, c, c', hw50, q50, hwi, hm1, u1, u2, u3, v1, v2, v3, gx, gz, hml, hm, upd_same, hset]
    exact ⟨hlt, hs⟩
  rintro E st' ⟨hlt, hs, rfl, e0, e1, e2, e7, e8⟩
  have hml1 := cellsA_lengthS m1
  refine IW_cut (fun E' st' => st' = upd st b (.cells true (cellsAS m2) N g) ∧ E' 0 = .slice (some ⟨b, 0, none⟩) d.size cap ∧ E' 1 = Val.i lo ∧ E' 2 = Val.i hi ∧ E' 7 = Val.i (i2 : Int) ∧ E' 8 = Val.i (4 - (s : Int))) ?_ ?_
  · unfold Go.Sort.fixDown at hm2
    have hwl : IntKind.i64.wrap ((i2 : Int) - (lo : Int)) = ((i2 - lo : Nat) : Int) := by rw [wrap_id (by omega) (by omega)]; omega
    by_cases c : i2 - lo ≥ 2
    rotate_left
    · rw [if_neg c] at hm2
      subst hm2
      have q : ((2 : Int) ≤ ((i2 - lo : Nat) : Int)) = False := eq_false (by omega)
      simp [go_sem, e0, e1, e2, e7, e8, hwl, q]
    rw [if_pos c] at hm2
    have q : ((2 : Int) ≤ ((i2 - lo : Nat) : Int)) = True := eq_true (by omega)
    obtain ⟨i3, hi3'⟩ : ∃ i3, i2 - 1 = i3 := ⟨_, rfl⟩
    rw [hi3'] at hm2
    have hwi : IntKind.i64.wrap ((i2 : Int) - 1) = (i3 : Int) := by rw [wrap_id (by omega) (by omega)]; omega
    simp [go_sem, e0, e1, e2, e7, e8, hwl, q, hwi]
    refine ⟨fun E st' => E 0 = .slice (some ⟨b, 0, none⟩) d.size cap ∧ E 1 = Val.i lo ∧ E 2 = Val.i hi ∧ E 7 = Val.i (i2 : Int) ∧ E 8 = Val.i (4 - (s : Int)) ∧ ∃ (k : Nat) (m : Array ByteArray), E 9 = Val.i (k : Int) ∧ k < hi ∧ m.size = d.size ∧ st' = upd st b (.cells true (cellsAS m) N g) ∧ Go.Sort.shiftDown ltT k m = m2,
      fun E _ => match E 9 with | .int _ z => z.toNat | _ => 0, ⟨_, .rfl' _, by simp [go_sem, e0], by simp [go_sem, e1], by simp [go_sem, e2], by simp [go_sem, e7], by simp [go_sem, e8], i3, m1, by simp [go_sem], by omega, hms1, rfl, hm2⟩, ?_⟩
    clear e0 e1 e2 e7 e8
    clear E
    rintro E st' ⟨e0, e1, e2, e7, e8, k, m, e9, hk, hm, rfl, hs2⟩
    have hml := cellsA_lengthS m
    cases hkc : k with
    | zero =>
      subst hkc
      rw [Go.Sort.shiftDown] at hs2
      subst hs2
      simp [go_sem, e0, e1, e2, e7, e8, e9]
    | succ k2 =>
    have hwk2 : IntKind.i64.wrap ((k : Int) - 1) = (k2 : Int) := by rw [wrap_id (by omega) (by omega)]; omega
    have hsd : Go.Sort.shiftDown ltT k m = if !ltT m[k]! m[k2]! then m else Go.Sort.shiftDown ltT k2 (Go.Sort.swp m k k2) := by rw [hkc]; rfl
    rw [hsd] at hs2
    have k1 : ((1 : Int) ≤ (k : Int)) = True := eq_true (by omega)
    have u1 : k < d.size := by omega
    have u2 : k ≤ d.size := by omega
    have u3 : k < N := by omega
    have v1 : k2 < d.size := by omega
    have v2 : k2 ≤ d.size := by omega
    have v3 : k2 < N := by omega
    obtain ⟨x, hx⟩ : ∃ x, m[k]! = x := ⟨_, rfl⟩
    have gx : ∀ h : k < (cellsAS m).length, (cellsAS m)[k] = .string x := fun h => by rw [← hx]; exact cellsA_elemS h
    obtain ⟨y, hy⟩ : ∃ y, m[k2]! = y := ⟨_, rfl⟩
    have gy : ∀ h : k2 < (cellsAS m).length, (cellsAS m)[k2] = .string y := fun h => by rw [← hy]; exact cellsA_elemS h
    rw [hx, hy] at hs2
    have hset := cellsA_swpS m k k2
    rw [hx, hy] at hset
    simp [go_sem, e0, e1, e2, e7, e8, e9, k1]
    refine draw [0, 1, 2, 4, 5, 6, 7, 3, 8, 9, 10] (by kernel_rfl) ?_
    simp [go_sem, e0, e1, e2, e7, e8, e9, u1, u2, v1, v2, gx, gy, hml, hm, hwk2, upd_same]
    refine cmpLess_spec.mono ?_
    rintro e s2 ⟨rfl, rfl⟩
    cases hl : ltT x y with
    | false =>
      simp [hl] at hs2
      simp [go_sem, e0, e1, e2, e7, e8, e9, hl, hs2]
    | true =>
      simp [hl] at hs2
      simp [go_sem, e0, e1, e2, e7, e8, e9, hl]
      refine draw [0, 1, 2, 3, 4, 5, 6, 7, 8, 10, 11, 12, 9, 13, 14, 15, 16, 17] (by kernel_rfl) ?_
      simp [go_sem, e0, e1, e2, e7, e8, e9, u1, u2, u3, v1, v2, v3, gx, gy, hml, hm, hwk2, upd_same, hset]
      exact ⟨_, .rfl' _, ⟨k2, by simp, by omega, Go.Sort.swp m k k2, by rw [Go.Sort.size_swp, hm], rfl, hs2⟩, by omega⟩
  rintro E st' ⟨rfl, e0, e1, e2, e7, e8⟩
  have hml2 := cellsA_lengthS m2
  unfold Go.Sort.fixUp at hm3
  have hwl : IntKind.i64.wrap ((hi : Int) - (i2 : Int)) = ((hi - i2 : Nat) : Int) := by rw [wrap_id (by omega) (by omega)]; omega
  by_cases c : hi - i2 ≥ 2
  rotate_left
  · rw [if_neg c] at hm3
    subst hm3
    have q : ((2 : Int) ≤ ((hi - i2 : Nat) : Int)) = False := eq_false (by omega)
    simp [go_sem, e0, e1, e2, e7, e8, hwl, q]
    exact ⟨hlt, hs⟩
  rw [if_pos c] at hm3
  have q : ((2 : Int) ≤ ((hi - i2 : Nat) : Int)) = True := eq_true (by omega)
  obtain ⟨i3, hi3'⟩ : ∃ i3, i2 + 1 = i3 := ⟨_, rfl⟩
  rw [hi3'] at hm3
  have hwi : IntKind.i64.wrap ((i2 : Int) + 1) = (i3 : Int) := by rw [wrap_id (by omega) (by omega)]; omega
  simp [go_sem, e0, e1, e2, e7, e8, hwl, q, hwi]
  refine ⟨fun E st' => E 0 = .slice (some ⟨b, 0, none⟩) d.size cap ∧ E 1 = Val.i lo ∧ E 2 = Val.i hi ∧ E 7 = Val.i (i2 : Int) ∧ E 8 = Val.i (4 - (s : Int)) ∧ ∃ (k : Nat) (m : Array ByteArray), E 10 = Val.i (k : Int) ∧ 1 ≤ k ∧ m.size = d.size ∧ st' = upd st b (.cells true (cellsAS m) N g) ∧ Go.Sort.shiftUp ltT hi k m = m3,
    fun E _ => match E 10 with | .int _ z => hi - z.toNat | _ => 0, ⟨_, .rfl' _, by simp [go_sem, e0], by simp [go_sem, e1], by simp [go_sem, e2], by simp [go_sem, e7], by simp [go_sem, e8], i3, m2, by simp [go_sem], by omega, hms2, rfl, hm3⟩, ?_⟩
  clear e0 e1 e2 e7 e8
  clear E
  rintro E st' ⟨e0, e1, e2, e7, e8, k, m, e10, hk, hm, rfl, hs2⟩
  have hml := cellsA_lengthS m
  rw [Go.Sort.shiftUp] at hs2
  by_cases ck : k < hi
  rotate_left
  · rw [if_neg ck] at hs2
    subst hs2
    simp [go_sem, e0, e1, e2, e7, e8, e10, ck]
    exact ⟨hlt, hs⟩
  rw [if_pos ck] at hs2
  obtain ⟨k2, hkc⟩ : ∃ k2, k - 1 = k2 := ⟨_, rfl⟩
  rw [hkc] at hs2
  have hwk2 : IntKind.i64.wrap ((k : Int) - 1) = (k2 : Int) := by rw [wrap_id (by omega) (by omega)]; omega
  have hwk3 : IntKind.i64.wrap ((k : Int) + 1) = ((k + 1 : Nat) : Int) := by rw [wrap_id (by omega) (by omega)]; omega
  have u1 : k < d.size := by omega
  have u2 : k ≤ d.size := by omega
  have u3 : k < N := by omega
  have v1 : k2 < d.size := by omega
  have v2 : k2 ≤ d.size := by omega
  have v3 : k2 < N := by omega
  obtain ⟨x, hx⟩ : ∃ x, m[k]! = x := ⟨_, rfl⟩
  have gx : ∀ h : k < (cellsAS m).length, (cellsAS m)[k] = .string x := fun h => by rw [← hx]; exact cellsA_elemS h
  obtain ⟨y, hy⟩ : ∃ y, m[k2]! = y := ⟨_, rfl⟩
  have gy : ∀ h : k2 < (cellsAS m).length, (cellsAS m)[k2] = .string y := fun h => by rw [← hy]; exact cellsA_elemS h
  rw [hx, hy] at hs2
  have hset := cellsA_swpS m k k2
  rw [hx, hy] at hset
  simp [go_sem, e0, e1, e2, e7, e8, e10, ck]
  refine draw [0, 1, 2, 4, 5, 6, 7, 3, 8, 9, 10] (by kernel_rfl) ?_
  simp [go_sem, e0, e1, e2, e7, e8, e10, u1, u2, v1, v2, gx, gy, hml, hm, hwk2, upd_same]
  refine cmpLess_spec.mono ?_
  rintro e s2 ⟨rfl, rfl⟩
  cases hl : ltT x y with
  | false =>
    simp [hl] at hs2
    simp [go_sem, e0, e1, e2, e7, e8, e10, hl, hs2]
    exact ⟨hlt, hs⟩
  | true =>
    simp [hl] at hs2
    simp [go_sem, e0, e1, e2, e7, e8, e10, hl]
    refine draw [0, 1, 2, 3, 4, 5, 6, 7, 8, 10, 11, 12, 9, 13, 14, 15, 16, 17] (by kernel_rfl) ?_
    simp [go_sem, e0, e1, e2, e7, e8, e10, u1, u2, u3, v1, v2, v3, gx, gy, hml, hm, hwk2, hwk3, upd_same, hset]
    exact ⟨_, .rfl' _, ⟨k + 1, by simp, by omega, Go.Sort.swp m k k2, by rw [Go.Sort.size_swp, hm], rfl, hs2⟩, by omega⟩
end
end Go.Proofs.YtadgciaclhjjkaaGreat
