/- Sorting at most twelve strings by their order. -/
import Derived.Test.YtmgbknkjgfdllaaSortD
set_option linter.unusedVariables false
set_option linter.unusedSimpArgs false
set_option maxRecDepth 100000
set_option maxHeartbeats 1000000
namespace Go.Proofs.Ytmgbknkjgfdllaa
open Go.RowKit (Below)
section
variable {W0 : World} {st : Heap}
theorem isNaN_spec {a : ByteArray} : ICalls Try.prog W0 171 #[.string a] st fun e st' => e = .returned (.bool false) ∧ st' = st := by
  refine enter (args := [_]) Try.func171 rfl ?_
  simp [Try.f171, go_sem]
theorem cmpLess_spec {a b : ByteArray} : ICalls Try.prog W0 141 #[.string a, .string b] st fun e st' => e = .returned (.bool (ltT a b)) ∧ st' = st := by
  refine enter (args := [_, _]) Try.func141 rfl ?_
  simp [Try.f141, go_sem]
  refine isNaN_spec.mono ?_
  rintro e st1 ⟨rfl, rfl⟩
  simp [go_sem]
theorem insertionOrd_spec {b N cap : Nat} {cs : List ByteArray} {g : Tg} (h : st b = some (.cells true (cs.map .string) N g)) (hN : cs.length ≤ N) (hn : cs.length < 2 ^ 40) :
    ICalls Try.prog W0 135 #[.slice (some ⟨b, 0, none⟩) cs.length cap, .int .i64 0, .int .i64 cs.length] st fun e st' => e = .returned (.tuple #[]) ∧ st' = upd st b (.cells true ((isortM ltT cs (cs.length - 1) 1).map .string) N g) := by
  refine enter (args := [_, _, _]) Try.func135 rfl ?_
  simp [Try.f135, go_sem]
  refine ⟨fun E st' => E 0 = .slice (some ⟨b, 0, none⟩) cs.length cap ∧ E 1 = .int .i64 0 ∧ E 2 = .int .i64 cs.length ∧ ∃ (i : Nat) (l : List ByteArray), E 6 = .int .i64 i ∧ 1 ≤ i ∧ (i ≤ cs.length ∨ i = 1) ∧ l.length = cs.length ∧ (∀ x ∈ l, x ∈ cs) ∧ st' = upd st b (.cells true (l.map .string) N g) ∧ isortM ltT l (cs.length - i) i = isortM ltT cs (cs.length - 1) 1,
    fun E _ => match E 6 with | .int _ i => cs.length - i.toNat | _ => 0, ⟨st, .rfl' _, by simp [go_sem], by simp [go_sem], by simp [go_sem], 1, cs, by simp [go_sem]; decide, by omega, .inr rfl, rfl, fun x hx => hx, (upd_self h).symm, rfl⟩, ?_⟩
  rintro E st' ⟨e0, e1, e2, i, l, e8, hi1, hi2, hl, hmem, rfl, hsort⟩
  by_cases hlt : i < cs.length
  · have hlt' : (i : Int) < cs.length := by omega
    have hfuel : cs.length - i = (cs.length - (i + 1)) + 1 := by omega
    rw [hfuel] at hsort
    simp only [isortM] at hsort
    have hwi : IntKind.i64.wrap ((i : Int) + 1) = i + 1 := wrap_id (by omega) (by omega)
    simp [go_sem, e0, e1, e2, e8, hlt']
    refine ⟨fun E st' => E 0 = .slice (some ⟨b, 0, none⟩) cs.length cap ∧ E 1 = .int .i64 0 ∧ E 2 = .int .i64 cs.length ∧ E 6 = .int .i64 i ∧ ∃ (j : Nat) (m : List ByteArray), E 7 = .int .i64 j ∧ j ≤ i ∧ m.length = cs.length ∧ (∀ x ∈ m, x ∈ cs) ∧ st' = upd st b (.cells true (m.map .string) N g) ∧ downM ltT j m = downM ltT i l,
      fun E _ => match E 7 with | .int _ j => j.toNat | _ => 0, ⟨_, .rfl' _, by simp [go_sem, e0], by simp [go_sem, e1], by simp [go_sem, e2], by simp [go_sem, e8], i, l, by simp [go_sem, e8], Nat.le_refl _, hl, hmem, rfl, rfl⟩, ?_⟩
    clear e0 e1 e2 e8
    rintro E st' ⟨e0, e1, e2, e8, j, m, e9, hji, hml, hmm, rfl, hdown⟩
    simp [go_sem]
    refine draw [0, 1, 2, 3, 4, 5, 6, 8, 9, 10, 11, 7, 12, 13, 14] (by kernel_rfl) ?_
    by_cases hj : 0 < j
    · have hj' : (0 : Int) < j := by omega
      have hwj : IntKind.i64.wrap ((j : Int) - 1) = ((j - 1 : Nat) : Int) := by rw [wrap_id (by omega) (by omega)]; omega
      obtain ⟨x, hx⟩ : ∃ x, m[j]? = some x := ⟨_, List.getElem?_eq_getElem (by omega)⟩
      obtain ⟨y, hy⟩ : ∃ y, m[j - 1]? = some y := ⟨_, List.getElem?_eq_getElem (by omega)⟩
      have hjl : j < cs.length := by omega
      have hjl1 : j - 1 < cs.length := by omega
      simp [go_sem, e0, e1, e2, e8, e9, hj, hwj, hjl, hjl1, hx, hy]
      refine cmpLess_spec.mono ?_
      rintro e st1 ⟨rfl, rfl⟩
      obtain ⟨j', rfl⟩ : ∃ j', j = j' + 1 := ⟨j - 1, by omega⟩
      simp only [Nat.add_sub_cancel] at hy hwj hjl1
      have hL : downM ltT (j' + 1) m = if ltT x y = true then downM ltT j' (swapM m (j' + 1)) else m := by
        conv => lhs; unfold downM
        rw [hx, hy]
      rw [hL] at hdown
      cases hcmp : ltT x y with
      | true =>
        rw [if_pos hcmp] at hdown
        simp [go_sem, e0, e1, e2, e8, e9, hcmp]
        refine draw [0, 1, 2, 3, 4, 5, 6, 7, 8, 10, 11, 12, 9, 13, 14, 15, 16, 17] (by kernel_rfl) ?_
        have hwj' : IntKind.i64.wrap (j' : Int) = j' := wrap_id (by omega) (by omega)
        have b1 : (0 : Int) ≤ (j' : Int) + 1 := by omega
        have b2 : (j' : Int) + 1 < cs.length := by omega
        have b3 : (j' : Int) < cs.length := by omega
        have b4 : ((j' : Int) + 1).toNat = j' + 1 := by omega
        have b5 : j' + 1 < N := by omega
        have b6 : j' < N := by omega
        have b7 : j' + 1 ≤ m.length := by omega
        have b8 : j' ≤ m.length := by omega
        have b9 : j' + 1 < m.length := by omega
        have b10 : j' < m.length := by omega
        simp [go_sem, e0, e1, e2, e8, e9, hwj', b1, b2, b3, b4, b5, b6, b7, b8, b9, b10, hx, hy]
        have hmx : m[j' + 1] = x := by rw [List.getElem?_eq_getElem b9] at hx; injection hx
        have hmy : m[j'] = y := by rw [List.getElem?_eq_getElem b10] at hy; injection hy
        have hsw : swapM m (j' + 1) = (m.set (j' + 1) y).set j' x := by unfold swapM; simp only [Nat.add_sub_cancel]; rw [hx, hy]
        refine ⟨_, .rfl' _, j', rfl, by omega, swapM m (j' + 1), by rw [swapM_length, hml], fun z hz => hmm z (swapM_mem hz), ?_, hdown⟩
        rw [hsw, hmx, hmy]
        simp [List.map_set]
      | false =>
        rw [if_neg (by rw [hcmp]; simp)] at hdown
        simp [go_sem, e0, e1, e2, e8, e9, hcmp, hwi]
        refine ⟨_, .rfl' _, ⟨i + 1, by omega, by omega, by omega, m, hml, hmm, rfl, by rw [hdown]; exact hsort⟩, by omega⟩
    · have hj0 : j = 0 := by omega
      subst hj0
      simp [go_sem, e0, e1, e2, e8, e9, hwi]
      simp only [downM] at hdown
      refine ⟨_, .rfl' _, ⟨i + 1, by omega, by omega, by omega, m, hml, hmm, rfl, ?_⟩, by omega⟩
      rw [hdown]; exact hsort
  · have hlt' : ¬ (i : Int) < cs.length := by omega
    have hz : cs.length - i = 0 := by omega
    rw [hz] at hsort
    simp only [isortM] at hsort
    simp [go_sem, e0, e1, e2, e8, hlt', hlt]
    rw [← hsort]
theorem Sort_few {b N cap : Nat} {cs : List ByteArray} {g : Tg} (h : st b = some (.cells true (cs.map .string) N g)) (hN : cs.length ≤ N) (hn : cs.length ≤ 12) :
    ICalls Try.prog W0 75 #[.slice (some ⟨b, 0, none⟩) cs.length cap] st fun e st' => e = .returned (.tuple #[]) ∧ ∃ cs', cs'.Perm cs ∧ SortedM ltT cs' ∧ st' = upd st b (.cells true (cs'.map .string) N g) := by
  refine enter (args := [_]) Try.func75 rfl ?_
  have hw : IntKind.u64.wrap (cs.length : Int) = cs.length := by rw [IntKind.wrap_u64]; omega
  simp [Try.f75, go_sem, hw]
  refine (Len_few (by omega) (by omega)).mono ?_
  rintro e st' ⟨⟨k, rfl⟩, rfl⟩
  simp [go_sem]
  refine ICalls.mono (R := fun e st2 => e = .returned (.tuple #[]) ∧ st2 = upd st' b (.cells true ((isortM ltT cs (cs.length - 1) 1).map .string) N g)) ?_ ?_
  · refine enter (args := [_, _, _, _]) Try.func121 rfl ?_
    simp [Try.f121, go_sem]
    refine ⟨fun E st2 => st2 = st' ∧ E 0 = .slice (some ⟨b, 0, none⟩) cs.length cap ∧ E 1 = .int .i64 0 ∧ E 2 = .int .i64 cs.length, fun _ _ => 0, ⟨st', .rfl' st', rfl, by simp [go_sem], by simp [go_sem], by simp [go_sem]⟩, ?_⟩
    rintro E st2 ⟨rfl, e0, e1, e2⟩
    have hw1 : IntKind.i64.wrap ((cs.length : Int) - 0) = cs.length := by rw [wrap_id (by omega) (by omega)]; omega
    have hw' : IntKind.i64.wrap (cs.length : Int) = cs.length := wrap_id (by omega) (by omega)
    have hn' : (cs.length : Int) ≤ 12 := by omega
    simp [go_sem, e0, e1, e2, hw1, hw', hn', hn]
    refine (insertionOrd_spec h hN (by omega)).mono ?_
    rintro e st3 ⟨rfl, rfl⟩
    simp [go_sem]
  · rintro e st2 ⟨rfl, rfl⟩
    obtain ⟨h1, h2⟩ := isort_ok ltT_ok cs
    simp [go_sem]
    exact ⟨_, h2, h1, rfl⟩
end
end Go.Proofs.Ytmgbknkjgfdllaa
