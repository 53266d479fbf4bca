/- Sorting few strings by a comparison: an insertion sort, as it goes. -/
import Derived.Test.YtmgbknkjgfdllaaSortA
set_option linter.unusedVariables false
set_option linter.unusedSimpArgs false
set_option maxRecDepth 100000
set_option maxHeartbeats 1000000
namespace Go.Proofs.Ytmgbknkjgfdllaa
open Go.RowKit (Below)

/-- Two neighbours change places. -/
def swapM {α : Type} (l : List α) (j : Nat) : List α :=
  match l[j]?, l[j - 1]? with
  | some x, some y => (l.set j y).set (j - 1) x
  | _, _ => l
/-- The element at j goes down to its place. -/
def downM {α : Type} (lt : α → α → Bool) : Nat → List α → List α
  | 0, l => l
  | j + 1, l => match l[j + 1]?, l[j]? with
    | some x, some y => if lt x y = true then downM lt j (swapM l (j + 1)) else l
    | _, _ => l
/-- From i on, n elements. -/
def isortM {α : Type} (lt : α → α → Bool) (l : List α) : Nat → Nat → List α
  | 0, _ => l
  | fuel + 1, i => isortM lt (downM lt i l) fuel (i + 1)
theorem swapM_length {α : Type} (l : List α) (j : Nat) : (swapM l j).length = l.length := by
  unfold swapM
  split <;> simp
theorem downM_length {α : Type} (lt : α → α → Bool) : ∀ (j : Nat) (l : List α), (downM lt j l).length = l.length
  | 0, l => rfl
  | j + 1, l => by
    unfold downM
    split
    · split
      · rw [downM_length, swapM_length]
      · rfl
    · rfl
theorem swapM_mem {α : Type} {l : List α} {j : Nat} {x : α} (h : x ∈ swapM l j) : x ∈ l := by
  unfold swapM at h
  split at h
  · rename_i a b ha hb
    rcases List.mem_or_eq_of_mem_set h with h | h
    · rcases List.mem_or_eq_of_mem_set h with h | h
      · exact h
      · rw [h]; exact List.mem_of_getElem? hb
    · rw [h]; exact List.mem_of_getElem? ha
  · exact h
theorem downM_mem {α : Type} (lt : α → α → Bool) {x : α} : ∀ {j : Nat} {l : List α}, x ∈ downM lt j l → x ∈ l
  | 0, l, h => h
  | j + 1, l, h => by
    unfold downM at h
    split at h
    · split at h
      · exact swapM_mem (downM_mem lt h)
      · exact h
    · exact h
section
variable {W0 : World} {st : Heap}
theorem insertionCmp_spec {b N cap : Nat} {cs : List ByteArray} {g : Tg} {fv : Value} {cmp : ByteArray → ByteArray → Int} (h : st b = some (.cells true (cs.map .string) N g)) (hN : cs.length ≤ N) (hn : cs.length < 2 ^ 40)
    (hc : ∀ (st' : Heap) (a c : ByteArray) (K : Value → Heap → Prop) (Kp : List PanicEntry → Heap → Prop), Keep (fun t => t ≠ g) st st' → a ∈ cs → c ∈ cs → K (.int .i64 (cmp a c)) st' → callY Try.prog W0 fv [.string a, .string c] K Kp st') :
    ICalls Try.prog W0 158 #[.slice (some ⟨b, 0, none⟩) cs.length cap, .int .i64 0, .int .i64 cs.length, fv] st fun e st' => e = .returned (.tuple #[]) ∧ st' = upd st b (.cells true ((isortM (fun x y => decide (cmp x y < 0)) cs (cs.length - 1) 1).map .string) N g) := by
  refine enter (args := [_, _, _, _]) Try.func158 rfl ?_
  simp [Try.f158, go_sem]
  refine ⟨fun E st' => E 0 = .slice (some ⟨b, 0, none⟩) cs.length cap ∧ E 1 = .int .i64 0 ∧ E 2 = .int .i64 cs.length ∧ E 3 = fv ∧ ∃ (i : Nat) (l : List ByteArray), E 8 = .int .i64 i ∧ 1 ≤ i ∧ (i ≤ cs.length ∨ i = 1) ∧ l.length = cs.length ∧ (∀ x ∈ l, x ∈ cs) ∧ st' = upd st b (.cells true (l.map .string) N g) ∧ isortM (fun x y => decide (cmp x y < 0)) l (cs.length - i) i = isortM (fun x y => decide (cmp x y < 0)) cs (cs.length - 1) 1,
    fun E _ => match E 8 with | .int _ i => cs.length - i.toNat | _ => 0, ⟨st, .rfl' _, by simp [go_sem], by simp [go_sem], by simp [go_sem], by simp [go_sem], 1, cs, by simp [go_sem]; decide, by omega, .inr rfl, rfl, fun x hx => hx, (upd_self h).symm, rfl⟩, ?_⟩
  rintro E st' ⟨e0, e1, e2, e3, i, l, e8, hi1, hi2, hl, hmem, rfl, hsort⟩
  by_cases hlt : i < cs.length
  · have hlt' : (i : Int) < cs.length := by omega
    have hfuel : cs.length - i = (cs.length - (i + 1)) + 1 := by omega
    rw [hfuel] at hsort
    simp only [isortM] at hsort
    have hwi : IntKind.i64.wrap ((i : Int) + 1) = i + 1 := wrap_id (by omega) (by omega)
    simp [go_sem, e0, e1, e2, e3, e8, hlt']
    refine ⟨fun E st' => E 0 = .slice (some ⟨b, 0, none⟩) cs.length cap ∧ E 1 = .int .i64 0 ∧ E 2 = .int .i64 cs.length ∧ E 3 = fv ∧ E 8 = .int .i64 i ∧ ∃ (j : Nat) (m : List ByteArray), E 9 = .int .i64 j ∧ j ≤ i ∧ m.length = cs.length ∧ (∀ x ∈ m, x ∈ cs) ∧ st' = upd st b (.cells true (m.map .string) N g) ∧ downM (fun x y => decide (cmp x y < 0)) j m = downM (fun x y => decide (cmp x y < 0)) i l,
      fun E _ => match E 9 with | .int _ j => j.toNat | _ => 0, ⟨_, .rfl' _, by simp [go_sem, e0], by simp [go_sem, e1], by simp [go_sem, e2], by simp [go_sem, e3], by simp [go_sem, e8], i, l, by simp [go_sem, e8], Nat.le_refl _, hl, hmem, rfl, rfl⟩, ?_⟩
    clear e0 e1 e2 e3 e8
    rintro E st' ⟨e0, e1, e2, e3, e8, j, m, e9, hji, hml, hmm, rfl, hdown⟩
    simp [go_sem]
    refine draw [0, 1, 2, 3, 4, 5, 6, 7, 9, 10, 11, 12, 8, 13, 14, 15, 16] (by kernel_rfl) ?_
    by_cases hj : 0 < j
    · have hj' : (0 : Int) < j := by omega
      have hwj : IntKind.i64.wrap ((j : Int) - 1) = ((j - 1 : Nat) : Int) := by rw [wrap_id (by omega) (by omega)]; omega
      obtain ⟨x, hx⟩ : ∃ x, m[j]? = some x := ⟨_, List.getElem?_eq_getElem (by omega)⟩
      obtain ⟨y, hy⟩ : ∃ y, m[j - 1]? = some y := ⟨_, List.getElem?_eq_getElem (by omega)⟩
      have hjl : j < cs.length := by omega
      have hjl1 : j - 1 < cs.length := by omega
      have hgx : (m.map Value.string)[j]? = some (.string x) := by simp [hx]
      have hgy : (m.map Value.string)[j - 1]? = some (.string y) := by simp [hy]
      simp [go_sem, e0, e1, e2, e3, e8, e9, hj, hwj, hjl, hjl1, hx, hy]
      have kk : Keep (fun t => t ≠ g) st (upd st b (.cells true (m.map .string) N g)) := Keep.rfl'.old h (by simp [HObj.tag])
      refine hc _ x y _ _ kk (hmm x (List.mem_of_getElem? hx)) (hmm y (List.mem_of_getElem? hy)) ?_
      obtain ⟨j', rfl⟩ : ∃ j', j = j' + 1 := ⟨j - 1, by omega⟩
      simp only [Nat.add_sub_cancel] at hy hgy hwj hjl1
      have hL : downM (fun x y => decide (cmp x y < 0)) (j' + 1) m = if decide (cmp x y < 0) = true then downM (fun x y => decide (cmp x y < 0)) j' (swapM m (j' + 1)) else m := by
        conv => lhs; unfold downM
        rw [hx, hy]
      rw [hL] at hdown
      by_cases hcmp : cmp x y < 0
      · rw [if_pos (by simpa using hcmp)] at hdown
        simp [go_sem, e0, e1, e2, e3, e8, e9, hcmp]
        refine draw [0, 1, 2, 3, 4, 5, 6, 7, 8, 10, 11, 12, 9, 13, 14, 15, 16, 17] (by kernel_rfl) ?_
        have hwj' : IntKind.i64.wrap (j' : Int) = j' := wrap_id (by omega) (by omega)
        have b1 : (0 : Int) ≤ (j' : Int) + 1 := by omega
        have b2 : (j' : Int) + 1 < cs.length := by omega
        have b3 : (j' : Int) < cs.length := by omega
        have b4 : ((j' : Int) + 1).toNat = j' + 1 := by omega
        have b5 : j' + 1 < N := by omega
        have b6 : j' < N := by omega
        have b7 : j' + 1 ≤ m.length := by omega
        have b8 : j' ≤ m.length := by omega
        have b9 : j' + 1 < m.length := by omega
        have b10 : j' < m.length := by omega
        simp [go_sem, e0, e1, e2, e3, e8, e9, hwj', b1, b2, b3, b4, b5, b6, b7, b8, b9, b10, hx, hy]
        have hmx : m[j' + 1] = x := by rw [List.getElem?_eq_getElem b9] at hx; injection hx
        have hmy : m[j'] = y := by rw [List.getElem?_eq_getElem b10] at hy; injection hy
        have hsw : swapM m (j' + 1) = (m.set (j' + 1) y).set j' x := by unfold swapM; simp only [Nat.add_sub_cancel]; rw [hx, hy]
        refine ⟨_, .rfl' _, j', rfl, by omega, swapM m (j' + 1), by rw [swapM_length, hml], fun z hz => hmm z (swapM_mem hz), ?_, hdown⟩
        rw [hsw, hmx, hmy]
        simp [List.map_set]
      · rw [if_neg (by simpa using hcmp)] at hdown
        simp [go_sem, e0, e1, e2, e3, e8, e9, hcmp, hwi]
        refine ⟨_, .rfl' _, ⟨i + 1, by omega, by omega, by omega, m, hml, hmm, rfl, by rw [hdown]; exact hsort⟩, by omega⟩
    · have hj0 : j = 0 := by omega
      subst hj0
      simp [go_sem, e0, e1, e2, e3, e8, e9, hwi]
      simp only [downM] at hdown
      refine ⟨_, .rfl' _, ⟨i + 1, by omega, by omega, by omega, m, hml, hmm, rfl, ?_⟩, by omega⟩
      rw [hdown]; exact hsort
  · have hlt' : ¬ (i : Int) < cs.length := by omega
    have hz : cs.length - i = 0 := by omega
    rw [hz] at hsort
    simp only [isortM] at hsort
    simp [go_sem, e0, e1, e2, e3, e8, hlt', hlt]
    rw [← hsort]
end
end Go.Proofs.Ytmgbknkjgfdllaa
