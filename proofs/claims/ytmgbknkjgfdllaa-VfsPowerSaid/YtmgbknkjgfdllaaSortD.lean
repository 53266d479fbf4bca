/- An insertion sort sorts; the order of texts. Plain. -/
import Derived.Test.YtmgbknkjgfdllaaSortC
import Derived.Test.YtmgbknkjgfdllaaSepH
set_option linter.unusedVariables false
set_option linter.unusedSimpArgs false
namespace Go.Proofs.Ytmgbknkjgfdllaa
def SortedM {α : Type} (lt : α → α → Bool) (l : List α) : Prop := l.Pairwise fun a b => lt b a = false
theorem downM_spec {α : Type} {lt : α → α → Bool} (ok : LtOK lt) : ∀ (n : Nat) (A B : List α) (x : α), A.length = n → ∃ A', downM lt n (A ++ x :: B) = A' ++ B ∧ A'.Perm (A ++ [x]) ∧ (SortedM lt A → SortedM lt A')
  | 0, A, B, x, h => by
    have : A = [] := List.eq_nil_of_length_eq_zero h
    subst this
    exact ⟨[x], rfl, by simp, fun _ => by simp [SortedM]⟩
  | n + 1, A, B, x, h => by
    rcases List.eq_nil_or_concat A with rfl | ⟨A0, y, rfl⟩
    · simp at h
    · have hl : A0.length = n := by simpa using h
      subst hl
      simp only [List.concat_eq_append, List.append_assoc, List.cons_append, List.nil_append]
      have h1 : (A0 ++ y :: x :: B)[A0.length + 1]? = some x := by rw [List.getElem?_append_right (by omega)]; simp
      have h2 : (A0 ++ y :: x :: B)[A0.length]? = some y := by simp
      unfold downM
      rw [h1, h2]
      simp only
      cases hxy : lt x y with
      | true =>
        rw [if_pos rfl]
        have hs : swapM (A0 ++ y :: x :: B) (A0.length + 1) = A0 ++ x :: y :: B := by
          unfold swapM
          simp only [Nat.add_sub_cancel]
          rw [h1, h2]
          simp only
          rw [List.set_append_right _ _ (by omega), List.set_append_right _ _ (by omega)]
          simp
        rw [hs]
        obtain ⟨A', e1, e2, e3⟩ := downM_spec ok A0.length A0 (y :: B) x rfl
        refine ⟨A' ++ [y], by rw [e1]; simp, ?_, fun hA => ?_⟩
        · refine (e2.append_right [y]).trans ?_
          simp only [List.append_assoc, List.cons_append, List.nil_append]
          exact List.Perm.append_left _ (List.Perm.swap _ _ _)
        · unfold SortedM at hA e3 ⊢
          rw [List.pairwise_append] at hA ⊢
          refine ⟨e3 hA.1, by simp, fun z hz w hw => ?_⟩
          simp at hw
          subst hw
          have := e2.mem_iff.1 hz
          rcases List.mem_append.1 this with hz | hz
          · exact hA.2.2 z hz _ (by simp)
          · simp at hz; subst hz; exact ok.asymm _ _ hxy
      | false =>
        rw [if_neg (by simp)]
        refine ⟨A0 ++ [y, x], by simp, List.Perm.refl _, fun hA => ?_⟩
        unfold SortedM at hA ⊢
        have hA0 := hA
        rw [List.pairwise_append] at hA
        rw [show A0 ++ [y, x] = (A0 ++ [y]) ++ [x] by simp, List.pairwise_append]
        refine ⟨hA0, by simp, fun z hz w hw => ?_⟩
        simp at hw
        subst hw
        rcases List.mem_append.1 hz with hz | hz
        · exact ok.trans z y w (hA.2.2 z hz y (by simp)) hxy
        · simp at hz; subst hz; exact hxy
theorem isortM_spec {α : Type} {lt : α → α → Bool} (ok : LtOK lt) : ∀ (fuel i : Nat) (A B : List α), A.length = i → B.length = fuel → SortedM lt A → SortedM lt (isortM lt (A ++ B) fuel i) ∧ (isortM lt (A ++ B) fuel i).Perm (A ++ B)
  | 0, i, A, B, _, hB, hA => by
    have : B = [] := List.eq_nil_of_length_eq_zero hB
    subst this
    simpa [isortM] using hA
  | fuel + 1, i, A, x :: B, hi, hB, hA => by
    obtain ⟨A', e1, e2, e3⟩ := downM_spec ok i A B x hi
    unfold isortM
    rw [e1]
    have hl : A'.length = i + 1 := by rw [e2.length_eq]; simp [hi]
    obtain ⟨h1, h2⟩ := isortM_spec ok fuel (i + 1) A' B hl (by simpa using hB) (e3 hA)
    refine ⟨h1, h2.trans ?_⟩
    have := e2.append_right B
    simpa using this
theorem isort_ok {α : Type} {lt : α → α → Bool} (ok : LtOK lt) (l : List α) : SortedM lt (isortM lt l (l.length - 1) 1) ∧ (isortM lt l (l.length - 1) 1).Perm l := by
  match l with
  | [] => exact ⟨by simp [isortM, SortedM], by simp [isortM]⟩
  | a :: l => exact isortM_spec ok l.length 1 [a] l rfl rfl (by simp [SortedM])
/-- A sorted list is the only one, where order tells all apart. -/
theorem SortedM.unique {α : Type} {lt : α → α → Bool} {l l' : List α} (h : SortedM lt l) (h' : SortedM lt l') (hp : l.Perm l') (ht : ∀ a b, a ∈ l → b ∈ l → lt a b = false → lt b a = false → a = b) : l = l' :=
  List.Perm.eq_of_pairwise (le := fun a b => lt b a = false) (fun a b ha hb h1 h2 => ht a b ha (hp.mem_iff.2 hb) h2 h1) h h' hp
theorem ltOK_key {α : Type} (k : α → Int) : LtOK fun a b => decide (k a - k b < 0) :=
  ⟨fun a b h => by simp at h ⊢; omega, fun a b c h1 h2 => by simp at h1 h2 ⊢; omega⟩
end Go.Proofs.Ytmgbknkjgfdllaa
