/- Sorting few strings by a comparison: an insertion sort, as it goes. -/
import Derived.Test.YtadgciaclhjjkaaGreatC14
import Derived.Test.YtadgciaclhjjkaaGreatC08
import Derived.Test.YtadgciaclhjjkaaGreatC22
set_option linter.unusedVariables false
set_option linter.unusedSimpArgs false
set_option maxRecDepth 100000
set_option maxHeartbeats 1000000
namespace Go.Proofs.YtadgciaclhjjkaaGreat
open Go.RowKit (Below)

/-- Two neighbours change places. -/
def swapM {α : Type} (l : List α) (j : Nat) : List α :=
  match l[j]?, l[j - 1]? with
  | some x, some y => (l.set j y).set (j - 1) x
  | _, _ => l
/-- The element at j goes down to its place. -/
def downM {α : Type} (lt : α → α → Bool) : Nat → List α → List α
  | 0, l => l
  | j + 1, l => match l[j + 1]?, l[j]? with
    | some x, some y => if lt x y = true then downM lt j (swapM l (j + 1)) else l
    | _, _ => l
/-- From i on, n elements. -/
def isortM {α : Type} (lt : α → α → Bool) (l : List α) : Nat → Nat → List α
  | 0, _ => l
  | fuel + 1, i => isortM lt (downM lt i l) fuel (i + 1)
theorem swapM_length {α : Type} (l : List α) (j : Nat) : (swapM l j).length = l.length := by
  unfold swapM
  split <;> simp
theorem swapM_mem {α : Type} {l : List α} {j : Nat} {x : α} (h : x ∈ swapM l j) : x ∈ l := by
  unfold swapM at h
  split at h
  · rename_i a b ha hb
    rcases List.mem_or_eq_of_mem_set h with h | h
    · rcases List.mem_or_eq_of_mem_set h with h | h
      · exact h
      · rw [h]; exact List.mem_of_getElem? hb
    · rw [h]; exact List.mem_of_getElem? ha
  · exact h
section
variable {W0 : World} {st : Heap}
theorem insertionCmp_spec {b N cap : Nat} {cs : List ByteArray} {g : Tg} {fv : Value} {cmp : ByteArray → ByteArray → Int} (h : st b = some (.cells true (cs.map .string) N g)) (hN : cs.length ≤ N) (hn : cs.length < 2 ^ 40)
    (hc : ∀ (st' : Heap) (a c : ByteArray) (K : Value → Heap → Prop) (Kp : List PanicEntry → Heap → Prop), Keep (fun t => t ≠ g) st st' → a ∈ cs → c ∈ cs → K (.int .i64 (cmp a c)) st' → callY Tryz.prog W0 fv [.string a, .string c] K Kp st') :
    ICalls Tryz.prog W0 207 #[.slice (some ⟨b, 0, none⟩) cs.length cap, .int .i64 0, .int .i64 cs.length, fv] st fun e st' => e = .returned (.tuple #[]) ∧ st' = upd st b (.cells true ((isortM (fun x y => decide (cmp x y < 0)) cs (cs.length - 1) 1).map .string) N g) := by
  refine enter (args := [_, _, _, _]) Tryz.func207 rfl ?_
  simp [Tryz.f207, go_sem]
  refine ⟨fun E st' => E 0 = .slice (some ⟨b, 0, none⟩) cs.length cap ∧ E 1 = .int .i64 0 ∧ E 2 = .int .i64 cs.length ∧ E 3 = fv ∧ ∃ (i : Nat) (l : List ByteArray), E 8 = .int .i64 i ∧ 1 ≤ i ∧ (i ≤ cs.length ∨ i = 1) ∧ l.length = cs.length ∧ (∀ x ∈ l, x ∈ cs) ∧ st' = upd st b (.cells true (l.map .string) N g) ∧ isortM (fun x y => decide (cmp x y < 0)) l (cs.length - i) i = isortM (fun x y => decide (cmp x y < 0)) cs (cs.length - 1) 1,
    fun E _ => match E 8 with | .int _ i => cs.length - i.toNat | _ => 0, ⟨st, .rfl' _, by simp [go_sem], by simp [go_sem], by simp [go_sem], by simp [go_sem], 1, cs, by simp [go_sem]; decide, by omega, .inr rfl, rfl, fun x hx => hx, (upd_self h).symm, rfl⟩, ?_⟩
  rintro E st' ⟨e0, e1, e2, e3, i, l, e8, hi1, hi2, hl, hmem, rfl, hsort⟩
  by_cases hlt : i < cs.length
  · have hlt' : (i : Int) < cs.length := by omega
    have hfuel : cs.length - i = (cs.length - (i + 1)) + 1 := by omega
    rw [hfuel] at hsort
    simp only [isortM] at hsort
    have hwi : IntKind.i64.wrap ((i : Int) + 1) = i + 1 := wrap_id (by omega) (by omega)
    simp [go_sem, e0, e1, e2, e3, e8, hlt']
    refine ⟨fun E st' => E 0 = .slice (some ⟨b, 0, none⟩) cs.length cap ∧ E 1 = .int .i64 0 ∧ E 2 = .int .i64 cs.length ∧ E 3 = fv ∧ E 8 = .int .i64 i ∧ ∃ (j : Nat) (m : List ByteArray), E 9 = .int .i64 j ∧ j ≤ i ∧ m.length = cs.length ∧ (∀ x ∈ m, x ∈ cs) ∧ st' = upd st b (.cells true (m.map .string) N g) ∧ downM (fun x y => decide (cmp x y < 0)) j m = downM (fun x y => decide (cmp x y < 0)) i l,
      fun E _ => match E 9 with | .int _ j => j.toNat | _ => 0, ⟨_, .rfl' _, by simp [go_sem, e0], by simp [go_sem, e1], by simp [go_sem, e2], by simp [go_sem, e3], by simp [go_sem, e8], i, l, by simp [go_sem, e8], Nat.le_refl _, hl, hmem, rfl, rfl⟩, ?_⟩
    clear e0 e1 e2 e3 e8
    rintro E st' ⟨e0, e1, e2, e3, e8, j, m, e9, hji, hml, hmm, rfl, hdown⟩
    simp [go_sem]
    refine draw [0, 1, 2, 3, 4, 5, 6, 7, 9, 10, 11, 12, 8, 13, 14, 15, 16] (by kernel_rfl) ?_
    by_cases hj : 0 < j
    · have hj' : (0 : Int) < j := by omega
      have hwj : IntKind.i64.wrap ((j : Int) - 1) = ((j - 1 : Nat) : Int) := by rw [wrap_id (by omega) (by omega)]; omega
      obtain ⟨x, hx⟩ : ∃ x, m[j]? = some x := ⟨_, List.getElem?_eq_getElem (by omega)⟩
      obtain ⟨y, hy⟩ : ∃ y, m[j - 1]? = some y := ⟨_, List.getElem?_eq_getElem (by omega)⟩
      have hjl : j < cs.length := by omega
      have hjl1 : j - 1 < cs.length := by omega
      have hgx : (m.map Value.string)[j]? = some (.string x) := by simp [hx]
      have hgy : (m.map Value.string)[j - 1]? = some (.string y) := by simp [hy]
      simp [go_sem, e0, e1, e2, e3, e8, e9, hj, hwj, hjl, hjl1, hx, hy]
      have kk : Keep (fun t => t ≠ g) st (upd st b (.cells true (m.map .string) N g)) := Keep.rfl'.old h (by simp [HObj.tag])
      refine hc _ x y _ _ kk (hmm x (List.mem_of_getElem? hx)) (hmm y (List.mem_of_getElem? hy)) ?_
      obtain ⟨j', rfl⟩ : ∃ j', j = j' + 1 := ⟨j - 1, by omega⟩
      simp only [Nat.add_sub_cancel] at hy hgy hwj hjl1
      have hL : downM (fun x y => decide (cmp x y < 0)) (j' + 1) m = if decide (cmp x y < 0) = true then downM (fun x y => decide (cmp x y < 0)) j' (swapM m (j' + 1)) else m := by
        conv => lhs; unfold downM
        rw [hx, hy]
      rw [hL] at hdown
      by_cases hcmp : cmp x y < 0
      · rw [if_pos (by simpa using hcmp)] at hdown
        simp [go_sem, e0, e1, e2, e3, e8, e9, hcmp]
        refine draw [0, 1, 2, 3, 4, 5, 6, 7, 8, 10, 11, 12, 9, 13, 14, 15, 16, 17] (by kernel_rfl) ?_
        have hwj' : IntKind.i64.wrap (j' : Int) = j' := wrap_id (by omega) (by omega)
        have b1 : (0 : Int) ≤ (j' : Int) + 1 := by omega
        have b2 : (j' : Int) + 1 < cs.length := by omega
        have b3 : (j' : Int) < cs.length := by omega
        have b4 : ((j' : Int) + 1).toNat = j' + 1 := by omega
        have b5 : j' + 1 < N := by omega
        have b6 : j' < N := by omega
        have b7 : j' + 1 ≤ m.length := by omega
        have b8 : j' ≤ m.length := by omega
        have b9 : j' + 1 < m.length := by omega
        have b10 : j' < m.length := by omega
        simp [go_sem, e0, e1, e2, e3, e8, e9, hwj', b1, b2, b3, b4, b5, b6, b7, b8, b9, b10, hx, hy]
        have hmx : m[j' + 1] = x := by rw [List.getElem?_eq_getElem b9] at hx; injection hx
        have hmy : m[j'] = y := by rw [List.getElem?_eq_getElem b10] at hy; injection hy
        have hsw : swapM m (j' + 1) = (m.set (j' + 1) y).set j' x := by unfold swapM; simp only [Nat.add_sub_cancel]; rw [hx, hy]
        refine ⟨_, .rfl' _, j', rfl, by omega, swapM m (j' + 1), by rw [swapM_length, hml], fun z hz => hmm z (swapM_mem hz), ?_, hdown⟩
        rw [hsw, hmx, hmy]
        simp [List.map_set]
      · rw [if_neg (by simpa using hcmp)] at hdown
        simp [go_sem, e0, e1, e2, e3, e8, e9, hcmp, hwi]
        refine ⟨_, .rfl' _, ⟨i + 1, by omega, by omega, by omega, m, hml, hmm, rfl, by rw [hdown]; exact hsort⟩, by omega⟩
    · have hj0 : j = 0 := by omega
      subst hj0
      simp [go_sem, e0, e1, e2, e3, e8, e9, hwi]
      simp only [downM] at hdown
      refine ⟨_, .rfl' _, ⟨i + 1, by omega, by omega, by omega, m, hml, hmm, rfl, ?_⟩, by omega⟩
      rw [hdown]; exact hsort
  · have hlt' : ¬ (i : Int) < cs.length := by omega
    have hz : cs.length - i = 0 := by omega
    rw [hz] at hsort
    simp only [isortM] at hsort
    simp [go_sem, e0, e1, e2, e3, e8, hlt', hlt]
    rw [← hsort]
end
end Go.Proofs.YtadgciaclhjjkaaGreat
set_option linter.unusedVariables false
set_option linter.unusedSimpArgs false
set_option maxRecDepth 100000
set_option maxHeartbeats 1000000
namespace Go.Proofs.YtadgciaclhjjkaaGreat
open Go.RowKit (Below)
section
variable {W0 : World} {st : Heap}
theorem Len64_few {n : Int} (h0 : 0 ≤ n) (h1 : n ≤ 12) : ICalls Tryz.prog W0 205 #[.int .u64 n] st fun e st' => (∃ k, e = .returned (.int .i64 k)) ∧ st' = st := by
  refine enter (args := [_]) Tryz.func205 rfl ?_
  have c1 : ¬ (4294967296 : Int) ≤ n := by omega
  have c2 : ¬ (65536 : Int) ≤ n := by omega
  have c3 : ¬ (256 : Int) ≤ n := by omega
  have c4 : IntKind.u8.wrap n = n := by rw [IntKind.wrap_u8]; omega
  have c5 : n < 256 := by omega
  simp [Tryz.f205, go_sem, c1, c2, c3, c4, c5, h0]
theorem Len_few {n : Int} (h0 : 0 ≤ n) (h1 : n ≤ 12) : ICalls Tryz.prog W0 155 #[.int .u64 n] st fun e st' => (∃ k, e = .returned (.int .i64 k)) ∧ st' = st := by
  refine enter (args := [_]) Tryz.func155 rfl ?_
  simp [Tryz.f155, go_sem]
  refine (Len64_few h0 h1).mono ?_
  rintro e st' ⟨⟨k, rfl⟩, rfl⟩
  simp [go_sem]
theorem SortFunc_few {b N cap : Nat} {cs : List ByteArray} {g : Tg} {fv : Value} {cmp : ByteArray → ByteArray → Int} (h : st b = some (.cells true (cs.map .string) N g)) (hN : cs.length ≤ N) (hn : cs.length ≤ 12)
    (hc : ∀ (st' : Heap) (a c : ByteArray) (K : Value → Heap → Prop) (Kp : List PanicEntry → Heap → Prop), Keep (fun t => t ≠ g) st st' → a ∈ cs → c ∈ cs → K (.int .i64 (cmp a c)) st' → callY Tryz.prog W0 fv [.string a, .string c] K Kp st') :
    ICalls Tryz.prog W0 99 #[.slice (some ⟨b, 0, none⟩) cs.length cap, fv] st fun e st' => e = .returned (.tuple #[]) ∧ st' = upd st b (.cells true ((isortM (fun x y => decide (cmp x y < 0)) cs (cs.length - 1) 1).map .string) N g) := by
  refine enter (args := [_, _]) Tryz.func99 rfl ?_
  have hw : IntKind.u64.wrap (cs.length : Int) = cs.length := by rw [IntKind.wrap_u64]; omega
  simp [Tryz.f99, go_sem, hw]
  refine (Len_few (by omega) (by omega)).mono ?_
  rintro e st' ⟨⟨k, rfl⟩, rfl⟩
  simp [go_sem]
  refine ICalls.mono (R := fun e st2 => e = .returned (.tuple #[]) ∧ st2 = upd st' b (.cells true ((isortM (fun x y => decide (cmp x y < 0)) cs (cs.length - 1) 1).map .string) N g)) ?_ ?_
  · refine enter (args := [_, _, _, _, _]) Tryz.func160 rfl ?_
    simp [Tryz.f160, go_sem]
    refine ⟨fun E st2 => st2 = st' ∧ E 0 = .slice (some ⟨b, 0, none⟩) cs.length cap ∧ E 1 = .int .i64 0 ∧ E 2 = .int .i64 cs.length ∧ E 4 = fv, fun _ _ => 0, ⟨st', .rfl' st', rfl, by simp [go_sem], by simp [go_sem], by simp [go_sem], by simp [go_sem]⟩, ?_⟩
    rintro E st2 ⟨rfl, e0, e1, e2, e4⟩
    have hw1 : IntKind.i64.wrap ((cs.length : Int) - 0) = cs.length := by rw [wrap_id (by omega) (by omega)]; omega
    have hw' : IntKind.i64.wrap (cs.length : Int) = cs.length := wrap_id (by omega) (by omega)
    have hn' : (cs.length : Int) ≤ 12 := by omega
    simp [go_sem, e0, e1, e2, e4, hw1, hw', hn', hn]
    refine (insertionCmp_spec h hN (by omega) hc).mono ?_
    rintro e st3 ⟨rfl, rfl⟩
    simp [go_sem]
  · rintro e st2 ⟨rfl, rfl⟩
    simp [go_sem]
end
end Go.Proofs.YtadgciaclhjjkaaGreat
set_option linter.unusedVariables false
set_option linter.unusedSimpArgs false
namespace Go.Proofs.YtadgciaclhjjkaaGreat
def SortedM {α : Type} (lt : α → α → Bool) (l : List α) : Prop := l.Pairwise fun a b => lt b a = false
theorem downM_spec {α : Type} {lt : α → α → Bool} (ok : LtOK lt) : ∀ (n : Nat) (A B : List α) (x : α), A.length = n → ∃ A', downM lt n (A ++ x :: B) = A' ++ B ∧ A'.Perm (A ++ [x]) ∧ (SortedM lt A → SortedM lt A')
  | 0, A, B, x, h => by
    have : A = [] := List.eq_nil_of_length_eq_zero h
    subst this
    exact ⟨[x], rfl, by simp, fun _ => by simp [SortedM]⟩
  | n + 1, A, B, x, h => by
    rcases List.eq_nil_or_concat A with rfl | ⟨A0, y, rfl⟩
    · simp at h
    · have hl : A0.length = n := by simpa using h
      subst hl
      simp only [List.concat_eq_append, List.append_assoc, List.cons_append, List.nil_append]
      have h1 : (A0 ++ y :: x :: B)[A0.length + 1]? = some x := by rw [List.getElem?_append_right (by omega)]; simp
      have h2 : (A0 ++ y :: x :: B)[A0.length]? = some y := by simp
      unfold downM
      rw [h1, h2]
      simp only
      cases hxy : lt x y with
      | true =>
        rw [if_pos rfl]
        have hs : swapM (A0 ++ y :: x :: B) (A0.length + 1) = A0 ++ x :: y :: B := by
          unfold swapM
          simp only [Nat.add_sub_cancel]
          rw [h1, h2]
          simp only
          rw [List.set_append_right _ _ (by omega), List.set_append_right _ _ (by omega)]
          simp
        rw [hs]
        obtain ⟨A', e1, e2, e3⟩ := downM_spec ok A0.length A0 (y :: B) x rfl
        refine ⟨A' ++ [y], by rw [e1]; simp, ?_, fun hA => ?_⟩
        · refine (e2.append_right [y]).trans ?_
          simp only [List.append_assoc, List.cons_append, List.nil_append]
          exact List.Perm.append_left _ (List.Perm.swap _ _ _)
        · unfold SortedM at hA e3 ⊢
          rw [List.pairwise_append] at hA ⊢
          refine ⟨e3 hA.1, by simp, fun z hz w hw => ?_⟩
          simp at hw
          subst hw
          have := e2.mem_iff.1 hz
          rcases List.mem_append.1 this with hz | hz
          · exact hA.2.2 z hz _ (by simp)
          · simp at hz; subst hz; exact ok.asymm _ _ hxy
      | false =>
        rw [if_neg (by simp)]
        refine ⟨A0 ++ [y, x], by simp, List.Perm.refl _, fun hA => ?_⟩
        unfold SortedM at hA ⊢
        have hA0 := hA
        rw [List.pairwise_append] at hA
        rw [show A0 ++ [y, x] = (A0 ++ [y]) ++ [x] by simp, List.pairwise_append]
        refine ⟨hA0, by simp, fun z hz w hw => ?_⟩
        simp at hw
        subst hw
        rcases List.mem_append.1 hz with hz | hz
        · exact ok.trans z y w (hA.2.2 z hz y (by simp)) hxy
        · simp at hz; subst hz; exact hxy
theorem isortM_spec {α : Type} {lt : α → α → Bool} (ok : LtOK lt) : ∀ (fuel i : Nat) (A B : List α), A.length = i → B.length = fuel → SortedM lt A → SortedM lt (isortM lt (A ++ B) fuel i) ∧ (isortM lt (A ++ B) fuel i).Perm (A ++ B)
  | 0, i, A, B, _, hB, hA => by
    have : B = [] := List.eq_nil_of_length_eq_zero hB
    subst this
    simpa [isortM] using hA
  | fuel + 1, i, A, x :: B, hi, hB, hA => by
    obtain ⟨A', e1, e2, e3⟩ := downM_spec ok i A B x hi
    unfold isortM
    rw [e1]
    have hl : A'.length = i + 1 := by rw [e2.length_eq]; simp [hi]
    obtain ⟨h1, h2⟩ := isortM_spec ok fuel (i + 1) A' B hl (by simpa using hB) (e3 hA)
    refine ⟨h1, h2.trans ?_⟩
    have := e2.append_right B
    simpa using this
theorem isort_ok {α : Type} {lt : α → α → Bool} (ok : LtOK lt) (l : List α) : SortedM lt (isortM lt l (l.length - 1) 1) ∧ (isortM lt l (l.length - 1) 1).Perm l := by
  match l with
  | [] => exact ⟨by simp [isortM, SortedM], by simp [isortM]⟩
  | a :: l => exact isortM_spec ok l.length 1 [a] l rfl rfl (by simp [SortedM])
/-- A sorted list is the only one, where order tells all apart. -/
theorem SortedM.unique {α : Type} {lt : α → α → Bool} {l l' : List α} (h : SortedM lt l) (h' : SortedM lt l') (hp : l.Perm l') (ht : ∀ a b, a ∈ l → b ∈ l → lt a b = false → lt b a = false → a = b) : l = l' :=
  List.Perm.eq_of_pairwise (le := fun a b => lt b a = false) (fun a b ha hb h1 h2 => ht a b ha (hp.mem_iff.2 hb) h2 h1) h h' hp
theorem ltOK_key {α : Type} (k : α → Int) : LtOK fun a b => decide (k a - k b < 0) :=
  ⟨fun a b h => by simp at h ⊢; omega, fun a b c h1 h2 => by simp at h1 h2 ⊢; omega⟩
end Go.Proofs.YtadgciaclhjjkaaGreat
set_option linter.unusedVariables false
set_option linter.unusedSimpArgs false
namespace Go.Proofs.YtadgciaclhjjkaaGreat
theorem ba_eq_iff (a b : ByteArray) : ((a == b) = true) ↔ a = b := by
  cases a; cases b
  rename_i x y
  show ((x == y) = true) ↔ _
  simp
theorem afind_shift (k : ByteArray) : ∀ (l : Dir) (i n : Nat), afind k l (i + n) = (afind k l i).map fun p => (p.1 + n, p.2)
  | [], _, _ => rfl
  | e :: l, i, n => by
    unfold afind
    split
    · rfl
    · rw [show i + n + 1 = i + 1 + n by omega]; exact afind_shift k l (i + 1) n
theorem afind_cons (e : ByteArray × Nat) (l : Dir) (k : ByteArray) : afind k (e :: l) 0 = if k = e.1 then some (0, e.2) else (afind k l 0).map fun p => (p.1 + 1, p.2) := by
  conv => lhs; unfold afind
  by_cases h : k = e.1
  · rw [if_pos ((ba_eq_iff _ _).2 h), if_pos h]
  · rw [if_neg (by rw [ba_eq_iff]; exact h), if_neg h, afind_shift k l 0 1]
theorem aget_nil (k : ByteArray) : aget [] k = none := rfl
theorem aget_cons (e : ByteArray × Nat) (l : Dir) (k : ByteArray) : aget (e :: l) k = if k = e.1 then some e.2 else aget l k := by
  unfold aget
  rw [afind_cons]
  by_cases h : k = e.1
  · rw [if_pos h, if_pos h]; rfl
  · rw [if_neg h, if_neg h, Option.map_map]; rfl
theorem aset_nil (k : ByteArray) (x : Nat) : aset [] k x = [(k, x)] := rfl
theorem aset_cons (e : ByteArray × Nat) (l : Dir) (k : ByteArray) (x : Nat) : aset (e :: l) k x = if k = e.1 then (k, x) :: l else e :: aset l k x := by
  unfold aset
  rw [afind_cons]
  by_cases h : k = e.1
  · rw [if_pos h, if_pos h]; rfl
  · rw [if_neg h, if_neg h]
    cases afind k l 0 <;> rfl
theorem adel_nil (k : ByteArray) : adel [] k = [] := rfl
theorem adel_cons (e : ByteArray × Nat) (l : Dir) (k : ByteArray) : adel (e :: l) k = if k = e.1 then l else e :: adel l k := by
  unfold adel
  rw [afind_cons]
  by_cases h : k = e.1
  · rw [if_pos h, if_pos h]; rfl
  · rw [if_neg h, if_neg h]
    cases afind k l 0 <;> rfl
/-- Each name once. -/
abbrev Names (l : Dir) : Prop := (l.map (·.1)).Nodup
theorem Names.nodup {l : Dir} (h : Names l) : l.Nodup := (List.pairwise_map.1 h).imp fun h e => h (by rw [e])
theorem aget_iff {k : ByteArray} {x : Nat} : ∀ {l : Dir}, Names l → (aget l k = some x ↔ (k, x) ∈ l)
  | [], _ => by simp [aget_nil]
  | e :: l, h => by
    obtain ⟨h1, h2⟩ := List.nodup_cons.1 h
    rw [aget_cons, List.mem_cons]
    by_cases hk : k = e.1
    · rw [if_pos hk]
      constructor
      · intro h; injection h with h; subst h; left; cases e; simp at hk; rw [hk]
      · rintro (h | h)
        · rw [← h]
        · exact absurd (List.mem_map.2 ⟨_, h, hk⟩) h1
    · rw [if_neg hk, aget_iff h2]
      constructor
      · exact .inr
      · rintro (h | h)
        · rw [← h] at hk; exact absurd rfl hk
        · exact h
theorem aget_none {k : ByteArray} : ∀ {l : Dir}, aget l k = none ↔ ∀ x, (k, x) ∉ l
  | [] => by simp [aget_nil]
  | e :: l => by
    rw [aget_cons]
    by_cases hk : k = e.1
    · rw [if_pos hk]; simp; exact ⟨e.2, fun h => absurd (by rw [hk]) h⟩
    · rw [if_neg hk, aget_none]
      refine forall_congr' fun x => ?_
      rw [List.mem_cons]
      constructor
      · rintro h (h' | h')
        · rw [← h'] at hk; exact hk rfl
        · exact h h'
      · exact fun h h' => h (.inr h')
theorem mem_adel {k : ByteArray} {p : ByteArray × Nat} : ∀ {l : Dir}, Names l → (p ∈ adel l k ↔ p ∈ l ∧ p.1 ≠ k)
  | [], _ => by simp [adel_nil]
  | e :: l, h => by
    obtain ⟨h1, h2⟩ := List.nodup_cons.1 h
    rw [adel_cons, List.mem_cons]
    by_cases hk : k = e.1
    · rw [if_pos hk]
      constructor
      · intro hp; exact ⟨.inr hp, fun e' => h1 (List.mem_map.2 ⟨_, hp, e'.trans hk⟩)⟩
      · rintro ⟨rfl | hp, hn⟩
        · exact absurd hk.symm hn
        · exact hp
    · rw [if_neg hk, List.mem_cons, mem_adel h2]
      constructor
      · rintro (rfl | ⟨hp, hn⟩)
        · exact ⟨.inl rfl, Ne.symm hk⟩
        · exact ⟨.inr hp, hn⟩
      · rintro ⟨rfl | hp, hn⟩
        · exact .inl rfl
        · exact .inr ⟨hp, hn⟩
theorem mem_aset {k : ByteArray} {x : Nat} {p : ByteArray × Nat} : ∀ {l : Dir}, Names l → (p ∈ aset l k x ↔ p = (k, x) ∨ p ∈ l ∧ p.1 ≠ k)
  | [], _ => by simp [aset_nil]
  | e :: l, h => by
    obtain ⟨h1, h2⟩ := List.nodup_cons.1 h
    rw [aset_cons, List.mem_cons]
    by_cases hk : k = e.1
    · rw [if_pos hk, List.mem_cons]
      constructor
      · rintro (hp | hp)
        · exact .inl hp
        · exact .inr ⟨.inr hp, fun e' => h1 (List.mem_map.2 ⟨_, hp, e'.trans hk⟩)⟩
      · rintro (hp | ⟨rfl | hp, hn⟩)
        · exact .inl hp
        · exact absurd hk.symm hn
        · exact .inr hp
    · rw [if_neg hk, List.mem_cons, mem_aset h2]
      constructor
      · rintro (rfl | hp | ⟨hp, hn⟩)
        · exact .inr ⟨.inl rfl, Ne.symm hk⟩
        · exact .inl hp
        · exact .inr ⟨.inr hp, hn⟩
      · rintro (hp | ⟨rfl | hp, hn⟩)
        · exact .inr (.inl hp)
        · exact .inl rfl
        · exact .inr (.inr ⟨hp, hn⟩)
theorem adel_names {k : ByteArray} : ∀ {l : Dir}, Names l → Names (adel l k)
  | [], _ => by simp [adel_nil, Names]
  | e :: l, h => by
    obtain ⟨h1, h2⟩ := List.nodup_cons.1 h
    rw [adel_cons]
    split
    · exact h2
    · refine List.nodup_cons.2 ⟨?_, adel_names h2⟩
      intro hm
      obtain ⟨p, hp, he⟩ := List.mem_map.1 hm
      exact h1 (by rw [← he]; exact List.mem_map.2 ⟨p, ((mem_adel h2).1 hp).1, rfl⟩)
theorem aset_names {k : ByteArray} {x : Nat} : ∀ {l : Dir}, Names l → Names (aset l k x)
  | [], _ => by simp [aset_nil, Names]
  | e :: l, h => by
    obtain ⟨h1, h2⟩ := List.nodup_cons.1 h
    rw [aset_cons]
    split
    · rename_i hk
      exact List.nodup_cons.2 ⟨by rw [hk]; exact h1, h2⟩
    · rename_i hk
      refine List.nodup_cons.2 ⟨?_, aset_names h2⟩
      intro hm
      obtain ⟨p, hp, he⟩ := List.mem_map.1 hm
      rcases (mem_aset h2).1 hp with rfl | ⟨hp, _⟩
      · exact hk he
      · exact h1 (by rw [← he]; exact List.mem_map.2 ⟨p, hp, rfl⟩)
theorem Names.perm {l l' : Dir} (h : Names l) (hp : l.Perm l') : Names l' := (hp.map _).nodup_iff.1 h
theorem dir_perm {l l' : Dir} (h : Names l) (h' : Names l') (hm : ∀ p, p ∈ l ↔ p ∈ l') : l.Perm l' := (List.perm_ext_iff_of_nodup h.nodup h'.nodup).2 hm
theorem aget_perm {l l' : Dir} (h : Names l) (hp : l.Perm l') (k : ByteArray) : aget l k = aget l' k := by
  apply Option.ext
  intro x
  rw [aget_iff h, aget_iff (h.perm hp)]
  exact hp.mem_iff
theorem adel_perm {l l' : Dir} (h : Names l) (hp : l.Perm l') (k : ByteArray) : (adel l k).Perm (adel l' k) :=
  dir_perm (adel_names h) (adel_names (h.perm hp)) fun p => by rw [mem_adel h, mem_adel (h.perm hp), hp.mem_iff]
theorem aset_perm {l l' : Dir} (h : Names l) (hp : l.Perm l') (k : ByteArray) (x : Nat) : (aset l k x).Perm (aset l' k x) :=
  dir_perm (aset_names h) (aset_names (h.perm hp)) fun p => by rw [mem_aset h, mem_aset (h.perm hp), hp.mem_iff]
theorem does_perm {t : VTurn} {l l' d : Dir} (h : Names l) (hp : l.Perm l') (hd : t.does l = some d) : ∃ d', t.does l' = some d' ∧ d.Perm d' ∧ Names d := by
  unfold VTurn.does at *
  by_cases h0 : t.kind = 0
  · rw [if_pos h0] at hd ⊢
    obtain ⟨i, hi, rfl⟩ := Option.map_eq_some_iff.1 hd
    exact ⟨_, by rw [hi]; rfl, aset_perm h hp _ _, aset_names h⟩
  · rw [if_neg h0] at hd ⊢
    by_cases h1 : t.kind = 1
    · rw [if_pos h1] at hd ⊢
      obtain ⟨i, hi, rfl⟩ := Option.map_eq_some_iff.1 hd
      rw [aget_perm h hp] at hi
      exact ⟨_, by rw [hi]; rfl, aset_perm (adel_names h) (adel_perm h hp _) _ _, aset_names (adel_names h)⟩
    · rw [if_neg h1] at hd ⊢
      by_cases h2 : t.kind = 2
      · rw [if_pos h2] at hd ⊢
        injection hd with hd; subst hd; exact ⟨_, rfl, adel_perm h hp _, adel_names h⟩
      · rw [if_neg h2] at hd ⊢
        injection hd with hd; subst hd; exact ⟨_, rfl, hp, h⟩
theorem crashM_perm {ops : Int} : ∀ {ts : List VTurn} {i : Nat} {l l' d : Dir}, Names l → l.Perm l' → crashM ts i ops l = some d → ∃ d', crashM ts i ops l' = some d' ∧ d.Perm d' ∧ Names d
  | [], i, l, l', d, h, hp, hd => by injection hd with hd; subst hd; exact ⟨_, rfl, hp, h⟩
  | t :: ts, i, l, l', d, h, hp, hd => by
    unfold crashM at *
    split at hd
    · rename_i hlt
      obtain ⟨e, he, hd⟩ := Option.bind_eq_some_iff.1 hd
      obtain ⟨e', he', hpe, hne⟩ := does_perm h hp he
      obtain ⟨d', h1, h2, h3⟩ := crashM_perm hne hpe hd
      exact ⟨d', by rw [if_pos hlt, he']; exact h1, h2, h3⟩
    · rename_i hlt
      obtain ⟨d', h1, h2, h3⟩ := crashM_perm h hp hd
      exact ⟨d', by rw [if_neg hlt]; exact h1, h2, h3⟩
/-- As many of a list's, each once: all of it. -/
theorem perm_of_sub {α : Type} [DecidableEq α] {l l' : List α} (h : l.Nodup) (h' : l'.Nodup) (hs : l ⊆ l') (hl : l'.length ≤ l.length) : l.Perm l' := by
  refine (List.perm_ext_iff_of_nodup h h').2 fun x => ⟨fun hx => hs hx, fun hx => ?_⟩
  rcases Classical.em (x ∈ l) with hx' | hx'
  · exact hx'
  · exfalso
    have : ∀ {l l' : List α}, l.Nodup → l ⊆ l' → l.length ≤ l'.length := by
      intro l
      induction l with
      | nil => intros; simp
      | cons a l ih =>
        intro l' hn hs
        obtain ⟨h1, h2⟩ := List.nodup_cons.1 hn
        have hsub : l ⊆ l'.erase a := fun x hx => (List.mem_erase_of_ne (by rintro rfl; exact h1 hx)).2 (hs (by simp [hx]))
        have := ih h2 hsub
        rw [List.length_erase_of_mem (hs (by simp))] at this
        have : 0 < l'.length := List.length_pos_of_mem (hs (by simp : a ∈ a :: l))
        simp only [List.length_cons]
        omega
    have := this (l := x :: l) (l' := l') (List.nodup_cons.2 ⟨hx', h⟩) (by intro y hy; rcases List.mem_cons.1 hy with rfl | hy; exact hx; exact hs hy)
    simp only [List.length_cons] at this
    omega
end Go.Proofs.YtadgciaclhjjkaaGreat
