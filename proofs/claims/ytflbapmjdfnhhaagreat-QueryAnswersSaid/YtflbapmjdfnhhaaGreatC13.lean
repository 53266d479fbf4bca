/- The histogram: a new one, the sum of its counts, its buckets. -/
import Derived.Test.YtflbapmjdfnhhaaGreatC09
import Derived.Test.YtflbapmjdfnhhaaGreatCTab
import Derived.Test.YtflbapmjdfnhhaaGreatC11
set_option linter.unusedVariables false
set_option linter.unusedSimpArgs false
set_option maxRecDepth 100000
set_option maxHeartbeats 400000
namespace Go.Proofs.YtflbapmjdfnhhaaGreat
open Go.RowKit (Below)
theorem extAdd : ExtF Tryz.prog 115 addSem := ⟨_, rfl, by kernel_rfl, by kernel_rfl, by kernel_rfl, by kernel_rfl⟩
/-- A sum that stops at the top. -/
def satAdd (x y : Nat) : Nat := if 2 ^ 64 ≤ x + y then 2 ^ 64 - 1 else x + y
theorem satAdd_lt {x y : Nat} : satAdd x y < 2 ^ 64 := by unfold satAdd; split <;> omega
def cellsU (h : List Nat) : List Value := h.map fun n : Nat => .int .u64 (n : Int)
/-- A histogram's row. -/
def HistAt (st : Heap) (r : Nat) (h : List Nat) : Prop := st r = some (.cells true (cellsU h) 7424 (.own r 0 120)) ∧ h.length = 7424 ∧ ∀ n ∈ h, n < 2 ^ 64
theorem zerosL_one (v : Value) : ∀ m, zerosL [v] m = List.replicate m v
  | 0 => rfl
  | m + 1 => by unfold zerosL; rw [zerosL_one v m]; rfl
theorem ClearI_full {P : Program} {t e bytes m c b n : Nat} {v : Value} {K : Value → Heap → Prop} {st : Heap} {xs : List Value} {g : Tg} (hi : slInfo P t = some (e, 1, bytes, [v])) (hb : st b = some (.cells true xs n g)) (hl : xs.length = m) (hn : m ≤ n)
    (h1 : v.oneCell' = true) (hk : K (.tuple #[]) (upd st b (.cells true (List.replicate m v) n g))) : ClearI P t (.slice (some ⟨b, 0, none⟩) m c) K st := by
  unfold ClearI clearX
  refine optK_iff.2 ⟨_, hi, ?_⟩
  simp only
  by_cases hm : m = 0
  · rw [if_pos hm]
    subst hm
    have : xs = [] := List.eq_nil_of_length_eq_zero hl
    subst this
    rw [show List.replicate 0 v = [] from rfl, upd_self hb] at hk
    exact hk
  rw [if_neg hm, zerosL_one]
  refine optK_iff.2 ⟨_, stN_splice _ 0 xs st hb (by simp [hl]) (by omega) (fun y hy => by rw [List.eq_of_mem_replicate hy]; exact h1), by trivial, ?_⟩
  have : splice xs 0 (List.replicate m v) = List.replicate m v := by
    unfold splice
    rw [List.take_zero, List.nil_append, List.drop_eq_nil_of_le (by simp [hl]), List.append_nil]
  rw [this]
  exact hk
section
variable {W0 : World} {st : Heap}
theorem wideAdd_spec {x y : Nat} (hx : x < 2 ^ 64) (hy : y < 2 ^ 64) : ICalls Tryz.prog W0 100 #[.int .u64 x, .int .u64 y] st fun e st' => e = .returned (.int .u64 (satAdd x y : Nat)) ∧ st' = st := by
  have hadd : ∀ {K : Value → Heap → Prop} {Kp : List PanicEntry → Heap → Prop}, K (.tuple #[.int .u64 (((x + y) % 2 ^ 64 : Nat) : Int), .int .u64 (((x + y) / 2 ^ 64 : Nat) : Int)]) st → callY Tryz.prog W0 (.func (.func 115) #[] #[]) [.int .u64 x, .int .u64 y, .int .u64 0] K Kp st := by
    intro K Kp hk
    rw [callY_ext _ _ extAdd]
    have hx' : IntKind.u64.wrap (x : Int) = x := wraps_u64 _ (by omega) (by omega)
    have hy' : IntKind.u64.wrap (y : Int) = y := wraps_u64 _ (by omega) (by omega)
    have h1 : addSem #[.int .u64 x, .int .u64 y, .int .u64 0] = pure (.tuple #[.int .u64 ((((x : Int).toNat + (y : Int).toNat + 0) % 2 ^ 64 : Nat) : Int), .int .u64 ((((x : Int).toNat + (y : Int).toNat + 0) / 2 ^ 64 : Nat) : Int)]) := rfl
    show wpS _ (addSem #[.int .u64 x, .int .u64 y, .int .u64 0]) _ _ _
    rw [h1, wpS_pure]
    simp only [Int.toNat_natCast, Nat.add_zero]
    exact hk
  refine enter (args := [_, _]) Tryz.func100 rfl ?_
  simp [Tryz.f100, go_sem]
  refine hadd ?_
  by_cases h : 2 ^ 64 ≤ x + y
  · have h1 : (x + y) / 2 ^ 64 = 1 := by omega
    simp [go_sem, h1]
    unfold satAdd
    rw [if_pos h]
    rfl
  · have h1 : (x + y) / 2 ^ 64 = 0 := by omega
    have h2 : (x + y) % 2 ^ 64 = x + y := by omega
    rw [h1, h2]
    simp [go_sem]
    unfold satAdd
    rw [if_neg h]
    simp
theorem upto_spec {r i : Nat} {h : List Nat} (hr : HistAt st r h) (hi : i < 7424) : ICalls Tryz.prog W0 105 #[ptr r, Val.i i] st fun e st' => e = .returned (.int .u64 ((h.take (i + 1)).foldl satAdd 0 : Nat)) ∧ st' = st := by
  obtain ⟨hb, hl, hn⟩ := hr
  have hw : IntKind.i64.wrap ((i : Int) + 1) = (i : Int) + 1 := wrap_id (by omega) (by omega)
  have q0 : ((0 : Int) ≤ (i : Int) + 1) = True := eq_true (by omega)
  have q2 : ((i : Int) + 1).toNat = i + 1 := by omega
  have q1 : i + 1 ≤ 7424 := by omega
  refine enter (args := [_, _]) Tryz.func105 rfl ?_
  simp [-List.reduceReplicate, Tryz.f105, go_sem, hw, q0, q1, q2]
  refine ⟨fun E st' => st' = st ∧ E 15 = .slice (some ⟨r, 0, none⟩) (i + 1) 7424 ∧ E 16 = Val.i (i + 1 : Nat) ∧ ∃ k : Nat, E 17 = Val.i k ∧ k ≤ i + 1 ∧ E 5 = .int .u64 ((h.take k).foldl satAdd 0 : Nat), fun E _ => match E 17 with | .int _ z => i + 1 - z.toNat | _ => 0, ⟨st, .rfl' _, rfl, by simp [go_sem], by simp [go_sem], 0, by simp [go_sem], by omega, by simp [go_sem]⟩, ?_⟩
  rintro E st' ⟨rfl, e15, e16, k, e17, hk, e5⟩
  by_cases hlt : k < i + 1
  · have hkl : k < h.length := by omega
    have q2 : ((k : Int) < (i : Int) + 1) = True := eq_true (by omega)
    have hget : (cellsU h)[k]? = some (.int .u64 h[k]) := by simp [cellsU, List.getElem?_eq_getElem hkl]
    have hwk : IntKind.i64.wrap ((k : Int) + 1) = (k : Int) + 1 := wrap_id (by omega) (by omega)
    have hs : ∀ l : List Nat, ∀ a, a < 2 ^ 64 → l.foldl satAdd a < 2 ^ 64 := by
      intro l
      induction l with
      | nil => intro a ha; exact ha
      | cons x l ih => intro a ha; exact ih _ satAdd_lt
    simp [-List.reduceReplicate, go_sem, e15, e16, e17, e5, hb, hget, q2, hwk, hkl]
    refine (wideAdd_spec (hs _ 0 (by omega)) (hn _ (List.getElem_mem hkl))).mono ?_
    rintro e st2 ⟨rfl, rfl⟩
    simp [-List.reduceReplicate, go_sem, e15, e16, e17, hwk]
    have hf : (h.take (k + 1)).foldl satAdd 0 = satAdd ((h.take k).foldl satAdd 0) h[k] := by
      rw [List.take_add_one, List.getElem?_eq_getElem hkl, List.foldl_append]
      rfl
    exact ⟨st2, .rfl' _, ⟨rfl, k + 1, by simp, by omega, by rw [hf]⟩, by omega⟩
  · have hk' : k = i + 1 := by omega
    subst hk'
    simp [-List.reduceReplicate, go_sem, e15, e16, e17, e5]
theorem histNew_spec : ICalls Tryz.prog W0 76 #[] st fun e st' => ∃ r, e = .returned (ptr r) ∧ st r = none ∧ New st st' ∧ HistAt st' r (List.replicate 7424 0) := by
  refine enter (args := []) Tryz.func76 rfl ?_
  simp [-List.reduceReplicate, Tryz.f76, go_sem]
  unfold NewP
  intro r hr
  refine ⟨.own r 0 120, ?_⟩
  simp [-List.reduceReplicate, go_sem]
  refine ClearI_full (m := 7424) si51 (upd_same _ _ _) (by rw [List.length_replicate]) (by omega) rfl ?_
  simp [-List.reduceReplicate, go_sem]
  refine ⟨hr, (New.refl st).add hr, by rw [upd_same]; simp [-List.reduceReplicate, cellsU], by simp [-List.reduceReplicate], by intro n hn; rw [List.eq_of_mem_replicate hn]; omega⟩
end
end Go.Proofs.YtflbapmjdfnhhaaGreat
set_option linter.unusedVariables false
set_option linter.unusedSimpArgs false
set_option maxRecDepth 100000
set_option maxHeartbeats 400000
namespace Go.Proofs.YtflbapmjdfnhhaaGreat
open Go.RowKit (Below)
/-- The buckets among the first k that are not empty. -/
def bktL (h : List Nat) : Nat → List (Nat × Nat)
  | 0 => []
  | k + 1 => if 0 < h.getD k 0 then bktL h k ++ [(k, h.getD k 0)] else bktL h k
def bktV (l : List (Nat × Nat)) : List Value := l.flatMap fun p => [Val.i p.1, .int .u64 (p.2 : Int)]
theorem bktL_length (h : List Nat) : ∀ k, (bktL h k).length ≤ k
  | 0 => Nat.le_refl 0
  | k + 1 => by
    have := bktL_length h k
    unfold bktL
    split
    · simp; omega
    · omega
theorem bktV_append (a b : List (Nat × Nat)) : bktV (a ++ b) = bktV a ++ bktV b := by simp [bktV]
section
variable {W0 : World} {st : Heap}
theorem buckets_spec {r : Nat} {h : List Nat} (hr : HistAt st r h) : ICalls Tryz.prog W0 81 #[ptr r] st fun e st' => ∃ v, e = .returned v ∧ Vec st' (.ty 1) 2 v (bktV (bktL h 7424)) (bktL h 7424).length ∧ Fresh st v ∧ New st st' := by
  obtain ⟨hb, hl, hn⟩ := hr
  have hcl : (cellsU h).length = 7424 := by simp [cellsU, hl]
  have htk : (cellsU h).take 7424 = cellsU h := by rw [← hcl]; exact List.take_length
  refine enter (args := [_]) Tryz.func81 rfl ?_
  simp [-List.reduceReplicate, Tryz.f81, go_sem, hb, htk, hcl]
  refine ⟨fun E st' => E 12 = .agg (cellsU h).toArray ∧ ∃ k : Nat, E 13 = Val.i k ∧ k ≤ 7424 ∧ Vec st' (.ty 1) 2 (E 3) (bktV (bktL h k)) (bktL h k).length ∧ Fresh st (E 3) ∧ New st st', fun E _ => match E 13 with | .int _ z => 7424 - z.toNat | _ => 0, ⟨st, .rfl' _, by simp [go_sem], 0, by simp [go_sem], by omega, by simp [go_sem]; exact .nil, by simp [go_sem]; exact .none, .refl _⟩, ?_⟩
  rintro E st' ⟨e12, k, e13, hk, hv, hf, hnw⟩
  by_cases hlt : k < 7424
  · have hkl : k < h.length := by omega
    have q1 : ((k : Int) < 7424) = True := eq_true (by omega)
    have hget : (cellsU h)[k]? = some (.int .u64 h[k]) := by simp [cellsU, List.getElem?_eq_getElem hkl]
    have hgd : h.getD k 0 = h[k] := by simp [List.getD_eq_getElem?_getD, List.getElem?_eq_getElem hkl]
    have hwk : IntKind.i64.wrap ((k : Int) + 1) = (k : Int) + 1 := wrap_id (by omega) (by omega)
    by_cases hp : 0 < h[k]
    · have q2 : (0 < h[k]) = True := eq_true hp
      have hnext : bktL h (k + 1) = bktL h k ++ [(k, h[k])] := by
        show (if 0 < h.getD k 0 then _ else _) = _
        rw [hgd, if_pos hp]
      simp [-List.reduceReplicate, go_sem, e12, e13, hget, q1, q2, hlt]
      unfold NewS
      intro b1 hb1
      refine ⟨.ty 1, ?_⟩
      simp [-List.reduceReplicate, go_sem, e12, e13]
      have hN1 : New st' (upd st' b1 (.cells true [Val.i k, .int .u64 (h[k] : Int)] 2 (.ty 1))) := (New.refl _).add hb1
      have hlen := bktL_length h k
      refine AppI_new (st0 := st) (g := .ty 1) (m := 1) (ys := [Val.i k, .int .u64 (h[k] : Int)]) si50 (hv.new' hN1) hf (hnw.trans hN1) (by simp [srcCells, lkN_mk, upd_same, cellsOf]) (by simp; exact ⟨rfl, rfl⟩) (by omega) ?_
      intro nb nc st2 hv2 hf2 hk2 _
      simp [-List.reduceReplicate, go_sem, e12, e13, hwk]
      refine ⟨st2, .rfl' _, ⟨k + 1, by simp, by omega, ?_, hf2, hk2⟩, by omega⟩
      rw [hnext, bktV_append]
      simpa [bktV] using hv2
    · have q2 : (0 < h[k]) = False := eq_false hp
      have hnext : bktL h (k + 1) = bktL h k := by
        show (if 0 < h.getD k 0 then _ else _) = _
        rw [hgd, if_neg hp]
      simp [-List.reduceReplicate, go_sem, e12, e13, hget, q1, q2, hlt, hwk]
      refine ⟨st', .rfl' _, ⟨k + 1, by simp, by omega, ?_, hf, hnw⟩, by omega⟩
      rw [hnext]
      exact hv
  · have hk' : k = 7424 := by omega
    subst hk'
    simp [-List.reduceReplicate, go_sem, e12, e13]
    exact ⟨hv, hf, hnw⟩
end
end Go.Proofs.YtflbapmjdfnhhaaGreat
