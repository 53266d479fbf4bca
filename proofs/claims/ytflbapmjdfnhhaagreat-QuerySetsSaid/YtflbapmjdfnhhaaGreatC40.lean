/- Counts: what windows of rows count together. -/
import Derived.Test.YtflbapmjdfnhhaaGreatC35
set_option linter.unusedVariables false
set_option linter.unusedSimpArgs false
set_option maxRecDepth 100000
namespace Go.Proofs.YtflbapmjdfnhhaaGreat
open Go.RowKit (Below)
theorem sum_set : ∀ (h : List Nat) (i v : Nat), i < h.length → (h.set i v).sum + h.getD i 0 = h.sum + v
  | [], i, v, hi => by simp at hi
  | x :: h, 0, v, _ => by simp; omega
  | x :: h, i + 1, v, hi => by
    have := sum_set h i v (by simpa using hi)
    simp only [List.set_cons_succ, List.sum_cons, List.getD_cons_succ]
    omega
theorem getD_le_sum : ∀ (h : List Nat) (i : Nat), h.getD i 0 ≤ h.sum
  | [], i => by simp
  | x :: h, 0 => by simp
  | x :: h, i + 1 => by
    have := getD_le_sum h i
    simp only [List.getD_cons_succ, List.sum_cons]
    omega
theorem addB_total {h : List Nat} {p : Int × Nat} (hl : h.length = 7424) (hp : p.1 < 7424) (h0 : 0 ≤ p.1) : min (addB h p).sum (2 ^ 64 - 1) = min (h.sum + p.2) (2 ^ 64 - 1) := by
  unfold addB
  have := sum_set h p.1.toNat (satAdd (h.getD p.1.toNat 0) p.2) (by omega)
  have h2 := satAdd_min (h.getD p.1.toNat 0) p.2
  have h3 := getD_le_sum h p.1.toNat
  omega
theorem mergeB_total : ∀ (l : List (Int × Nat)) (h : List Nat), h.length = 7424 → (∀ x ∈ l, 0 ≤ x.1 ∧ x.1 < 7424) → min (mergeB h l).sum (2 ^ 64 - 1) = min (h.sum + (l.map (·.2)).sum) (2 ^ 64 - 1)
  | [], h, _, _ => by simp [mergeB]
  | p :: l, h, hl, hx => by
    have h1 := hx p (by simp)
    have e := addB_total hl h1.2 h1.1
    have := mergeB_total l (addB h p) (by rw [addB_length, hl]) fun x hx' => hx x (by simp [hx'])
    have e2 : mergeB h (p :: l) = mergeB (addB h p) l := rfl
    rw [e2, this]
    simp only [List.map_cons, List.sum_cons]
    omega
def totS (s : SkD) : Nat := (s.hist.map (·.2)).sum
def totL (l : List SkD) : Nat := (l.map totS).sum
theorem hist_range {s : SkD} (hc : checkS s = true) : ∀ x ∈ s.hist, 0 ≤ x.1 ∧ x.1 < 7424 := fun x hx => by
  unfold checkS at hc
  simp only [Bool.and_eq_true] at hc
  have := checkB_spec s.hist (-1) hc.1 x hx
  omega
theorem foldl_total : ∀ (l : List SkD) (x : SumD), x.h.length = 7424 → (∀ s ∈ l, checkS s = true) → min (l.foldl addS x).h.sum (2 ^ 64 - 1) = min (x.h.sum + totL l) (2 ^ 64 - 1) ∧ (l.foldl addS x).h.length = 7424
  | [], x, hx, _ => by simp [totL, hx]
  | s :: l, x, hx, hc => by
    have hl : (addS x s).h.length = 7424 := (mergeB_length _ _).trans hx
    obtain ⟨h1, h2⟩ := foldl_total l (addS x s) hl fun s hs => hc s (by simp [hs])
    have h3 : min (addS x s).h.sum (2 ^ 64 - 1) = min (x.h.sum + totS s) (2 ^ 64 - 1) := mergeB_total s.hist x.h hx (hist_range (hc s (by simp)))
    refine ⟨?_, h2⟩
    rw [List.foldl_cons, h1]
    have : totL (s :: l) = totS s + totL l := by simp [totL]
    rw [this]
    omega
theorem sumSk_total {l : List SkD} (hc : ∀ s ∈ l, checkS s = true) : satSum ((sumSk l).hist.map (·.2)) = min (totL l) (2 ^ 64 - 1) := by
  obtain ⟨h1, h2⟩ := foldl_total l sum0 (by simp [sum0]) hc
  have h0 : sum0.h.sum = 0 := by simp [sum0]
  unfold sumSk tellS
  simp only [toI_snd]
  rw [satSum_min, bktL_sum, List.take_of_length_le (by omega), h1, h0]
  simp
/-- The answer to a count. -/
theorem oneM_count {a b : Nat} {l : List SkD} (hc : ∀ s ∈ l, checkS s = true) : oneM 1 a b (sumSk l) = if 2 ^ 64 - 1 ≤ totL l then ⟨false, 0, 11⟩ else ⟨true, totL l, 0⟩ := by
  unfold oneM
  rw [if_pos rfl, sumSk_total hc]
  by_cases c : 2 ^ 64 - 1 ≤ totL l
  · rw [if_pos c, if_pos (by omega)]
  · rw [if_neg c, if_neg (by omega)]
    have : min (totL l) (2 ^ 64 - 1) = totL l := by omega
    rw [this]
theorem winL_check {L : List RowD} (h : ∀ r ∈ L, checkS r.s = true) (frm to_ : Int) : ∀ s ∈ winL L frm to_, checkS s = true := fun s hs => by
  obtain ⟨r, hr, rfl⟩ := List.mem_map.1 hs
  exact h r (List.mem_filter.1 hr).1
theorem keepR_check {ev : List Lab → Bool} {l : List RowD} : ∀ r ∈ l.filter (keepR ev), checkS r.s = true := fun r hr => by
  have := (List.mem_filter.1 hr).2
  unfold keepR at this
  simp only [Bool.and_eq_true] at this
  exact this.1.2
end Go.Proofs.YtflbapmjdfnhhaaGreat
