/- The histogram: its buckets are what was added; counts and places by either. Plain. -/
import Derived.Test.YtflbapmjdfnhhaaGreatC21
import Derived.Test.YtflbapmjdfnhhaaGreatC22
import Derived.Test.YtflbapmjdfnhhaaGreatC23
import Derived.Test.YtflbapmjdfnhhaaGreatC11
import Derived.Test.YtflbapmjdfnhhaaGreatC10
set_option linter.unusedVariables false
set_option linter.unusedSimpArgs false
namespace Go.Proofs.YtflbapmjdfnhhaaGreat
def toI (l : List (Nat × Nat)) : List (Int × Nat) := l.map fun p => ((p.1 : Int), p.2)
theorem toI_append (a b : List (Nat × Nat)) : toI (a ++ b) = toI a ++ toI b := by simp [toI]
theorem bkV_toI (l : List (Nat × Nat)) : bkV (toI l) = bktV l := by simp [bkV, toI, bktV, List.flatMap_map]
theorem toI_length (l : List (Nat × Nat)) : (toI l).length = l.length := by simp [toI]
theorem bktL_succ (h : List Nat) (k : Nat) : bktL h (k + 1) = if 0 < h.getD k 0 then bktL h k ++ [(k, h.getD k 0)] else bktL h k := rfl
theorem toI_snd (l : List (Nat × Nat)) : (toI l).map (·.2) = l.map (·.2) := by simp [toI, List.map_map, Function.comp_def]
theorem bktL_above (h : List Nat) (p : Nat) (hz : ∀ i, p ≤ i → h.getD i 0 = 0) : ∀ k, p ≤ k → bktL h k = bktL h p
  | 0, hk => by rw [show p = 0 by omega]
  | k + 1, hk => by
    by_cases hp : p = k + 1
    · rw [hp]
    · rw [bktL_succ, hz k (by omega), if_neg (by omega)]
      exact bktL_above h p hz k (by omega)
theorem bktL_same (h h' : List Nat) : ∀ k, (∀ i, i < k → h.getD i 0 = h'.getD i 0) → bktL h k = bktL h' k
  | 0, _ => rfl
  | k + 1, e => by
    unfold bktL
    rw [e k (by omega), bktL_same h h' k fun i hi => e i (by omega)]
theorem getD_set (h : List Nat) (p n i : Nat) (hp : p < h.length) : (h.set p n).getD i 0 = if i = p then n else h.getD i 0 := by
  simp only [List.getD_eq_getElem?_getD, List.getElem?_set]
  by_cases hi : p = i
  · subst hi; simp [hp]
  · rw [if_neg hi, if_neg (Ne.symm hi)]
theorem bktL_set (h : List Nat) (p n : Nat) (hp : p < h.length) (hn : 0 < n) (hz : ∀ i, p ≤ i → h.getD i 0 = 0) (k : Nat) (hk : p < k) : bktL (h.set p n) k = bktL h k ++ [(p, n)] := by
  rw [bktL_above h p hz k (by omega), bktL_above (h.set p n) (p + 1) (fun i hi => by rw [getD_set h p n i hp, if_neg (by omega)]; exact hz i (by omega)) k (by omega)]
  show (if 0 < (h.set p n).getD p 0 then _ else _) = _
  rw [getD_set h p n p hp, if_pos rfl, if_pos hn, bktL_same (h.set p n) h p fun i hi => by rw [getD_set h p n i hp, if_neg (by omega)]]
theorem bktL_merge_from : ∀ (l : List (Int × Nat)) (p : Int) (h : List Nat), checkB p l = true → -1 ≤ p → h.length = 7424 → (∀ x ∈ l, x.2 < 2 ^ 64) → (∀ i : Nat, p < (i : Int) → h.getD i 0 = 0) → toI (bktL (mergeB h l) 7424) = toI (bktL h 7424) ++ l
  | [], p, h, _, _, _, _, _ => by simp [mergeB]
  | x :: l, p, h, hc, hp, hl, hb, hz => by
    have hc0 := hc
    simp only [checkB, Bool.and_eq_true, Bool.not_eq_true', Bool.or_eq_false_iff, decide_eq_false_iff_not] at hc
    obtain ⟨⟨⟨h1, h2⟩, h3⟩, h4⟩ := hc
    obtain ⟨xi, xn⟩ := x
    simp only at h1 h2 h3 h4
    obtain ⟨z, rfl⟩ : ∃ z : Nat, xi = (z : Int) := ⟨xi.toNat, by omega⟩
    have hadd : addB h ((z : Int), xn) = h.set z xn := by
      have hxb := hb _ (by simp : ((z : Int), xn) ∈ ((z : Int), xn) :: l)
      simp only at hxb
      unfold addB
      rw [Int.toNat_natCast, hz z (by omega)]
      have : satAdd 0 xn = xn := by unfold satAdd; rw [if_neg (by omega)]; omega
      rw [this]
    have hm : mergeB h (((z : Int), xn) :: l) = mergeB (h.set z xn) l := by unfold mergeB; rw [List.foldl_cons, hadd]
    rw [hm, bktL_merge_from l z (h.set z xn) h4 (by omega) (by simp [hl]) (fun y hy => hb y (by simp [hy])) (fun i hi => by rw [getD_set h z xn i (by omega), if_neg (by omega)]; exact hz i (by omega))]
    rw [bktL_set h z xn (by omega) (by omega) (fun i hi => hz i (by omega)) 7424 (by omega), toI_append, List.append_assoc]
    rfl
theorem bktL_merge {l : List (Int × Nat)} (hc : checkB (-1) l = true) (hb : ∀ x ∈ l, x.2 < 2 ^ 64) : toI (bktL (mergeB (List.replicate 7424 0) l) 7424) = l := by
  have hz : ∀ i : Nat, (List.replicate 7424 0).getD i 0 = 0 := fun i => by
    rw [List.getD_eq_getElem?_getD, List.getElem?_replicate]
    split <;> rfl
  rw [bktL_merge_from l (-1) _ hc (by omega) (List.length_replicate) hb (fun i _ => hz i), bktL_above _ 0 (fun i _ => hz i) 7424 (by omega)]
  rfl
/-! Sums. -/
def satSum (l : List Nat) : Nat := l.foldl satAdd 0
theorem satAdd_min (x y : Nat) : satAdd x y = min (x + y) (2 ^ 64 - 1) := by unfold satAdd; split <;> omega
theorem satFold_min : ∀ (l : List Nat) (s : Nat), s ≤ 2 ^ 64 - 1 → l.foldl satAdd s = min (s + l.sum) (2 ^ 64 - 1)
  | [], s, h => by simp; omega
  | x :: l, s, h => by
    rw [List.foldl_cons, satFold_min l _ (by have := @satAdd_lt s x; omega), satAdd_min, List.sum_cons]
    omega
theorem satSum_min (l : List Nat) : satSum l = min l.sum (2 ^ 64 - 1) := by
  unfold satSum
  rw [satFold_min l 0 (by omega)]
  omega
theorem sum_take_succ (h : List Nat) (k : Nat) : (h.take (k + 1)).sum = (h.take k).sum + h.getD k 0 := by
  rw [List.take_add_one, List.sum_append, List.getD_eq_getElem?_getD]
  cases h[k]? <;> simp
theorem bktL_sum (h : List Nat) : ∀ k, ((bktL h k).map (·.2)).sum = (h.take k).sum
  | 0 => by simp [bktL]
  | k + 1 => by
    rw [sum_take_succ, ← bktL_sum h k, bktL_succ]
    split
    · simp
    · omega
theorem count_eq {l : List (Int × Nat)} (hc : checkB (-1) l = true) (hb : ∀ x ∈ l, x.2 < 2 ^ 64) (hlen : (mergeB (List.replicate 7424 0) l).length = 7424) : (mergeB (List.replicate 7424 0) l).foldl satAdd 0 = satSum (l.map (·.2)) := by
  have h1 : (mergeB (List.replicate 7424 0) l).foldl satAdd 0 = satSum (mergeB (List.replicate 7424 0) l) := rfl
  rw [h1, satSum_min, satSum_min]
  have h2 := bktL_sum (mergeB (List.replicate 7424 0) l) 7424
  rw [List.take_of_length_le (by omega)] at h2
  have h3 := bktL_merge hc hb
  have h4 := toI_snd (bktL (mergeB (List.replicate 7424 0) l) 7424)
  rw [h3] at h4
  rw [← h2, h4]
/-! Where a sum is reached. -/
def findL : List (Nat × Nat) → Nat → Nat → Option Nat
  | [], _, _ => none
  | x :: l, s, kk => if kk ≤ s + x.2 then some x.1 else findL l (s + x.2) kk
theorem findL_append : ∀ (a b : List (Nat × Nat)) (s kk : Nat), findL (a ++ b) s kk = match findL a s kk with
    | some x => some x
    | none => findL b (s + (a.map (·.2)).sum) kk
  | [], b, s, kk => by simp [findL]
  | x :: a, b, s, kk => by
    simp only [List.cons_append, findL]
    split
    · rfl
    · rw [findL_append a b]
      simp only [List.map_cons, List.sum_cons, Nat.add_assoc]
theorem findL_none : ∀ (a : List (Nat × Nat)) (s kk : Nat), 0 < kk → s < kk → findL a s kk = none → s + (a.map (·.2)).sum < kk
  | [], s, kk, _, h, _ => by simpa using h
  | x :: a, s, kk, h0, h, hn => by
    simp only [findL] at hn
    split at hn
    · cases hn
    · rename_i hc
      have := findL_none a (s + x.2) kk h0 (by omega) hn
      simp only [List.map_cons, List.sum_cons]
      omega
theorem bktL_split (h : List Nat) (k : Nat) : ∀ d, ∃ r, bktL h (k + d) = bktL h k ++ r
  | 0 => ⟨[], by simp⟩
  | d + 1 => by
    obtain ⟨r, hr⟩ := bktL_split h k d
    rw [show k + (d + 1) = (k + d) + 1 by omega, bktL_succ]
    split
    · exact ⟨r ++ [_], by rw [hr, List.append_assoc]⟩
    · exact ⟨r, hr⟩
/-- The least number of a bucket. -/
def lowN (a : Nat) : Nat := if a < 256 then a else (a - 128 * (a / 128 - 1)) * 2 ^ (a / 128 - 1)
end Go.Proofs.YtflbapmjdfnhhaaGreat
set_option linter.unusedVariables false
set_option linter.unusedSimpArgs false
set_option maxRecDepth 100000
set_option maxHeartbeats 400000
namespace Go.Proofs.YtflbapmjdfnhhaaGreat
open Go.RowKit (Below)
/-- The rank that is asked for. -/
def rankN (a b n : Nat) : Nat := max 1 (ceilM a n b).1
theorem rankN_le {a b n : Nat} (hab : a ≤ b) (hb : 0 < b) (hn : n < 2 ^ 64) (h0 : 0 < n) : rankN a b n ≤ n := by
  unfold rankN ceilM
  have h1 : a * n ≤ b * n := Nat.mul_le_mul_right _ hab
  have h2 : a * n / b ≤ n := Nat.div_le_of_le_mul h1
  split
  · simp; omega
  · split
    · simp; omega
    · split
      · rename_i c1 c2 c3
        simp only
        have h3 := Nat.div_add_mod (a * n) b
        have h4 : a * n / b < n := by
          apply Classical.byContradiction
          intro h5
          have h6 : a * n / b = n := by omega
          rw [h6] at h3
          have : b * n < a * n := by omega
          omega
        omega
      · simp only; omega
def quantH (h : List Nat) (a b : Nat) : Nat × Int :=
  if b = 0 ∨ b < a then (0, 5) else if satSum h = 2 ^ 64 - 1 then (0, 11) else if satSum h = 0 then (0, 3) else (lowN ((findL (bktL h 7424) 0 (rankN a b (satSum h))).getD 0), 0)
section
variable {W0 : World} {st : Heap}
theorem shape_spec {a : Nat} (ha : a < 7424) : ICalls Tryz.prog W0 125 #[Val.i (a : Int)] st fun e st' => e = .returned (.tuple #[.int .u64 ((if a < 256 then a else a - 128 * (a / 128 - 1) : Nat) : Int), Val.i ((if a < 256 then 0 else a / 128 - 1 : Nat) : Int)]) ∧ st' = st := by
  refine enter (args := [_]) Tryz.func125 rfl ?_
  have hw0 : IntKind.u64.wrap (a : Int) = (a : Int) := wraps_u64 _ (by omega) (by omega)
  by_cases c : a < 256
  · have q : ((a : Int) < 256) = True := eq_true (by omega)
    rw [if_pos c, if_pos c]
    simp [Tryz.f125, go_sem, q, hw0]
  · have q : ((a : Int) < 256) = False := eq_false (by omega)
    rw [if_neg c, if_neg c]
    obtain ⟨e, he⟩ : ∃ e, a / 128 - 1 = e := ⟨_, rfl⟩
    obtain ⟨v, hv⟩ : ∃ v, a - 128 * e = v := ⟨_, rfl⟩
    rw [he, hv]
    have f1 : IntKind.i64.wrap (IntKind.i64.wrap ((a : Int) / 128) - 1) = (e : Int) := by simp only [IntKind.wrap_i64]; omega
    have f2 : IntKind.u64.wrap (IntKind.i64.wrap ((a : Int) - IntKind.i64.wrap (128 * (e : Int)))) = (v : Int) := by simp only [IntKind.wrap_i64, IntKind.wrap_u64]; omega
    have ft : (a : Int).tdiv 128 = (a : Int) / 128 := Int.tdiv_eq_ediv_of_nonneg (by omega)
    simp [Tryz.f125, go_sem, q, c, f1, f2, ft]
theorem shl_low {v e : Nat} (hv : v < 256) (he : e ≤ 56) : IntKind.u64.wrap ((v : Int) * 2 ^ e) = ((v * 2 ^ e : Nat) : Int) := by
  refine wrapU (by simp) ?_
  have h1 : 2 ^ e ≤ 2 ^ 56 := Nat.pow_le_pow_right (by decide) he
  have h2 : v * 2 ^ e ≤ 255 * 2 ^ 56 := Nat.mul_le_mul (by omega) h1
  omega
theorem Low_spec {a : Nat} (ha : a < 7424) : ICalls Tryz.prog W0 107 #[Val.i (a : Int)] st fun e st' => e = .returned (.tuple #[.int .u64 ((lowN a : Nat) : Int), .bool true]) ∧ st' = st := by
  have q1 : ((a : Int) < 0) = False := eq_false (by omega)
  have q2 : ((7424 : Int) ≤ (a : Int)) = False := eq_false (by omega)
  have q3 : ¬ 7424 ≤ a := by omega
  refine enter (args := [_]) Tryz.func107 rfl ?_
  simp [Tryz.f107, go_sem, q1, q2, q3]
  refine (shape_spec ha).mono ?_
  rintro e st1 ⟨rfl, rfl⟩
  unfold lowN
  by_cases c : a < 256
  · have hw : IntKind.u64.wrap (a : Int) = (a : Int) := wraps_u64 _ (by omega) (by omega)
    simp [go_sem, c, shiftBin, hw]
  · obtain ⟨e, he⟩ : ∃ e, a / 128 - 1 = e := ⟨_, rfl⟩
    obtain ⟨v, hv⟩ : ∃ v, a - 128 * e = v := ⟨_, rfl⟩
    rw [if_neg c, if_neg c, if_neg c, he, hv]
    have hs := shl_low (v := v) (e := e) (by omega) (by omega)
    have hmin : min e 64 = e := by omega
    have qe : ((e : Int) < 0) = False := eq_false (by omega)
    obtain ⟨r, hr⟩ : ∃ r, v * 2 ^ e = r := ⟨_, rfl⟩
    rw [hr] at hs ⊢
    simp [go_sem, shiftBin, qe, hmin, hs]
theorem Quantile_spec {r a b : Nat} {h : List Nat} (hr : HistAt st r h) (ha : a < 2 ^ 64) (hb : b < 2 ^ 64) : ICalls Tryz.prog W0 87 #[ptr r, .int .u64 (a : Int), .int .u64 (b : Int)] st fun e st' => e = .returned (.tuple #[.int .u64 ((quantH h a b).1 : Int), Val.i (quantH h a b).2]) ∧ New st st' := by
  generalize hres : quantH h a b = res
  obtain ⟨rv, re⟩ := res
  unfold quantH at hres
  refine enter (args := [_, _, _]) Tryz.func87 rfl ?_
  by_cases c1 : b = 0
  · subst c1
    rw [if_pos (.inl rfl)] at hres
    injection hres with h1 h2
    subst h1; subst h2
    simp [Tryz.f87, go_sem]
    exact New.refl _
  have q1 : ((b : Int) = 0) = False := eq_false (by omega)
  by_cases c2 : b < a
  · rw [if_pos (.inr c2)] at hres
    injection hres with h1 h2
    subst h1; subst h2
    have q2 : ((b : Int) < (a : Int)) = True := eq_true (by omega)
    simp [Tryz.f87, go_sem, q1, q2, c1, c2]
    exact New.refl _
  have q2 : ((b : Int) < (a : Int)) = False := eq_false (by omega)
  rw [if_neg (by omega)] at hres
  simp [-List.reduceReplicate, Tryz.f87, go_sem, q1, q2, c1, c2]
  refine (histCount_spec hr).mono ?_
  rintro e st1 ⟨rfl, rfl⟩
  have hss : h.foldl satAdd 0 = satSum h := rfl
  rw [hss]
  by_cases c3 : satSum h = 2 ^ 64 - 1
  · rw [if_pos c3] at hres ⊢
    injection hres with h1 h2
    subst h1; subst h2
    simp [go_sem]
    exact New.refl _
  rw [if_neg c3] at hres ⊢
  have hmin := satSum_min h
  have hsum : h.sum = satSum h ∧ satSum h < 2 ^ 64 - 1 := by omega
  by_cases c4 : satSum h = 0
  · rw [if_pos c4] at hres
    injection hres with h1 h2
    subst h1; subst h2
    simp [go_sem, c4]
    exact New.refl _
  rw [if_neg c4] at hres
  obtain ⟨n, hn⟩ : ∃ n, satSum h = n := ⟨_, rfl⟩
  rw [hn] at hres hsum c4 ⊢
  have q4 : ((n : Int) = 0) = False := eq_false (by omega)
  simp [-List.reduceReplicate, go_sem, q4, c4]
  refine (Ceil_spec ha (by omega : n < 2 ^ 64) hb).mono ?_
  rintro e st2 ⟨rfl, hk2⟩
  obtain ⟨hcell, hlen, hbnd⟩ := hr
  have hcell2 := hk2 _ _ hcell
  have hrank := rankN_le (a := a) (b := b) (n := n) (by omega) (by omega) (by omega) (by omega)
  obtain ⟨kk, hkk⟩ : ∃ kk, rankN a b n = kk := ⟨_, rfl⟩
  rw [hkk] at hres hrank
  have hkk' : max 1 (ceilM a n b).1 = kk := hkk
  have hkk0 : 0 < kk := by omega
  have hmx : max (1 : Int) ((ceilM a n b).1 : Int) = (kk : Int) := by omega
  have hmx2 : (if (1 : Int) < ((ceilM a n b).1 : Int) then ((ceilM a n b).1 : Int) else 1) = (kk : Int) := by split <;> omega
  have hcl : (cellsU h).length = 7424 := by simp [cellsU, hlen]
  have htk : (cellsU h).take 7424 = cellsU h := by rw [← hcl]; exact List.take_length
  simp [-List.reduceReplicate, go_sem, hmx, hmx2, hcell2, htk, hcl]
  have hS : ∀ k, (h.take k).sum ≤ n := fun k => by
    rw [← hsum.1]
    have := List.sum_append (l₁ := h.take k) (l₂ := h.drop k)
    rw [List.take_append_drop] at this
    omega
  refine ⟨fun E st' => st' = st2 ∧ E 47 = .agg (cellsU h).toArray ∧ E 10 = .int .u64 (kk : Int) ∧ E 13 = Val.i 0 ∧ ∃ k : Nat, E 48 = Val.i (k : Int) ∧ k ≤ 7424 ∧ E 12 = .int .u64 (((h.take k).sum : Nat) : Int) ∧ findL (bktL h k) 0 kk = none, fun E _ => match E 48 with | .int _ z => 7424 - z.toNat | _ => 0,
    ⟨st2, .rfl' _, rfl, by simp [go_sem], by simp [go_sem], by simp [go_sem], 0, by simp [go_sem], by omega, by simp [go_sem], rfl⟩, ?_⟩
  rintro E st3 ⟨rfl, e47, e10, e13, k, e48, hk, e12, hf⟩
  have hfn := findL_none _ _ _ hkk0 hkk0 hf
  rw [Nat.zero_add, bktL_sum] at hfn
  by_cases hlt : k < 7424
  · have hkl : k < h.length := by omega
    have t1 : ((k : Int) < 7424) = True := eq_true (by omega)
    have hget : (cellsU h)[k]? = some (.int .u64 h[k]) := by simp [cellsU, List.getElem?_eq_getElem hkl]
    have hgd : h.getD k 0 = h[k] := by simp [List.getD_eq_getElem?_getD, List.getElem?_eq_getElem hkl]
    have hsk := sum_take_succ h k
    have hsn := hS (k + 1)
    rw [hgd] at hsk
    have hbs := bktL_succ h k
    rw [hgd] at hbs
    obtain ⟨d, hd⟩ : ∃ d, 7424 = k + 1 + d := ⟨7424 - (k + 1), by omega⟩
    obtain ⟨rr, hrr⟩ := bktL_split h (k + 1) d
    rw [← hd] at hrr
    have hbk := bktL_sum h k
    obtain ⟨Sk, hSk⟩ : ∃ s, (h.take k).sum = s := ⟨_, rfl⟩
    obtain ⟨S1, hS1⟩ : ∃ s, (h.take (k + 1)).sum = s := ⟨_, rfl⟩
    obtain ⟨y, hy⟩ : ∃ y, h[k] = y := ⟨_, rfl⟩
    rw [hSk] at hsk hfn e12 hbk
    rw [hS1] at hsk hsn
    rw [hy] at hget hsk hbs
    have hw : IntKind.u64.wrap ((Sk : Int) + (y : Int)) = (S1 : Int) := wrapU (by omega) (by omega)
    have hwk : IntKind.i64.wrap ((k : Int) + 1) = (k : Int) + 1 := wrap_id (by omega) (by omega)
    by_cases c5 : kk ≤ S1
    · have t2 : ((kk : Int) ≤ (S1 : Int)) = True := eq_true (by omega)
      have hy0 : 0 < y := by omega
      rw [if_pos hy0] at hbs
      have hfk : findL (bktL h 7424) 0 kk = some k := by
        rw [hrr, hbs, findL_append, findL_append, hf]
        simp only [findL, Nat.zero_add, hbk]
        rw [if_pos (by omega)]
      rw [hfk] at hres
      injection hres with h1 h2
      simp only [Option.getD_some] at h1
      subst h1; subst h2
      simp [-List.reduceReplicate, go_sem, e47, e48, e10, e12, e13, t1, hlt, hget, hw, t2, c5]
      refine (Low_spec hlt).mono ?_
      rintro e st4 ⟨rfl, rfl⟩
      simp [go_sem]
      exact hk2
    · have t2 : ((kk : Int) ≤ (S1 : Int)) = False := eq_false (by omega)
      have hfk : findL (bktL h (k + 1)) 0 kk = none := by
        rw [hbs]
        split
        · rw [findL_append, hf]
          simp only [findL, Nat.zero_add, hbk]
          rw [if_neg (by omega)]
        · exact hf
      simp [-List.reduceReplicate, go_sem, e47, e48, e10, e12, e13, t1, hlt, hget, hw, t2, c5, hwk]
      exact ⟨_, .rfl' _, ⟨rfl, k + 1, by simp, by omega, by rw [hS1], hfk⟩, by omega⟩
  · have : k = 7424 := by omega
    subst this
    rw [List.take_of_length_le (by omega), hsum.1] at hfn
    omega
end
end Go.Proofs.YtflbapmjdfnhhaaGreat
set_option linter.unusedVariables false
set_option linter.unusedSimpArgs false
set_option maxRecDepth 100000
set_option maxHeartbeats 400000
namespace Go.Proofs.YtflbapmjdfnhhaaGreat
open Go.RowKit (Below)
def quantL (l : List (Nat × Nat)) (a b : Nat) : Nat × Int :=
  if b = 0 ∨ b < a then (0, 5) else if satSum (l.map (·.2)) = 2 ^ 64 - 1 then (0, 11) else if satSum (l.map (·.2)) = 0 then (0, 3) else match findL l 0 (rankN a b (satSum (l.map (·.2)))) with | some x => (lowN x, 0) | none => (0, 3)
/-- Buckets that are sound are as plain numbers. -/
def toN (l : List (Int × Nat)) : List (Nat × Nat) := l.map fun p => (p.1.toNat, p.2)
theorem toN_toI (l : List (Nat × Nat)) : toN (toI l) = l := by simp [toN, toI, List.map_map, Function.comp_def]
theorem toN_snd (l : List (Int × Nat)) : (toN l).map (·.2) = l.map (·.2) := by simp [toN, List.map_map, Function.comp_def]
/-- The program's quantile is the document's. -/
theorem quant_eq {l : List (Int × Nat)} {a b : Nat} (hc : checkB (-1) l = true) (hb : ∀ x ∈ l, x.2 < 2 ^ 64) (hlen : (mergeB (List.replicate 7424 0) l).length = 7424) : quantH (mergeB (List.replicate 7424 0) l) a b = quantL (toN l) a b := by
  have h1 : satSum (mergeB (List.replicate 7424 0) l) = satSum ((toN l).map (·.2)) := by rw [toN_snd]; exact count_eq hc hb hlen
  have h2 : bktL (mergeB (List.replicate 7424 0) l) 7424 = toN l := by rw [← bktL_merge hc hb, toN_toI]; rw [bktL_merge hc hb]
  unfold quantH quantL
  rw [h1, h2]
  split
  · rfl
  · rename_i c1
    split
    · rfl
    · rename_i c2
      split
      · rfl
      · rename_i c3
        have hs := satSum_min ((toN l).map (·.2))
        have hr := rankN_le (a := a) (b := b) (n := satSum ((toN l).map (·.2))) (by omega) (by omega) (by omega) (by omega)
        have hr0 : 0 < rankN a b (satSum ((toN l).map (·.2))) := by unfold rankN; omega
        generalize rankN a b (satSum ((toN l).map (·.2))) = kk at *
        cases hf : findL (toN l) 0 kk with
        | some x => rfl
        | none =>
          have := findL_none _ _ _ hr0 hr0 hf
          omega
section
variable {W0 : World} {st : Heap}
end
end Go.Proofs.YtflbapmjdfnhhaaGreat
set_option linter.unusedVariables false
set_option linter.unusedSimpArgs false
set_option maxRecDepth 100000
set_option maxHeartbeats 400000
namespace Go.Proofs.YtflbapmjdfnhhaaGreat
open Go.RowKit (Below)
section
variable {W0 : World} {st : Heap}
end
end Go.Proofs.YtflbapmjdfnhhaaGreat
set_option linter.unusedVariables false
set_option linter.unusedSimpArgs false
set_option maxRecDepth 100000
set_option maxHeartbeats 400000
namespace Go.Proofs.YtflbapmjdfnhhaaGreat
open Go.RowKit (Below)
structure SkD where
  hist : List (Int × Nat)
  hashes : List Nat
  g : GauD
structure SkOK (s : SkD) : Prop where
  hist : ∀ x ∈ s.hist, x.2 < 2 ^ 64
  hlen : s.hist.length * 16 ≤ 140737488355328
  hashes : ∀ x ∈ s.hashes, x < 2 ^ 64
  klen : s.hashes.length * 8 ≤ 140737488355328
  g : GauOK s.g
def SkAt (st : Heap) (cs : List Value) (s : SkD) : Prop := ∃ hv kv, cs = [hv, kv, Val.u s.g.n, Val.u s.g.nans, Val.u s.g.lo, Val.u s.g.hi] ∧ RegF st 2 hv (bkV s.hist) s.hist.length ∧ RegF st 1 kv (cellsU s.hashes) s.hashes.length
theorem SkAt.new {st st' : Heap} {cs : List Value} {s : SkD} (h : SkAt st cs s) (hk : New st st') : SkAt st' cs s := by
  obtain ⟨hv, kv, e, h1, h2⟩ := h
  exact ⟨hv, kv, e, h1.new hk, h2.new hk⟩
theorem SkAt.length {st : Heap} {cs : List Value} {s : SkD} (h : SkAt st cs s) : cs.length = 6 := by
  obtain ⟨hv, kv, rfl, _⟩ := h
  rfl
def checkS (s : SkD) : Bool := checkB (-1) s.hist && (checkK s.hashes && checkG s.g)
theorem Vec.away {st st' : Heap} {g : Tg} {size len : Nat} {v : Value} {xs : List Value} (h : Vec st g size v xs len) (hk : ∀ b off n c, v = .slice (some ⟨b, off, none⟩) n c → st' b = st b) : Vec st' g size v xs len := by
  obtain ⟨w1, wb, wc, w2, w3, w4⟩ := h
  refine ⟨w1, wb, wc, w2, w3, ?_⟩
  rcases w4 with ⟨b, n, rfl, hb, hn⟩ | h0
  · exact .inl ⟨b, n, rfl, by rw [hk _ _ _ _ w2]; exact hb, hn⟩
  · exact .inr h0
section
variable {W0 : World} {st : Heap}
theorem Buckets_copy {v : Value} {l : List (Int × Nat)} (h : RegF st 2 v (bkV l) l.length) (hl : l.length * 16 ≤ 140737488355328) : ICalls Tryz.prog W0 68 #[v] st fun e st' => ∃ w, e = .returned w ∧ Vec st' (.ty 1) 2 w (bkV l) l.length ∧ Fresh st w ∧ New st st' := by
  refine enter (args := [_]) Tryz.func68 rfl ?_
  simp [Tryz.f68, go_sem]
  refine AppI_newg (.ty 1) si50 h.src hl ?_
  intro base cap st' hV hF hk
  simp [go_sem]
  exact ⟨hV, hF, hk⟩
theorem Nums_copy {v : Value} {l : List Nat} (h : RegF st 1 v (cellsU l) l.length) (hl : l.length * 8 ≤ 140737488355328) : ICalls Tryz.prog W0 69 #[v] st fun e st' => ∃ w, e = .returned w ∧ Vec st' (.ty 1) 1 w (cellsU l) l.length ∧ Fresh st w ∧ New st st' := by
  refine enter (args := [_]) Tryz.func69 rfl ?_
  simp [Tryz.f69, go_sem]
  refine AppI_newg (.ty 1) si51 h.src hl ?_
  intro base cap st' hV hF hk
  simp [go_sem]
  exact ⟨hV, hF, hk⟩
theorem Sketch_fresh {cs : List Value} {s : SkD} (h : SkAt st cs s) (ok : SkOK s) : ICalls Tryz.prog W0 45 #[.agg cs.toArray] st fun e st' => ∃ hv kv, e = .returned (.agg #[hv, kv, Val.u s.g.n, Val.u s.g.nans, Val.u s.g.lo, Val.u s.g.hi]) ∧ Vec st' (.ty 1) 2 hv (bkV s.hist) s.hist.length ∧ Fresh st hv ∧ Vec st' (.ty 1) 1 kv (cellsU s.hashes) s.hashes.length ∧ Fresh st kv ∧ New st st' := by
  obtain ⟨hv, kv, rfl, h1, h2⟩ := h
  obtain ⟨o1, o2, o3, o4, o5⟩ := ok
  obtain ⟨hb, hc, rfl⟩ := h1.slice
  obtain ⟨kb, kc, rfl⟩ := h2.slice
  refine enter (args := [_]) Tryz.func45 rfl ?_
  simp [Tryz.f45, go_sem]
  unfold NewP
  intro a ha
  refine ⟨.ty 1, ?_⟩
  have k1 := (New.refl st).add (b := a) (o := .cells true [.slice hb s.hist.length hc, .slice kb s.hashes.length kc, Val.u s.g.n, Val.u s.g.nans, Val.u s.g.lo, Val.u s.g.hi] 6 (.ty 1)) ha
  have g1 := upd_same st a (.cells true [.slice hb s.hist.length hc, .slice kb s.hashes.length kc, Val.u s.g.n, Val.u s.g.nans, Val.u s.g.lo, Val.u s.g.hi] 6 (.ty 1))
  generalize upd st a (.cells true [.slice hb s.hist.length hc, .slice kb s.hashes.length kc, Val.u s.g.n, Val.u s.g.nans, Val.u s.g.lo, Val.u s.g.hi] 6 (.ty 1)) = st1 at *
  simp [go_sem]
  unfold NewP
  intro b hb'
  refine ⟨.ty 1, ?_⟩
  have k2 := (New.refl st1).add (b := b) (o := .cells true [.slice none 0 0, .slice none 0 0, Val.u 0, Val.u 0, Val.u 0, Val.u 0] 6 (.ty 1)) hb'
  have g2 := upd_same st1 b (.cells true [.slice none 0 0, .slice none 0 0, Val.u 0, Val.u 0, Val.u 0, Val.u 0] 6 (.ty 1))
  have hne : a ≠ b := by rintro rfl; rw [g1] at hb'; cases hb'
  have g1' := k2 _ _ g1
  simp [go_sem, hne, g1, upd_ne]
  generalize upd st1 b (.cells true [.slice none 0 0, .slice none 0 0, Val.u 0, Val.u 0, Val.u 0, Val.u 0] 6 (.ty 1)) = st2 at *
  have kk := k1.trans k2
  have hbn : st b = none := k1.none hb'
  refine (Buckets_copy (h1.new kk) o2).mono ?_
  rintro e st3 ⟨w, rfl, hw, hwf, k3⟩
  obtain ⟨wb, wc, rfl⟩ := hw.slice
  have g1'' := k3 _ _ g1'
  have g2' := k3 _ _ g2
  simp [go_sem, g1'']
  obtain ⟨st4, hst4⟩ : ∃ st4, upd st3 a (.cells true [.slice wb s.hist.length wc, .slice kb s.hashes.length kc, Val.u s.g.n, Val.u s.g.nans, Val.u s.g.lo, Val.u s.g.hi] 6 (.ty 1)) = st4 := ⟨_, rfl⟩
  rw [hst4]
  have g4 : st4 a = some (.cells true [.slice wb s.hist.length wc, .slice kb s.hashes.length kc, Val.u s.g.n, Val.u s.g.nans, Val.u s.g.lo, Val.u s.g.hi] 6 (.ty 1)) := by rw [← hst4]; exact upd_same _ _ _
  have k34 : ∀ k, k ≠ a → st4 k = st3 k := fun k hk => by rw [← hst4, upd_ne _ _ hk]
  have hw4 : Vec st4 (.ty 1) 2 (.slice wb s.hist.length wc) (bkV s.hist) s.hist.length := hw.away fun b' off n c he => k34 _ (by rintro rfl; have := hwf _ _ _ _ he; rw [g1'] at this; cases this)
  have kk4 : New st st4 := by rw [← hst4]; exact (kk.trans k3).put ha
  have g2'' := (k34 _ (Ne.symm hne)).trans g2'
  refine (Nums_copy (h2.new kk4) o4).mono ?_
  rintro e st5 ⟨w', rfl, hw', hwf', k5⟩
  obtain ⟨wb', wc', rfl⟩ := hw'.slice
  have g5 := k5 _ _ g4
  have g25 := k5 _ _ g2''
  simp [go_sem, g5]
  obtain ⟨st6, hst6⟩ : ∃ st6, upd st5 a (.cells true [.slice wb s.hist.length wc, .slice wb' s.hashes.length wc', Val.u s.g.n, Val.u s.g.nans, Val.u s.g.lo, Val.u s.g.hi] 6 (.ty 1)) = st6 := ⟨_, rfl⟩
  rw [hst6]
  have g6 : st6 a = some (.cells true [.slice wb s.hist.length wc, .slice wb' s.hashes.length wc', Val.u s.g.n, Val.u s.g.nans, Val.u s.g.lo, Val.u s.g.hi] 6 (.ty 1)) := by rw [← hst6]; exact upd_same _ _ _
  have k56 : ∀ k, k ≠ a → st6 k = st5 k := fun k hk => by rw [← hst6, upd_ne _ _ hk]
  have g26 := (k56 _ (Ne.symm hne)).trans g25
  have hw6 : Vec st6 (.ty 1) 2 (.slice wb s.hist.length wc) (bkV s.hist) s.hist.length := (hw4.new' k5).away fun b' off n c he => k56 _ (by rintro rfl; have := hwf _ _ _ _ he; rw [g1'] at this; cases this)
  have hw6' : Vec st6 (.ty 1) 1 (.slice wb' s.hashes.length wc') (cellsU s.hashes) s.hashes.length := hw'.away fun b' off n c he => k56 _ (by rintro rfl; have := hwf' _ _ _ _ he; rw [g4] at this; cases this)
  have kk6 : New st st6 := by rw [← hst6]; exact (kk4.trans k5).put ha
  simp [go_sem, g26, hne, Ne.symm hne, upd_ne]
  refine RetI_cell ?_
  simp [go_sem, g26, hne, Ne.symm hne, upd_ne]
  refine ⟨_, _, ⟨rfl, rfl⟩, hw6.away fun b' off n c he => upd_ne _ _ ?_, fun b off n c he => kk.none (hwf b off n c he), hw6'.away fun b' off n c he => upd_ne _ _ ?_, fun b off n c he => kk4.none (hwf' b off n c he), kk6.put hbn⟩
  · rintro rfl
    have := hwf _ _ _ _ he
    rw [g2] at this
    cases this
  · rintro rfl
    have := hwf' _ _ _ _ he
    rw [g2''] at this
    cases this
end
end Go.Proofs.YtflbapmjdfnhhaaGreat
set_option linter.unusedVariables false
set_option linter.unusedSimpArgs false
set_option maxRecDepth 100000
namespace Go.Proofs.YtflbapmjdfnhhaaGreat
open Go.ChangeShapes Go.WideShapes Go.ChangeAt Go.RowKit
def BkW (_ : Heap) (cs : List Value) (x : Int × Nat) : Prop := cs = [Val.i x.1, Val.u x.2] ∧ x.2 < 2 ^ 64
theorem opens_bucket (fuel : Nat) : Opens 119 2 BkW fuel := fun H enc W cs x hx hr => by
  obtain ⟨hl, n, rfl, hf⟩ := opens_struct Tryz.underlying119 hx hr
  have hl2 : cs.length = 2 := hl.trans (by kernel_rfl)
  refine ⟨hl2, ?_⟩
  obtain ⟨y0, h0, r0⟩ := hf 0 _ rfl
  obtain ⟨y1, h1, r1⟩ := hf 1 _ rfl
  obtain ⟨_, a0, k0, w0⟩ := opens_int Tryz.underlying3 n H enc W _ _ h0 r0
  obtain ⟨_, a1, k1, w1⟩ := opens_int Tryz.underlying26 n H enc W _ _ h1 r1
  have c0 := took_one k0
  have c1 := took_one k1
  have hb := bounds_u64' w1
  refine ⟨(a0, a1.toNat), ?_, by simp only; omega⟩
  have e1 : ((a1.toNat : Nat) : Int) = a1 := Int.toNat_of_nonneg hb.1
  match cs, hl2 with
  | [x0, x1], _ => simp at c0 c1; subst c0; subst c1; simp [e1]
def NumW (_ : Heap) (cs : List Value) (x : Nat) : Prop := cs = [Val.u x] ∧ x < 2 ^ 64
theorem opens_num (fuel : Nat) : Opens 26 1 NumW fuel := fun H enc W cs x hx hr => by
  obtain ⟨hl, a1, k1, w1⟩ := opens_int Tryz.underlying26 fuel H enc W _ _ hx hr
  have hb := bounds_u64' w1
  refine ⟨hl, a1.toNat, ?_, by omega⟩
  rw [k1, Int.toNat_of_nonneg hb.1]
theorem bk_rows : ∀ (xs : List (Int × Nat)) (ys : List Value), ys.length = xs.length * 2 → (∀ (i : Nat) (x : Int × Nat), xs[i]? = some x → (ys.drop (i * 2)).take 2 = [Val.i x.1, Val.u (x.2 : Int)]) → ys = bkV xs
  | [], ys, hl, _ => List.eq_nil_of_length_eq_zero (by simpa using hl)
  | x :: xs, ys, hl, h => by
    have h0 := h 0 x rfl
    simp only [Nat.zero_mul, List.drop_zero] at h0
    have := bk_rows xs (ys.drop 2) (by rw [List.length_drop]; simp at hl; omega) fun i y hi => by
      have := h (i + 1) y (by simpa using hi)
      rw [List.drop_drop]
      rwa [show 2 + i * 2 = (i + 1) * 2 by omega]
    rw [← List.take_append_drop 2 ys, h0, this]
    simp [bkV]
theorem num_rows : ∀ (xs : List Nat) (ys : List Value), ys.length = xs.length * 1 → (∀ (i x : Nat), xs[i]? = some x → (ys.drop (i * 1)).take 1 = [Val.u (x : Int)]) → ys = cellsU xs
  | [], ys, hl, _ => List.eq_nil_of_length_eq_zero (by simpa using hl)
  | x :: xs, ys, hl, h => by
    have h0 := h 0 x rfl
    simp only [Nat.zero_mul, List.drop_zero] at h0
    have := num_rows xs (ys.drop 1) (by rw [List.length_drop]; simp at hl; omega) fun i y hi => by
      have := h (i + 1) y (by simpa using hi)
      rw [List.drop_drop]
      rwa [show 1 + i * 1 = (i + 1) * 1 by omega]
    rw [← List.take_append_drop 1 ys, h0, this]
    simp [cellsU]
def SkW (st : Heap) (cs : List Value) (s : SkD) : Prop := SkAt st cs s ∧ SkOK s
theorem opens_sketch (fuel : Nat) : Opens 55 6 SkW fuel := fun H enc W cs x hx hr => by
  obtain ⟨hl, n, rfl, hf⟩ := opens_struct Tryz.underlying55 hx hr
  have hl6 : cs.length = 6 := hl.trans (by kernel_rfl)
  refine ⟨hl6, ?_⟩
  obtain ⟨y0, h0, r0⟩ := hf 0 _ rfl
  obtain ⟨y1, h1, r1⟩ := hf 1 _ rfl
  obtain ⟨y2, h2, r2⟩ := hf 2 _ rfl
  obtain ⟨_, hist, hb, hc, hys, k0, hreg, hsz, hel⟩ := opens_slice (n := 2) (bytes := 16) Tryz.underlying50 (by kernel_rfl) (by omega) (by kernel_rfl) (fun f _ => opens_bucket f) H enc W _ _ h0 r0
  obtain ⟨_, hashes, nb, nc, nys, k1, nreg, nsz, nel⟩ := opens_slice (n := 1) (bytes := 8) Tryz.underlying51 (by kernel_rfl) (by omega) (by kernel_rfl) (fun f _ => opens_num f) H enc W _ _ h1 r1
  obtain ⟨gl, gn, rfl, gf⟩ := opens_struct Tryz.underlying53 h2 r2
  obtain ⟨z0, g0, s0⟩ := gf 0 _ rfl
  obtain ⟨z1, g1, s1⟩ := gf 1 _ rfl
  obtain ⟨z2, g2, s2⟩ := gf 2 _ rfl
  obtain ⟨z3, g3, s3⟩ := gf 3 _ rfl
  obtain ⟨_, a0, q0, w0⟩ := opens_int Tryz.underlying26 gn H enc W _ _ g0 s0
  obtain ⟨_, a1, q1, w1⟩ := opens_int Tryz.underlying26 gn H enc W _ _ g1 s1
  obtain ⟨_, a2, q2, w2⟩ := opens_int Tryz.underlying26 gn H enc W _ _ g2 s2
  obtain ⟨_, a3, q3, w3⟩ := opens_int Tryz.underlying26 gn H enc W _ _ g3 s3
  have hcg : Tryz.prog.cellsOf 53 = 4 := by kernel_rfl
  have b0 := bounds_u64' w0
  have b1 := bounds_u64' w1
  have b2 := bounds_u64' w2
  have b3 := bounds_u64' w3
  have i0 : ((a0.toNat : Nat) : Int) = a0 := Int.toNat_of_nonneg b0.1
  have i1 : ((a1.toNat : Nat) : Int) = a1 := Int.toNat_of_nonneg b1.1
  have i2 : ((a2.toNat : Nat) : Int) = a2 := Int.toNat_of_nonneg b2.1
  have i3 : ((a3.toNat : Nat) : Int) = a3 := Int.toNat_of_nonneg b3.1
  have c0 := took_one k0
  have c1 := took_one k1
  have d0 := took_one q0
  have d1 := took_one q1
  have d2 := took_one q2
  have d3 := took_one q3
  refine ⟨⟨hist, hashes, ⟨a0.toNat, a1.toNat, a2.toNat, a3.toNat⟩⟩, ⟨.slice hb hist.length hc, .slice nb hashes.length nc, ?_, ⟨.ty 0, by intro g x r; simp, ?_⟩, ⟨.ty 0, by intro g x r; simp, ?_⟩⟩, ⟨fun x hx => ?_, hsz, fun x hx => ?_, nsz, ⟨by simp only; omega, by simp only; omega, by simp only; omega, by simp only; omega⟩⟩⟩
  · match cs, hl6 with
    | [x0, x1, x2, x3, x4, x5], _ => simp [hcg] at c0 c1 d0 d1 d2 d3; subst c0; subst c1; subst d0; subst d1; subst d2; subst d3; simp [i0, i1, i2, i3]
  · have := bk_rows hist hys hreg.1 fun i x hi => (hel i x hi).1
    rw [← this]
    exact hreg
  · have := num_rows hashes nys nreg.1 fun i x hi => (nel i x hi).1
    rw [← this]
    exact nreg
  · obtain ⟨i, hi⟩ := List.mem_iff_getElem?.1 hx
    exact (hel i x hi).2
  · obtain ⟨i, hi⟩ := List.mem_iff_getElem?.1 hx
    exact (nel i x hi).2
end Go.Proofs.YtflbapmjdfnhhaaGreat
