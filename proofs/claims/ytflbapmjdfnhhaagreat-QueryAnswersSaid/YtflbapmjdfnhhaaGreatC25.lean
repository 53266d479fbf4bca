/- The histogram: its buckets are what was added; counts and places by either. Plain. -/
import Derived.Test.YtflbapmjdfnhhaaGreatC22
import Derived.Test.YtflbapmjdfnhhaaGreatC23
import Derived.Test.YtflbapmjdfnhhaaGreatC24
set_option linter.unusedVariables false
set_option linter.unusedSimpArgs false
namespace Go.Proofs.YtflbapmjdfnhhaaGreat
def toI (l : List (Nat × Nat)) : List (Int × Nat) := l.map fun p => ((p.1 : Int), p.2)
theorem toI_append (a b : List (Nat × Nat)) : toI (a ++ b) = toI a ++ toI b := by simp [toI]
theorem bkV_toI (l : List (Nat × Nat)) : bkV (toI l) = bktV l := by simp [bkV, toI, bktV, List.flatMap_map]
theorem toI_length (l : List (Nat × Nat)) : (toI l).length = l.length := by simp [toI]
theorem bktL_succ (h : List Nat) (k : Nat) : bktL h (k + 1) = if 0 < h.getD k 0 then bktL h k ++ [(k, h.getD k 0)] else bktL h k := rfl
theorem toI_snd (l : List (Nat × Nat)) : (toI l).map (·.2) = l.map (·.2) := by simp [toI, List.map_map, Function.comp_def]
theorem bktL_above (h : List Nat) (p : Nat) (hz : ∀ i, p ≤ i → h.getD i 0 = 0) : ∀ k, p ≤ k → bktL h k = bktL h p
  | 0, hk => by rw [show p = 0 by omega]
  | k + 1, hk => by
    by_cases hp : p = k + 1
    · rw [hp]
    · rw [bktL_succ, hz k (by omega), if_neg (by omega)]
      exact bktL_above h p hz k (by omega)
theorem bktL_same (h h' : List Nat) : ∀ k, (∀ i, i < k → h.getD i 0 = h'.getD i 0) → bktL h k = bktL h' k
  | 0, _ => rfl
  | k + 1, e => by
    unfold bktL
    rw [e k (by omega), bktL_same h h' k fun i hi => e i (by omega)]
theorem getD_set (h : List Nat) (p n i : Nat) (hp : p < h.length) : (h.set p n).getD i 0 = if i = p then n else h.getD i 0 := by
  simp only [List.getD_eq_getElem?_getD, List.getElem?_set]
  by_cases hi : p = i
  · subst hi; simp [hp]
  · rw [if_neg hi, if_neg (Ne.symm hi)]
theorem bktL_set (h : List Nat) (p n : Nat) (hp : p < h.length) (hn : 0 < n) (hz : ∀ i, p ≤ i → h.getD i 0 = 0) (k : Nat) (hk : p < k) : bktL (h.set p n) k = bktL h k ++ [(p, n)] := by
  rw [bktL_above h p hz k (by omega), bktL_above (h.set p n) (p + 1) (fun i hi => by rw [getD_set h p n i hp, if_neg (by omega)]; exact hz i (by omega)) k (by omega)]
  show (if 0 < (h.set p n).getD p 0 then _ else _) = _
  rw [getD_set h p n p hp, if_pos rfl, if_pos hn, bktL_same (h.set p n) h p fun i hi => by rw [getD_set h p n i hp, if_neg (by omega)]]
theorem bktL_merge_from : ∀ (l : List (Int × Nat)) (p : Int) (h : List Nat), checkB p l = true → -1 ≤ p → h.length = 7424 → (∀ x ∈ l, x.2 < 2 ^ 64) → (∀ i : Nat, p < (i : Int) → h.getD i 0 = 0) → toI (bktL (mergeB h l) 7424) = toI (bktL h 7424) ++ l
  | [], p, h, _, _, _, _, _ => by simp [mergeB]
  | x :: l, p, h, hc, hp, hl, hb, hz => by
    have hc0 := hc
    simp only [checkB, Bool.and_eq_true, Bool.not_eq_true', Bool.or_eq_false_iff, decide_eq_false_iff_not] at hc
    obtain ⟨⟨⟨h1, h2⟩, h3⟩, h4⟩ := hc
    obtain ⟨xi, xn⟩ := x
    simp only at h1 h2 h3 h4
    obtain ⟨z, rfl⟩ : ∃ z : Nat, xi = (z : Int) := ⟨xi.toNat, by omega⟩
    have hadd : addB h ((z : Int), xn) = h.set z xn := by
      have hxb := hb _ (by simp : ((z : Int), xn) ∈ ((z : Int), xn) :: l)
      simp only at hxb
      unfold addB
      rw [Int.toNat_natCast, hz z (by omega)]
      have : satAdd 0 xn = xn := by unfold satAdd; rw [if_neg (by omega)]; omega
      rw [this]
    have hm : mergeB h (((z : Int), xn) :: l) = mergeB (h.set z xn) l := by unfold mergeB; rw [List.foldl_cons, hadd]
    rw [hm, bktL_merge_from l z (h.set z xn) h4 (by omega) (by simp [hl]) (fun y hy => hb y (by simp [hy])) (fun i hi => by rw [getD_set h z xn i (by omega), if_neg (by omega)]; exact hz i (by omega))]
    rw [bktL_set h z xn (by omega) (by omega) (fun i hi => hz i (by omega)) 7424 (by omega), toI_append, List.append_assoc]
    rfl
theorem bktL_merge {l : List (Int × Nat)} (hc : checkB (-1) l = true) (hb : ∀ x ∈ l, x.2 < 2 ^ 64) : toI (bktL (mergeB (List.replicate 7424 0) l) 7424) = l := by
  have hz : ∀ i : Nat, (List.replicate 7424 0).getD i 0 = 0 := fun i => by
    rw [List.getD_eq_getElem?_getD, List.getElem?_replicate]
    split <;> rfl
  rw [bktL_merge_from l (-1) _ hc (by omega) (List.length_replicate) hb (fun i _ => hz i), bktL_above _ 0 (fun i _ => hz i) 7424 (by omega)]
  rfl
/-! Sums. -/
def satSum (l : List Nat) : Nat := l.foldl satAdd 0
theorem satAdd_min (x y : Nat) : satAdd x y = min (x + y) (2 ^ 64 - 1) := by unfold satAdd; split <;> omega
theorem satFold_min : ∀ (l : List Nat) (s : Nat), s ≤ 2 ^ 64 - 1 → l.foldl satAdd s = min (s + l.sum) (2 ^ 64 - 1)
  | [], s, h => by simp; omega
  | x :: l, s, h => by
    rw [List.foldl_cons, satFold_min l _ (by have := @satAdd_lt s x; omega), satAdd_min, List.sum_cons]
    omega
theorem satSum_min (l : List Nat) : satSum l = min l.sum (2 ^ 64 - 1) := by
  unfold satSum
  rw [satFold_min l 0 (by omega)]
  omega
theorem sum_take_succ (h : List Nat) (k : Nat) : (h.take (k + 1)).sum = (h.take k).sum + h.getD k 0 := by
  rw [List.take_add_one, List.sum_append, List.getD_eq_getElem?_getD]
  cases h[k]? <;> simp
theorem bktL_sum (h : List Nat) : ∀ k, ((bktL h k).map (·.2)).sum = (h.take k).sum
  | 0 => by simp [bktL]
  | k + 1 => by
    rw [sum_take_succ, ← bktL_sum h k, bktL_succ]
    split
    · simp
    · omega
theorem count_eq {l : List (Int × Nat)} (hc : checkB (-1) l = true) (hb : ∀ x ∈ l, x.2 < 2 ^ 64) (hlen : (mergeB (List.replicate 7424 0) l).length = 7424) : (mergeB (List.replicate 7424 0) l).foldl satAdd 0 = satSum (l.map (·.2)) := by
  have h1 : (mergeB (List.replicate 7424 0) l).foldl satAdd 0 = satSum (mergeB (List.replicate 7424 0) l) := rfl
  rw [h1, satSum_min, satSum_min]
  have h2 := bktL_sum (mergeB (List.replicate 7424 0) l) 7424
  rw [List.take_of_length_le (by omega)] at h2
  have h3 := bktL_merge hc hb
  have h4 := toI_snd (bktL (mergeB (List.replicate 7424 0) l) 7424)
  rw [h3] at h4
  rw [← h2, h4]
/-! Where a sum is reached. -/
def findL : List (Nat × Nat) → Nat → Nat → Option Nat
  | [], _, _ => none
  | x :: l, s, kk => if kk ≤ s + x.2 then some x.1 else findL l (s + x.2) kk
theorem findL_append : ∀ (a b : List (Nat × Nat)) (s kk : Nat), findL (a ++ b) s kk = match findL a s kk with
    | some x => some x
    | none => findL b (s + (a.map (·.2)).sum) kk
  | [], b, s, kk => by simp [findL]
  | x :: a, b, s, kk => by
    simp only [List.cons_append, findL]
    split
    · rfl
    · rw [findL_append a b]
      simp only [List.map_cons, List.sum_cons, Nat.add_assoc]
theorem findL_none : ∀ (a : List (Nat × Nat)) (s kk : Nat), 0 < kk → s < kk → findL a s kk = none → s + (a.map (·.2)).sum < kk
  | [], s, kk, _, h, _ => by simpa using h
  | x :: a, s, kk, h0, h, hn => by
    simp only [findL] at hn
    split at hn
    · cases hn
    · rename_i hc
      have := findL_none a (s + x.2) kk h0 (by omega) hn
      simp only [List.map_cons, List.sum_cons]
      omega
theorem bktL_split (h : List Nat) (k : Nat) : ∀ d, ∃ r, bktL h (k + d) = bktL h k ++ r
  | 0 => ⟨[], by simp⟩
  | d + 1 => by
    obtain ⟨r, hr⟩ := bktL_split h k d
    rw [show k + (d + 1) = (k + d) + 1 by omega, bktL_succ]
    split
    · exact ⟨r ++ [_], by rw [hr, List.append_assoc]⟩
    · exact ⟨r, hr⟩
/-- The least number of a bucket. -/
def lowN (a : Nat) : Nat := if a < 256 then a else (a - 128 * (a / 128 - 1)) * 2 ^ (a / 128 - 1)
end Go.Proofs.YtflbapmjdfnhhaaGreat
set_option linter.unusedVariables false
set_option linter.unusedSimpArgs false
set_option maxRecDepth 100000
set_option maxHeartbeats 400000
namespace Go.Proofs.YtflbapmjdfnhhaaGreat
open Go.RowKit (Below)
/-- The rank that is asked for. -/
def rankN (a b n : Nat) : Nat := max 1 (ceilM a n b).1
theorem rankN_le {a b n : Nat} (hab : a ≤ b) (hb : 0 < b) (hn : n < 2 ^ 64) (h0 : 0 < n) : rankN a b n ≤ n := by
  unfold rankN ceilM
  have h1 : a * n ≤ b * n := Nat.mul_le_mul_right _ hab
  have h2 : a * n / b ≤ n := Nat.div_le_of_le_mul h1
  split
  · simp; omega
  · split
    · simp; omega
    · split
      · rename_i c1 c2 c3
        simp only
        have h3 := Nat.div_add_mod (a * n) b
        have h4 : a * n / b < n := by
          apply Classical.byContradiction
          intro h5
          have h6 : a * n / b = n := by omega
          rw [h6] at h3
          have : b * n < a * n := by omega
          omega
        omega
      · simp only; omega
def quantH (h : List Nat) (a b : Nat) : Nat × Int :=
  if b = 0 ∨ b < a then (0, 5) else if satSum h = 2 ^ 64 - 1 then (0, 11) else if satSum h = 0 then (0, 3) else (lowN ((findL (bktL h 7424) 0 (rankN a b (satSum h))).getD 0), 0)
section
variable {W0 : World} {st : Heap}
theorem shape_spec {a : Nat} (ha : a < 7424) : ICalls Tryz.prog W0 125 #[Val.i (a : Int)] st fun e st' => e = .returned (.tuple #[.int .u64 ((if a < 256 then a else a - 128 * (a / 128 - 1) : Nat) : Int), Val.i ((if a < 256 then 0 else a / 128 - 1 : Nat) : Int)]) ∧ st' = st := by
  refine enter (args := [_]) Tryz.func125 rfl ?_
  have hw0 : IntKind.u64.wrap (a : Int) = (a : Int) := wraps_u64 _ (by omega) (by omega)
  by_cases c : a < 256
  · have q : ((a : Int) < 256) = True := eq_true (by omega)
    rw [if_pos c, if_pos c]
    simp [Tryz.f125, go_sem, q, hw0]
  · have q : ((a : Int) < 256) = False := eq_false (by omega)
    rw [if_neg c, if_neg c]
    obtain ⟨e, he⟩ : ∃ e, a / 128 - 1 = e := ⟨_, rfl⟩
    obtain ⟨v, hv⟩ : ∃ v, a - 128 * e = v := ⟨_, rfl⟩
    rw [he, hv]
    have f1 : IntKind.i64.wrap (IntKind.i64.wrap ((a : Int) / 128) - 1) = (e : Int) := by simp only [IntKind.wrap_i64]; omega
    have f2 : IntKind.u64.wrap (IntKind.i64.wrap ((a : Int) - IntKind.i64.wrap (128 * (e : Int)))) = (v : Int) := by simp only [IntKind.wrap_i64, IntKind.wrap_u64]; omega
    have ft : (a : Int).tdiv 128 = (a : Int) / 128 := Int.tdiv_eq_ediv_of_nonneg (by omega)
    simp [Tryz.f125, go_sem, q, c, f1, f2, ft]
theorem shl_low {v e : Nat} (hv : v < 256) (he : e ≤ 56) : IntKind.u64.wrap ((v : Int) * 2 ^ e) = ((v * 2 ^ e : Nat) : Int) := by
  refine wrapU (by simp) ?_
  have h1 : 2 ^ e ≤ 2 ^ 56 := Nat.pow_le_pow_right (by decide) he
  have h2 : v * 2 ^ e ≤ 255 * 2 ^ 56 := Nat.mul_le_mul (by omega) h1
  omega
theorem Low_spec {a : Nat} (ha : a < 7424) : ICalls Tryz.prog W0 107 #[Val.i (a : Int)] st fun e st' => e = .returned (.tuple #[.int .u64 ((lowN a : Nat) : Int), .bool true]) ∧ st' = st := by
  have q1 : ((a : Int) < 0) = False := eq_false (by omega)
  have q2 : ((7424 : Int) ≤ (a : Int)) = False := eq_false (by omega)
  have q3 : ¬ 7424 ≤ a := by omega
  refine enter (args := [_]) Tryz.func107 rfl ?_
  simp [Tryz.f107, go_sem, q1, q2, q3]
  refine (shape_spec ha).mono ?_
  rintro e st1 ⟨rfl, rfl⟩
  unfold lowN
  by_cases c : a < 256
  · have hw : IntKind.u64.wrap (a : Int) = (a : Int) := wraps_u64 _ (by omega) (by omega)
    simp [go_sem, c, shiftBin, hw]
  · obtain ⟨e, he⟩ : ∃ e, a / 128 - 1 = e := ⟨_, rfl⟩
    obtain ⟨v, hv⟩ : ∃ v, a - 128 * e = v := ⟨_, rfl⟩
    rw [if_neg c, if_neg c, if_neg c, he, hv]
    have hs := shl_low (v := v) (e := e) (by omega) (by omega)
    have hmin : min e 64 = e := by omega
    have qe : ((e : Int) < 0) = False := eq_false (by omega)
    obtain ⟨r, hr⟩ : ∃ r, v * 2 ^ e = r := ⟨_, rfl⟩
    rw [hr] at hs ⊢
    simp [go_sem, shiftBin, qe, hmin, hs]
theorem Quantile_spec {r a b : Nat} {h : List Nat} (hr : HistAt st r h) (ha : a < 2 ^ 64) (hb : b < 2 ^ 64) : ICalls Tryz.prog W0 87 #[ptr r, .int .u64 (a : Int), .int .u64 (b : Int)] st fun e st' => e = .returned (.tuple #[.int .u64 ((quantH h a b).1 : Int), Val.i (quantH h a b).2]) ∧ New st st' := by
  generalize hres : quantH h a b = res
  obtain ⟨rv, re⟩ := res
  unfold quantH at hres
  refine enter (args := [_, _, _]) Tryz.func87 rfl ?_
  by_cases c1 : b = 0
  · subst c1
    rw [if_pos (.inl rfl)] at hres
    injection hres with h1 h2
    subst h1; subst h2
    simp [Tryz.f87, go_sem]
    exact New.refl _
  have q1 : ((b : Int) = 0) = False := eq_false (by omega)
  by_cases c2 : b < a
  · rw [if_pos (.inr c2)] at hres
    injection hres with h1 h2
    subst h1; subst h2
    have q2 : ((b : Int) < (a : Int)) = True := eq_true (by omega)
    simp [Tryz.f87, go_sem, q1, q2, c1, c2]
    exact New.refl _
  have q2 : ((b : Int) < (a : Int)) = False := eq_false (by omega)
  rw [if_neg (by omega)] at hres
  simp [-List.reduceReplicate, Tryz.f87, go_sem, q1, q2, c1, c2]
  refine (histCount_spec hr).mono ?_
  rintro e st1 ⟨rfl, rfl⟩
  have hss : h.foldl satAdd 0 = satSum h := rfl
  rw [hss]
  by_cases c3 : satSum h = 2 ^ 64 - 1
  · rw [if_pos c3] at hres ⊢
    injection hres with h1 h2
    subst h1; subst h2
    simp [go_sem]
    exact New.refl _
  rw [if_neg c3] at hres ⊢
  have hmin := satSum_min h
  have hsum : h.sum = satSum h ∧ satSum h < 2 ^ 64 - 1 := by omega
  by_cases c4 : satSum h = 0
  · rw [if_pos c4] at hres
    injection hres with h1 h2
    subst h1; subst h2
    simp [go_sem, c4]
    exact New.refl _
  rw [if_neg c4] at hres
  obtain ⟨n, hn⟩ : ∃ n, satSum h = n := ⟨_, rfl⟩
  rw [hn] at hres hsum c4 ⊢
  have q4 : ((n : Int) = 0) = False := eq_false (by omega)
  simp [-List.reduceReplicate, go_sem, q4, c4]
  refine (Ceil_spec ha (by omega : n < 2 ^ 64) hb).mono ?_
  rintro e st2 ⟨rfl, hk2⟩
  obtain ⟨hcell, hlen, hbnd⟩ := hr
  have hcell2 := hk2 _ _ hcell
  have hrank := rankN_le (a := a) (b := b) (n := n) (by omega) (by omega) (by omega) (by omega)
  obtain ⟨kk, hkk⟩ : ∃ kk, rankN a b n = kk := ⟨_, rfl⟩
  rw [hkk] at hres hrank
  have hkk' : max 1 (ceilM a n b).1 = kk := hkk
  have hkk0 : 0 < kk := by omega
  have hmx : max (1 : Int) ((ceilM a n b).1 : Int) = (kk : Int) := by omega
  have hmx2 : (if (1 : Int) < ((ceilM a n b).1 : Int) then ((ceilM a n b).1 : Int) else 1) = (kk : Int) := by split <;> omega
  have hcl : (cellsU h).length = 7424 := by simp [cellsU, hlen]
  have htk : (cellsU h).take 7424 = cellsU h := by rw [← hcl]; exact List.take_length
  simp [-List.reduceReplicate, go_sem, hmx, hmx2, hcell2, htk, hcl]
  have hS : ∀ k, (h.take k).sum ≤ n := fun k => by
    rw [← hsum.1]
    have := List.sum_append (l₁ := h.take k) (l₂ := h.drop k)
    rw [List.take_append_drop] at this
    omega
  refine ⟨fun E st' => st' = st2 ∧ E 47 = .agg (cellsU h).toArray ∧ E 10 = .int .u64 (kk : Int) ∧ E 13 = Val.i 0 ∧ ∃ k : Nat, E 48 = Val.i (k : Int) ∧ k ≤ 7424 ∧ E 12 = .int .u64 (((h.take k).sum : Nat) : Int) ∧ findL (bktL h k) 0 kk = none, fun E _ => match E 48 with | .int _ z => 7424 - z.toNat | _ => 0,
    ⟨st2, .rfl' _, rfl, by simp [go_sem], by simp [go_sem], by simp [go_sem], 0, by simp [go_sem], by omega, by simp [go_sem], rfl⟩, ?_⟩
  rintro E st3 ⟨rfl, e47, e10, e13, k, e48, hk, e12, hf⟩
  have hfn := findL_none _ _ _ hkk0 hkk0 hf
  rw [Nat.zero_add, bktL_sum] at hfn
  by_cases hlt : k < 7424
  · have hkl : k < h.length := by omega
    have t1 : ((k : Int) < 7424) = True := eq_true (by omega)
    have hget : (cellsU h)[k]? = some (.int .u64 h[k]) := by simp [cellsU, List.getElem?_eq_getElem hkl]
    have hgd : h.getD k 0 = h[k] := by simp [List.getD_eq_getElem?_getD, List.getElem?_eq_getElem hkl]
    have hsk := sum_take_succ h k
    have hsn := hS (k + 1)
    rw [hgd] at hsk
    have hbs := bktL_succ h k
    rw [hgd] at hbs
    obtain ⟨d, hd⟩ : ∃ d, 7424 = k + 1 + d := ⟨7424 - (k + 1), by omega⟩
    obtain ⟨rr, hrr⟩ := bktL_split h (k + 1) d
    rw [← hd] at hrr
    have hbk := bktL_sum h k
    obtain ⟨Sk, hSk⟩ : ∃ s, (h.take k).sum = s := ⟨_, rfl⟩
    obtain ⟨S1, hS1⟩ : ∃ s, (h.take (k + 1)).sum = s := ⟨_, rfl⟩
    obtain ⟨y, hy⟩ : ∃ y, h[k] = y := ⟨_, rfl⟩
    rw [hSk] at hsk hfn e12 hbk
    rw [hS1] at hsk hsn
    rw [hy] at hget hsk hbs
    have hw : IntKind.u64.wrap ((Sk : Int) + (y : Int)) = (S1 : Int) := wrapU (by omega) (by omega)
    have hwk : IntKind.i64.wrap ((k : Int) + 1) = (k : Int) + 1 := wrap_id (by omega) (by omega)
    by_cases c5 : kk ≤ S1
    · have t2 : ((kk : Int) ≤ (S1 : Int)) = True := eq_true (by omega)
      have hy0 : 0 < y := by omega
      rw [if_pos hy0] at hbs
      have hfk : findL (bktL h 7424) 0 kk = some k := by
        rw [hrr, hbs, findL_append, findL_append, hf]
        simp only [findL, Nat.zero_add, hbk]
        rw [if_pos (by omega)]
      rw [hfk] at hres
      injection hres with h1 h2
      simp only [Option.getD_some] at h1
      subst h1; subst h2
      simp [-List.reduceReplicate, go_sem, e47, e48, e10, e12, e13, t1, hlt, hget, hw, t2, c5]
      refine (Low_spec hlt).mono ?_
      rintro e st4 ⟨rfl, rfl⟩
      simp [go_sem]
      exact hk2
    · have t2 : ((kk : Int) ≤ (S1 : Int)) = False := eq_false (by omega)
      have hfk : findL (bktL h (k + 1)) 0 kk = none := by
        rw [hbs]
        split
        · rw [findL_append, hf]
          simp only [findL, Nat.zero_add, hbk]
          rw [if_neg (by omega)]
        · exact hf
      simp [-List.reduceReplicate, go_sem, e47, e48, e10, e12, e13, t1, hlt, hget, hw, t2, c5, hwk]
      exact ⟨_, .rfl' _, ⟨rfl, k + 1, by simp, by omega, by rw [hS1], hfk⟩, by omega⟩
  · have : k = 7424 := by omega
    subst this
    rw [List.take_of_length_le (by omega), hsum.1] at hfn
    omega
end
end Go.Proofs.YtflbapmjdfnhhaaGreat
set_option linter.unusedVariables false
set_option linter.unusedSimpArgs false
set_option maxRecDepth 100000
set_option maxHeartbeats 400000
namespace Go.Proofs.YtflbapmjdfnhhaaGreat
open Go.RowKit (Below)
def quantL (l : List (Nat × Nat)) (a b : Nat) : Nat × Int :=
  if b = 0 ∨ b < a then (0, 5) else if satSum (l.map (·.2)) = 2 ^ 64 - 1 then (0, 11) else if satSum (l.map (·.2)) = 0 then (0, 3) else match findL l 0 (rankN a b (satSum (l.map (·.2)))) with | some x => (lowN x, 0) | none => (0, 3)
theorem satSum_snoc (l : List Nat) (x : Nat) : satSum (l ++ [x]) = satAdd (satSum l) x := by simp [satSum]
/-- Buckets that are sound are as plain numbers. -/
def toN (l : List (Int × Nat)) : List (Nat × Nat) := l.map fun p => (p.1.toNat, p.2)
theorem toN_toI (l : List (Nat × Nat)) : toN (toI l) = l := by simp [toN, toI, List.map_map, Function.comp_def]
theorem toN_snd (l : List (Int × Nat)) : (toN l).map (·.2) = l.map (·.2) := by simp [toN, List.map_map, Function.comp_def]
/-- The program's quantile is the document's. -/
theorem quant_eq {l : List (Int × Nat)} {a b : Nat} (hc : checkB (-1) l = true) (hb : ∀ x ∈ l, x.2 < 2 ^ 64) (hlen : (mergeB (List.replicate 7424 0) l).length = 7424) : quantH (mergeB (List.replicate 7424 0) l) a b = quantL (toN l) a b := by
  have h1 : satSum (mergeB (List.replicate 7424 0) l) = satSum ((toN l).map (·.2)) := by rw [toN_snd]; exact count_eq hc hb hlen
  have h2 : bktL (mergeB (List.replicate 7424 0) l) 7424 = toN l := by rw [← bktL_merge hc hb, toN_toI]; rw [bktL_merge hc hb]
  unfold quantH quantL
  rw [h1, h2]
  split
  · rfl
  · rename_i c1
    split
    · rfl
    · rename_i c2
      split
      · rfl
      · rename_i c3
        have hs := satSum_min ((toN l).map (·.2))
        have hr := rankN_le (a := a) (b := b) (n := satSum ((toN l).map (·.2))) (by omega) (by omega) (by omega) (by omega)
        have hr0 : 0 < rankN a b (satSum ((toN l).map (·.2))) := by unfold rankN; omega
        generalize rankN a b (satSum ((toN l).map (·.2))) = kk at *
        cases hf : findL (toN l) 0 kk with
        | some x => rfl
        | none =>
          have := findL_none _ _ _ hr0 hr0 hf
          omega
section
variable {W0 : World} {st : Heap}
theorem refAdd_spec {x y : Nat} (hx : x < 2 ^ 64) (hy : y < 2 ^ 64) : ICalls Tryz.prog W0 91 #[.int .u64 (x : Int), .int .u64 (y : Int)] st fun e st' => e = .returned (.int .u64 (satAdd x y : Nat)) ∧ st' = st := by
  refine enter (args := [_, _]) Tryz.func91 rfl ?_
  obtain ⟨ny, hny⟩ : ∃ z, 2 ^ 64 - 1 - y = z := ⟨_, rfl⟩
  have f1 : IntKind.u64.wrap (18446744073709551615 - (y : Int)) = (ny : Int) := wrapU (by omega) (by omega)
  unfold satAdd
  by_cases c : ny < x
  · have q : ((ny : Int) < (x : Int)) = True := eq_true (by omega)
    rw [if_pos (by omega)]
    simp [Tryz.f91, go_sem, f1, q, c]
  · have q : ((ny : Int) < (x : Int)) = False := eq_false (by omega)
    rw [if_neg (by omega)]
    have f2 : IntKind.u64.wrap ((x : Int) + (y : Int)) = ((x + y : Nat) : Int) := wrapU (by omega) (by omega)
    rw [Int.natCast_add] at f2
    simp [Tryz.f91, go_sem, f1, f2, q, c]
theorem refLow_spec {a : Nat} (ha : a < 7424) : ICalls Tryz.prog W0 93 #[Val.i (a : Int)] st fun e st' => e = .returned (.tuple #[.int .u64 ((lowN a : Nat) : Int), .bool true]) ∧ st' = st := by
  have q1 : ((a : Int) < 0) = False := eq_false (by omega)
  have q2 : ((7424 : Int) ≤ (a : Int)) = False := eq_false (by omega)
  have q3 : ¬ 7424 ≤ a := by omega
  refine enter (args := [_]) Tryz.func93 rfl ?_
  unfold lowN
  by_cases c : a < 256
  · have q : ((a : Int) < 256) = True := eq_true (by omega)
    have hw : IntKind.u64.wrap (a : Int) = (a : Int) := wraps_u64 _ (by omega) (by omega)
    simp [Tryz.f93, go_sem, q1, q2, q3, q, c, hw]
  · have q : ((a : Int) < 256) = False := eq_false (by omega)
    obtain ⟨e, he⟩ : ∃ e, a / 128 - 1 = e := ⟨_, rfl⟩
    obtain ⟨v, hv⟩ : ∃ v, a - 128 * e = v := ⟨_, rfl⟩
    rw [if_neg c, he, hv]
    have f1 : IntKind.i64.wrap (IntKind.i64.wrap ((a : Int) / 128) - 1) = (e : Int) := by simp only [IntKind.wrap_i64]; omega
    have f2 : IntKind.u64.wrap (IntKind.i64.wrap ((a : Int) - IntKind.i64.wrap (128 * (e : Int)))) = (v : Int) := by simp only [IntKind.wrap_i64, IntKind.wrap_u64]; omega
    have ft : (a : Int).tdiv 128 = (a : Int) / 128 := Int.tdiv_eq_ediv_of_nonneg (by omega)
    have hs := shl_low (v := v) (e := e) (by omega) (by omega)
    have hmin : min e 64 = e := by omega
    have qe : ((e : Int) < 0) = False := eq_false (by omega)
    have hwe : IntKind.u64.wrap (e : Int) = (e : Int) := wraps_u64 _ (by omega) (by omega)
    obtain ⟨r, hr⟩ : ∃ r, v * 2 ^ e = r := ⟨_, rfl⟩
    rw [hr] at hs ⊢
    simp [Tryz.f93, go_sem, q1, q2, q3, q, c, f1, f2, ft, shiftBin, qe, hmin, hwe, hs]
theorem refCount_spec {v : Value} {l : List (Int × Nat)} (hv : RegF st 2 v (bkV l) l.length) (hll : l.length < 2 ^ 50) (hn : ∀ x ∈ l, x.2 < 2 ^ 64) : ICalls Tryz.prog W0 59 #[v] st fun e st' => e = .returned (.tuple #[.int .u64 (satSum (l.map (·.2)) : Nat), if satSum (l.map (·.2)) = 2 ^ 64 - 1 then Val.i 11 else Val.i 0]) ∧ st' = st := by
  obtain ⟨tb, tc, rfl⟩ := hv.slice
  generalize hres : satSum (l.map (·.2)) = res
  refine enter (args := [_]) Tryz.func59 rfl ?_
  simp [Tryz.f59, go_sem]
  refine ⟨fun E st' => st' = st ∧ E 0 = .slice tb l.length tc ∧ ∃ k : Nat, E 5 = Val.i (k : Int) ∧ k ≤ l.length ∧ E 4 = .int .u64 ((satSum ((l.take k).map (·.2)) : Nat) : Int), fun E _ => match E 5 with | .int _ z => l.length - z.toNat | _ => 0,
    ⟨st, .rfl' _, rfl, by simp [go_sem], 0, by simp [go_sem], by omega, by simp [go_sem]; rfl⟩, ?_⟩
  rintro E st' ⟨rfl, e0, k, e5, hk, e4⟩
  by_cases hlt : k < l.length
  · have t1 : ((k : Int) < l.length) = True := eq_true (by omega)
    have hwk : IntKind.i64.wrap ((k : Int) + 1) = (k : Int) + 1 := wrap_id (by omega) (by omega)
    obtain ⟨mb, off, cap, rw_, zs, mm, g', hv', hs, hget⟩ := rows_get hv (by omega)
    injection hv' with v1 v2 v3
    subst v1; subst v3
    obtain ⟨hlen, hcell, hcc⟩ := hget k hlt
    have hx : l[k]? = some l[k] := List.getElem?_eq_getElem hlt
    rw [bkV_get l k _ hx] at hcc
    have htk : l.take (k + 1) = l.take k ++ [l[k]] := by rw [List.take_add_one, hx]; rfl
    have hn' := hn _ (List.getElem_mem hlt)
    generalize l[k] = x at *
    obtain ⟨xi, xn⟩ := x
    simp only at hn'
    have hc1 := hcc 1 (by omega)
    simp only [List.getElem?_cons_succ, List.getElem?_cons_zero] at hc1
    have hnext : satSum ((l.take (k + 1)).map (·.2)) = satAdd (satSum ((l.take k).map (·.2))) xn := by rw [htk, List.map_append, List.map_cons, List.map_nil, satSum_snoc]
    have hsb : satSum ((l.take k).map (·.2)) < 2 ^ 64 := by have := satSum_min ((l.take k).map (·.2)); omega
    obtain ⟨sk, hsk⟩ : ∃ s, satSum ((l.take k).map (·.2)) = s := ⟨_, rfl⟩
    rw [hsk] at hsb hnext e4
    simp [go_sem, e0, e4, e5, t1, hlt, hs, hlen, hc1]
    refine (refAdd_spec hsb hn').mono ?_
    rintro e st2 ⟨rfl, rfl⟩
    obtain ⟨sn, hsn⟩ : ∃ s, satAdd sk xn = s := ⟨_, rfl⟩
    rw [hsn] at hnext ⊢
    simp [go_sem, e0, e4, e5, hwk]
    exact ⟨_, .rfl' _, ⟨rfl, k + 1, by simp, by omega, by rw [← hnext]; simp⟩, by omega⟩
  · have : k = l.length := by omega
    subst this
    rw [List.take_length, hres] at e4
    by_cases hm : res = 2 ^ 64 - 1
    · rw [if_pos hm]
      have q : ((res : Nat) : Int) = 18446744073709551615 := by omega
      simp [go_sem, e0, e4, e5, q]
    · rw [if_neg hm]
      have q : (((res : Nat) : Int) = 18446744073709551615) = False := eq_false (by omega)
      simp [go_sem, e0, e4, e5, q]
end
end Go.Proofs.YtflbapmjdfnhhaaGreat
set_option linter.unusedVariables false
set_option linter.unusedSimpArgs false
set_option maxRecDepth 100000
set_option maxHeartbeats 400000
namespace Go.Proofs.YtflbapmjdfnhhaaGreat
open Go.RowKit (Below)
theorem toN_append (a b : List (Int × Nat)) : toN (a ++ b) = toN a ++ toN b := by simp [toN]
section
variable {W0 : World} {st : Heap}
theorem refQuantile_spec {v : Value} {l : List (Int × Nat)} {a b : Nat} (hv : RegF st 2 v (bkV l) l.length) (hll : l.length < 2 ^ 50) (hn : ∀ x ∈ l, x.2 < 2 ^ 64) (hc : checkB (-1) l = true) (ha : a < 2 ^ 64) (hb : b < 2 ^ 64) : ICalls Tryz.prog W0 60 #[v, .int .u64 (a : Int), .int .u64 (b : Int)] st fun e st' => e = .returned (.tuple #[.int .u64 ((quantL (toN l) a b).1 : Int), Val.i (quantL (toN l) a b).2]) ∧ st' = st := by
  generalize hres : quantL (toN l) a b = res
  obtain ⟨rv, re⟩ := res
  unfold quantL at hres
  rw [toN_snd] at hres
  have hv0 := hv
  obtain ⟨tb, tc, rfl⟩ := hv.slice
  have hmin := satSum_min (l.map (·.2))
  obtain ⟨n, hn'⟩ : ∃ n, satSum (l.map (·.2)) = n := ⟨_, rfl⟩
  rw [hn'] at hres hmin
  refine enter (args := [_, _, _]) Tryz.func60 rfl ?_
  iterate 7 refine IW_assoc ?_
  refine IW_cut' (fun E' st' => (¬ (b = 0 ∨ b < a) ∧ n ≠ 2 ^ 64 - 1 ∧ n ≠ 0) ∧ st' = st ∧ E' 0 = .slice tb l.length tc ∧ E' 10 = .int .u64 (rankN a b n : Nat) ∧ E' 12 = .int .u64 0) ?_ ?_
  · by_cases c1 : b = 0
    · subst c1
      rw [if_pos (.inl rfl)] at hres
      injection hres with h1 h2
      subst h1; subst h2
      simp [go_sem]
    have q1 : ((b : Int) = 0) = False := eq_false (by omega)
    by_cases c2 : b < a
    · rw [if_pos (.inr c2)] at hres
      injection hres with h1 h2
      subst h1; subst h2
      have q2 : ((b : Int) < (a : Int)) = True := eq_true (by omega)
      simp [go_sem, q1, q2, c1, c2]
    have q2 : ((b : Int) < (a : Int)) = False := eq_false (by omega)
    rw [if_neg (by omega)] at hres
    simp [go_sem, q1, q2, c1, c2]
    refine (refCount_spec hv0 hll hn).mono ?_
    rintro e st1 ⟨rfl, rfl⟩
    rw [hn']
    by_cases c3 : n = 2 ^ 64 - 1
    · rw [if_pos c3] at hres ⊢
      injection hres with h1 h2
      subst h1; subst h2
      simp [go_sem]
    rw [if_neg c3] at hres ⊢
    by_cases c4 : n = 0
    · rw [if_pos c4] at hres
      injection hres with h1 h2
      subst h1; subst h2
      simp [go_sem, c4]
    have q4 : ((n : Int) = 0) = False := eq_false (by omega)
    simp [go_sem, q4, c4]
    refine (refCeil_spec ha (by omega : n < 2 ^ 64) hb).mono ?_
    rintro e st2 ⟨rfl, rfl⟩
    have hkk : rankN a b n = max 1 (ceilM a n b).1 := rfl
    rw [hkk]
    obtain ⟨c, hcc⟩ : ∃ c, (ceilM a n b).1 = c := ⟨_, rfl⟩
    rw [hcc]
    by_cases c5 : c < 1
    · have q5 : ((c : Int) < 1) = True := eq_true (by omega)
      have h5 : max 1 c = 1 := by omega
      simp [go_sem, q5, c5, h5]
      omega
    · have q5 : ((c : Int) < 1) = False := eq_false (by omega)
      have h5 : max 1 c = c := by omega
      simp [go_sem, q5, c5, h5]
      omega
  rintro E1 st1 ⟨⟨c1, c3, c4⟩, rfl, e0, e10, e12⟩
  rw [if_neg c1, if_neg c3, if_neg c4] at hres
  have hsum : (l.map (·.2)).sum = n := by omega
  have hkk0 : 0 < rankN a b n := by unfold rankN; omega
  obtain ⟨kk, hkk⟩ : ∃ kk, rankN a b n = kk := ⟨_, rfl⟩
  rw [hkk] at hres e10 hkk0
  have hS : ∀ k, ((toN (l.take k)).map (·.2)).sum ≤ n := fun k => by
    rw [toN_snd, ← hsum]
    have := List.sum_append (l₁ := (l.take k).map (·.2)) (l₂ := (l.drop k).map (·.2))
    rw [← List.map_append, List.take_append_drop] at this
    omega
  simp [go_sem]
  refine ⟨fun E st' => st' = st1 ∧ E 0 = .slice tb l.length tc ∧ E 10 = .int .u64 (kk : Int) ∧ ∃ k : Nat, E 13 = Val.i (k : Int) ∧ k ≤ l.length ∧ E 12 = .int .u64 ((((toN (l.take k)).map (·.2)).sum : Nat) : Int) ∧ findL (toN (l.take k)) 0 kk = none, fun E _ => match E 13 with | .int _ z => l.length - z.toNat | _ => 0,
    ⟨st1, .rfl' _, rfl, by simp [go_sem, e0], by simp [go_sem, e10], 0, by simp [go_sem], by omega, by simp [go_sem, e12, toN], rfl⟩, ?_⟩
  clear e0 e10 e12
  rintro E st' ⟨rfl, e0, e10, k, e13, hk, e12, hf⟩
  by_cases hlt : k < l.length
  · have t1 : ((k : Int) < l.length) = True := eq_true (by omega)
    have hwk : IntKind.i64.wrap ((k : Int) + 1) = (k : Int) + 1 := wrap_id (by omega) (by omega)
    obtain ⟨mb, off, cap, rw_, zs, mm, g', hv', hs, hget⟩ := rows_get hv (by omega)
    injection hv' with v1 v2 v3
    subst v1; subst v3
    obtain ⟨hlen, hcell, hcc⟩ := hget k hlt
    have hx : l[k]? = some l[k] := List.getElem?_eq_getElem hlt
    rw [bkV_get l k _ hx] at hcc
    have htk : l.take (k + 1) = l.take k ++ [l[k]] := by rw [List.take_add_one, hx]; rfl
    obtain ⟨d1, d2, d3⟩ := checkB_spec l _ hc _ (List.getElem_mem hlt)
    have hS1 := hS (k + 1)
    have hdr : l = l.take k ++ [l[k]] ++ l.drop (k + 1) := by rw [← htk, List.take_append_drop]
    generalize l[k] = x at *
    obtain ⟨xi, xn⟩ := x
    simp only at d1 d2 d3
    obtain ⟨z, rfl⟩ : ∃ z : Nat, xi = (z : Int) := ⟨xi.toNat, by omega⟩
    have hc0 := hcc 0 (by omega)
    have hc1 := hcc 1 (by omega)
    simp only [List.getElem?_cons_succ, List.getElem?_cons_zero, Nat.add_zero] at hc0 hc1
    have hone : toN [((z : Int), xn)] = [(z, xn)] := rfl
    rw [htk, toN_append, hone, List.map_append, List.sum_append] at hS1
    simp only [List.map_cons, List.map_nil, List.sum_cons, List.sum_nil, Nat.add_zero] at hS1
    have hfd : findL (toN l) 0 kk = findL (toN (l.take k) ++ [(z, xn)] ++ toN (l.drop (k + 1))) 0 kk := by
      conv => lhs; rw [hdr]
      rw [toN_append, toN_append, hone]
    have hf1 : findL (toN (l.take (k + 1))) 0 kk = findL (toN (l.take k) ++ [(z, xn)]) 0 kk := by rw [htk, toN_append, hone]
    have hs1 : ((toN (l.take (k + 1))).map (·.2)).sum = ((toN (l.take k)).map (·.2)).sum + xn := by rw [htk, toN_append, hone, List.map_append, List.sum_append]; simp
    obtain ⟨sk, hsk⟩ : ∃ s, ((toN (l.take k)).map (·.2)).sum = s := ⟨_, rfl⟩
    rw [hsk] at e12 hS1 hs1
    have hfk : findL (toN (l.take k) ++ [(z, xn)]) 0 kk = if kk ≤ sk + xn then some z else none := by
      rw [findL_append, hf, hsk]
      simp [findL]
    rw [findL_append, hfk] at hfd
    rw [hfk] at hf1
    obtain ⟨s1, hs1'⟩ : ∃ s, sk + xn = s := ⟨_, rfl⟩
    have hw : IntKind.u64.wrap ((sk : Int) + (xn : Int)) = (s1 : Int) := wrapU (by omega) (by omega)
    rw [hs1'] at hfd hf1 hs1
    by_cases c5 : kk ≤ s1
    · have t2 : ((kk : Int) ≤ (s1 : Int)) = True := eq_true (by omega)
      rw [if_pos c5] at hfd
      simp only at hfd
      rw [hfd] at hres
      injection hres with h1 h2
      subst h1; subst h2
      simp [go_sem, e0, e10, e12, e13, t1, hlt, hs, hlen, hc0, hc1, hw, t2, c5]
      refine (refLow_spec (by omega : z < 7424)).mono ?_
      rintro e st4 ⟨rfl, rfl⟩
      simp [go_sem]
    · have t2 : ((kk : Int) ≤ (s1 : Int)) = False := eq_false (by omega)
      rw [if_neg c5] at hf1
      simp [go_sem, e0, e10, e12, e13, t1, hlt, hs, hlen, hc0, hc1, hw, t2, c5, hwk]
      exact ⟨_, .rfl' _, ⟨rfl, k + 1, by simp, by omega, by rw [← hs1], hf1⟩, by omega⟩
  · have : k = l.length := by omega
    subst this
    rw [List.take_length] at hf
    rw [hf] at hres
    injection hres with h1 h2
    subst h1; subst h2
    simp [go_sem, e0, e10, e12, e13]
theorem refHistCheck_spec {v : Value} {l : List (Int × Nat)} (h : RegF st 2 v (bkV l) l.length) (hll : l.length < 2 ^ 50) : ICalls Tryz.prog W0 52 #[v] st fun e st' => e = .returned (.bool (checkB (-1) l)) ∧ st' = st := by
  have hv0 := h
  obtain ⟨tb, tc, rfl⟩ := h.slice
  generalize hres : checkB (-1) l = res
  refine enter (args := [_]) Tryz.func52 rfl ?_
  simp [Tryz.f52, go_sem]
  refine ⟨fun E st' => st' = st ∧ E 0 = .slice tb l.length tc ∧ ∃ (i : Nat) (p : Int), E 3 = Val.i (i : Int) ∧ i ≤ l.length ∧ -1 ≤ p ∧ checkB p (l.drop i) = res ∧ (i = 0 → p = -1) ∧ (∀ j, i = j + 1 → ∃ x, l[j]? = some x ∧ x.1 = p ∧ 0 ≤ p), fun E _ => match E 3 with | .int _ z => l.length - z.toNat | _ => 0,
    ⟨st, .rfl' _, rfl, by simp [go_sem], 0, -1, by simp [go_sem], by omega, by omega, hres, fun _ => rfl, fun j hj => by omega⟩, ?_⟩
  rintro E st' ⟨rfl, e0, i, p, e3, hi, hp, hc, hp0, hp1⟩
  by_cases hlt : i < l.length
  · have t1 : ((i : Int) < l.length) = True := eq_true (by omega)
    have hwi : IntKind.i64.wrap ((i : Int) + 1) = (i : Int) + 1 := wrap_id (by omega) (by omega)
    obtain ⟨mb, off, cap, rw_, zs, mm, g', hv', hs, hget⟩ := rows_get hv0 (by omega)
    injection hv' with v1 v2 v3
    subst v1; subst v3
    obtain ⟨hlen, hcell, hcc⟩ := hget i hlt
    have hx : l[i]? = some l[i] := List.getElem?_eq_getElem hlt
    rw [bkV_get l i _ hx] at hcc
    have hd : l.drop i = l[i] :: l.drop (i + 1) := List.drop_eq_getElem_cons hlt
    rw [hd] at hc
    generalize l[i] = x at *
    obtain ⟨xi, xn⟩ := x
    simp only [checkB] at hc
    have hc0 := hcc 0 (by omega)
    have hc1 := hcc 1 (by omega)
    simp only [List.getElem?_cons_succ, List.getElem?_cons_zero, Nat.add_zero] at hc0 hc1
    simp [go_sem, e0, e3, t1, hlt]
    refine draw [0, 1, 2, 3, 4, 5, 6, 7, 8, 9, 10, 11, 12, 13, 14, 15, 16, 17, 18, 19, 20, 21, 22, 23, 24, 25, 26, 27, 28, 29, 31, 32, 33, 34, 35, 30, 36, 37, 38, 39] (by kernel_rfl) ?_
    by_cases h1 : xi < 0
    · have q1 := eq_true h1
      have q0 : (xi ≤ p) = True := eq_true (by omega)
      simp only [q0, decide_true, Bool.true_or, Bool.not_true, Bool.false_and] at hc
      subst hc
      simp [go_sem, e0, e3, hlt, hs, hlen, hc0, q1]
    have q1 := eq_false h1
    by_cases h2 : 7424 ≤ xi
    · have q2 := eq_true h2
      simp only [q2, decide_true, Bool.true_or, Bool.or_true, Bool.not_true, Bool.false_and] at hc
      subst hc
      simp [go_sem, e0, e3, hlt, hs, hlen, hc0, q1, q2]
    have q2 := eq_false h2
    by_cases h3 : xn = 0
    · simp only [h3, decide_true, Bool.or_true, Bool.not_true, Bool.false_and] at hc
      subst hc
      subst h3
      simp [go_sem, e0, e3, hlt, hs, hlen, hc0, hc1, q1, q2]
    match i, hi, e3, hlt, t1, hwi, hlen, hcell, hcc, hx, hd, hc0, hc1, hp0, hp1 with
    | 0, hi, e3, hlt, t1, hwi, hlen, hcell, hcc, hx, hd, hc0, hc1, hp0, hp1 =>
      have hp' := hp0 rfl
      subst hp'
      have q4 : (xi ≤ -1) = False := eq_false (by omega)
      simp only [q2, q4, h3, decide_false, Bool.false_or, Bool.not_false, Bool.true_and] at hc
      simp only [Nat.zero_mul, Nat.add_zero, Int.natCast_zero, Nat.zero_add] at hc0 hc1 hlen e3 t1
      have hw1 : IntKind.i64.wrap 1 = 1 := wrap_id (by omega) (by omega)
      have e3' : E 3 = Val.i 0 := e3
      have hlt0 : 0 < l.length := by omega
      have hoff : off + 0 + 2 ≤ zs.length := by omega
      simp [go_sem, e0, e3', hlt0, hs, hlen, hc0, hc1, q1, q2, h3, hw1]
      exact ⟨_, .rfl' _, ⟨rfl, 1, by simp, by omega, xi, by omega, hc, by omega, fun j hj => by rw [show j = 0 by omega]; exact ⟨xi, ⟨xn, hx⟩, rfl, by omega⟩⟩, by omega⟩
    | j + 1, hi, e3, hlt, t1, hwi, hlen, hcell, hcc, hx, hd, hc0, hc1, hp0, hp1 =>
      obtain ⟨x', hx', hxp, hp00⟩ := hp1 j rfl
      obtain ⟨hlen', hcell', hcc'⟩ := hget j (by omega)
      rw [bkV_get l j _ hx', hxp] at hcc'
      have hc0' := hcc' 0 (by omega)
      simp only [List.getElem?_cons_succ, List.getElem?_cons_zero, Nat.add_zero] at hc0'
      have e3' : E 3 = Val.i ((j : Int) + 1) := by rw [e3]; congr 1
      have hwj : IntKind.i64.wrap ((j : Int) + 1 - 1) = (j : Int) := by rw [wrap_id (by omega) (by omega)]; omega
      have hwj' : IntKind.i64.wrap (j : Int) = (j : Int) := wrap_id (by omega) (by omega)
      have hwi' : IntKind.i64.wrap ((j : Int) + 1 + 1) = (j : Int) + 1 + 1 := wrap_id (by omega) (by omega)
      have s1 : (0 ≤ (j : Int) + 1) = True := eq_true (by omega)
      have s2 : ((j : Int) + 1 < l.length) = True := eq_true (by omega)
      have s3 : ((j : Int) + 1).toNat = j + 1 := by omega
      have s4 : (0 < (j : Int) + 1) = True := eq_true (by omega)
      have s5 : j < l.length := by omega
      by_cases h4 : xi ≤ p
      · have q4 := eq_true h4
        simp only [q4, decide_true, Bool.true_or, Bool.or_true, Bool.not_true, Bool.false_and] at hc
        subst hc
        simp [go_sem, e0, e3', s1, s2, s3, s4, s5, hlt, hs, hlen, hlen', hc0, hc1, hc0', q1, q2, q4, h3, hwj, hwj', hwi']
      · have q4 := eq_false h4
        simp only [q2, q4, h3, decide_false, Bool.false_or, Bool.not_false, Bool.true_and] at hc
        simp [go_sem, e0, e3', s1, s2, s3, s4, s5, hlt, hs, hlen, hlen', hc0, hc1, hc0', q1, q2, q4, h3, hwj, hwj', hwi']
        exact ⟨_, .rfl' _, ⟨rfl, j + 2, by simp; omega, by omega, xi, by omega, hc, by omega, fun k hk => by rw [show k = j + 1 by omega]; exact ⟨xi, ⟨xn, hx⟩, rfl, by omega⟩⟩, by omega⟩
  · have : i = l.length := by omega
    subst this
    rw [List.drop_length] at hc
    simp only [checkB] at hc
    subst hc
    simp [go_sem, e0, e3]
end
end Go.Proofs.YtflbapmjdfnhhaaGreat
