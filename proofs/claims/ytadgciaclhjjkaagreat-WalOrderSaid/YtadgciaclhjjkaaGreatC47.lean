/- Sorting rows of strings in place: turned around, the pivot, broken patterns. -/
import Derived.Test.YtadgciaclhjjkaaGreatC46
import Derived.Test.YtadgciaclhjjkaaGreatC28
import Derived.Test.YtadgciaclhjjkaaGreatC45
set_option linter.unusedVariables false
set_option linter.unusedSimpArgs false
set_option maxRecDepth 100000
set_option maxHeartbeats 4000000
namespace Go.Proofs.YtadgciaclhjjkaaGreat
open Go.RowKit (Below)
section
variable {W0 : World} {st : Heap}
theorem revS_spec {b N cap lo hi : Nat} {d : Array ByteArray} {g : Tg} (h : st b = some (.cells true (cellsAS d) N g)) (hN : d.size ≤ N) (hn : d.size < 2 ^ 50) (hlo : lo < hi) (hhi : hi ≤ d.size) :
    ICalls Tryz.prog W0 199 #[.slice (some ⟨b, 0, none⟩) d.size cap, Val.i lo, Val.i hi] st fun e st' => e = .returned (.tuple #[]) ∧ st' = upd st b (.cells true (cellsAS (Go.Sort.reverseRange d lo hi)) N g) := by
  have hw1 : IntKind.i64.wrap ((hi : Int) - 1) = ((hi - 1 : Nat) : Int) := by rw [wrap_id (by omega) (by omega)]; omega
  obtain ⟨R, hR⟩ : ∃ R, Go.Sort.reverseRange d lo hi = R := ⟨_, rfl⟩
  rw [hR]
  unfold Go.Sort.reverseRange at hR
  refine enter (args := [_, _, _]) Tryz.func199 rfl ?_
  simp [Tryz.f199, go_sem, hw1]
  refine ⟨fun E st' => E 0 = .slice (some ⟨b, 0, none⟩) d.size cap ∧ ∃ (i j : Nat) (m : Array ByteArray), E 6 = Val.i (i : Int) ∧ E 7 = Val.i (j : Int) ∧ lo ≤ i ∧ j < hi ∧ m.size = d.size ∧ st' = upd st b (.cells true (cellsAS m) N g) ∧ Go.Sort.reverseLoop i j m = R,
    fun E _ => match E 6, E 7 with | .int _ i, .int _ j => (j - i).toNat | _, _ => 0, ⟨_, .rfl' _, by simp [go_sem], lo, hi - 1, d, by simp [go_sem], by simp [go_sem], by omega, by omega, rfl, (upd_self h).symm, hR⟩, ?_⟩
  rintro E st' ⟨e0, i, j, m, e6, e7, hi0, hj0, hm, rfl, hs⟩
  have hml := cellsA_lengthS m
  rw [Go.Sort.reverseLoop] at hs
  by_cases c : i < j
  rotate_left
  · rw [if_neg c] at hs
    subst hs
    simp [go_sem, e0, e6, e7, c]
  rw [if_pos c] at hs
  have hwi : IntKind.i64.wrap ((i : Int) + 1) = ((i + 1 : Nat) : Int) := by rw [wrap_id (by omega) (by omega)]; omega
  have hwj : IntKind.i64.wrap ((j : Int) - 1) = ((j - 1 : Nat) : Int) := by rw [wrap_id (by omega) (by omega)]; omega
  have u1 : i < d.size := by omega
  have u2 : i ≤ d.size := by omega
  have u3 : i < N := by omega
  have v1 : j < d.size := by omega
  have v2 : j ≤ d.size := by omega
  have v3 : j < N := by omega
  obtain ⟨x, hx⟩ : ∃ x, m[i]! = x := ⟨_, rfl⟩
  have gx : ∀ h : i < (cellsAS m).length, (cellsAS m)[i] = .string x := fun h => by rw [← hx]; exact cellsA_elemS h
  obtain ⟨z, hz⟩ : ∃ z, m[j]! = z := ⟨_, rfl⟩
  have gz : ∀ h : j < (cellsAS m).length, (cellsAS m)[j] = .string z := fun h => by rw [← hz]; exact cellsA_elemS h
  have hset := cellsA_swpS m i j
  rw [hx, hz] at hset
  simp [go_sem, e0, e6, e7, c, hwi, hwj]
  refine draw [0, 1, 2, 3, 4, 5, 6, 8, 9, 10, 7, 11, 12, 13, 14, 15] (by kernel_rfl) ?_
  simp [go_sem, e0, e6, e7, c, hwi, hwj, u1, u2, u3, v1, v2, v3, gx, gz, hml, hm, upd_same, hset]
  exact ⟨_, .rfl' _, ⟨i + 1, by simp, j - 1, rfl, by omega, by omega, Go.Sort.swp m i j, by rw [Go.Sort.size_swp, hm], rfl, hs⟩, by omega⟩
/-! ### The pivot -/
theorem order2S_spec {b N cap x y s : Nat} {n : Int} {d : Array ByteArray} {g gs : Tg} (h : st b = some (.cells true (cellsAS d) N g)) (hs : st s = some (.cells true [Val.i n] 1 gs)) (hx0 : x < d.size) (hy0 : y < d.size) :
    ICalls Tryz.prog W0 244 #[.slice (some ⟨b, 0, none⟩) d.size cap, Val.i x, Val.i y, ptr s] st fun e st' => (∃ u v : Nat, e = .returned (.tuple #[Val.i u, Val.i v]) ∧ ((u = x ∧ v = y) ∨ (u = y ∧ v = x))) ∧ ∃ n', st' = upd st s (.cells true [Val.i n'] 1 gs) := by
  have hdl := cellsA_lengthS d
  refine enter (args := [_, _, _, _]) Tryz.func244 rfl ?_
  simp [Tryz.f244, go_sem]
  refine draw [0, 1, 2, 4, 5, 6, 3, 7, 8] (by kernel_rfl) ?_
  have a1 : x ≤ d.size := by omega
  have a2 : y ≤ d.size := by omega
  obtain ⟨p, hp⟩ : ∃ p, d[x]! = p := ⟨_, rfl⟩
  have gp : ∀ h : x < (cellsAS d).length, (cellsAS d)[x] = .string p := fun h => by rw [← hp]; exact cellsA_elemS h
  obtain ⟨q, hq⟩ : ∃ q, d[y]! = q := ⟨_, rfl⟩
  have gq : ∀ h : y < (cellsAS d).length, (cellsAS d)[y] = .string q := fun h => by rw [← hq]; exact cellsA_elemS h
  simp [go_sem, h, hx0, hy0, hdl, gp, gq]
  refine cmpLess_spec.mono ?_
  rintro e s2 ⟨rfl, rfl⟩
  cases hl : ltT q p with
  | true =>
    simp [go_sem, hl, hs]
    exact ⟨⟨y, x, ⟨rfl, rfl⟩, .inr ⟨rfl, rfl⟩⟩, _, rfl⟩
  | false =>
    simp [go_sem, hl]
    exact ⟨⟨x, y, ⟨rfl, rfl⟩, .inl ⟨rfl, rfl⟩⟩, n, (upd_self hs).symm⟩
theorem medianS_spec {b N cap x y z s : Nat} {n : Int} {d : Array ByteArray} {g gs : Tg} (h : st b = some (.cells true (cellsAS d) N g)) (hs : st s = some (.cells true [Val.i n] 1 gs)) (hbs : b ≠ s) (hx0 : x < d.size) (hy0 : y < d.size) (hz0 : z < d.size) :
    ICalls Tryz.prog W0 236 #[.slice (some ⟨b, 0, none⟩) d.size cap, Val.i x, Val.i y, Val.i z, ptr s] st fun e st' => (∃ u : Nat, e = .returned (Val.i u) ∧ (u = x ∨ u = y ∨ u = z)) ∧ ∃ n', st' = upd st s (.cells true [Val.i n'] 1 gs) := by
  refine enter (args := [_, _, _, _, _]) Tryz.func236 rfl ?_
  simp [Tryz.f236, go_sem]
  refine (order2S_spec h hs hx0 hy0).mono ?_
  rintro e s1 ⟨⟨u1, v1, rfl, h1⟩, n1, rfl⟩
  simp [go_sem]
  refine (order2S_spec (by rw [upd_ne _ _ hbs]; exact h) (upd_same _ _ _) (by omega) (by omega)).mono ?_
  rintro e s2 ⟨⟨u2, v2, rfl, h2⟩, n2, rfl⟩
  simp [go_sem]
  refine (order2S_spec (by rw [upd_ne _ _ hbs]; exact h) (upd_same _ _ _) (by omega) (by omega)).mono ?_
  rintro e s3 ⟨⟨u3, v3, rfl, h3⟩, n3, rfl⟩
  simp [go_sem]
  exact ⟨⟨_, rfl, by omega⟩, n3, rfl⟩
theorem medianAdjS_spec {b N cap x s : Nat} {n : Int} {d : Array ByteArray} {g gs : Tg} (h : st b = some (.cells true (cellsAS d) N g)) (hs : st s = some (.cells true [Val.i n] 1 gs)) (hbs : b ≠ s) (hn : d.size < 2 ^ 50) (hx0 : 1 ≤ x) (hx1 : x + 1 < d.size) :
    ICalls Tryz.prog W0 235 #[.slice (some ⟨b, 0, none⟩) d.size cap, Val.i x, ptr s] st fun e st' => (∃ u : Nat, e = .returned (Val.i u) ∧ x ≤ u + 1 ∧ u ≤ x + 1) ∧ ∃ n', st' = upd st s (.cells true [Val.i n'] 1 gs) := by
  have hw1 : IntKind.i64.wrap ((x : Int) - 1) = ((x - 1 : Nat) : Int) := by rw [wrap_id (by omega) (by omega)]; omega
  have hw2 : IntKind.i64.wrap ((x : Int) + 1) = ((x + 1 : Nat) : Int) := by rw [wrap_id (by omega) (by omega)]; omega
  refine enter (args := [_, _, _]) Tryz.func235 rfl ?_
  simp only [Tryz.f235, go_sem, hw1, hw2]
  generalize hy : x - 1 = y at *
  generalize hz : x + 1 = z at *
  simp [go_sem, hw1, hw2]
  refine (medianS_spec h hs hbs (x := y) (y := x) (z := z) (by omega) (by omega) (by omega)).mono ?_
  rintro e s1 ⟨⟨u1, rfl, h1⟩, n1, rfl⟩
  simp [go_sem]
  exact ⟨⟨_, rfl, by omega⟩, n1, rfl⟩
theorem pivotS_spec {b N cap lo hi : Nat} {d : Array ByteArray} {g : Tg} (h : st b = some (.cells true (cellsAS d) N g)) (hn : d.size < 2 ^ 50) (hlo : lo < hi) (hhi : hi ≤ d.size) :
    ICalls Tryz.prog W0 198 #[.slice (some ⟨b, 0, none⟩) d.size cap, Val.i lo, Val.i hi] st fun e st' => (∃ (p : Nat) (q : Int), e = .returned (.tuple #[Val.i p, Val.i q]) ∧ lo ≤ p ∧ p < hi) ∧ New st st' := by
  obtain ⟨l, hl⟩ : ∃ l, hi - lo = l := ⟨_, rfl⟩
  have hw1 : IntKind.i64.wrap ((hi : Int) - (lo : Int)) = (l : Int) := by rw [wrap_id (by omega) (by omega)]; omega
  obtain ⟨k, hk⟩ : ∃ k, l / 4 = k := ⟨_, rfl⟩
  have hw2' : IntKind.i64.wrap ((l : Int) / 4) = (k : Int) := by rw [wrap_id (by omega) (by omega)]; omega
  have hw2 : IntKind.i64.wrap ((l : Int).tdiv 4) = (k : Int) := by rw [Int.tdiv_eq_ediv_of_nonneg (by omega), wrap_id (by omega) (by omega)]; omega
  have hm1 : IntKind.i64.wrap (k : Int) = (k : Int) := wrap_id (by omega) (by omega)
  have hm2 : IntKind.i64.wrap ((k : Int) * 2) = ((k * 2 : Nat) : Int) := by rw [wrap_id (by omega) (by omega)]; omega
  have hm3 : IntKind.i64.wrap ((k : Int) * 3) = ((k * 3 : Nat) : Int) := by rw [wrap_id (by omega) (by omega)]; omega
  have ha1 : IntKind.i64.wrap ((lo : Int) + (k : Int)) = ((lo + k : Nat) : Int) := by rw [wrap_id (by omega) (by omega)]; omega
  have ha2 : IntKind.i64.wrap ((lo : Int) + ((k * 2 : Nat) : Int)) = ((lo + k * 2 : Nat) : Int) := by rw [wrap_id (by omega) (by omega)]; omega
  have ha3 : IntKind.i64.wrap ((lo : Int) + ((k * 3 : Nat) : Int)) = ((lo + k * 3 : Nat) : Int) := by rw [wrap_id (by omega) (by omega)]; omega
  obtain ⟨c2, hc2⟩ : ∃ c, k * 2 = c := ⟨_, rfl⟩
  obtain ⟨c3, hc3⟩ : ∃ c, k * 3 = c := ⟨_, rfl⟩
  rw [hc2] at hm2 ha2
  rw [hc3] at hm3 ha3
  obtain ⟨i, hi0⟩ : ∃ i, lo + k = i := ⟨_, rfl⟩
  obtain ⟨j, hj0⟩ : ∃ j, lo + c2 = j := ⟨_, rfl⟩
  obtain ⟨m, hm0⟩ : ∃ m, lo + c3 = m := ⟨_, rfl⟩
  rw [hi0] at ha1
  rw [hj0] at ha2
  rw [hm0] at ha3
  refine enter (args := [_, _, _]) Tryz.func198 rfl ?_
  iterate 5 refine IW_assoc ?_
  refine IW_cut (fun E' st' => New st st' ∧ E' 0 = .slice (some ⟨b, 0, none⟩) d.size cap ∧ E' 8 = Val.i l ∧ E' 10 = Val.i i ∧ E' 11 = Val.i j ∧ E' 12 = Val.i m ∧ ∃ s, E' 9 = ptr s ∧ b ≠ s ∧ st s = none ∧ st' s = some (.cells true [Val.i 0] 1 (.ty 1))) ?_ ?_
  · simp [go_sem, hw1]
    unfold NewP
    intro s hs
    refine ⟨.ty 1, ?_⟩
    have g9 := upd_same st s (.cells true [Val.i 0] 1 (.ty 1))
    have hn1 := (New.refl st).add (b := s) (o := .cells true [Val.i 0] 1 (.ty 1)) hs
    simp [go_sem, hw1, hw2, hw2', hm1, hm2, hm3, ha1, ha2, ha3]
    exact ⟨hn1, ne_of_new h hs, hs⟩
  rintro E st1 ⟨n1, e0, e8, e10, e11, e12, s, e9, hbs, hsn, hs⟩
  have hb1 := n1 _ _ h
  refine IW_cut (fun E' st' => New st st' ∧ ∃ (j : Nat) (n : Int), E' 11 = Val.i j ∧ lo ≤ j ∧ j < hi ∧ E' 9 = ptr s ∧ st' s = some (.cells true [Val.i n] 1 (.ty 1))) ?_ ?_
  · by_cases c8 : 8 ≤ l
    rotate_left
    · have q8 : ((8 : Int) ≤ (l : Int)) = False := eq_false (by omega)
      simp [go_sem, e0, e8, e9, e10, e11, e12, q8]
      exact ⟨n1, j, by simp, by omega, by omega, 0, hs⟩
    have q8 : ((8 : Int) ≤ (l : Int)) = True := eq_true (by omega)
    have med : ∀ (i j m : Nat) (E : Env) (sx : Heap) (n : Int), i < hi → j < hi → m < hi → True := fun _ _ _ _ _ _ _ _ _ => trivial
    by_cases c50 : 50 ≤ l
    · have q50 : ((50 : Int) ≤ (l : Int)) = True := eq_true (by omega)
      simp [go_sem, e0, e8, e9, e10, e11, e12, q8, q50]
      refine (medianAdjS_spec hb1 hs hbs hn (by omega) (by omega)).mono ?_
      rintro e s2 ⟨⟨u1, rfl, hu1, hu2⟩, k1, rfl⟩
      simp [go_sem, e0, e8, e9, e10, e11, e12]
      refine (medianAdjS_spec (by rw [upd_ne _ _ hbs]; exact hb1) (upd_same _ _ _) hbs hn (by omega) (by omega)).mono ?_
      rintro e s2 ⟨⟨u2, rfl, hu3, hu4⟩, k2, rfl⟩
      simp [go_sem, e0, e8, e9, e10, e11, e12]
      refine (medianAdjS_spec (by rw [upd_ne _ _ hbs]; exact hb1) (upd_same _ _ _) hbs hn (by omega) (by omega)).mono ?_
      rintro e s2 ⟨⟨u3, rfl, hu5, hu6⟩, k3, rfl⟩
      simp [go_sem, e0, e8, e9, e10, e11, e12]
      refine (medianS_spec (by rw [upd_ne _ _ hbs]; exact hb1) (upd_same _ _ _) hbs (by omega) (by omega) (by omega)).mono ?_
      rintro e s2 ⟨⟨u4, rfl, hu7⟩, k4, rfl⟩
      simp [go_sem, e0, e8, e9, e10, e11, e12]
      exact ⟨n1.put hsn, u4, rfl, by omega, by omega⟩
    · have q50 : ((50 : Int) ≤ (l : Int)) = False := eq_false (by omega)
      simp [go_sem, e0, e8, e9, e10, e11, e12, q8, q50]
      refine (medianS_spec hb1 hs hbs (by omega) (by omega) (by omega)).mono ?_
      rintro e s2 ⟨⟨u4, rfl, hu7⟩, k4, rfl⟩
      simp [go_sem, e0, e8, e9, e10, e11, e12]
      exact ⟨n1.put hsn, u4, rfl, by omega, by omega⟩
  rintro E st2 ⟨n2, j, n, e11, hj1, hj2, e9, hs2⟩
  by_cases z0 : n = 0
  · simp [go_sem, e9, e11, hs2, z0]
    exact ⟨⟨j, rfl, hj1, hj2⟩, n2⟩
  by_cases z12 : n = 12
  · simp [go_sem, e9, e11, hs2, z12]
    exact ⟨⟨j, rfl, hj1, hj2⟩, n2⟩
  simp [go_sem, e9, e11, hs2, z0, z12]
  exact ⟨⟨j, rfl, hj1, hj2⟩, n2⟩
/-! ### Broken patterns -/
theorem bitsLenS_spec {x : Nat} (hx : x < 2 ^ 64) : ICalls Tryz.prog W0 155 #[.int .u64 (x : Int)] st fun e st' => e = .returned (Val.i (lenN x : Nat)) ∧ st' = st := by
  refine enter (args := [_]) Tryz.func155 rfl ?_
  simp [Tryz.f155, go_sem]
  refine (Len64_spec hx).mono ?_
  rintro e st' ⟨rfl, rfl⟩
  simp [go_sem]
theorem nextXorS_spec {r : Nat} {x : Int} {g : Tg} (h : st r = some (.cells true [.int .u64 x] 1 g)) : ICalls Tryz.prog W0 234 #[ptr r] st fun e st' => ∃ y : Int, e = .returned (.int .u64 y) ∧ 0 ≤ y ∧ y < 2 ^ 64 ∧ st' = upd st r (.cells true [.int .u64 y] 1 g) := by
  refine enter (args := [_]) Tryz.func234 rfl ?_
  have d3 : bits .xor .u64 0 0 = 0 := by decide
  simp [Tryz.f234, go_sem]
  refine draw [0, 1, 3, 4, 2, 5, 6, 7, 8, 9] (by kernel_rfl) ?_
  simp [go_sem, h]
  refine draw [0, 1, 3, 4, 2, 5, 6, 7, 8, 9] (by kernel_rfl) ?_
  simp [go_sem, upd_same]
  refine draw [0, 1, 3, 4, 2, 5, 6, 7, 8, 9] (by kernel_rfl) ?_
  simp [go_sem, upd_same]
  have hb : ∀ a b : Int, 0 ≤ bits .xor .u64 a b ∧ bits .xor .u64 a b < 18446744073709551616 := fun a b => by
    unfold bits
    show 0 ≤ IntKind.u64.wrap _ ∧ IntKind.u64.wrap _ < _
    rw [IntKind.wrap_u64]
    omega
  exact hb _ _
theorem pow2S_spec {l : Nat} (h0 : 0 < l) (h : l < 2 ^ 50) : ICalls Tryz.prog W0 233 #[Val.i l] st fun e st' => (∃ k : Nat, k ≤ 51 ∧ 2 ^ k ≤ 2 * l ∧ e = .returned (.int .u64 ((2 ^ k : Nat) : Int))) ∧ st' = st := by
  refine enter (args := [_]) Tryz.func233 rfl ?_
  have hw : IntKind.u64.wrap (l : Int) = (l : Int) := wraps_u64 _ (by omega) (by omega)
  obtain ⟨b1, b2, b3⟩ := lenN_bounds (x := l) (by omega)
  have b4 : lenN l ≤ 50 := lenN_le h
  simp [Tryz.f233, go_sem, hw]
  refine (bitsLenS_spec (by omega)).mono ?_
  rintro e s1 ⟨rfl, rfl⟩
  have hb : 2 ^ lenN l ≤ 2 * l := by
    obtain ⟨q, hq⟩ : ∃ q, lenN l = q + 1 := ⟨lenN l - 1, by omega⟩
    rw [hq] at b1 ⊢
    rw [Nat.pow_succ]
    simp only [Nat.add_sub_cancel] at b1
    omega
  have hb2 : 0 < 2 ^ lenN l := Nat.two_pow_pos _
  generalize lenN l = k at *
  have q1 : ((k : Int) < 0) = False := eq_false (by omega)
  have q2 : min k 64 = k := by omega
  have q3 : IntKind.u64.wrap ((2 : Int) ^ k) = ((2 ^ k : Nat) : Int) := by
    have : ((2 : Int) ^ k) = ((2 ^ k : Nat) : Int) := by simp
    rw [this]
    exact wraps_u64 _ (by omega) (by have : ((2 ^ k : Nat) : Int) ≤ ((2 * l : Nat) : Int) := Int.ofNat_le.2 hb
                                     omega)
  simp [go_sem, q1, q2, q3, IntKind.bits]
  exact ⟨k, by omega, hb, by simp⟩
theorem breakS_spec {b N cap lo hi : Nat} {d : Array ByteArray} {g : Tg} (h : st b = some (.cells true (cellsAS d) N g)) (hN : d.size ≤ N) (hn : d.size < 2 ^ 50) (hlo : lo ≤ hi) (hhi : hi ≤ d.size) :
    ICalls Tryz.prog W0 197 #[.slice (some ⟨b, 0, none⟩) d.size cap, Val.i lo, Val.i hi] st fun e st' => e = .returned (.tuple #[]) ∧ But1 b st st' ∧ ∃ m, st' b = some (.cells true (cellsAS m) N g) ∧ Go.Sort.PermIn lo hi d m := by
  obtain ⟨l, hl⟩ : ∃ l, hi - lo = l := ⟨_, rfl⟩
  have hw1 : IntKind.i64.wrap ((hi : Int) - (lo : Int)) = (l : Int) := by rw [wrap_id (by omega) (by omega)]; omega
  refine enter (args := [_, _, _]) Tryz.func197 rfl ?_
  by_cases c8 : 8 ≤ l
  rotate_left
  · have q8 : ((8 : Int) ≤ (l : Int)) = False := eq_false (by omega)
    simp [Tryz.f197, go_sem, hw1, q8]
    exact ⟨But1.refl _ _, d, h, Go.Sort.permIn_refl _ _ _⟩
  have q8 : ((8 : Int) ≤ (l : Int)) = True := eq_true (by omega)
  obtain ⟨k, hk⟩ : ∃ k, l / 4 = k := ⟨_, rfl⟩
  have hw2' : IntKind.i64.wrap ((l : Int) / 4) = (k : Int) := by rw [wrap_id (by omega) (by omega)]; omega
  have hw2 : IntKind.i64.wrap ((l : Int).tdiv 4) = (k : Int) := by rw [Int.tdiv_eq_ediv_of_nonneg (by omega), wrap_id (by omega) (by omega)]; omega
  obtain ⟨c2, hc2⟩ : ∃ c, k * 2 = c := ⟨_, rfl⟩
  have hm2 : IntKind.i64.wrap ((k : Int) * 2) = (c2 : Int) := by rw [wrap_id (by omega) (by omega)]; omega
  obtain ⟨j, hj⟩ : ∃ j, lo + c2 = j := ⟨_, rfl⟩
  have ha2 : IntKind.i64.wrap ((lo : Int) + (c2 : Int)) = (j : Int) := by rw [wrap_id (by omega) (by omega)]; omega
  have hj1 : IntKind.i64.wrap ((j : Int) - 1) = ((j - 1 : Nat) : Int) := by rw [wrap_id (by omega) (by omega)]; omega
  have hj2 : IntKind.i64.wrap ((j : Int) + 1) = ((j + 1 : Nat) : Int) := by rw [wrap_id (by omega) (by omega)]; omega
  have hwl : IntKind.u64.wrap (l : Int) = (l : Int) := wraps_u64 _ (by omega) (by omega)
  simp [Tryz.f197, go_sem, hw1, q8, hwl]
  unfold NewP
  intro r hr
  refine ⟨.ty 1, ?_⟩
  have n1 := (New.refl st).add (b := r) (o := .cells true [.int .u64 0] 1 (.ty 1)) hr
  have hbr : b ≠ r := ne_of_new h hr
  have hb1 := n1 _ _ h
  simp [go_sem]
  refine (pow2S_spec (by omega) (by omega)).mono ?_
  rintro e s1 ⟨⟨kk, hk1, hk2, rfl⟩, rfl⟩
  simp [go_sem, hw2, hw2', hm2, ha2, hj1]
  refine ⟨fun E st' => E 0 = .slice (some ⟨b, 0, none⟩) d.size cap ∧ E 1 = Val.i lo ∧ E 6 = Val.i l ∧ E 7 = ptr r ∧ E 8 = .int .u64 (2 ^ kk : Int) ∧ But1 b st st' ∧ (∃ x : Int, st' r = some (.cells true [.int .u64 x] 1 (.ty 1))) ∧ ∃ (i : Nat) (m : Array ByteArray), E 9 = Val.i (i : Int) ∧ j - 1 ≤ i ∧ i ≤ j + 2 ∧ Go.Sort.PermIn lo hi d m ∧ st' b = some (.cells true (cellsAS m) N g),
    fun E _ => match E 9 with | .int _ i => j + 2 - i.toNat | _ => 0, ⟨_, .rfl' _, by simp [go_sem], by simp [go_sem], by simp [go_sem], by simp [go_sem], by simp [go_sem], ?_, ⟨l, by simp [go_sem, upd_same]⟩, j - 1, d, by simp [go_sem], by omega, by omega, Go.Sort.permIn_refl _ _ _, ?_⟩, ?_⟩
  · exact ((New.refl st).put hr).but b
  · rw [upd_ne _ _ hbr]; exact h
  rintro E st' ⟨e0, e1, e6, e7, e8, hb, ⟨x, hrx⟩, i, m, e9, hi1, hi2, hp, hbm⟩
  have hm : m.size = d.size := hp.1
  have hml := cellsA_lengthS m
  by_cases c : i ≤ j + 1
  rotate_left
  · have q : ((i : Int) ≤ (j : Int) + 1) = False := eq_false (by omega)
    simp [go_sem, e0, e1, e6, e7, e8, e9, hw2, hw2', hm2, ha2, hj2, q, c]
    exact ⟨hb, m, hbm, hp⟩
  have q : ((i : Int) ≤ (j : Int) + 1) = True := eq_true (by omega)
  simp [go_sem, e0, e1, e6, e7, e8, e9, hw2, hw2', hm2, ha2, hj2, q, c]
  refine (nextXorS_spec hrx).mono ?_
  rintro e s2 ⟨y, rfl, hy0, hy1, rfl⟩
  have hpk : (2 : Int) ^ kk = ((2 ^ kk : Nat) : Int) := by simp
  have hpp : 0 < 2 ^ kk := Nat.two_pow_pos kk
  have hwk : IntKind.u64.wrap ((2 : Int) ^ kk - 1) = (2 : Int) ^ kk - 1 := wraps_u64 _ (by rw [hpk]; omega) (by rw [hpk]; omega)
  have hand : bits .and .u64 y ((2 : Int) ^ kk - 1) = y % 2 ^ kk := bits_mask .u64 64 (by decide) wraps_u64 kk (by omega) y hy0 hy1
  obtain ⟨t, ht⟩ : ∃ t : Nat, y % (2 : Int) ^ kk = (t : Int) := Int.eq_ofNat_of_zero_le (Int.emod_nonneg _ (by rw [hpk]; omega))
  have htb : t < 2 ^ kk := by
    have := Int.emod_lt_of_pos y (b := (2 : Int) ^ kk) (by rw [hpk]; omega)
    rw [ht, hpk] at this
    omega
  have hwt : IntKind.i64.wrap (t : Int) = (t : Int) := wrap_id (by omega) (by omega)
  obtain ⟨v, hv⟩ : ∃ v, (if l ≤ t then t - l else t) = v := ⟨_, rfl⟩
  have hvl : v < l := by rw [← hv]; split <;> omega
  obtain ⟨z, hz⟩ : ∃ z, lo + v = z := ⟨_, rfl⟩
  have hwz : IntKind.i64.wrap ((lo : Int) + (v : Int)) = (z : Int) := by rw [wrap_id (by omega) (by omega)]; omega
  have hwi : IntKind.i64.wrap ((i : Int) + 1) = ((i + 1 : Nat) : Int) := by rw [wrap_id (by omega) (by omega)]; omega
  have hrb : r ≠ b := fun h => hbr h.symm
  have hbm2 : upd st' r (.cells true [.int .u64 y] 1 (.ty 1)) b = some (.cells true (cellsAS m) N g) := by rw [upd_ne _ _ hbr]; exact hbm
  have gr2 := upd_same st' r (.cells true [.int .u64 y] 1 (.ty 1))
  have hk3 : But1 b st (upd st' r (.cells true [.int .u64 y] 1 (.ty 1))) := fun k o hkb hk => by rw [upd_ne _ _ (ne_of_new hk hr)]; exact hb k o hkb hk
  generalize upd st' r (.cells true [.int .u64 y] 1 (.ty 1)) = s3 at *
  have u1 : i < d.size := by omega
  have u2 : i ≤ d.size := by omega
  have u3 : i < N := by omega
  have v1 : z < d.size := by omega
  have v2 : z ≤ d.size := by omega
  have v3 : z < N := by omega
  obtain ⟨px, hpx⟩ : ∃ px, m[i]! = px := ⟨_, rfl⟩
  have gpx : ∀ h : i < (cellsAS m).length, (cellsAS m)[i] = .string px := fun h => by rw [← hpx]; exact cellsA_elemS h
  obtain ⟨pz, hpz⟩ : ∃ pz, m[z]! = pz := ⟨_, rfl⟩
  have gpz : ∀ h : z < (cellsAS m).length, (cellsAS m)[z] = .string pz := fun h => by rw [← hpz]; exact cellsA_elemS h
  have hset := cellsA_swpS m i z
  rw [hpx, hpz] at hset
  have hperm : Go.Sort.PermIn lo hi d (Go.Sort.swp m i z) := Go.Sort.permIn_trans _ _ _ _ _ hp (Go.Sort.swp_permIn m lo hi i z (by omega) (by omega) (by omega) (by omega) (by omega))
  by_cases ct : l ≤ t
  · rw [if_pos ct] at hv
    have hwv : IntKind.i64.wrap ((t : Int) - (l : Int)) = (v : Int) := by rw [wrap_id (by omega) (by omega)]; omega
    simp [go_sem, e0, e1, e6, e7, e8, e9, hwk, hand, ht, hwt, ct, hwv]
    refine draw [0, 1, 2, 3, 4, 5, 6, 7, 8, 9, 10, 12, 13, 14, 11, 15, 16, 17, 18, 19] (by kernel_rfl) ?_
    simp [go_sem, e0, e1, e6, e7, e8, e9, hwz, hwi, u1, u2, u3, v1, v2, v3, gpx, gpz, hml, hm, hbm2, upd_same, hset]
    exact ⟨_, .rfl' _, ⟨hk3.put, ⟨y, by rw [upd_ne _ _ hrb]; exact gr2⟩, i + 1, by simp, by omega, by omega, _, hperm, upd_same _ _ _⟩, by omega⟩
  · rw [if_neg ct] at hv
    subst hv
    simp [go_sem, e0, e1, e6, e7, e8, e9, hwk, hand, ht, hwt, ct]
    refine draw [0, 1, 2, 3, 4, 5, 6, 7, 8, 9, 10, 12, 13, 14, 11, 15, 16, 17, 18, 19] (by kernel_rfl) ?_
    simp [go_sem, e0, e1, e6, e7, e8, e9, hwz, hwi, u1, u2, u3, v1, v2, v3, gpx, gpz, hml, hm, hbm2, upd_same, hset]
    exact ⟨_, .rfl' _, ⟨hk3.put, ⟨y, by rw [upd_ne _ _ hrb]; exact gr2⟩, i + 1, by simp, by omega, by omega, _, hperm, upd_same _ _ _⟩, by omega⟩
end
end Go.Proofs.YtadgciaclhjjkaaGreat
set_option linter.unusedVariables false
set_option linter.unusedSimpArgs false
set_option maxRecDepth 100000
set_option maxHeartbeats 4000000
namespace Go.Proofs.YtadgciaclhjjkaaGreat
open Go.RowKit (Below)
section
variable {W0 : World}
theorem pdqS_spec : ∀ (nn : Nat) {st : Heap} {b N cap lo hi : Nat} {lim : Int} {d : Array ByteArray} {g : Tg}, hi - lo = nn → st b = some (.cells true (cellsAS d) N g) → d.size ≤ N → d.size < 2 ^ 50 → lo ≤ hi → hi ≤ d.size → Go.Sort.Below ltT lo hi d →
    ICalls Tryz.prog W0 154 #[.slice (some ⟨b, 0, none⟩) d.size cap, Val.i lo, Val.i hi, Val.i lim] st fun e st' => e = .returned (.tuple #[]) ∧ But1 b st st' ∧ ∃ m, st' b = some (.cells true (cellsAS m) N g) ∧ Go.Sort.PermIn lo hi d m ∧ Go.Sort.SortedIn ltT lo hi m := by
  intro nn
  induction nn using Nat.strongRecOn with
  | _ nn ih =>
  intro st b N cap lo hi lim d g hnn h hN hn hlo hhi hB
  refine enter (args := [_, _, _, _]) Tryz.func154 rfl ?_
  iterate 1 refine IW_assoc ?_
  refine IW_cut (fun E' st' => st = st' ∧ E' 0 = .slice (some ⟨b, 0, none⟩) d.size cap ∧ E' 1 = Val.i lo ∧ E' 2 = Val.i hi ∧ E' 3 = Val.i lim ∧ E' 8 = .bool true ∧ E' 9 = .bool true) ?_ ?_
  · simp [go_sem]
  rintro E st' ⟨rfl, e0, e1, e2, e3, e8, e9⟩
  rw [IW_block, IW_loop]
  refine ⟨fun E s => E 0 = .slice (some ⟨b, 0, none⟩) d.size cap ∧ ∃ (lo1 hi1 : Nat) (m : Array ByteArray) (l : Int) (wb wp : Bool), E 1 = Val.i lo1 ∧ E 2 = Val.i hi1 ∧ E 3 = Val.i l ∧ E 8 = .bool wb ∧ E 9 = .bool wp ∧ lo ≤ lo1 ∧ lo1 ≤ hi1 ∧ hi1 ≤ hi ∧ m.size = d.size ∧ But1 b st s ∧ s b = some (.cells true (cellsAS m) N g) ∧ Go.Sort.Below ltT lo1 hi1 m ∧ ∀ R, Go.Sort.PermIn lo1 hi1 m R → Go.Sort.SortedIn ltT lo1 hi1 R → Go.Sort.PermIn lo hi d R ∧ Go.Sort.SortedIn ltT lo hi R,
    fun E _ => match E 1, E 2 with | .int _ i, .int _ j => (j - i).toNat | _, _ => 0, ⟨_, .rfl' _, e0, lo, hi, d, lim, true, true, e1, e2, e3, e8, e9, by omega, by omega, by omega, rfl, But1.refl _ _, h, hB, fun R h1 h2 => ⟨h1, h2⟩⟩, ?_⟩
  clear e0 e1 e2 e3 e8 e9
  clear E
  rintro E s0 ⟨e0, lo1, hi1, m, l, wb, wp, e1, e2, e3, e8, e9, b1, b2, b3, hm, hb0, hr0, hB0, hend⟩
  have z1 := e1
  have z2 := e2
  obtain ⟨n, hnl⟩ : ∃ n, hi1 - lo1 = n := ⟨_, rfl⟩
  have hw1 : IntKind.i64.wrap ((hi1 : Int) - (lo1 : Int)) = (n : Int) := by rw [wrap_id (by omega) (by omega)]; omega
  rw [IW_block]
  iterate 2 refine IW_assoc ?_
  refine IW_cut' (fun E' st' => 12 < n ∧ But1 b st st' ∧ st' b = some (.cells true (cellsAS m) N g) ∧ Go.Sort.PermIn lo1 hi1 m m ∧ E' 0 = .slice (some ⟨b, 0, none⟩) d.size cap ∧ E' 1 = Val.i lo1 ∧ E' 2 = Val.i hi1 ∧ E' 3 = Val.i l ∧ E' 8 = .bool wb ∧ E' 9 = .bool wp ∧ E' 10 = Val.i n) ?_ ?_
  · by_cases c12 : n ≤ 12
    · have q12 : ((n : Int) ≤ 12) = True := eq_true (by omega)
      simp [go_sem, e0, e1, e2, e3, e8, e9, hw1, q12]
      have hc := insS_spec (W0 := W0) (cap := cap) (lo := lo1) (hi := hi1) (d := m) hr0 (by omega) (by omega) (by omega) (by omega)
      rw [hm] at hc
      refine hc.mono ?_
      rintro e s2 ⟨rfl, rfl⟩
      obtain ⟨h1, h2⟩ := Go.Sort.insertionSort_holds ltT_swo m lo1 hi1 b2 (by omega)
      obtain ⟨h3, h4⟩ := hend _ h1 h2
      simp [go_sem]
      exact ⟨hb0.put, _, rfl, h3, h4⟩
    have q12 : ((n : Int) ≤ 12) = False := eq_false (by omega)
    by_cases c0 : l = 0
    · simp [go_sem, e0, e1, e2, e3, e8, e9, hw1, q12, c0]
      have hc := heapS_spec (W0 := W0) (cap := cap) (lo := lo1) (hi := hi1) (d := m) hr0 (by omega) (by omega) (by omega) (by omega)
      rw [hm] at hc
      refine hc.mono ?_
      rintro e s2 ⟨rfl, rfl⟩
      obtain ⟨h1, h2⟩ := Go.Sort.heapSort_holds ltT_swo m lo1 hi1 b2 (by omega)
      obtain ⟨h3, h4⟩ := hend _ h1 h2
      simp [go_sem]
      exact ⟨hb0.put, _, rfl, h3, h4⟩
    simp [go_sem, e0, e1, e2, e3, e8, e9, hw1, q12, c0]
    exact ⟨by omega, hb0, hr0, Go.Sort.permIn_refl _ _ _⟩
  rintro E s1 ⟨c12, hb1, hr1, -, e0, e1, e2, e3, e8, e9, e10⟩
  refine IW_cut (fun E' st' => ∃ (m1 : Array ByteArray) (l1 : Int), But1 b st st' ∧ st' b = some (.cells true (cellsAS m1) N g) ∧ Go.Sort.PermIn lo1 hi1 m m1 ∧ E' 0 = .slice (some ⟨b, 0, none⟩) d.size cap ∧ E' 1 = Val.i lo1 ∧ E' 2 = Val.i hi1 ∧ E' 3 = Val.i l1 ∧ E' 8 = .bool wb ∧ E' 9 = .bool wp ∧ E' 10 = Val.i n) ?_ ?_
  · cases wb with
    | true =>
      simp [go_sem, e0, e1, e2, e3, e8, e9, e10]
      exact ⟨hb1, m, hr1, Go.Sort.permIn_refl _ _ _⟩
    | false =>
      simp [go_sem, e0, e1, e2, e3, e8, e9, e10]
      have hc := breakS_spec (W0 := W0) (cap := cap) (lo := lo1) (hi := hi1) (d := m) hr1 (by omega) (by omega) (by omega) (by omega)
      rw [hm] at hc
      refine hc.mono ?_
      rintro e s2 ⟨rfl, hb2, m1, hr2, hp2⟩
      simp [go_sem, e0, e1, e2, e3, e8, e9, e10]
      exact ⟨hb1.trans hb2, m1, hr2, hp2⟩
  rintro E s2 ⟨m1, l1, hb2, hr2, hp1, e0, e1, e2, e3, e8, e9, e10⟩
  have hm1 : m1.size = d.size := hp1.1.trans hm
  refine IW_cut (fun E' st' => ∃ (p : Nat) (q : Int), lo1 ≤ p ∧ p < hi1 ∧ E' 11 = Val.i p ∧ E' 12 = Val.i q ∧ But1 b st st' ∧ st' b = some (.cells true (cellsAS m1) N g) ∧ Go.Sort.PermIn lo1 hi1 m m1 ∧ E' 0 = .slice (some ⟨b, 0, none⟩) d.size cap ∧ E' 1 = Val.i lo1 ∧ E' 2 = Val.i hi1 ∧ E' 3 = Val.i l1 ∧ E' 8 = .bool wb ∧ E' 9 = .bool wp ∧ E' 10 = Val.i n) ?_ ?_
  · simp [go_sem, e0, e1, e2, e3, e8, e9, e10]
    have hc := pivotS_spec (W0 := W0) (cap := cap) (lo := lo1) (hi := hi1) (d := m1) hr2 (by omega) (by omega) (by omega)
    rw [hm1] at hc
    refine hc.mono ?_
    rintro e s3 ⟨⟨p, q, rfl, hq1, hq2⟩, n3⟩
    simp [go_sem, e0, e1, e2, e3, e8, e9, e10]
    exact ⟨p, hq1, hq2, rfl, hb2.trans (n3.but b), n3 _ _ hr2, hp1⟩
  rintro E s3 ⟨p, q, hq1, hq2, e11, e12, hb3, hr3, -, e0, e1, e2, e3, e8, e9, e10⟩
  refine IW_cut (fun E' st' => ∃ (m1 : Array ByteArray) (p : Nat) (q : Int), lo1 ≤ p ∧ p < hi1 ∧ E' 11 = Val.i p ∧ E' 12 = Val.i q ∧ But1 b st st' ∧ st' b = some (.cells true (cellsAS m1) N g) ∧ Go.Sort.PermIn lo1 hi1 m m1 ∧ E' 0 = .slice (some ⟨b, 0, none⟩) d.size cap ∧ E' 1 = Val.i lo1 ∧ E' 2 = Val.i hi1 ∧ E' 3 = Val.i l1 ∧ E' 8 = .bool wb ∧ E' 9 = .bool wp ∧ E' 10 = Val.i n) ?_ ?_
  · by_cases c2 : q = 2
    · simp [go_sem, e0, e1, e2, e3, e8, e9, e10, e11, e12, c2]
      have hc := revS_spec (W0 := W0) (cap := cap) (lo := lo1) (hi := hi1) (d := m1) hr3 (by omega) (by omega) (by omega) (by omega)
      rw [hm1] at hc
      refine hc.mono ?_
      rintro e s4 ⟨rfl, rfl⟩
      have ha : IntKind.i64.wrap ((hi1 : Int) - 1) = ((hi1 - 1 : Nat) : Int) := by rw [wrap_id (by omega) (by omega)]; omega
      have hbw : IntKind.i64.wrap ((p : Int) - (lo1 : Int)) = ((p - lo1 : Nat) : Int) := by rw [wrap_id (by omega) (by omega)]; omega
      have hcw : IntKind.i64.wrap (((hi1 - 1 : Nat) : Int) - ((p - lo1 : Nat) : Int)) = ((hi1 - 1 - (p - lo1) : Nat) : Int) := by rw [wrap_id (by omega) (by omega)]; omega
      obtain ⟨p2, hp2⟩ : ∃ p2, hi1 - 1 - (p - lo1) = p2 := ⟨_, rfl⟩
      rw [hp2] at hcw
      simp [go_sem, e0, e1, e2, e3, e8, e9, e10, e11, e12, ha, hbw, hcw]
      exact ⟨_, p2, by omega, by omega, rfl, hb3.put, rfl, Go.Sort.permIn_trans _ _ _ _ _ hp1 (Go.Sort.reverseRange_holds m1 lo1 hi1 (by omega) (by omega))⟩
    · simp [go_sem, e0, e1, e2, e3, e8, e9, e10, e11, e12, c2]
      exact ⟨m1, p, hq1, hq2, rfl, hb3, hr3, hp1⟩
  clear hr3 hr2 hp1 hq1 hq2 e11 e12 hm1
  clear hb3 hb2 p q
  rintro E s4 ⟨m2, p, q, hq1, hq2, e11, e12, hb4, hr4, hp2, e0, e1, e2, e3, e8, e9, e10⟩
  have hm2 : m2.size = d.size := hp2.1.trans hm
  have hB2 : Go.Sort.Below ltT lo1 hi1 m2 := hB0.perm (by omega) hp2
  refine IW_cut' (fun E' st' => ∃ (m1 : Array ByteArray), E' 11 = Val.i p ∧ But1 b st st' ∧ st' b = some (.cells true (cellsAS m1) N g) ∧ Go.Sort.PermIn lo1 hi1 m m1 ∧ E' 0 = .slice (some ⟨b, 0, none⟩) d.size cap ∧ E' 1 = Val.i lo1 ∧ E' 2 = Val.i hi1 ∧ E' 3 = Val.i l1 ∧ E' 8 = .bool wb ∧ E' 9 = .bool wp ∧ E' 10 = Val.i n) ?_ ?_
  · have hpart : ICalls Tryz.prog W0 200 #[.slice (some ⟨b, 0, none⟩) d.size cap, Val.i lo1, Val.i hi1] s4 fun e s5 => ∃ v, e = .returned (.bool v) ∧ But1 b s4 s5 ∧ ∃ m3, s5 b = some (.cells true (cellsAS m3) N g) ∧ Go.Sort.PermIn lo1 hi1 m2 m3 ∧ (v = true → Go.Sort.SortedIn ltT lo1 hi1 m3) := by
      have hc := partInsS_spec (W0 := W0) (cap := cap) (lo := lo1) (hi := hi1) (d := m2) hr4 (by omega) (by omega) (by omega) (by omega)
      rw [hm2] at hc
      refine hc.mono ?_
      rintro e s5 ⟨rfl, rfl⟩
      obtain ⟨h1, h2⟩ := Go.Sort.partialInsertionSort_holds ltT_swo m2 lo1 hi1 (by omega) (by omega) hB2
      exact ⟨_, rfl, (But1.refl b s4).put, _, upd_same _ _ _, h1, h2⟩
    have call : ∀ (v : Bool) (m3 : Array ByteArray) (s5 : Heap), True := fun _ _ _ => trivial
    cases wb with
    | false =>
      simp [go_sem, e0, e1, e2, e3, e8, e9, e10, e11, e12]
      exact ⟨hb4, m2, hr4, hp2⟩
    | true =>
    cases wp with
    | false =>
      simp [go_sem, e0, e1, e2, e3, e8, e9, e10, e11, e12]
      exact ⟨hb4, m2, hr4, hp2⟩
    | true =>
    by_cases c1 : q = 1
    rotate_left
    · simp [go_sem, e0, e1, e2, e3, e8, e9, e10, e11, e12, c1]
      exact ⟨hb4, m2, hr4, hp2⟩
    simp [go_sem, e0, e1, e2, e3, e8, e9, e10, e11, e12, c1]
    refine hpart.mono ?_
    rintro e s5 ⟨v, rfl, hb5, m3, hr5, hp3, hs3⟩
    have hp3' := Go.Sort.permIn_trans _ _ _ _ _ hp2 hp3
    cases v with
    | true =>
      obtain ⟨h3, h4⟩ := hend _ hp3' (hs3 rfl)
      simp [go_sem, e0, e1, e2, e3, e8, e9, e10, e11, e12]
      exact ⟨hb4.trans hb5, m3, hr5, h3, h4⟩
    | false =>
      simp [go_sem, e0, e1, e2, e3, e8, e9, e10, e11, e12]
      exact ⟨hb4.trans hb5, m3, hr5, hp3'⟩
  clear e11 e12 hb4 hr4 hp2 hm2 hB2
  rintro E s5 ⟨m3, e11, hb5, hr5, hp3, e0, e1, e2, e3, e8, e9, e10⟩
  have hm3 : m3.size = d.size := hp3.1.trans hm
  have hB3 : Go.Sort.Below ltT lo1 hi1 m3 := hB0.perm (by omega) hp3
  have hml := cellsA_lengthS m3
  refine IW_cut' (fun E' st' => E' 11 = Val.i p ∧ But1 b st st' ∧ st' b = some (.cells true (cellsAS m3) N g) ∧ Go.Sort.PermIn lo1 hi1 m m3 ∧ E' 0 = .slice (some ⟨b, 0, none⟩) d.size cap ∧ E' 1 = Val.i lo1 ∧ E' 2 = Val.i hi1 ∧ E' 3 = Val.i l1 ∧ E' 8 = .bool wb ∧ E' 9 = .bool wp ∧ E' 10 = Val.i n) ?_ ?_
  · have p1 : p < d.size := by omega
    have p2 : p ≤ d.size := by omega
    have p3 : p < N := by omega
    obtain ⟨y, hy⟩ : ∃ y, m3[p]! = y := ⟨_, rfl⟩
    have gy : ∀ h : p < (cellsAS m3).length, (cellsAS m3)[p] = .string y := fun h => by rw [← hy]; exact cellsA_elemS h
    simp [go_sem]
    refine draw [0, 1, 2, 3, 4, 5, 6, 8, 9, 10, 7, 11, 12, 13, 14] (by kernel_rfl) ?_
    by_cases c0 : 0 < lo1
    rotate_left
    · have q0 : ((0 : Int) < (lo1 : Int)) = False := eq_false (by omega)
      simp [go_sem, e0, e1, e2, e3, e8, e9, e10, e11, q0, c0]
      exact ⟨hb5, hr5, hp3⟩
    have q0 : ((0 : Int) < (lo1 : Int)) = True := eq_true (by omega)
    obtain ⟨a, ha⟩ : ∃ a, lo1 - 1 = a := ⟨_, rfl⟩
    have hwa : IntKind.i64.wrap ((lo1 : Int) - 1) = (a : Int) := by rw [wrap_id (by omega) (by omega)]; omega
    have a1 : a < d.size := by omega
    have a2 : a ≤ d.size := by omega
    obtain ⟨x, hx⟩ : ∃ x, m3[a]! = x := ⟨_, rfl⟩
    have gx : ∀ h : a < (cellsAS m3).length, (cellsAS m3)[a] = .string x := fun h => by rw [← hx]; exact cellsA_elemS h
    simp [go_sem, e0, e1, e2, e3, e8, e9, e10, e11, q0, c0, hwa, a1, a2, p1, p2, gx, gy, hml, hm3, hr5]
    refine cmpLess_spec.mono ?_
    rintro e s6 ⟨rfl, rfl⟩
    cases hl : ltT x y with
    | true =>
      simp [go_sem, e0, e1, e2, e3, e8, e9, e10, e11, hl]
      exact ⟨hb5, hr5, hp3⟩
    | false =>
      simp [go_sem, e0, e1, e2, e3, e8, e9, e10, e11, hl]
      have hc := partEqS_spec (W0 := W0) (cap := cap) (lo := lo1) (hi := hi1) (p := p) (d := m3) hr5 (by omega) (by omega) (by omega) (by omega) (by omega)
      rw [hm3] at hc
      refine hc.mono ?_
      rintro e s7 ⟨rfl, rfl⟩
      obtain ⟨r1, r2, r3, r4, r5⟩ := Go.Sort.round_eq ltT_swo (Go.Sort.partitionEqual_holds ltT) (d3 := m3) (d4 := (Go.Sort.partitionEqual ltT m3 lo1 hi1 p).2) (mid := (Go.Sort.partitionEqual ltT m3 lo1 hi1 p).1) c0 hq1 hq2 (by omega) hB3 (by rw [ha, hx, hy]; exact hl) rfl
      generalize (Go.Sort.partitionEqual ltT m3 lo1 hi1 p).1 = mid at *
      generalize (Go.Sort.partitionEqual ltT m3 lo1 hi1 p).2 = m4 at *
      simp [go_sem, e0, e1, e2, e3, e8, e9, e10, e11, z1, z2]
      exact ⟨_, .rfl' _, ⟨mid, rfl, hi1, rfl, by omega, by omega, by omega, m4, by omega, hb5.put, upd_same _ _ _, r4, fun R h1 h2 => let ⟨h3, h4⟩ := r5 R h1 h2; hend R (Go.Sort.permIn_trans _ _ _ _ _ hp3 h3) h4⟩, by omega⟩
  clear e11
  clear e0 e1 e2 e3 e8 e9 e10
  rintro E s6 ⟨e11, hb6, hr6, -, e0, e1, e2, e3, e8, e9, e10⟩
  have hc := partS_spec (W0 := W0) (cap := cap) (lo := lo1) (hi := hi1) (p := p) (d := m3) (st := s6) hr6 (by omega) (by omega) (by omega) (by omega) (by omega)
  rw [hm3] at hc
  obtain ⟨r1, r2, r3, r4, r5, r6, r7⟩ := Go.Sort.round_part ltT_swo (Go.Sort.partition_holds ltT) (d3 := m3) (d4 := (Go.Sort.partition ltT m3 lo1 hi1 p).2.2) (mid := (Go.Sort.partition ltT m3 lo1 hi1 p).1) (ap := (Go.Sort.partition ltT m3 lo1 hi1 p).2.1) hq1 hq2 (by omega) hB3 rfl
  generalize (Go.Sort.partition ltT m3 lo1 hi1 p).1 = mid at *
  generalize (Go.Sort.partition ltT m3 lo1 hi1 p).2.2 = m4 at *
  generalize (Go.Sort.partition ltT m3 lo1 hi1 p).2.1 = ap at *
  have hm4 : m4.size = d.size := r3.trans hm3
  have hwl : IntKind.i64.wrap ((mid : Int) - (lo1 : Int)) = ((mid - lo1 : Nat) : Int) := by rw [wrap_id (by omega) (by omega)]; omega
  have hwr : IntKind.i64.wrap ((hi1 : Int) - (mid : Int)) = ((hi1 - mid : Nat) : Int) := by rw [wrap_id (by omega) (by omega)]; omega
  have hwd : IntKind.i64.wrap ((n : Int).tdiv 8) = ((n / 8 : Nat) : Int) := by rw [Int.tdiv_eq_ediv_of_nonneg (by omega), wrap_id (by omega) (by omega)]; omega
  have hwd' : IntKind.i64.wrap ((n : Int) / 8) = ((n / 8 : Nat) : Int) := by rw [wrap_id (by omega) (by omega)]; omega
  have hwm : IntKind.i64.wrap ((mid : Int) + 1) = ((mid + 1 : Nat) : Int) := by rw [wrap_id (by omega) (by omega)]; omega
  obtain ⟨x, hx⟩ : ∃ x, mid - lo1 = x := ⟨_, rfl⟩
  obtain ⟨y, hy⟩ : ∃ y, hi1 - mid = y := ⟨_, rfl⟩
  obtain ⟨t, ht⟩ : ∃ t, n / 8 = t := ⟨_, rfl⟩
  obtain ⟨mid1, hmid1⟩ : ∃ t, mid + 1 = t := ⟨_, rfl⟩
  rw [hx] at hwl
  rw [hy] at hwr
  rw [ht] at hwd hwd'
  rw [hmid1] at hwm r5 r6 r7
  simp [go_sem, e0, e1, e2, e3, e8, e9, e10, e11]
  refine hc.mono ?_
  rintro e s7 ⟨rfl, rfl⟩
  have hb7 := hb6.put (o := .cells true (cellsAS m4) N g)
  have hr7 := upd_same s6 b (.cells true (cellsAS m4) N g)
  generalize upd s6 b (.cells true (cellsAS m4) N g) = s7 at *
  by_cases clt : x < y
  · simp [go_sem, e0, e1, e2, e3, e8, e9, e10, e11, hwl, hwr, hwd, hwd', clt]
    have hrec := ih x (by omega) (cap := cap) (lim := l1) hx hr7 (by omega) (by omega) r1 (by omega) r4
    rw [hm4] at hrec
    refine hrec.mono ?_
    rintro e s8 ⟨rfl, hb8, L, hr8, hL1, hL2⟩
    obtain ⟨hBL, hfin⟩ := r6 L hL1 hL2
    have hLs : L.size = d.size := hL1.1.trans hm4
    simp [go_sem, e0, e1, e2, e3, e8, e9, e10, e11, hwm, z1, z2]
    exact ⟨_, .rfl' _, ⟨mid1, rfl, hi1, rfl, by first | rfl | omega, by omega, by omega, by omega, L, hLs, hb7.trans hb8, hr8, hBL, fun R h1 h2 => let ⟨h3, h4⟩ := hfin R h1 h2; hend R (Go.Sort.permIn_trans _ _ _ _ _ hp3 h3) h4⟩, by omega⟩
  · simp [go_sem, e0, e1, e2, e3, e8, e9, e10, e11, hwl, hwr, hwd, hwd', clt, hwm]
    have hrec := ih (hi1 - mid1) (by omega) (cap := cap) (lim := l1) rfl hr7 (by omega) (by omega) (by omega) (by omega) r5
    rw [hm4] at hrec
    refine hrec.mono ?_
    rintro e s8 ⟨rfl, hb8, L, hr8, hL1, hL2⟩
    obtain ⟨hBL, hfin⟩ := r7 L hL1 hL2
    have hLs : L.size = d.size := hL1.1.trans hm4
    simp [go_sem, e0, e1, e2, e3, e8, e9, e10, e11, z1, z2]
    exact ⟨_, .rfl' _, ⟨lo1, rfl, mid, rfl, by first | rfl | omega, by omega, by omega, by omega, L, hLs, hb7.trans hb8, hr8, hBL, fun R h1 h2 => let ⟨h3, h4⟩ := hfin R h1 h2; hend R (Go.Sort.permIn_trans _ _ _ _ _ hp3 h3) h4⟩, by omega⟩
end
/-- slices.Sort on rows of strings, whatever their length. -/
theorem sortS_all {W0 : World} {st : Heap} {g : Tg} {b nn wc : Nat} {xs : List ByteArray} (hs : st b = some (.cells true (xs.map .string) nn g)) (hnn : xs.length ≤ nn) (hn : xs.length < 2 ^ 50) : ICalls Tryz.prog W0 91 #[.slice (some ⟨b, 0, none⟩) xs.length wc] st fun e st' => e = .returned (.tuple #[]) ∧ ∃ ys : List ByteArray, ys.Perm xs ∧ SortedM ltT ys ∧ st' b = some (.cells true (ys.map .string) nn g) ∧ But1 b st st' := by
  obtain ⟨d, hd⟩ : ∃ d : Array ByteArray, d = xs.toArray := ⟨_, rfl⟩
  have hds : d.size = xs.length := by rw [hd]; simp
  have hdc : cellsAS d = xs.map .string := by unfold cellsAS; rw [hd]
  rw [← hdc] at hs
  have hw : IntKind.u64.wrap ((d.size : Nat) : Int) = (d.size : Int) := wraps_u64 _ (by omega) (by omega)
  rw [← hds]
  refine enter (args := [_]) Tryz.func91 rfl ?_
  simp [Tryz.f91, go_sem, hw]
  refine (bitsLenS_spec (by omega)).mono ?_
  rintro e st1 ⟨rfl, rfl⟩
  simp [go_sem]
  have hp := pdqS_spec (W0 := W0) (d.size) (b := b) (N := nn) (cap := wc) (lo := 0) (hi := d.size) (lim := (lenN d.size : Nat)) (d := d) (g := g) (by omega) hs (by omega) (by omega) (by omega) (by omega) (.inl rfl)
  refine ICalls.mono (by simpa using hp) ?_
  rintro e st2 ⟨rfl, hb2, m, hr, hp1, hp2⟩
  have hms : m.size = d.size := hp1.1
  have hperm : m.toList.Perm xs := by
    have := hp1.2.2
    rw [← hms, Array.extract_size, hms, Array.extract_size] at this
    rw [hd] at this
    exact this
  simp [go_sem]
  refine ⟨m.toList, hperm, ?_, hr, hb2⟩
  unfold SortedM
  rw [List.pairwise_iff_getElem]
  intro i j hi hj hij
  have := hp2 i j (Nat.zero_le _) hij (by rw [← hms]; exact hj)
  simp only [Array.length_toList] at hi hj
  rw [getElem!_pos m j hj, getElem!_pos m i hi] at this
  simp only [Array.getElem_toList]
  exact this
end Go.Proofs.YtadgciaclhjjkaaGreat
set_option linter.unusedVariables false
set_option linter.unusedSimpArgs false
set_option maxRecDepth 100000
set_option maxHeartbeats 1000000
namespace Go.Proofs.YtadgciaclhjjkaaGreat
open Go.RowKit (Below)
section
variable {W0 : World} {st : Heap}
theorem ListG_spec {f : Nat} {S : VFS} (h : FSAt st f S) (hl : S.now.length < 2 ^ 39) (hn : Names S.now) :
    ICalls Tryz.prog W0 36 #[ptr f] st fun e st' => ∃ b c ns, e = .returned (.slice b S.now.length c) ∧ ns.Perm (S.now.map (·.1)) ∧ SortedM ltT ns ∧ Vec st' (.ty 0) 1 (.slice b S.now.length c) (ns.map .string) S.now.length ∧ FSAt st' f S ∧ Keep (Out f) st st' := by
  obtain ⟨sm, nm, tv, ad, h1, h2, h3, h4, h5, h6⟩ := h
  refine ICalls.post (enter (args := [_]) Tryz.func36 rfl ?_)
  simp [Tryz.f36, go_sem, h1, fsC]
  refine RangeI_start h3 ?_
  intro b st1 hb hi ho
  simp [go_sem]
  have hnb := ne_of_new h3 hb
  have hbut : But nm (.own f 0 9) st st1 := fun k o hk hn _ => by rw [ho k hn (ne_of_new hk hb)]; exact hk
  refine ⟨fun E st' => E 12 = ptr' b ∧ But nm (.own f 0 9) st st' ∧ ∃ L v, StrKeys L ∧ Iter st' nm b (encM ad S.now) L ∧ E 3 = v ∧ Vec st' (.own f 0 9) 1 v (L.map (·.1)) L.length,
    fun E st' => S.now.length - (match E 3 with | .slice _ n _ => n | _ => 0), ⟨st1, .rfl' _, by simp [go_sem], hbut, [], .slice none 0 0, rfl, hi, by simp [go_sem], Vec.nil⟩, ?_⟩
  rintro E st' ⟨e12, hbut, L, v, hLs, hi, e3, hv⟩
  obtain ⟨vb, vc, rfl⟩ := hv.slice
  simp [go_sem, e12]
  refine NextI_step (.own f 0 6) hnb hi ?_ ?_
  · intro hp
    have hln : L.length = S.now.length := by rw [hp.length_eq]; simp [encM]
    simp [go_sem, e3]
    obtain ⟨ns, hns⟩ : ∃ ns, ns = L.map fun x => unS x.1 := ⟨_, rfl⟩
    unfold StrKeys at hLs
    rw [← hns] at hLs
    have hnsl : ns.length = L.length := by rw [hns]; simp
    have hnp : ns.Perm (S.now.map (·.1)) := by
      refine strings_perm ?_
      rw [← hLs, ← encM_keys ad]
      exact hp.map _
    have hkeep : Keep (fun t => t ≠ .own f 0 9) st (upd st' nm (.map (.own f 0 6) (encM ad S.now))) := by
      intro k o g hk ht hpg
      by_cases hkn : k = nm
      · subst hkn; rw [h3] at hk; injection hk with hk; subst hk; exact upd_same _ _ _
      · rw [upd_ne _ _ hkn]; exact hbut k o hk hkn (by rw [ht]; intro e; injection e with e; exact hpg e)
    have hvA : Vec (upd st' nm (.map (.own f 0 6) (encM ad S.now))) (.own f 0 9) 1 (.slice vb L.length vc) (L.map (·.1)) L.length := by
      obtain ⟨z1, z2, z3, z4, z5, z6⟩ := hv
      refine ⟨z1, z2, z3, z4, z5, z6.imp ?_ id⟩
      rintro ⟨b9, n9, w1, w2, w3⟩
      obtain ⟨ents, clock, seen, Ls, q1, q2, q3, q4⟩ := hi
      exact ⟨b9, n9, w1, by rw [upd_ne _ _ (by rintro rfl; rw [q2] at w2; cases w2)]; exact w2, w3⟩
    generalize upd st' nm _ = stA at *
    have hfs : ∀ {s : Heap}, Keep (fun t => t ≠ .own f 0 9) st s → FSAt s f S := fun hkeep => ⟨sm, nm, tv, ad, hkeep.get h1 (by simp), hkeep.getM h2 (by simp), hkeep.getM h3 (by simp), h4.keep hkeep (by simp), fun i F hF => (h5 i F hF).keep hkeep (by intro r h1 h2; simp; omega), h6⟩
    by_cases hsmall : L.length ≤ 1
    · refine (Sort_small (by omega)).mono ?_
      rintro e st2 ⟨rfl, rfl⟩
      simp [go_sem, e3, hln]
      have hsorted : SortedM ltT ns := by
        match ns, hnsl with
        | [], _ => simp [SortedM]
        | [x], _ => simp [SortedM]
        | x :: y :: l, h => simp at h; omega
      obtain ⟨z1, base, cap, z4, z5, z6⟩ := hvA
      injection z4 with q1 q2 q3; subst q1; subst q3
      rcases z6 with ⟨b9, n9, rfl, w2, w3⟩ | ⟨rfl, hc0⟩
      · refine ⟨upd st2 b9 (.cells true (L.map (·.1)) n9 (.ty 0)), .retag w2, some ⟨b9, 0, none⟩, vc, ⟨rfl, rfl⟩, ns, hnp, hsorted, ?_, ?_⟩
        · rw [← hln, hLs]
          rw [hLs] at z1
          exact Vec.new (by simp; omega) z5 (upd_same _ _ _) w3
        · have kk := hkeep.old (o := .cells true (L.map (·.1)) n9 (.ty 0)) w2 (by simp [HObj.tag])
          exact ⟨hfs kk, kk.imp fun g h => h 0 9⟩
      · refine ⟨st2, .rfl' _, none, vc, ⟨rfl, rfl⟩, ns, hnp, hsorted, ?_, hfs hkeep, hkeep.imp fun g h => h 0 9⟩
        rw [← hln]
        exact ⟨by simp; omega, none, vc, rfl, z5, .inr ⟨rfl, hc0⟩⟩
    · obtain ⟨z1, base, cap, z4, z5, z6⟩ := hvA
      injection z4 with q1 q2 q3; subst q1; subst q3
      rcases z6 with ⟨b9, n9, rfl, w2, w3⟩ | ⟨rfl, hc0⟩
      · rw [hLs] at w2
        rw [← hnsl]
        refine (sortS_all w2 (by omega) (by omega)).mono ?_
        rintro e st2 ⟨rfl, cs', hcp, hcs, hst2, hbb⟩
        simp [go_sem, e3, hln]
        have kk : Keep (fun t => t ≠ .own f 0 9) st st2 := hkeep.trans fun k o g hk ht hp => hbb k o (by rintro rfl; rw [w2] at hk; injection hk with hk; subst hk; simp [HObj.tag] at ht; exact hp ht.symm) hk
        have kk2 := kk.old (o := .cells true (cs'.map .string) n9 (.ty 0)) hst2 (by simp [HObj.tag])
        refine ⟨_, .retag (g' := .ty 0) hst2, some ⟨b9, 0, none⟩, vc, ⟨rfl, rfl⟩, cs', hcp.trans hnp, hcs, ?_, hfs kk2, kk2.imp fun g h => h 0 9⟩
        rw [← hln]
        exact Vec.new (by simp [hcp.length_eq]; omega) z5 (upd_same _ _ _) w3
      · omega
  · intro k v st2 hm hi2 ho2
    obtain ⟨p, hp, hpe⟩ := List.mem_map.1 hm
    injection hpe with hk hv'
    subst hk
    simp [go_sem, e12]
    refine EntryI_last hi2 ?_
    simp [go_sem, e3]
    unfold NewS
    intro b3 hb3
    refine ⟨.ty 0, ?_⟩
    simp [go_sem]
    have hbut2 : But nm (.own f 0 9) st st2 := by
      intro k o hk hn ht
      rw [ho2 k (by rintro rfl; rw [hb] at hk; cases hk)]
      exact hbut k o hk hn ht
    have hv2 : Vec st2 (.own f 0 9) 1 (.slice vb L.length vc) (L.map (·.1)) L.length := by
      obtain ⟨z1, z2, z3, z4, z5, z6⟩ := hv
      refine ⟨z1, z2, z3, z4, z5, z6.imp ?_ id⟩
      rintro ⟨b9, n9, w1, w2, w3⟩
      have hib : ∃ o, st' b = some (.other o) := by
        obtain ⟨ents, clock, seen, Ls, q1, q2, q3, q4⟩ := hi
        exact ⟨_, q3⟩
      obtain ⟨o, hio⟩ := hib
      exact ⟨b9, n9, w1, by rw [ho2 b9 (by rintro rfl; rw [hio] at w2; cases w2)]; exact w2, w3⟩
    have n3 : ∀ k o, st2 k = some o → (upd st2 b3 (.cells true [.string p.1] 1 (.ty 0))) k = some o := fun k o hk => by rw [upd_ne _ _ (ne_of_new hk hb3)]; exact hk
    have n3' : ∀ k o, st2 k = some (.other o) → (upd st2 b3 (.cells true [.string p.1] 1 (.ty 0))) k = some (.other o) := fun k o hk => n3 k _ hk
    have hlen := hi2.len
    have hml : (encM ad S.now).length = S.now.length := by simp [encM]
    rw [hml] at hlen
    simp only [List.length_append, List.length_singleton] at hlen
    refine AppI_vec (g := .own f 0 9) (m := 1) (ys := [.string p.1]) si32 (hv2.keep (Keep.rfl'.new hb3) (p := fun _ => True) trivial) ?_ (by simp [Value.oneCell']) (by omega) ?_
    · simp [srcCells, lkN_mk, upd_same, cellsOf]
    intro s5 c5 st5 hv5 he5
    simp [go_sem, e3, e12]
    refine ⟨st5, .rfl' _, ⟨?_, L ++ [(.string p.1, v)], ?_, ?_, ?_⟩, ?_⟩
    · intro k o hk hn ht
      exact he5.keep k o (n3 k o (hbut2 k o hk hn ht)) ht
    · exact hLs.push _ _
    · exact (hi2.of n3').of he5.other
    · simpa using hv5
    · have h7 : L.length + 1 ≤ S.now.length := hlen
      have h8 : S.now.length - (L.length + 1) < S.now.length - L.length := by omega
      exact h8
end
end Go.Proofs.YtadgciaclhjjkaaGreat
