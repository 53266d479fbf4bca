/- Manifests read: numbers, tombs, blocks; the walks. -/
import Derived.Test.YtahgfnbkkfpcnaaGreatC32
import Derived.Test.YtahgfnbkkfpcnaaGreatC36
set_option linter.unusedVariables false
set_option linter.unusedSimpArgs false
set_option maxRecDepth 100000
set_option maxHeartbeats 8000000
namespace Go.Proofs.YtahgfnbkkfpcnaaGreat
open Go.RowKit (Below)
def intsM (b : Bs) : Nat → Int → Option (List Int × Int)
 | 0, a => some ([], a)
 | k + 1, a => (z2a b a).bind fun p => (intsM b k p.2).map fun q => (p.1 :: q.1, q.2)
theorem z48 {b : Bs} : ∀ {k : Nat} {a : Int} {l : List Int} {a' : Int}, intsM b k a = some (l, a') → l.length = k
 | 0, a, l, a', h => by unfold intsM at h; injection h with h; injection h with h1 h2; subst h1; rfl
 | k + 1, a, l, a', h => by
  unfold intsM at h
  obtain ⟨p, hp, h⟩ := Option.bind_eq_some_iff.1 h
  obtain ⟨q, hq, h⟩ := Option.map_eq_some_iff.1 h
  injection h with h1 h2
  subst h1
  have := z48 (l := q.1) (a' := q.2) hq
  simp [this]
def z3p (b : Bs) (a : Int) : Option (TombD × Int) := (intsM b 3 a).bind fun p => (getMatM b p.2).map fun q => (⟨p.1.getD 0 0, q.1, p.1.getD 1 0, p.1.getD 2 0⟩, q.2)
def z0y (b : Bs) : Option Int → Nat → Int → Option (List TombD × Int)
 | _, 0, a => some ([], a)
 | prev, k + 1, a => (z3p b a).bind fun p => if z1g p.1 ∧ (∀ q ∈ prev, q < p.1.seq) then (z0y b (some p.1.seq) k p.2).map fun r => (p.1 :: r.1, r.2) else none
def z1k (b : Bs) (a : Int) : Option (List TombD × Int) := (vgetM b a).bind fun p => if 64 < p.1 then none else z0y b none p.1 p.2
def z1m (l : List TombD) : Option Int := (l.getLast?).map (·.seq)
section
variable {W0 : World} {st : Heap}
theorem zb0 {bv lv : Value} {b : Bs} {g0 gl : Tg} {k tm n : Nat} {at_ : Int} {xs : List Value} {tg : Tg} (hb : Reg st g0 1 bv (bytesV b) b.length) (hl : b.length < 2 ^ 60) (hL : Reg st gl 1 lv ((List.range k).map fun j => .pointer (some ⟨tm, j, none⟩)) k) (hk : k < 100) (ht : st tm = some (.cells true xs n tg)) (hx : k ≤ xs.length) (hn : k ≤ n) (hg0 : g0 ≠ tg) (hgl : gl ≠ tg) :
  z00 Tryz.prog W0 244 #[bv, Val.i at_, lv] st fun e st' => But1 tm st st' ∧ match intsM b k at_ with
   | some (vs, a) => e = .returned (.tuple #[Val.i a, .bool true]) ∧ st' tm = some (.cells true (vs.map Val.i ++ xs.drop k) n tg)
   | none => e = .returned (.tuple #[Val.i 0, .bool false]) ∧ ∃ xs', xs'.length = xs.length ∧ (∀ y ∈ xs', y ∈ xs ∨ y.oneCell' = true) ∧ st' tm = some (.cells true xs' n tg) := by
 obtain ⟨bb, bc, rfl⟩ := hb.slice
 obtain ⟨lb, lc, rfl⟩ := hL.slice
 generalize hRES : intsM b k at_ = RES
 refine enter (args := [_, _, _]) Tryz.func244 rfl ?_
 simp [Tryz.f244, go_sem]
 refine ⟨fun E st' => But1 tm st st' ∧ E 0 = .slice bb b.length bc ∧ E 11 = .slice lb k lc ∧ E 12 = Val.i k ∧ ∃ (i : Nat) (vs : List Int) (a : Int), E 13 = Val.i i ∧ i ≤ k ∧ vs.length = i ∧ E 1 = Val.i a ∧ st' tm = some (.cells true (vs.map Val.i ++ xs.drop i) n tg) ∧ (intsM b (k - i) a).map (fun q => (vs ++ q.1, q.2)) = RES,
  fun E _ => match E 13 with | .int _ i => k - i.toNat | _ => 0, ⟨st, .rfl' _, But1.refl _ _, by simp [go_sem], by simp [go_sem], by simp [go_sem], 0, [], at_, by simp [go_sem], by omega, rfl, by simp [go_sem], by simpa using ht, by rw [← hRES]; cases h : intsM b (k - 0) at_ <;> simp_all⟩, ?_⟩
 rintro E st2 ⟨hk2, e0, e11, e12, i, vs, a, e13, hi, hvl, e1, ht2, hrec⟩
 have hb2 : Reg st2 g0 1 (.slice bb b.length bc) (bytesV b) b.length := by
  obtain ⟨q1, base, cap, q2, q3, q4⟩ := hb
  refine ⟨q1, base, cap, q2, q3, q4.imp id ?_⟩
  rintro ⟨blk, off, rw_, ys, m, r1, r2, r3⟩
  refine ⟨blk, off, rw_, ys, m, r1, hk2 _ _ ?_ r2, r3⟩
  rintro rfl
  rw [ht] at r2
  injection r2 with r2
  injection r2 with _ _ _ r2
  exact hg0 r2.symm
 have hL2 : Reg st2 gl 1 (.slice lb k lc) ((List.range k).map fun j => .pointer (some ⟨tm, j, none⟩)) k := by
  obtain ⟨q1, base, cap, q2, q3, q4⟩ := hL
  refine ⟨q1, base, cap, q2, q3, q4.imp id ?_⟩
  rintro ⟨blk, off, rw_, ys, m, r1, r2, r3⟩
  refine ⟨blk, off, rw_, ys, m, r1, hk2 _ _ ?_ r2, r3⟩
  rintro rfl
  rw [ht] at r2
  injection r2 with r2
  injection r2 with _ _ _ r2
  exact hgl r2.symm
 by_cases hlt : i < k
 ·have hlt' : ((i : Int) < k) = True := eq_true (by omega)
  have hwi := wrS i (by omega)
  obtain ⟨blk, off, rfl, hget⟩ := z0h hL2.src (by omega)
  have hgi := hget i (by omega)
  have hpi : ((List.range k).map fun j => Value.pointer (some ⟨tm, j, none⟩))[i]? = some (.pointer (some ⟨tm, i, none⟩)) := by simp [hlt]
  rw [hpi] at hgi
  obtain ⟨q, hq⟩ : ∃ q, k - i = q + 1 := ⟨k - i - 1, by omega⟩
  rw [hq] at hrec
  unfold intsM at hrec
  simp [go_sem, e11, e12, e13, hlt, hlt', hgi]
  rw [e0, e1]
  refine (z79 hb2 hl).mono ?_
  rintro e st3 ⟨rfl, rfl⟩
  have hLl : i < (vs.map Val.i ++ xs.drop i).length := by simp [hvl]; omega
  have hn' : i < n := by omega
  have hlen0 : (vs.map Val.i ++ xs.drop i).length = xs.length := by simp [hvl]; omega
  have hset : ∀ v, (vs.map Val.i ++ xs.drop i).set i (Val.i v) = (vs ++ [v]).map Val.i ++ xs.drop (i + 1) := by
   intro v
   have h1 : xs.drop i = xs[i] :: xs.drop (i + 1) := List.drop_eq_getElem_cons (by omega)
   rw [List.set_append_right _ _ (by simp [hvl]), show i - (vs.map Val.i).length = 0 by simp [hvl], h1, List.set_cons_zero]
   simp
  obtain ⟨L, hL0⟩ : ∃ L, vs.map Val.i ++ xs.drop i = L := ⟨_, rfl⟩
  rw [hL0] at ht2 hLl hlen0 hset
  have hLe : i ≤ L.length := by omega
  cases hv : z2a b a with
  | none =>
   rw [hv] at hrec
   simp at hrec
   subst hrec
   simp [go_sem, z2s, ht2, hLl, hn', hLe]
   refine ⟨hk2.put, hlen0, fun y hy => ?_⟩
   rcases List.mem_or_eq_of_mem_set hy with h | h
   ·rw [← hL0] at h
    rcases List.mem_append.1 h with h | h
    ·obtain ⟨z, _, rfl⟩ := List.mem_map.1 h
     exact .inr rfl
    ·exact .inl (List.mem_of_mem_drop h)
   ·exact .inr (by subst h; rfl)
  | some p =>
   obtain ⟨v, a'⟩ := p
   rw [hv] at hrec
   simp only [Option.bind_some] at hrec
   simp [go_sem, z2s, ht2, hLl, hn', hLe, e0, e11, e12, e13, hwi]
   refine ⟨_, .rfl' _, ⟨hk2.put, i + 1, by omega, by omega, vs ++ [v], by simp [hvl], ?_, ?_⟩, by omega⟩
   ·rw [upd_same, hset]
   ·rw [← hrec, show k - (i + 1) = q by omega]
    cases intsM b q a' <;> simp
 ·have hlt' : ((i : Int) < k) = False := eq_false (by omega)
  have : i = k := by omega
  subst this
  simp [intsM] at hrec
  subst hrec
  simp [go_sem, e1, e11, e12, e13, hlt']
  exact ⟨hk2, ht2⟩
def tombZ (vs : List Int) : List Value := [Val.i (vs.getD 0 0), Val.i 0, .string ⟨#[]⟩, .string ⟨#[]⟩, .slice none 0 0, .slice none 0 0, Val.i (vs.getD 1 0), Val.i (vs.getD 2 0)]
theorem zfu {bv : Value} {b : Bs} {g0 : Tg} {at_ : Int} (hb : Reg st g0 1 bv (bytesV b) b.length) (hl : b.length < 2 ^ 60) (hg : Free g0) :
  z00 Tryz.prog W0 245 #[bv, Val.i at_] st fun e st' => New st st' ∧ match z1k b at_ with
   | some (l, a) => ∃ v ts, e = .returned (.tuple #[v, Val.i a, .bool true]) ∧ RegF st' 8 v ts l.length ∧ z13 st' ts l
   | none => e = .returned (.tuple #[.slice none 0 0, Val.i 0, .bool false]) := by
 obtain ⟨bb, bc, rfl⟩ := hb.slice
 generalize hRES : z1k b at_ = RES
 unfold z1k at hRES
 have w0 : IntKind.i64.wrap 0 = 0 := z03 (by omega) (by omega)
 have w1 : IntKind.i64.wrap 1 = 1 := z03 (by omega) (by omega)
 have w2 : IntKind.i64.wrap 2 = 2 := z03 (by omega) (by omega)
 have w3 : IntKind.i64.wrap 3 = 3 := z03 (by omega) (by omega)
 refine enter (args := [_, _]) Tryz.func245 rfl ?_
 simp [Tryz.f245, go_sem]
 refine (z4z hb hl).mono ?_
 rintro e st1 ⟨rfl, rfl⟩
 cases hv : vgetM b at_ with
 | none =>
  rw [hv] at hRES
  simp at hRES
  subst hRES
  simp [go_sem, vgetV]
  exact New.refl _
 | some p =>
 obtain ⟨n, a0⟩ := p
 rw [hv] at hRES
 simp only [Option.bind_some] at hRES
 by_cases hn : 64 < n
 ·have hn' : ((64 : Int) < n) = True := eq_true (by omega)
  rw [if_pos hn] at hRES
  subst hRES
  simp [go_sem, vgetV, hn']
  exact New.refl _
 have hn' : ((64 : Int) < n) = False := eq_false (by omega)
 rw [if_neg hn] at hRES
 have hwn : IntKind.i64.wrap (n : Int) = (n : Int) := z03 (by omega) (by omega)
 simp [go_sem, vgetV, hn', hwn]
 refine ⟨fun E st' => New st1 st' ∧ E 0 = .slice bb b.length bc ∧ E 28 = Val.i n ∧ ∃ (i : Nat) (l : List TombD) (ts : List Value) (a : Int), E 29 = Val.i i ∧ i ≤ n ∧ l.length = i ∧ E 1 = Val.i a ∧ Vec st' (.ty 1) 8 (E 9) ts i ∧ Fresh st1 (E 9) ∧ z13 st' ts l ∧ (z0y b (z1m l) (n - i) a).map (fun q => (l ++ q.1, q.2)) = RES,
  fun E _ => match E 29 with | .int _ i => n - i.toNat | _ => 0, ⟨st1, .rfl' _, New.refl _, by simp [go_sem], by simp [go_sem], 0, [], [], a0, by simp [go_sem], by omega, rfl, by simp [go_sem], by simpa [go_sem] using Vec.nil, by simpa [go_sem] using Fresh.none, by intro i x hi; simp at hi, by rw [← hRES]; simp [z1m]⟩, ?_⟩
 rintro E st2 ⟨hk2, e0, e28, i, l, ts, a, e29, hi, hll, e1, hV, hF, hT, hrec⟩
 by_cases hlt : i < n
 rotate_left
 ·have hlt' : ((i : Int) < n) = False := eq_false (by omega)
  have : i = n := by omega
  subst this
  simp [z0y] at hrec
  subst hrec
  simp [go_sem, e1, e28, e29, hlt']
  rw [hll]
  exact ⟨hk2, ts, hV.reg.toF Free.ty, hT⟩
 have hlt' : ((i : Int) < n) = True := eq_true (by omega)
 have hwi := wrS i (by omega)
 obtain ⟨q, hq⟩ : ∃ q, n - i = q + 1 := ⟨n - i - 1, by omega⟩
 rw [hq] at hrec
 unfold z0y z3p at hrec
 simp [go_sem, e28, e29, hlt, hlt']
 unfold NewP
 intro tm htm
 refine ⟨.own tm 0 86, ?_⟩
 simp [go_sem, e0, e1, e28, e29]
 obtain ⟨lv, hlv⟩ : ∃ v, E 9 = v := ⟨_, rfl⟩
 rw [hlv] at hV hF
 have htm0 := upd_same st2 tm (.cells true [Val.i 0, Val.i 0, .string ⟨#[]⟩, .string ⟨#[]⟩, .slice none 0 0, .slice none 0 0, Val.i 0, Val.i 0] 8 (.own tm 0 86))
 have hN3 := (New.refl st2).add (b := tm) (o := .cells true [Val.i 0, Val.i 0, .string ⟨#[]⟩, .string ⟨#[]⟩, .slice none 0 0, .slice none 0 0, Val.i 0, Val.i 0] 8 (.own tm 0 86)) htm
 obtain ⟨R3, hR3⟩ : ∃ R, intsM b 3 a = R := ⟨_, rfl⟩
 rw [hR3] at hrec
 refine ⟨fun E' st' => New st2 st' ∧ E' 0 = .slice bb b.length bc ∧ E' 9 = lv ∧ E' 10 = Val.i i ∧ E' 11 = ptr tm ∧ E' 28 = Val.i n ∧ E' 29 = Val.i i ∧ E' 36 = .agg #[.pointer (some ⟨tm, 0, none⟩), .pointer (some ⟨tm, 6, none⟩), .pointer (some ⟨tm, 7, none⟩)] ∧ ∃ (j : Nat) (vs : List Int) (a' : Int), E' 37 = Val.i j ∧ j ≤ 3 ∧ vs.length = j ∧ E' 1 = Val.i a' ∧ st' tm = some (.cells true (tombZ vs) 8 (.own tm 0 86)) ∧ (intsM b (3 - j) a').map (fun p => (vs ++ p.1, p.2)) = R3,
  fun E' _ => match E' 37 with | .int _ j => 3 - j.toNat | _ => 0, ⟨_, .rfl' _, hN3, by simp [go_sem, e0], by simp [go_sem, hlv], by simp [go_sem], by simp [go_sem], by simp [go_sem, e28], by simp [go_sem, e29], by simp [go_sem], 0, [], a, by simp [go_sem], by omega, rfl, by simp [go_sem, e1], htm0, by rw [← hR3]; cases intsM b 3 a <;> simp⟩, ?_⟩
 clear htm0 hN3 e0 e1 e28 e29 hlv
 rintro E' st4 ⟨hk4, e0, e9, e10, e11, e28, e29, e36, j, vs, a', e37, hj, hvl, e1, htm4, hrec4⟩
 have hbb : Reg st4 g0 1 (.slice bb b.length bc) (bytesV b) b.length := (hb.new hk2).new hk4
 have hN4 := hk2.trans hk4
 by_cases hj3 : j < 3
 ·obtain ⟨q4, hq4⟩ : ∃ q, 3 - j = q + 1 := ⟨3 - j - 1, by omega⟩
  rw [hq4] at hrec4
  unfold intsM at hrec4
  have hjc : j = 0 ∨ j = 1 ∨ j = 2 := by omega
  rcases hjc with rfl | rfl | rfl
  ·have hvs : vs = [] := List.eq_nil_of_length_eq_zero hvl
   subst hvs
   simp [go_sem, e0, e1, e36, e37]
   refine (z79 hbb hl).mono ?_
   rintro e st5 ⟨rfl, rfl⟩
   cases hv2 : z2a b a' with
   | none =>
    rw [hv2] at hrec4
    simp at hrec4
    subst hrec4
    simp at hrec
    subst hrec
    simp [go_sem, z2s, tombZ, htm4]
    exact hN4.put (hk2.none htm)
   | some p =>
    obtain ⟨v, a2⟩ := p
    rw [hv2] at hrec4
    simp only [Option.bind_some] at hrec4
    have hq4' : q4 = 2 := by omega
    subst hq4'
    simp [go_sem, z2s, tombZ, htm4, e0, e9, e10, e11, e28, e29, e36, e37, w0, w1, w2, w3]
    refine ⟨_, .rfl' _, hk4.put htm, 1, rfl, by omega, [v], rfl, by rw [upd_same]; simp, ?_⟩
    rw [← hrec4]
    show Option.map _ (intsM b 2 a2) = _
    cases intsM b 2 a2 <;> simp
  ·obtain ⟨s0, rfl⟩ : ∃ s0, vs = [s0] := by
    match vs, hvl with
    | [x], _ => exact ⟨x, rfl⟩
   simp [go_sem, e0, e1, e36, e37]
   refine (z79 hbb hl).mono ?_
   rintro e st5 ⟨rfl, rfl⟩
   cases hv2 : z2a b a' with
   | none =>
    rw [hv2] at hrec4
    simp at hrec4
    subst hrec4
    simp at hrec
    subst hrec
    simp [go_sem, z2s, tombZ, htm4]
    exact hN4.put (hk2.none htm)
   | some p =>
    obtain ⟨v, a2⟩ := p
    rw [hv2] at hrec4
    simp only [Option.bind_some] at hrec4
    have hq4' : q4 = 1 := by omega
    subst hq4'
    simp [go_sem, z2s, tombZ, htm4, e0, e9, e10, e11, e28, e29, e36, e37, w0, w1, w2, w3]
    refine ⟨_, .rfl' _, hk4.put htm, 2, rfl, by omega, [s0, v], rfl, by rw [upd_same]; simp, ?_⟩
    rw [← hrec4]
    show Option.map _ (intsM b 1 a2) = _
    cases intsM b 1 a2 <;> simp
  ·obtain ⟨s0, s1, rfl⟩ : ∃ s0 s1, vs = [s0, s1] := by
    match vs, hvl with
    | [x, y], _ => exact ⟨x, y, rfl⟩
   simp [go_sem, e0, e1, e36, e37]
   refine (z79 hbb hl).mono ?_
   rintro e st5 ⟨rfl, rfl⟩
   cases hv2 : z2a b a' with
   | none =>
    rw [hv2] at hrec4
    simp at hrec4
    subst hrec4
    simp at hrec
    subst hrec
    simp [go_sem, z2s, tombZ, htm4]
    exact hN4.put (hk2.none htm)
   | some p =>
    obtain ⟨v, a2⟩ := p
    rw [hv2] at hrec4
    simp only [Option.bind_some] at hrec4
    have hq4' : q4 = 0 := by omega
    subst hq4'
    simp [go_sem, z2s, tombZ, htm4, e0, e9, e10, e11, e28, e29, e36, e37, w0, w1, w2, w3]
    refine ⟨_, .rfl' _, hk4.put htm, 3, rfl, by omega, [s0, s1, v], rfl, by rw [upd_same]; simp, ?_⟩
    rw [← hrec4]
    show Option.map _ (intsM b 0 a2) = _
    cases intsM b 0 a2 <;> simp
 ·have : j = 3 := by omega
  subst this
  obtain ⟨s0, s1, s2, rfl⟩ : ∃ s0 s1 s2, vs = [s0, s1, s2] := by
   match vs, hvl with
   | [x, y, z], _ => exact ⟨x, y, z, rfl⟩
  simp [intsM] at hrec4
  subst hrec4
  simp only [Option.bind_some] at hrec
  simp [go_sem, e0, e1, e36, e37]
  refine (ze6 hl hbb hg).mono ?_
  rintro e st5 ⟨hk5, hR⟩
  have htm5 := hk5 _ _ htm4
  cases hmg : getMatM b a' with
  | none =>
   rw [hmg] at hR hrec
   simp at hrec
   subst hrec
   simp only at hR
   subst hR
   unfold z0v
   simp [go_sem, tombZ, e11, htm5]
   refine draw [0, 1, 2, 3, 4, 5, 6, 7, 8, 9, 10, 11, 13, 14, 15, 16, 17, 12, 18, 19, 20, 21] (by kernel_rfl) ?_
   simp [go_sem]
   exact (hN4.trans hk5).put (hk2.none htm)
  | some p =>
   obtain ⟨m, a6⟩ := p
   rw [hmg] at hR hrec
   simp only [Option.map_some, Option.bind_some] at hrec
   obtain ⟨cs, rfl, hm⟩ := hR
   obtain ⟨op, name, value, vb, vl, vc, kb, kl, kc, rfl⟩ := mat_cells' hm
   simp [go_sem, tombZ, e11, htm5]
   refine draw [0, 1, 2, 3, 4, 5, 6, 7, 8, 9, 10, 11, 13, 14, 15, 16, 17, 12, 18, 19, 20, 21] (by kernel_rfl) ?_
   generalize hst6 : upd st5 tm _ = st6
   have hB6 : But1 tm st5 st6 := by rw [← hst6]; exact (But1.refl _ _).put
   have htm6 : st6 tm = some (.cells true [Val.i s0, Val.i op, .string name, .string value, .slice vb vl vc, .slice kb kl kc, Val.i s1, Val.i s2] 8 (.own tm 0 86)) := by rw [← hst6, upd_same]
   have hN6 : New st1 st6 := by rw [← hst6]; exact (hN4.trans hk5).put (hk2.none htm)
   have hV6 : Vec st6 (.ty 1) 8 lv ts i := ((hV.new' hk4).new' hk5).but hB6 htm5
   have hm6 := MatAt.mono (fun _ _ _ _ hx => hx.but hB6 htm5) _ _ hm
   have hT6 : z13 st6 ts l := fun j y hj => (hT j y hj).mono fun _ _ _ _ hx => ((hx.new hk4).new hk5).but hB6 htm5
   have htA : z2i st6 [Val.i s0, Val.i op, .string name, .string value, .slice vb vl vc, .slice kb kl kc, Val.i s1, Val.i s2] ⟨s0, m, s1, s2⟩ := ⟨_, hm6, rfl⟩
   simp [go_sem, e11, htm6]
   refine (zd8 htA).mono ?_
   rintro e st7 ⟨rfl, hk7⟩
   have htm7 := hk7 _ _ htm6
   have hV7 := hV6.new' hk7
   have hN7 := hN6.trans hk7
   by_cases hok : z1g ⟨s0, m, s1, s2⟩
   rotate_left
   ·have hok' := eq_false hok
    rw [if_neg (by intro h; exact hok h.1)] at hrec
    simp at hrec
    subst hrec
    simp [go_sem, hok']
    exact hN7
   have hok' := eq_true hok
   have hprev : (i = 0 ∧ l = []) ∨ (0 < i ∧ ∃ x, l[i - 1]? = some x ∧ z1m l = some x.seq) := by
    rcases Nat.eq_zero_or_pos i with h0 | h0
    ·exact .inl ⟨h0, List.eq_nil_of_length_eq_zero (by omega)⟩
    ·refine .inr ⟨h0, l[i - 1], List.getElem?_eq_getElem (by omega), ?_⟩
     unfold z1m
     rw [List.getLast?_eq_getElem?, show l.length - 1 = i - 1 by omega, List.getElem?_eq_getElem (by omega)]
     rfl
   rcases hprev with ⟨h0, hl0⟩ | ⟨h0, x, hx, hls⟩
   ·have hi0 : (0 < i) = False := eq_false (by omega)
    rw [if_pos ⟨hok, by rw [hl0]; simp [z1m]⟩] at hrec
    simp [go_sem, hok', e9, e10, e11, hi0, htm7]
    unfold NewS
    intro nb hnb
    refine ⟨.own nb 0 87, ?_⟩
    simp [go_sem, e9]
    have hN8 := (New.refl st7).add (b := nb) (o := .cells true [Val.i s0, Val.i op, .string name, .string value, .slice vb vl vc, .slice kb kl kc, Val.i s1, Val.i s2] 8 (.own nb 0 87)) hnb
    refine AppI_new (st0 := st1) (g := .ty 1) (m := 1) (ys := [Val.i s0, Val.i op, .string name, .string value, .slice vb vl vc, .slice kb kl kc, Val.i s1, Val.i s2]) si75 (hV7.new' hN8) hF (hN7.trans hN8) ?_ ?_ (by omega) ?_
    ·simp [z06, z0i, upd_same, cellsOf]
    ·intro y hy
     simp at hy
     rcases hy with rfl | rfl | rfl | rfl | rfl | rfl | rfl | rfl <;> rfl
    intro base cap9 st9 hV9 hF9 hN9 hE9
    simp [go_sem, e0, e1, e28, e29, hwi]
    have hmono : ∀ size v xs len, RegF st7 size v xs len → RegF st9 size v xs len := fun _ _ _ _ hx => (hx.new hN8).ext hE9
    refine ⟨_, .rfl' _, ⟨hN9, i + 1, by omega, by omega, l ++ [⟨s0, m, s1, s2⟩], by simp [hll], _, hV9, hF9, ?_, ?_⟩, by omega⟩
    ·exact z13.append (by rw [hV.1]; omega) (fun j y hj => (hT6 j y hj).mono fun _ _ _ _ hx => hmono _ _ _ _ (hx.new hk7)) (htA.mono fun _ _ _ _ hx => hmono _ _ _ _ (hx.new hk7)) rfl
    ·rw [← hrec, show n - (i + 1) = q by omega]
     have : z1m (l ++ [⟨s0, m, s1, s2⟩]) = some s0 := by simp [z1m]
     rw [this]
     cases hh : z0y b (some s0) q a6 <;> simp [hh]
   ·have hi0 : (0 < i) = True := eq_true h0
    have hwm : IntKind.i64.wrap ((i : Int) - 1) = ((i - 1 : Nat) : Int) := by rw [z03 (by omega) (by omega)]; omega
    obtain ⟨mb, off, cap, rw_, zs, mm, g', hv7, hs7, hget⟩ := z1d (hV7.reg.toF Free.ty) (by omega)
    subst hv7
    obtain ⟨hlen, hcell, hc⟩ := hget (i - 1) (by omega)
    obtain ⟨ms, hms, hcs⟩ := hT (i - 1) x hx
    have hc0 := hc 0 (by omega)
    rw [hcs] at hc0
    simp at hc0
    have hlt1 : i - 1 < i := by omega
    have hlt1' : (((i - 1 : Nat) : Int) < i) = True := eq_true (by omega)
    by_cases hseq : x.seq < s0
    rotate_left
    ·have hseq' : (s0 ≤ x.seq) = True := eq_true (by omega)
     rw [if_neg (by rw [hls]; simp; omega)] at hrec
     simp at hrec
     subst hrec
     simp [go_sem, hok', e9, e10, e11, hi0, htm7, hwm, hs7, hlen, hc0, hlt1, hlt1', hseq']
     exact hN7
    have hseq' : (s0 ≤ x.seq) = False := eq_false (by omega)
    rw [if_pos ⟨hok, by rw [hls]; simpa using hseq⟩] at hrec
    simp [go_sem, hok', e9, e10, e11, hi0, htm7, hwm, hs7, hlen, hc0, hlt1, hlt1', hseq']
    unfold NewS
    intro nb hnb
    refine ⟨.own nb 0 87, ?_⟩
    simp [go_sem, e9]
    have hN8 := (New.refl st7).add (b := nb) (o := .cells true [Val.i s0, Val.i op, .string name, .string value, .slice vb vl vc, .slice kb kl kc, Val.i s1, Val.i s2] 8 (.own nb 0 87)) hnb
    refine AppI_new (st0 := st1) (g := .ty 1) (m := 1) (ys := [Val.i s0, Val.i op, .string name, .string value, .slice vb vl vc, .slice kb kl kc, Val.i s1, Val.i s2]) si75 (hV7.new' hN8) hF (hN7.trans hN8) ?_ ?_ (by omega) ?_
    ·simp [z06, z0i, upd_same, cellsOf]
    ·intro y hy
     simp at hy
     rcases hy with rfl | rfl | rfl | rfl | rfl | rfl | rfl | rfl <;> rfl
    intro base cap9 st9 hV9 hF9 hN9 hE9
    simp [go_sem, e0, e1, e28, e29, hwi]
    have hmono : ∀ size v xs len, RegF st7 size v xs len → RegF st9 size v xs len := fun _ _ _ _ hx => (hx.new hN8).ext hE9
    refine ⟨_, .rfl' _, ⟨hN9, i + 1, by omega, by omega, l ++ [⟨s0, m, s1, s2⟩], by simp [hll], _, hV9, hF9, ?_, ?_⟩, by omega⟩
    ·exact z13.append (by rw [hV.1]; omega) (fun j y hj => (hT6 j y hj).mono fun _ _ _ _ hx => hmono _ _ _ _ (hx.new hk7)) (htA.mono fun _ _ _ _ hx => hmono _ _ _ _ (hx.new hk7)) rfl
    ·rw [← hrec, show n - (i + 1) = q by omega]
     have : z1m (l ++ [⟨s0, m, s1, s2⟩]) = some s0 := by simp [z1m]
     rw [this]
     cases hh : z0y b (some s0) q a6 <;> simp [hh]
end
def metaL (l : List Int) : MetaD := ⟨l.getD 0 0, l.getD 1 0, l.getD 2 0, l.getD 3 0, l.getD 4 0, l.getD 5 0, l.getD 6 0⟩
def z0u (b : Bs) : Nat → Int → Option (List MetaD × Int)
 | 0, a => some ([], a)
 | k + 1, a => (intsM b 7 a).bind fun p => (z0u b k p.2).map fun r => (metaL p.1 :: r.1, r.2)
def z1p (b : Bs) : Option ManD := (intsM b 4 0).bind fun p => (vgetM b p.2).bind fun c => if 900 < c.1 then none else (z0u b c.1 c.2).bind fun bl => (z1k b bl.2).bind fun t =>
 if t.2 = b.length then some ⟨p.1.getD 0 0, p.1.getD 1 0, p.1.getD 2 0, p.1.getD 3 0, bl.1, t.1⟩ else none
theorem Reg.row {st : Heap} {b n : Nat} {rw_ : Bool} {xs : List Value} {g : Tg} (h : st b = some (.cells rw_ xs n g)) (hl : xs.length ≤ n) : Reg st g 1 (.slice (some ⟨b, 0, none⟩) xs.length xs.length) xs xs.length :=
 ⟨by simp, _, _, rfl, Nat.le_refl _, .inr ⟨b, 0, rw_, xs, n, rfl, h, by simp, by simp⟩⟩
theorem z2n.append {ys cs : List Value} {l : List MetaD} {x : MetaD} (hl : ys.length = l.length * 7) (h : z2n ys l) (hc : cs = x.cells) : z2n (ys ++ cs) (l ++ [x]) := by
 intro i y hi
 by_cases hlt : i < l.length
 ·rw [List.getElem?_append_left hlt] at hi
  have := h i y hi
  rwa [List.drop_append_of_le_length (by omega), List.take_append_of_le_length (by rw [List.length_drop]; omega)]
 ·rw [List.getElem?_append_right (by omega)] at hi
  have h0 : i - l.length = 0 := by
   rcases Nat.eq_zero_or_pos (i - l.length) with h | h
   ·exact h
   ·rw [List.getElem?_eq_none (by simp; omega)] at hi; cases hi
  rw [h0] at hi
  injection hi with hi
  subst hi
  have hi' : i = l.length := by omega
  subst hi'
  rw [← hl, List.drop_left, hc, List.take_of_length_le (by simp [MetaD.cells])]
def zam (st : Heap) (R : Option ManD) (e : Ending) (st' : Heap) : Prop := New st st' ∧ match R with
 | some m => ∃ bv tv bs ts, e = .returned (.tuple #[.agg #[Val.i m.seq, Val.i m.log, Val.i m.next, Val.i m.now, bv, tv], .bool true]) ∧ Vec st' (.ty 1) 7 bv bs m.blocks.length ∧ Fresh st bv ∧ z2n bs m.blocks ∧ RegF st' 8 tv ts m.tombs.length ∧ z13 st' ts m.tombs
 | none => ∃ x0 x1 x2 x3 x4 x5, e = .returned (.tuple #[.agg #[x0, x1, x2, x3, x4, x5], .bool false]) ∧ x0.oneCell' = true ∧ x1.oneCell' = true ∧ x2.oneCell' = true ∧ x3.oneCell' = true ∧ x4.oneCell' = true ∧ x5.oneCell' = true
section
variable {W0 : World} {st : Heap}
theorem zic {bv : Value} {b : Bs} {g0 : Tg} (hb : Reg st g0 1 bv (bytesV b) b.length) (hl : b.length < 2 ^ 60) (hg : Free g0) :
  z00 Tryz.prog W0 190 #[bv] st (zam st (z1p b)) := by
 obtain ⟨bb, bc, rfl⟩ := hb.slice
 generalize hRES : z1p b = RES
 unfold z1p at hRES
 refine enter (args := [_]) Tryz.func190 rfl ?_
 simp [Tryz.f190, go_sem]
 unfold NewP
 intro to hto
 refine ⟨.own to 0 88, ?_⟩
 simp [go_sem]
 unfold NewP
 intro tm htm
 refine ⟨.own tm 0 89, ?_⟩
 have hne : to ≠ tm := by
  rintro rfl
  rw [upd_same] at htm
  cases htm
 have hne' := Ne.symm hne
 simp [go_sem, hne, hne']
 unfold NewS
 intro nb hnb
 refine ⟨.ty 0, ?_⟩
 simp [go_sem]
 have htmn : st tm = none := ((New.refl _).add hto).none htm
 generalize hst2 : upd (upd st to _) tm _ = st2 at hnb ⊢
 have hN2 : New st st2 := by rw [← hst2]; exact ((New.refl _).add hto).add htm
 have hto2 : st2 to = some (.cells true [Val.i 0, Val.i 0, Val.i 0, Val.i 0, .slice none 0 0, .slice none 0 0] 6 (.own to 0 88)) := by rw [← hst2, upd_ne _ _ hne, upd_same]
 have htm2 : st2 tm = some (.cells true [Val.i 0, Val.i 0, Val.i 0, Val.i 0, .slice none 0 0, .slice none 0 0] 6 (.own tm 0 89)) := by rw [← hst2, upd_same]
 have hrow := Reg.row (upd_same st2 nb (.cells true [.pointer (some ⟨tm, 0, none⟩), .pointer (some ⟨tm, 1, none⟩), .pointer (some ⟨tm, 2, none⟩), .pointer (some ⟨tm, 3, none⟩)] 4 (.ty 0))) (by simp)
 generalize hst3 : upd st2 nb _ = st3 at hrow ⊢
 have hN23 : New st2 st3 := by rw [← hst3]; exact (New.refl _).add hnb
 have hN3 := hN2.trans hN23
 have hto3 := hN23 _ _ hto2
 have htm3 := hN23 _ _ htm2
 refine (zb0 (k := 4) (tm := tm) (gl := .ty 0) (hb.new hN3) hl (by simpa [List.range_succ] using hrow) (by omega) htm3 (by simp) (by omega) (hg _ _ _) (by simp)).mono ?_
 rintro e st4 ⟨hk4, hR⟩
 have hto4 := hk4 _ _ hne hto3
 have hN4 : New st st4 := fun k o ho => hk4 k o (ne_of_new ho htmn) (hN3 k o ho)
 clear hrow hst3 hst2
 cases hi4 : intsM b 4 0 with
 | none =>
  rw [hi4] at hR hRES
  simp at hRES
  subst hRES
  obtain ⟨rfl, xs', hxl, hxc, htm4⟩ := hR
  have hall : ∀ y ∈ xs', y.oneCell' = true := by
   intro y hy
   rcases hxc y hy with h | h
   ·simp at h
    rcases h with rfl | rfl <;> rfl
   ·exact h
  clear hxc
  match xs', hxl with
  | [x0, x1, x2, x3, x4, x5], _ =>
  simp only [List.mem_cons, List.not_mem_nil, or_false, forall_eq_or_imp, forall_eq] at hall
  obtain ⟨c0, c1, c2, c3, c4, c5⟩ := hall
  have cc := And.intro c0 (And.intro c1 (And.intro c2 (And.intro c3 (And.intro c4 c5))))
  unfold Value.oneCell' at c0 c1 c2 c3 c4 c5
  simp [go_sem, htm4, hto4, hne, hne', c0, c1, c2, c3, c4, c5]
  refine z0l ?_
  simp [go_sem]
  exact ⟨hN4.put hto, x0, x1, x2, x3, x4, x5, rfl, cc⟩
 | some p =>
 obtain ⟨vs, a4⟩ := p
 have hvl := z48 hi4
 rw [hi4] at hR hRES
 obtain ⟨v0, v1, v2, v3, rfl⟩ : ∃ v0 v1 v2 v3, vs = [v0, v1, v2, v3] := by
  match vs, hvl with
  | [x, y, z, w], _ => exact ⟨x, y, z, w, rfl⟩
 obtain ⟨rfl, htm4⟩ := hR
 simp only [List.map_cons, List.map_nil, List.cons_append, List.nil_append, List.drop_succ_cons, List.drop_zero] at htm4
 simp only [Option.bind_some] at hRES
 simp [go_sem]
 refine (z4z (hb.new hN4) hl).mono ?_
 rintro e st5 ⟨rfl, rfl⟩
 have fail : ∀ {lv tv : Value} {st' : Heap}, New st st' → st' tm = some (.cells true [Val.i v0, Val.i v1, Val.i v2, Val.i v3, lv, tv] 6 (.own tm 0 89)) → st' to = some (.cells true [Val.i 0, Val.i 0, Val.i 0, Val.i 0, .slice none 0 0, .slice none 0 0] 6 (.own to 0 88)) → lv.oneCell' = true → tv.oneCell' = true →
   zam st none (.returned (.tuple #[.agg #[Val.i v0, Val.i v1, Val.i v2, Val.i v3, lv, tv], .bool false])) (upd st' to (.cells true [Val.i v0, Val.i v1, Val.i v2, Val.i v3, lv, tv] 6 (.own to 0 88))) :=
  fun h1 _ _ h2 h3 => ⟨h1.put hto, _, _, _, _, _, _, rfl, rfl, rfl, rfl, rfl, h2, h3⟩
 cases hv : vgetM b a4 with
 | none =>
  rw [hv] at hRES
  simp at hRES
  subst hRES
  simp [go_sem, vgetV, htm4, hto4, hne, hne']
  refine z0l ?_
  simp [go_sem]
  exact fail hN4 htm4 hto4 rfl rfl
 | some p =>
 obtain ⟨n, a5⟩ := p
 rw [hv] at hRES
 simp only [Option.bind_some] at hRES
 by_cases hn : 900 < n
 ·have hn' : ((900 : Int) < n) = True := eq_true (by omega)
  rw [if_pos hn] at hRES
  subst hRES
  simp [go_sem, vgetV, hn', htm4, hto4, hne, hne']
  refine z0l ?_
  simp [go_sem]
  exact fail hN4 htm4 hto4 rfl rfl
 have hn' : ((900 : Int) < n) = False := eq_false (by omega)
 rw [if_neg hn] at hRES
 obtain ⟨K, hK⟩ : ∃ K : List MetaD × Int → Option ManD, K = fun bl => (z1k b bl.2).bind fun t => if t.2 = b.length then some ⟨[v0, v1, v2, v3].getD 0 0, [v0, v1, v2, v3].getD 1 0, [v0, v1, v2, v3].getD 2 0, [v0, v1, v2, v3].getD 3 0, bl.1, t.1⟩ else none := ⟨_, rfl⟩
 have hRES' : (z0u b n a5).bind K = RES := by rw [hK]; exact hRES
 simp [go_sem, vgetV, hn']
 refine ⟨fun E st' => New st st' ∧ E 0 = .slice bb b.length bc ∧ E 2 = ptr to ∧ E 4 = ptr tm ∧ E 37 = Val.u n ∧ st' to = some (.cells true [Val.i 0, Val.i 0, Val.i 0, Val.i 0, .slice none 0 0, .slice none 0 0] 6 (.own to 0 88)) ∧ ∃ (i : Nat) (l : List MetaD) (lv : Value) (bs : List Value) (a : Int), E 38 = Val.u i ∧ i ≤ n ∧ l.length = i ∧ E 5 = Val.i a ∧ st' tm = some (.cells true [Val.i v0, Val.i v1, Val.i v2, Val.i v3, lv, .slice none 0 0] 6 (.own tm 0 89)) ∧ Vec st' (.ty 1) 7 lv bs i ∧ Fresh st lv ∧ z2n bs l ∧ ((z0u b (n - i) a).map (fun r => (l ++ r.1, r.2))).bind K = RES,
  fun E _ => match E 38 with | .int _ i => n - i.toNat | _ => 0, ⟨st5, .rfl' _, hN4, by simp [go_sem], by simp [go_sem], by simp [go_sem], by simp [go_sem], hto4, 0, [], .slice none 0 0, [], a5, by simp [go_sem], by omega, rfl, by simp [go_sem], htm4, Vec.nil, Fresh.none, by intro i x hi; simp at hi, by rw [← hRES']; cases h : z0u b n a5 <;> simp [h]⟩, ?_⟩
 clear hto4 htm4 hto3 htm3 hto2 htm2
 rintro E st6 ⟨hk6, e0, e2, e4, e37, hto6, i, l, lv, bs, a, e38, hi, hll, e5, htm6, hV, hF, hM, hrec⟩
 by_cases hlt : i < n
 rotate_left
 ·have hlt' : ((i : Int) < n) = False := eq_false (by omega)
  have : i = n := by omega
  subst this
  simp [z0u] at hrec
  simp [go_sem, e0, e2, e4, e5, e37, e38, hlt']
  obtain ⟨lb, lc, rfl⟩ := hV.reg.slice
  refine (zfu (hb.new hk6) hl hg).mono ?_
  rintro e st7 ⟨hk7, hR⟩
  have htm7 := hk7 _ _ htm6
  have hto7 := hk7 _ _ hto6
  have hN7 := hk6.trans hk7
  have hV7 := hV.new' hk7
  subst hK
  simp only at hrec
  cases htg : z1k b a with
  | none =>
   rw [htg] at hR hrec
   simp at hrec
   subst hrec
   simp only at hR
   subst hR
   simp [go_sem, e0, e2, e4, htm7, hto7, hne, hne']
   refine z0l ?_
   simp [go_sem, e2]
   exact fail (lv := .slice lb i lc) (tv := .slice none 0 0) (hN7.put htmn (o := .cells true [Val.i v0, Val.i v1, Val.i v2, Val.i v3, .slice lb i lc, .slice none 0 0] 6 (.own tm 0 89))) (upd_same _ _ _) (by rw [upd_ne _ _ hne]; exact hto7) rfl rfl
  | some p =>
   obtain ⟨ltm, a8⟩ := p
   rw [htg] at hR hrec
   simp only [Option.bind_some] at hrec
   obtain ⟨tv, ts, rfl, htr, hts⟩ := hR
   obtain ⟨tb, tc, rfl⟩ := htr.slice
   by_cases hend : a8 = b.length
   ·have hend' := eq_true hend
    rw [if_pos hend] at hrec
    subst hrec
    simp [go_sem, e0, e2, e4, htm7, hto7, hne, hne', hend']
    refine z0l ?_
    simp [go_sem, e2]
    have hB := But1.put (o := .cells true [Val.i v0, Val.i v1, Val.i v2, Val.i v3, .slice lb i lc, .slice tb ltm.length tc] 6 (.own tm 0 89)) (But1.refl tm st7)
    have hto8 := hB _ _ hne hto7
    have hB2 := But1.put (o := .cells true [Val.i v0, Val.i v1, Val.i v2, Val.i v3, .slice lb i lc, .slice tb ltm.length tc] 6 (.own to 0 88)) (But1.refl to (upd st7 tm (.cells true [Val.i v0, Val.i v1, Val.i v2, Val.i v3, .slice lb i lc, .slice tb ltm.length tc] 6 (.own tm 0 89))))
    refine ⟨(hN7.put htmn).put hto, .slice lb i lc, .slice tb ltm.length tc, bs, ts, rfl, ?_, hF, hM, (htr.but hB htm7).but hB2 hto8, fun j y hj => (hts j y hj).mono fun _ _ _ _ hx => (hx.but hB htm7).but hB2 hto8⟩
    rw [hll]
    exact (hV7.but hB htm7).but hB2 hto8
   ·have hend' := eq_false hend
    rw [if_neg hend] at hrec
    subst hrec
    simp [go_sem, e0, e2, e4, htm7, hto7, hne, hne', hend']
    refine z0l ?_
    simp [go_sem, e2]
    exact fail (lv := .slice lb i lc) (tv := .slice tb ltm.length tc) (hN7.put htmn (o := .cells true [Val.i v0, Val.i v1, Val.i v2, Val.i v3, .slice lb i lc, .slice tb ltm.length tc] 6 (.own tm 0 89))) (upd_same _ _ _) (by rw [upd_ne _ _ hne]; exact hto7) rfl rfl
 have hlt' : ((i : Int) < n) = True := eq_true (by omega)
 have hwi : IntKind.u64.wrap ((i : Int) + 1) = ((i + 1 : Nat) : Int) := by rw [z0c _ (by omega) (by omega)]; omega
 obtain ⟨q, hq⟩ : ∃ q, n - i = q + 1 := ⟨n - i - 1, by omega⟩
 rw [hq] at hrec
 unfold z0u at hrec
 simp [go_sem, e0, e2, e4, e5, e37, e38, hlt, hlt']
 unfold NewP
 intro t8 ht8
 refine ⟨.own t8 0 90, ?_⟩
 simp [go_sem, e0, e2, e4, e5, e37, e38]
 unfold NewS
 intro nb2 hnb2
 refine ⟨.ty 0, ?_⟩
 simp [go_sem]
 have htm_n8 : tm ≠ t8 := ne_of_new htm6 ht8
 have hto_n8 : to ≠ t8 := ne_of_new hto6 ht8
 generalize hst7 : upd st6 t8 _ = st7 at hnb2 ⊢
 have hN67 : New st6 st7 := by rw [← hst7]; exact (New.refl _).add ht8
 have ht87 : st7 t8 = some (.cells true [Val.i 0, Val.i 0, Val.i 0, Val.i 0, Val.i 0, Val.i 0, Val.i 0] 7 (.own t8 0 90)) := by rw [← hst7, upd_same]
 have hrow := Reg.row (upd_same st7 nb2 (.cells true [.pointer (some ⟨t8, 0, none⟩), .pointer (some ⟨t8, 1, none⟩), .pointer (some ⟨t8, 2, none⟩), .pointer (some ⟨t8, 3, none⟩), .pointer (some ⟨t8, 4, none⟩), .pointer (some ⟨t8, 5, none⟩), .pointer (some ⟨t8, 6, none⟩)] 7 (.ty 0))) (by simp)
 generalize hst8 : upd st7 nb2 _ = st8 at hrow ⊢
 have hN78 : New st7 st8 := by rw [← hst8]; exact (New.refl _).add hnb2
 have hN68 := hN67.trans hN78
 have ht88 := hN78 _ _ ht87
 have hN8 := hk6.trans hN68
 refine (zb0 (k := 7) (tm := t8) (gl := .ty 0) (hb.new hN8) hl (by simpa [List.range_succ] using hrow) (by omega) ht88 (by simp) (by omega) (hg _ _ _) (by simp)).mono ?_
 rintro e st9 ⟨hk9, hR⟩
 have htm9 := hk9 _ _ htm_n8 (hN68 _ _ htm6)
 have hto9 := hk9 _ _ hto_n8 (hN68 _ _ hto6)
 have ht8n : st t8 = none := hk6.none ht8
 have hN69 : New st6 st9 := fun k o ho => hk9 k o (ne_of_new ho ht8) (hN68 k o ho)
 have hN9 := hk6.trans hN69
 obtain ⟨lb, lc, rfl⟩ := hV.reg.slice
 cases hi7 : intsM b 7 a with
 | none =>
  rw [hi7] at hR hrec
  simp at hrec
  subst hrec
  obtain ⟨rfl, xs', hxl, hxc, ht89⟩ := hR
  simp [go_sem, e0, e2, e4, htm9, hto9, hne, hne']
  refine z0l ?_
  simp [go_sem, e2]
  exact fail hN9 htm9 hto9 rfl rfl
 | some p =>
  obtain ⟨vs, a10⟩ := p
  have hvl := z48 hi7
  rw [hi7] at hR hrec
  obtain ⟨rfl, ht89⟩ := hR
  obtain ⟨x0, x1, x2, x3, x4, x5, x6, rfl⟩ : ∃ x0 x1 x2 x3 x4 x5 x6, vs = [x0, x1, x2, x3, x4, x5, x6] := by
   match vs, hvl with
   | [x0, x1, x2, x3, x4, x5, x6], _ => exact ⟨_, _, _, _, _, _, _, rfl⟩
  simp only [List.map_cons, List.map_nil, List.cons_append, List.nil_append, List.drop_succ_cons, List.drop_zero, List.drop_nil] at ht89
  simp only [Option.bind_some] at hrec
  simp [go_sem, e0, e2, e4, e37, e38, htm9, ht89]
  unfold NewS
  intro nb3 hnb3
  refine ⟨.own nb3 0 91, ?_⟩
  simp [go_sem]
  have hN910 := (New.refl st9).add (b := nb3) (o := .cells true [Val.i x0, Val.i x1, Val.i x2, Val.i x3, Val.i x4, Val.i x5, Val.i x6] 7 (.own nb3 0 91)) hnb3
  refine AppI_new (st0 := st) (g := .ty 1) (m := 1) (ys := [Val.i x0, Val.i x1, Val.i x2, Val.i x3, Val.i x4, Val.i x5, Val.i x6]) si74 ((hV.new' hN69).new' hN910) hF (hN9.trans hN910) ?_ ?_ (by omega) ?_
  ·simp [z06, z0i, upd_same, cellsOf]
  ·intro y hy
   simp at hy
   rcases hy with rfl | rfl | rfl | rfl | rfl | rfl | rfl <;> rfl
  intro base cap st11 hV11 hF11 hN11 hE11
  have htm11 := hE11.keep _ _ (hN910 _ _ htm9) (by simp [HObj.tag])
  have hto11 := hE11.keep _ _ (hN910 _ _ hto9) (by simp [HObj.tag])
  simp [go_sem, e0, e2, e4, e37, e38, htm11, hwi]
  have hB := But1.put (o := .cells true [Val.i v0, Val.i v1, Val.i v2, Val.i v3, .slice base (i + 1) cap, .slice none 0 0] 6 (.own tm 0 89)) (But1.refl tm st11)
  refine ⟨_, .rfl' _, ⟨hN11.put htmn, by rw [upd_ne _ _ hne]; exact hto11, i + 1, by omega, by omega, l ++ [metaL [x0, x1, x2, x3, x4, x5, x6]], by simp [hll], _, upd_same _ _ _, _, hV11.but hB htm11, hF11, z2n.append (by rw [hV.1]; omega) hM rfl, ?_⟩, by omega⟩
  rw [← hrec, show n - (i + 1) = q by omega]
  cases hh : z0u b q a10 <;> simp [hh]
end
def z1o (b : Bs) : Option ManD :=
 match z18 b 0 with
 | .error _ => none
 | .ok (body, end_) => if end_ = b.length then (z1p body).bind fun m => if manM m = true ∧ z0d (bodyM m) = b then some m else none else none
theorem zbb {b : Bs} : ∀ {k : Nat} {a : Int} {l : List Int} {a' : Int}, intsM b k a = some (l, a') → ∀ v ∈ l, -2 ^ 63 ≤ v ∧ v < 2 ^ 63
 | 0, a, l, a', h => by unfold intsM at h; injection h with h; injection h with h1 h2; subst h1; simp
 | k + 1, a, l, a', h => by
  unfold intsM at h
  obtain ⟨p, hp, h⟩ := Option.bind_eq_some_iff.1 h
  obtain ⟨q, hq, h⟩ := Option.map_eq_some_iff.1 h
  injection h with h1 h2
  subst h1
  have ih := zbb (l := q.1) (a' := q.2) hq
  unfold z2a at hp
  obtain ⟨r, hr, rfl⟩ := Option.map_eq_some_iff.1 hp
  have hb : r.1 < 2 ^ 64 := by
   unfold vgetM at hr
   split at hr
   ·cases hr
   ·exact (z9e (by omega) (by simp) hr).1
  intro v hv
  rcases List.mem_cons.1 hv with rfl | hv
  ·simp only
   unfold unzz
   split <;> omega
  ·exact ih v hv
theorem metasM1_fits {b : Bs} : ∀ {k : Nat} {a : Int} {l : List MetaD} {a' : Int}, z0u b k a = some (l, a') → ∀ x ∈ l, x.rows < 2 ^ 63
 | 0, a, l, a', h => by unfold z0u at h; injection h with h; injection h with h1 h2; subst h1; simp
 | k + 1, a, l, a', h => by
  unfold z0u at h
  obtain ⟨p, hp, h⟩ := Option.bind_eq_some_iff.1 h
  obtain ⟨q, hq, h⟩ := Option.map_eq_some_iff.1 h
  injection h with h1 h2
  subst h1
  have ih := metasM1_fits (l := q.1) (a' := q.2) hq
  have hl := z48 (l := p.1) (a' := p.2) hp
  have hb := zbb (l := p.1) (a' := p.2) hp
  intro x hx
  rcases List.mem_cons.1 hx with rfl | hx
  ·have : p.1[6]? = some p.1[6] := List.getElem?_eq_getElem (by omega)
   simp only [metaL, List.getD_eq_getElem?_getD, this, Option.getD_some]
   exact (hb _ (List.getElem_mem _)).2
  ·exact ih x hx
theorem zc3 {b : Bs} {m : ManD} (h : z1p b = some m) : z2j m := by
 unfold z1p at h
 obtain ⟨p, hp, h⟩ := Option.bind_eq_some_iff.1 h
 obtain ⟨c, hc, h⟩ := Option.bind_eq_some_iff.1 h
 split at h
 ·cases h
 obtain ⟨bl, hbl, h⟩ := Option.bind_eq_some_iff.1 h
 obtain ⟨t, ht, h⟩ := Option.bind_eq_some_iff.1 h
 split at h
 ·injection h with h
  subst h
  exact metasM1_fits (l := bl.1) (a' := bl.2) hbl
 ·cases h
theorem zbp {b : Bs} {a k : Int} (h : z18 b a = .error k) : k ≠ 0 := by
 unfold z18 at h
 split at h
 ·injection h with h; omega
 split at h
 ·injection h with h; omega
 split at h
 ·injection h with h; omega
 split at h
 ·injection h with h; omega
 split at h
 ·injection h with h; omega
 ·cases h
theorem zb7 {b body : Bs} {a : Int} {e : Nat} (h : z18 b a = .ok (body, e)) : body.length ≤ 1048576 := by
 unfold z18 at h
 split at h
 ·cases h
 split at h
 ·cases h
 split at h
 ·cases h
 split at h
 ·cases h
 split at h
 ·cases h
 ·injection h with h
  injection h with h1 h2
  subst h1
  rw [List.length_take]
  omega
section
variable {W0 : World} {st : Heap}
theorem zgt {av bv : Value} {a b : Bs} {g1 g2 : Tg} (ha : Reg st g1 1 av (bytesV a) a.length) (hb : Reg st g2 1 bv (bytesV b) b.length) (hla : a.length < 2 ^ 60) (hlb : b.length < 2 ^ 60) :
  z00 Tryz.prog W0 191 #[av, bv] st fun e st' => e = .returned (.bool (decide (a = b))) ∧ st' = st := by
 obtain ⟨ab, ac, rfl⟩ := ha.slice
 obtain ⟨bb, bc, rfl⟩ := hb.slice
 refine enter (args := [_, _]) Tryz.func191 rfl ?_
 by_cases hl : a.length = b.length
 rotate_left
 ·have hl' : ((a.length : Int) = b.length) = False := eq_false (by omega)
  have hne : a ≠ b := by rintro rfl; exact hl rfl
  simp [Tryz.f191, go_sem, hl', hl, hne]
 have hl' : ((a.length : Int) = b.length) = True := eq_true (by omega)
 simp [Tryz.f191, go_sem, hl', hl]
 refine ⟨fun E st' => st' = st ∧ E 0 = .slice ab a.length ac ∧ E 1 = .slice bb b.length bc ∧ E 12 = Val.i b.length ∧ ∃ i : Nat, E 13 = Val.i i ∧ i ≤ a.length ∧ a.take i = b.take i,
  fun E _ => match E 13 with | .int _ i => a.length - i.toNat | _ => 0, ⟨st, .rfl' _, rfl, by simp [go_sem, hl], by simp [go_sem], by simp [go_sem], 0, by simp [go_sem], by omega, by simp⟩, ?_⟩
 rintro E st' ⟨rfl, e0, e1, e12, i, e13, hi, heq⟩
 by_cases hlt : i < b.length
 ·have hlt' : ((i : Int) < b.length) = True := eq_true (by omega)
  have hlta : i < a.length := by omega
  have hlta' : ((i : Int) < a.length) = True := eq_true (by omega)
  have hwi := wrS i (by omega)
  obtain ⟨blk, off, rfl, hg⟩ := z0h ha.src (by omega)
  obtain ⟨blk', off', rfl, hg'⟩ := z0h hb.src (by omega)
  have hgi := hg i (by omega)
  have hgi' := hg' i (by omega)
  have hai : a[i]? = some a[i] := List.getElem?_eq_getElem hlta
  have hbi : b[i]? = some b[i] := List.getElem?_eq_getElem hlt
  have hva : (bytesV a)[i]? = some (.int .u8 a[i].toNat) := by simp [bytesV, hai]
  have hvb : (bytesV b)[i]? = some (.int .u8 b[i].toNat) := by simp [bytesV, hbi]
  rw [hva] at hgi
  rw [hvb] at hgi'
  have hta : a.take (i + 1) = a.take i ++ [a[i]] := by rw [List.take_add_one, hai]; rfl
  have htb : b.take (i + 1) = b.take i ++ [b[i]] := by rw [List.take_add_one, hbi]; rfl
  simp [go_sem, e0, e1, e12, e13, hlt, hlt']
  refine draw [0, 1, 2, 4, 5, 6, 3, 7, 8] (by kernel_rfl) ?_
  by_cases hx : a[i] = b[i]
  ·have hx' : ((a[i].toNat : Int) = b[i].toNat) = True := eq_true (by rw [hx])
   simp [go_sem, e0, e1, e12, e13, hlt, hlt', hlta, hlta', hgi, hgi', hx', hwi]
   exact ⟨st', .rfl' _, ⟨rfl, i + 1, by omega, by omega, by rw [hta, htb, heq, hx]⟩, by omega⟩
  ·have hx' : ((a[i].toNat : Int) = b[i].toNat) = False := eq_false (by intro h; exact hx (UInt8.toNat_inj.1 (by omega)))
   have hne : a ≠ b := by
    intro h
    apply hx
    subst h
    rfl
   simp [go_sem, e0, e1, e12, e13, hlt, hlt', hlta, hlta', hgi, hgi', hx', hwi, hne]
 ·have hlt' : ((i : Int) < b.length) = False := eq_false (by omega)
  have : i = b.length := by omega
  subst this
  rw [List.take_length, ← hl, List.take_length] at heq
  simp [go_sem, e0, e1, e12, e13, hlt', heq]
def DecR (st : Heap) (R : Option ManD) (e : Ending) (st' : Heap) : Prop := New st st' ∧ match R with
 | some m => ∃ bv tv bs ts, e = .returned (.tuple #[.agg #[Val.i m.seq, Val.i m.log, Val.i m.next, Val.i m.now, bv, tv], Val.i 0]) ∧ Vec st' (.ty 1) 7 bv bs m.blocks.length ∧ Fresh st bv ∧ z2n bs m.blocks ∧ RegF st' 8 tv ts m.tombs.length ∧ z13 st' ts m.tombs
 | none => e = .returned (.tuple #[.agg #[Val.i 0, Val.i 0, Val.i 0, Val.i 0, .slice none 0 0, .slice none 0 0], Val.i 4])
theorem zjp {bv : Value} {b : Bs} {g0 : Tg} (hb : Reg st g0 1 bv (bytesV b) b.length) (hl : b.length < 2 ^ 40) :
  z00 Tryz.prog W0 123 #[bv] st (DecR st (z1o b)) := by
 obtain ⟨bb, bc, rfl⟩ := hb.slice
 generalize hRES : z1o b = RES
 unfold z1o at hRES
 refine enter (args := [_]) Tryz.func123 rfl ?_
 simp [Tryz.f123, go_sem]
 unfold NewP
 intro to hto
 refine ⟨.own to 0 92, ?_⟩
 simp [go_sem]
 have hto1 := upd_same st to (.cells true [Val.i 0, Val.i 0, Val.i 0, Val.i 0, .slice none 0 0, .slice none 0 0] 6 (.own to 0 92))
 generalize hst1 : upd st to _ = st1 at hto1 ⊢
 have hN1 : New st st1 := by rw [← hst1]; exact (New.refl _).add hto
 have fail : ∀ {st' : Heap}, New st st' → DecR st none (.returned (.tuple #[.agg #[Val.i 0, Val.i 0, Val.i 0, Val.i 0, .slice none 0 0, .slice none 0 0], Val.i 4])) (upd st' to (.cells true [Val.i 0, Val.i 0, Val.i 0, Val.i 0, .slice none 0 0, .slice none 0 0] 6 (.own to 0 92))) := fun h => ⟨h.put hto, rfl⟩
 refine (zhi (.ty 0) (at_ := 0) (hb.new hN1) hl).mono ?_
 rintro e st2 ⟨hk2, hR⟩
 have hto2 := hk2 _ _ hto1
 have hN2 := hN1.trans hk2
 cases hf : z18 b 0 with
 | error k =>
  rw [hf] at hR hRES
  simp only at hR hRES
  subst hRES
  subst hR
  have hk0 : (k = 0) = False := eq_false (zbp hf)
  simp [go_sem, hk0, hto2]
  refine z0l ?_
  simp [go_sem]
  exact fail hN2
 | ok p =>
 obtain ⟨body, end_⟩ := p
 rw [hf] at hR hRES
 simp only at hR hRES
 obtain ⟨v, rfl, hV⟩ := hR
 by_cases hend : end_ = b.length
 rotate_left
 ·have hend' : ((end_ : Int) = b.length) = False := eq_false (by omega)
  rw [if_neg hend] at hRES
  subst hRES
  simp [go_sem, hend', hto2]
  refine z0l ?_
  simp [go_sem]
  exact fail hN2
 have hend' : ((end_ : Int) = b.length) = True := eq_true (by omega)
 rw [if_pos hend] at hRES
 have hbl := zb7 hf
 obtain ⟨vb, vc, rfl⟩ := hV.reg.slice
 simp [go_sem, hend']
 refine (zic hV.reg (by omega) Free.ty).mono ?_
 rintro e st3 ⟨hk3, hR⟩
 have hto3 := hk3 _ _ hto2
 have hN3 := hN2.trans hk3
 cases hrm : z1p body with
 | none =>
  rw [hrm] at hR hRES
  simp at hRES
  subst hRES
  obtain ⟨x0, x1, x2, x3, x4, x5, rfl, c0, c1, c2, c3, c4, c5⟩ := hR
  unfold Value.oneCell' at c0 c1 c2 c3 c4 c5
  simp [go_sem]
  unfold NewP
  intro t7 ht7
  refine ⟨.ty 0, ?_⟩
  have n7 : to ≠ t7 := ne_of_new hto3 ht7
  have n7' := Ne.symm n7
  simp [go_sem, hto3, n7, n7', c0, c1, c2, c3, c4, c5]
  refine z0l ?_
  simp [go_sem]
  exact fail (hN3.add ht7)
 | some m =>
 rw [hrm] at hR hRES
 simp only [Option.bind_some] at hRES
 obtain ⟨mbv, mtv, bs, ts, rfl, hmV, hmF, hmM, hmt, hmT⟩ := hR
 obtain ⟨mb, mc, rfl⟩ := hmV.reg.slice
 obtain ⟨tb, tc, rfl⟩ := hmt.slice
 simp [go_sem]
 unfold NewP
 intro t7 ht7
 refine ⟨.ty 0, ?_⟩
 have n7 : to ≠ t7 := ne_of_new hto3 ht7
 have n7' := Ne.symm n7
 simp [go_sem, n7, n7']
 have ht74 := upd_same st3 t7 (.cells true [Val.i m.seq, Val.i m.log, Val.i m.next, Val.i m.now, .slice mb m.blocks.length mc, .slice tb m.tombs.length tc] 6 (.ty 0))
 generalize hst4 : upd st3 t7 _ = st4 at ht74 ⊢
 have hN34 : New st3 st4 := by rw [← hst4]; exact (New.refl _).add ht7
 have hto4 := hN34 _ _ hto3
 have hN4 := hN3.trans hN34
 have hmA : ManAt st4 [Val.i m.seq, Val.i m.log, Val.i m.next, Val.i m.now, .slice mb m.blocks.length mc, .slice tb m.tombs.length tc] m := ⟨_, _, bs, ts, rfl, (hmV.new' hN34).reg.toF Free.ty, hmM, hmt.new hN34, fun i x hx => (hmT i x hx).mono fun _ _ _ _ h => h.new hN34⟩
 refine (z92 hmA).mono ?_
 rintro e st5 ⟨rfl, hk5⟩
 have hto5 := hk5 _ _ hto4
 have ht75 := hk5 _ _ ht74
 have hN5 := hN4.trans hk5
 cases hmm : manM m with
 | false =>
  rw [if_neg (by rw [hmm]; simp)] at hRES
  subst hRES
  simp [go_sem, hto5, n7, n7']
  refine z0l ?_
  simp [go_sem]
  exact fail hN5
 | true =>
 simp [go_sem, hto5, ht75, n7, n7']
 refine (zal (.ty 0) (hmA.new hk5) (zc3 hrm)).mono ?_
 rintro e st6 ⟨hk6, hR⟩
 rw [if_pos hmm] at hR
 obtain ⟨v6, rfl, hV6, hF6⟩ := hR
 have hto6 := hk6 _ _ hto5
 have ht76 := hk6 _ _ ht75
 have hN6 := hN5.trans hk6
 obtain ⟨vb6, vc6, rfl⟩ := hV6.reg.slice
 have hfl : (z0d (bodyM m)).length < 2 ^ 60 := by
  have := (z3e hmm (zc3 hrm)).2
  have h2 := z14 (bodyM m).length (by omega)
  unfold z0d le4
  simp only [List.length_append, List.length_cons, List.length_nil]
  omega
 simp [go_sem]
 refine (zgt hV6.reg (hb.new hN6) hfl (by omega)).mono ?_
 rintro e st7 ⟨rfl, rfl⟩
 by_cases heq : z0d (bodyM m) = b
 ·rw [if_pos ⟨hmm, heq⟩] at hRES
  subst hRES
  have heq' := eq_true heq
  simp [go_sem, heq', hto6, ht76, n7, n7']
  refine z0l ?_
  simp [go_sem]
  have hN37 : New st3 st7 := (hN34.trans hk5).trans hk6
  have hB := But1.put (o := .cells true [Val.i m.seq, Val.i m.log, Val.i m.next, Val.i m.now, .slice mb m.blocks.length mc, .slice tb m.tombs.length tc] 6 (.own to 0 92)) (But1.refl to st7)
  exact ⟨hN6.put hto, _, _, bs, ts, rfl, (hmV.new' hN37).but hB hto6, hmF.old hN2, hmM, (hmt.new hN37).but hB hto6, fun i x hx => (hmT i x hx).mono fun _ _ _ _ h => (h.new hN37).but hB hto6⟩
 ·rw [if_neg (by intro h; exact heq h.2)] at hRES
  subst hRES
  have heq' := eq_false heq
  simp [go_sem, heq', hto6, ht76, n7, n7']
  refine z0l ?_
  simp [go_sem]
  exact fail hN6
end
end Go.Proofs.YtahgfnbkkfpcnaaGreat
