/- The document's frames: one at a place. -/
import Derived.Test.YtahgfnbkkfpcnaaGreatC40
import Derived.Test.YtahgfnbkkfpcnaaGreatC35
import Derived.Test.YtahgfnbkkfpcnaaGreatC42
set_option linter.unusedVariables false
set_option linter.unusedSimpArgs false
set_option maxRecDepth 100000
set_option maxHeartbeats 8000000
namespace Go.Proofs.YtahgfnbkkfpcnaaGreat
open Go.RowKit (Below)
def oneM (b : Bs) (a : Int) : Option (Bs × Nat) := match vgetM b a with
 | none => none
 | some (n, a) => if n < 1 ∨ 1048576 < n ∨ b.length - a < n + 4 then none
   else if crcM ((b.drop (a + 4)).take n) ≠ le4R ((b.drop a).take 4) then none else some ((b.drop (a + 4)).take n, a + 4 + n)
theorem zhh {b : Bs} {a : Int} (h0 : 0 ≤ a) (h1 : a < b.length) : z18 b a = match oneM b a with | none => .error 4 | some p => .ok p := by
 unfold z18 oneM
 rw [if_neg (by omega), if_neg (by omega)]
 cases vgetM b a with
 | none => rfl
 | some p =>
  obtain ⟨n, c⟩ := p
  simp only
  split
  ·rfl
  ·split <;> rfl
theorem zbe (c : Nat) : (le4 c).length = 4 := rfl
theorem Vec.apart {st0 st : Heap} {b size len : Nat} {g : Tg} {o o' : HObj} {v : Value} {xs : List Value} (h : Vec st g size v xs len) (hF : Fresh st0 v) (hb : st0 b = some o) : Vec (upd st b o') g size v xs len := by
 obtain ⟨hl, base, cap, rfl, hc, hr⟩ := h
 refine ⟨hl, base, cap, rfl, hc, hr.imp ?_ id⟩
 rintro ⟨k, n, rfl, hk, hn⟩
 refine ⟨k, n, rfl, ?_, hn⟩
 rw [upd_ne _ _ (by rintro rfl; rw [hF.at] at hb; cases hb)]
 exact hk
def OneR (st : Heap) (g : Tg) (at_ : Int) (R : Option (Bs × Nat)) (e : Ending) (st' : Heap) : Prop := New st st' ∧ match R with
 | some (body, end_) => ∃ v, e = .returned (.tuple #[.agg #[Val.i at_, v, Val.i end_], .bool true]) ∧ Vec st' g 1 v (bytesV body) body.length ∧ Fresh st v
 | none => e = .returned (.tuple #[.agg #[Val.i 0, .slice none 0 0, Val.i 0], .bool false])
section
variable {W0 : World} {st : Heap}
theorem zgn {bv : Value} {b : Bs} {g0 : Tg} (g : Tg) {at_ : Int} (hb : Reg st g0 1 bv (bytesV b) b.length) (hg : Free g0) (hl : b.length < 2 ^ 40) :
  z00 Tryz.prog W0 246 #[bv, Val.i at_] st (OneR st g at_ (oneM b at_)) := by
 obtain ⟨base, cap, rfl⟩ := hb.slice
 have hcap := hb.cap
 generalize hRES : oneM b at_ = RES
 unfold oneM at hRES
 refine enter (args := [_, _]) Tryz.func246 rfl ?_
 simp [Tryz.f246, go_sem]
 unfold NewP
 intro to hto
 refine ⟨.own to 0 96, ?_⟩
 simp [go_sem]
 have hto1 := upd_same st to (.cells true [Val.i 0, .slice none 0 0, Val.i 0] 3 (.own to 0 96))
 generalize hst1 : upd st to _ = st1 at hto1 ⊢
 have hN1 : New st st1 := by rw [← hst1]; exact (New.refl _).add hto
 intro r hr
 refine ⟨.own r 0 94, ?_⟩
 simp [go_sem]
 have hnr : to ≠ r := ne_of_new hto1 hr
 have hrs := hN1.none hr
 have hr2 := upd_same st1 r (.cells true [.slice base b.length cap, Val.i at_, .bool false] 3 (.own r 0 94))
 generalize hst2 : upd st1 r _ = st2 at hr2 ⊢
 have hN12 : New st1 st2 := by rw [← hst2]; exact (New.refl _).add hr
 have hb2 := hb.new (hN1.trans hN12)
 refine (z5o (p := some at_) hr2 hb2 hg (by omega)).mono ?_
 rintro e st3 ⟨hB3, rfl, hR⟩
 have hto3 := hB3.get (hN12 _ _ hto1) hnr
 have hb3 := hb2.but hg hB3 hr2
 have hN3 : New st st3 := ((hN1.trans hN12).but r |>.trans hB3).new hrs
 have fail : ∀ {st' : Heap}, New st st' → RES = none → OneR st g at_ RES (.returned (.tuple #[.agg #[Val.i 0, .slice none 0 0, Val.i 0], .bool false])) (upd st' to (.cells true [Val.i 0, .slice none 0 0, Val.i 0] 3 (.own to 0 96))) := fun h hn => by
  rw [hn]
  exact ⟨h.put hto, rfl⟩
 cases hv : vgetM b at_ with
 | none =>
  have hnum : numR b (some at_) = (0, none) := by unfold numR; simp [hv]
  rw [hnum] at hR ⊢
  rw [hv] at hRES
  obtain ⟨a, hR⟩ := hR
  unfold refC at hR
  simp [go_sem, hR, hto3]
  refine z0l ?_
  simp [go_sem]
  exact fail hN3 hRES.symm
 | some x =>
 obtain ⟨n, a⟩ := x
 have hnum : numR b (some at_) = (n, some (a : Int)) := by unfold numR; simp [hv]
 rw [hnum] at hR ⊢
 rw [hv] at hRES
 have hbd := z21 hv
 simp only at hbd hR hRES
 change st3 r = some (refC _ (a : Int) false r) at hR
 unfold refC at hR
 have hw1 : IntKind.i64.wrap ((b.length : Int) - a) = (b.length : Int) - a := z03 (by omega) (by omega)
 by_cases c1 : n < 1
 ·rw [if_pos (.inl c1)] at hRES
  have q1 : ((n : Int) < 1) = True := eq_true (by omega)
  simp [go_sem, hR, hto3, q1]
  refine z0l ?_
  simp [go_sem]
  exact fail hN3 hRES.symm
 have q1 : ((n : Int) < 1) = False := eq_false (by omega)
 by_cases c2 : 1048576 < n
 ·rw [if_pos (.inr (.inl c2))] at hRES
  have q2 : ((1048576 : Int) < n) = True := eq_true (by omega)
  simp [go_sem, hR, hto3, q1, q2]
  refine z0l ?_
  simp [go_sem]
  exact fail hN3 hRES.symm
 have q2 : ((1048576 : Int) < n) = False := eq_false (by omega)
 by_cases c3 : b.length - a < 4
 ·rw [if_pos (.inr (.inr (by omega)))] at hRES
  have q3 : ((b.length : Int) - a < 4) = True := eq_true (by omega)
  simp [go_sem, hR, hto3, q1, q2, hw1, q3]
  refine z0l ?_
  simp [go_sem]
  exact fail hN3 hRES.symm
 have q3 : ((b.length : Int) - a < 4) = False := eq_false (by omega)
 have hw2 : IntKind.u64.wrap (IntKind.i64.wrap ((b.length : Int) - a - 4)) = (b.length : Int) - a - 4 := by rw [z03 (by omega) (by omega), z0c _ (by omega) (by omega)]
 by_cases c4 : b.length - a < n + 4
 ·rw [if_pos (.inr (.inr c4))] at hRES
  have q4 : ((b.length : Int) - a - 4 < n) = True := eq_true (by omega)
  simp [go_sem, hR, hto3, q1, q2, hw1, q3, hw2, q4]
  refine z0l ?_
  simp [go_sem]
  exact fail hN3 hRES.symm
 have q4 : ((b.length : Int) - a - 4 < n) = False := eq_false (by omega)
 rw [if_neg (by omega)] at hRES
 obtain ⟨K, hK⟩ : ∃ K, K = a + 4 := ⟨_, rfl⟩
 have hwa4 : IntKind.i64.wrap ((a : Int) + 4) = (K : Int) := by rw [z03 (by omega) (by omega)]; omega
 have hwn : IntKind.i64.wrap (n : Int) = n := z03 (by omega) (by omega)
 have hwe : IntKind.i64.wrap ((K : Int) + n) = (K : Int) + n := z03 (by omega) (by omega)
 have p2 : (0 ≤ (K : Int) + n) = True := eq_true (by omega)
 have t2 : ((K : Int) + n).toNat = K + n := by omega
 have p3 : (K + n ≤ cap) = True := eq_true (by omega)
 have hM := hb3.mid (a := K) (n := n) (by omega)
 rw [← hK] at hRES
 have hbl : ((b.drop K).take n).length = n := by rw [List.length_take, List.length_drop]; omega
 obtain ⟨B', hB'⟩ : ∃ B', (if cap = K then base else base.map (·.add K)) = B' := ⟨_, rfl⟩
 rw [hB'] at hM
 generalize (b.drop K).take n = body at *
 subst hbl
 have hcrc := z6r body
 have hbsrc : ∀ j, j < 4 → ∃ blk off x, base = some ⟨blk, off, none⟩ ∧ (cellsOf (st3 blk))[off + (a + j)]? = some (.int .u8 (x : UInt8).toNat) ∧ ((b.drop a).take 4)[j]? = some x := by
  intro j hj
  obtain ⟨blk, off, hbs, hg'⟩ := z0h hb3.src (by omega)
  obtain ⟨x, hx⟩ : ∃ x, b[a + j]? = some x := ⟨_, List.getElem?_eq_getElem (by omega)⟩
  refine ⟨blk, off, x, hbs, ?_, ?_⟩
  ·rw [hg' (a + j) (by omega)]; simp [bytesV, hx]
  ·rw [List.getElem?_take, if_pos hj, List.getElem?_drop, hx]
 simp [go_sem, hR, hto3, q1, q2, hw1, q3, hw2, q4, hwa4, hwn, hwe, p2, t2, p3, hB']
 refine (of03_spec hM (by omega)).mono ?_
 rintro e st3' ⟨rfl, rfl⟩
 have hseg4 : ((b.drop a).take 4).length = 4 := by rw [List.length_take, List.length_drop]; omega
 generalize hseg : (b.drop a).take 4 = seg at *
 generalize hcc : crcM body = c at *
 simp [go_sem]
 refine ⟨fun E' st' => st' = st3' ∧ E' 0 = .slice base b.length cap ∧ E' 1 = Val.i at_ ∧ E' 4 = ptr to ∧ E' 6 = ptr r ∧ E' 7 = Val.u body.length ∧ E' 8 = Val.i K ∧ E' 9 = .slice B' body.length (cap - K) ∧ E' 10 = .int .u32 c ∧ ∃ i : Nat, i ≤ 4 ∧ E' 11 = Val.i i ∧ ∀ j, j < i → seg[j]? = (le4 c)[j]?,
  fun E _ => match E 11 with | .int _ i => 4 - i.toNat | _ => 0, ⟨st3', .rfl' _, rfl, by simp [go_sem], by simp [go_sem], by simp [go_sem], by simp [go_sem], by simp [go_sem], by simp [go_sem], by simp [go_sem], by simp [go_sem], 0, by omega, by simp [go_sem], by intro j hj; omega⟩, ?_⟩
 rintro E st4 ⟨rfl, e0, e1, e4, e6, e7, e8, e9, e10, i, hi, e11, heq⟩
 have w0 : IntKind.u8.wrap (c : Int) = ((UInt8.ofNat (c % 256)).toNat : Int) := by rw [z24 _ (by omega), IntKind.wrap_u8]; omega
 have f1 : IntKind.u8.wrap ((c : Int).fdiv 256) = ((UInt8.ofNat (c / 256 % 256)).toNat : Int) := by rw [z24 _ (by omega), IntKind.wrap_u8, Int.fdiv_eq_ediv_of_nonneg _ (by omega)]; omega
 have f2 : IntKind.u8.wrap ((c : Int).fdiv 65536) = ((UInt8.ofNat (c / 65536 % 256)).toNat : Int) := by rw [z24 _ (by omega), IntKind.wrap_u8, Int.fdiv_eq_ediv_of_nonneg _ (by omega)]; omega
 have f3 : IntKind.u8.wrap ((c : Int).fdiv 16777216) = ((UInt8.ofNat (c / 16777216 % 256)).toNat : Int) := by rw [z24 _ (by omega), IntKind.wrap_u8, Int.fdiv_eq_ediv_of_nonneg _ (by omega)]; omega
 by_cases hlt : i < 4
 ·obtain ⟨blk, off, x, rfl, hgx, hsx⟩ := hbsrc i hlt
  obtain ⟨y, hy⟩ : ∃ y, (le4 c)[i]? = some y := ⟨_, List.getElem?_eq_getElem (by rw [zbe]; exact hlt)⟩
  obtain ⟨L, hL⟩ : ∃ L, L = a + i := ⟨_, rfl⟩
  rw [← hL] at hgx
  have hwai : IntKind.i64.wrap ((a : Int) + i) = (L : Int) := by rw [z03 (by omega) (by omega)]; omega
  have hwi := wrS i (by omega)
  have hw8 : IntKind.i64.wrap (8 * (i : Int)) = 8 * (i : Int) := z03 (by omega) (by omega)
  have hw8u : IntKind.u64.wrap (8 * (i : Int)) = 8 * (i : Int) := z0c _ (by omega) (by omega)
  have hn8 : ¬ 8 * (i : Int) < 0 := by omega
  have hy8 : IntKind.u8.wrap ((c : Int).fdiv (2 ^ (8 * i))) = (y.toNat : Int) := by
   unfold le4 at hy
   rcases i with _ | _ | _ | _ | i
   ·injection hy with hy; subst hy; simpa using w0
   ·injection hy with hy; subst hy; simpa using f1
   ·injection hy with hy; subst hy; simpa using f2
   ·injection hy with hy; subst hy; simpa using f3
   ·omega
  have hlt' : ((i : Int) < 4) = True := eq_true (by omega)
  have hbl3 : L < b.length := by omega
  have ht8 : (8 * (i : Int)).toNat = 8 * i := by omega
  have hm8 : min (8 * i) 32 = 8 * i := by omega
  by_cases hxy : x = y
  ·have q : ((x.toNat : Int) = (y.toNat : Int)) = True := eq_true (by rw [hxy])
   simp [go_sem, e0, e1, e4, e6, e7, e8, e9, e10, e11, hlt', hlt, hR, hwai, hwi, hw8, hw8u, hn8, ht8, hm8, hy8, hgx, hbl3, q]
   exact ⟨_, .rfl' _, ⟨rfl, i + 1, by omega, by omega, fun j hj => by
    by_cases hji : j < i
    ·exact heq j hji
    ·have : j = i := by omega
     subst this
     rw [hsx, hy, hxy]⟩, by omega⟩
  ·have q : ((x.toNat : Int) = (y.toNat : Int)) = False := eq_false (by intro h; exact hxy (UInt8.toNat_inj.1 (by omega)))
   simp [go_sem, e0, e1, e4, e6, e7, e8, e9, e10, e11, hlt', hlt, hR, hwai, hwi, hw8, hw8u, hn8, ht8, hm8, hy8, hgx, hbl3, q, hto3]
   refine z0l ?_
   simp [go_sem, e4, upd_same]
   refine fail hN3 ?_
   rw [← hRES, if_pos]
   intro h
   rw [h, z9n hseg4, hsx] at hy
   injection hy with hy
   exact hxy hy
 ·have : i = 4 := by omega
  subst this
  have hse : seg = le4 c := by
   apply List.ext_getElem?
   intro j
   by_cases hj : j < 4
   ·exact heq j hj
   ·rw [List.getElem?_eq_none (by omega), List.getElem?_eq_none (by rw [zbe]; omega)]
  rw [hse, zda hcrc] at hRES
  simp at hRES
  simp [go_sem, e0, e1, e4, e6, e7, e8, e9, e10, e11, hwn, hwe]
  refine z2q g si40 hM.src (by omega) ?_
  intro b5 c5 st5 hV5 hF5 hN5
  have hto5 := hN5 _ _ hto3
  simp [go_sem, e0, e1, e4, e6, e7, e8, e9, e10, e11, hwn, hwe, hto5]
  refine z0l ?_
  simp [go_sem]
  rw [← hRES]
  simp [go_sem, e4, upd_same]
  have hN35 := hN3.trans hN5
  have hB := But1.put (o := .cells true [Val.i at_, .slice b5 body.length c5, .int .i64 ((K : Int) + body.length)] 3 (.own to 0 96)) (But1.refl to st5)
  exact ⟨hN35.put hto, _, rfl, hV5.apart hF5 hto3, hF5.old hN3⟩
theorem zfq {bv : Value} {b : Bs} {g0 : Tg} (g : Tg) {at_ : Int} (hb : Reg st g0 1 bv (bytesV b) b.length) (hg : Free g0) (hl : b.length < 2 ^ 40) :
  z00 Tryz.prog W0 192 #[bv, Val.i at_] st (zdm st g (z18 b at_)) := by
 obtain ⟨base, cap, rfl⟩ := hb.slice
 refine enter (args := [_, _]) Tryz.func192 rfl ?_
 by_cases h0 : at_ < 0
 ·have q0 := eq_true h0
  simp [Tryz.f192, go_sem, q0]
  refine ⟨New.refl _, ?_⟩
  unfold z18
  rw [if_pos (.inl h0)]
 have q0 := eq_false h0
 by_cases h1 : (b.length : Int) < at_
 ·have q1 := eq_true h1
  simp [Tryz.f192, go_sem, q0, q1]
  refine ⟨New.refl _, ?_⟩
  unfold z18
  rw [if_pos (.inr h1)]
 have q1 := eq_false h1
 by_cases h2 : at_ = (b.length : Int)
 ·have q2 := eq_true h2
  simp [Tryz.f192, go_sem, q0, q1, q2]
  refine ⟨New.refl _, ?_⟩
  unfold z18
  rw [if_neg (by omega), if_pos h2]
 have q2 := eq_false h2
 rw [zhh (by omega) (by omega)]
 simp [Tryz.f192, go_sem, q0, q1, q2]
 refine (zgn g hb hg hl).mono ?_
 rintro e st1 ⟨hN1, hR⟩
 cases ho : oneM b at_ with
 | none =>
  rw [ho] at hR
  simp only at hR
  subst hR
  simp [go_sem]
  unfold NewP
  intro t7 ht7
  refine ⟨.ty 0, ?_⟩
  simp [go_sem]
  exact ⟨hN1.add ht7, rfl⟩
 | some p =>
  obtain ⟨body, end_⟩ := p
  rw [ho] at hR
  obtain ⟨v, rfl, hV, hF⟩ := hR
  obtain ⟨vb, vc, rfl⟩ := hV.slice
  simp [go_sem]
  unfold NewP
  intro t7 ht7
  refine ⟨.own t7 0 97, ?_⟩
  simp [go_sem]
  refine draw [0, 2, 1, 4, 3, 5, 6] (by kernel_rfl) ?_
  simp [go_sem, upd_same]
  exact ⟨hN1.add ht7, _, rfl, hV.new' ((New.refl _).add ht7)⟩
end
end Go.Proofs.YtahgfnbkkfpcnaaGreat
