/- The law WalOrder, walked. -/
import Derived.Test.YtadgciaclhjjkaaGreatC45
import Derived.Test.YtadgciaclhjjkaaGreatC47
set_option linter.unusedVariables false
set_option linter.unusedSimpArgs false
set_option maxRecDepth 100000
set_option maxHeartbeats 4000000
namespace Go.Proofs.YtadgciaclhjjkaaGreat
open Go.RowKit (Below)
theorem RcsAt.cells {st : Heap} {cs : List Value} {rs : List RcD} (h : RcsAt st cs rs) {i : Nat} {r : RcD} (hi : rs[i]? = some r) : i * 18 + 18 ≤ cs.length ∧ cs[i * 18]? = some (Val.i r.seq) ∧ cs[i * 18 + 1]? = some (Val.i r.kind) ∧ cs[i * 18 + 3]? = some (Val.i r.row.at_) := by
  have h1 := h.1
  have hlt := (List.getElem?_eq_some_iff.1 hi).1
  obtain ⟨lb, hb, hc, kb, kc, kl, lc, hl, ll, rest, he, hr⟩ := (h.2 i r hi).parts
  have hle : i * 18 + 18 ≤ cs.length := by
    have : (i + 1) * 18 ≤ rs.length * 18 := Nat.mul_le_mul_right _ hlt
    omega
  have g : ∀ j, j < 18 → cs[i * 18 + j]? = ((cs.drop (i * 18)).take 18)[j]? := fun j hj => by rw [List.getElem?_take, if_pos hj, List.getElem?_drop]
  refine ⟨hle, ?_, ?_, ?_⟩
  · have := g 0 (by omega); rw [Nat.add_zero] at this; rw [this, he]; rfl
  · rw [g 1 (by omega), he]; rfl
  · rw [g 3 (by omega), he]; rfl
/-- The records that WalOrder writes. -/
def OrdR (l : List RcD) : Prop := ∀ (i : Nat) r, l[i]? = some r → ∃ ls, GoodL ls ∧ r = lawR ((i * i : Nat) : Int) i ls
theorem OrdR.snoc {l : List RcD} (h : OrdR l) {ls : List Lab} (hG : GoodL ls) : OrdR (l ++ [lawR ((l.length * l.length : Nat) : Int) l.length ls]) := fun i r hi => by
  by_cases hlt : i < l.length
  · rw [List.getElem?_append_left hlt] at hi
    exact h i r hi
  · have hi2 : i = l.length := by
      have := (List.getElem?_eq_some_iff.1 hi).1
      simp at this
      omega
    subst hi2
    simp at hi
    exact ⟨ls, hG, hi.symm⟩
theorem OrdR.plain {l : List RcD} (h : OrdR l) : l.map plainR = l := by
  have h1 : ∀ r ∈ l, plainR r = id r := fun r hr => by
    obtain ⟨i, hi⟩ := List.mem_iff_getElem?.1 hr
    obtain ⟨ls, _, rfl⟩ := h i r hi
    exact lawR_plain
  rw [List.map_congr_left h1, List.map_id]
theorem of_freeF {f : Nat} : ∀ g, Free g → Out f g := fun g hg x r => hg f x r
theorem out_tyF {f n : Nat} : Out f (.ty n) := by intro x r; simp
theorem encL_law {rs : List RcD} (h : ∀ r ∈ rs, RcGood r ∧ (recB r).length ≤ 80) : (encL rs).length ≤ 94 * rs.length := by
  induction rs with
  | nil => simp [encL]
  | cons r rs ih =>
    have h1 := h r (by simp)
    have h2 := recF_len h1.1
    have h3 := ih fun x hx => h x (by simp [hx])
    have e : encL (r :: rs) = recF r ++ encL rs := rfl
    rw [e, List.length_append, List.length_cons]
    omega
theorem LogAt.last {lp f : Nat} {L : LogD} {W0 : World} {st : Heap} (h : LogAt st lp f L) : ICalls Tryz.prog W0 35 #[ptr lp] st fun e st' => e = .returned (Val.i L.last) ∧ st' = st := by
  unfold LogAt at h
  refine enter (args := [_]) Tryz.func35 rfl ?_
  simp [Tryz.f35, go_sem, h]
def OrdI (s : Heap) (f lp m : Nat) (x y : Value) : Prop := ∃ (i : Nat) (rss : List (List RcD)) (rs : List RcD), i ≤ m ∧ x = Val.i i ∧ y = Val.i rss.length ∧ rss.length ≤ i ∧ LogS s f lp 3 rss rs (2 * i) ∧ OrdR (rss.flatten ++ rs) ∧ (rss.flatten ++ rs).length = i
section
variable {W0 : World} {st : Heap}
theorem walOrder_walk {n : Int} {tb : Option Addr} {tc : Nat} {turns : List Bool} (hT : Reg st (.ty 0) 1 (.slice tb turns.length tc) (turns.map .bool) turns.length) (htl : turns.length < 2 ^ 50) : ICalls Tryz.prog W0 6 #[Val.i n, .slice tb turns.length tc] st fun e st' => e = .returned (.bool true) := by
  have awk : ∀ {st : Heap}, ICalls Tryz.prog W0 20 #[] st fun e st' => e = .returned (.bool true) := awake17_spec.mono fun e st' h => h.1
  refine enter (args := [_, _]) Tryz.func6 rfl ?_
  simp [Tryz.f6, go_sem]
  refine New_spec.mono ?_
  rintro e st1 ⟨f, rfl, hfn, hf1, hk1⟩
  have K1 : Keep Free st st1 := hk1.imp fun _ _ => trivial
  simp [go_sem]
  rw [new_calm 3] at hf1
  refine (open_new hf1 (by omega) (by omega)).mono ?_
  rintro e st2 ⟨hN2, lp, b2, n2, rfl, hlp, hL2⟩
  have K2 := K1.trans (hN2.to _)
  have hf2 := hf1.keep (hN2.to fun _ => True) (by simp)
  simp [go_sem]
  refine (ready_new Quiet.new hf2 hL2 (by omega) (by omega)).mono ?_
  rintro e st3 ⟨rfl, hS3, hk3⟩
  have K3 := K2.trans (hk3.imp of_freeL)
  simp [go_sem]
  refine (ready_again hS3).mono ?_
  rintro e st4 ⟨rfl, hS4, hk4⟩
  have K4 := K3.trans (hk4.imp of_freeL)
  simp [go_sem]
  refine (Place_spec (k := 25) (by omega) (by omega)).mono ?_
  rintro e st5 ⟨⟨m, hm, rfl⟩, rfl⟩
  simp [go_sem]
  refine ⟨fun E s => E 0 = Val.i m ∧ E 1 = .slice tb turns.length tc ∧ E 5 = ptr f ∧ E 6 = ptr lp ∧ Keep Free st s ∧ OrdI s f lp m (E 10) (E 9),
    fun E _ => match E 10 with | .int _ j => m - j.toNat | _ => 0, ⟨st5, .rfl' _, by simp [go_sem], by simp [go_sem], by simp [go_sem], by simp [go_sem], K4, 0, [], [], by omega, by simp [go_sem], by simp [go_sem], by simp, hS4, fun i r hi => by simp at hi, rfl⟩, ?_⟩
  rintro E s ⟨e0, e1, e5, e6, K, i, rss, rs, him, e10, e9, hri, hS, hO, hlen⟩
  have hm24 : m < 25 := by omega
  by_cases hlt : i < m
  · have q : ((i : Int) < m) = True := eq_true (by omega)
    have hwi : IntKind.i64.wrap ((i : Int) + 1) = (i : Int) + 1 := wrap_id (by omega) (by omega)
    have hwf : IntKind.i64.wrap ((rss.length : Int) + 1) = (rss.length : Int) + 1 := wrap_id (by omega) (by omega)
    have hii : i * i ≤ 24 * 24 := Nat.mul_le_mul (by omega) (by omega)
    obtain ⟨sq, hsq⟩ : ∃ sq : Int, (i : Int) * (i : Int) = sq := ⟨_, rfl⟩
    have hsqn : ((i * i : Nat) : Int) = sq := by rw [← hsq]; exact Int.natCast_mul i i
    have hwm : IntKind.i64.wrap sq = sq := wrap_id (by omega) (by omega)
    have hz1 : I64 sq := ⟨by omega, by omega⟩
    have hz2 : I64 (i : Int) := ⟨by omega, by omega⟩
    have hgood80 : ∀ {rss : List (List RcD)} {rs : List RcD}, OrdR (rss.flatten ++ rs) → (rss.flatten ++ rs).length = i → ∀ r ∈ rs, RcGood r ∧ (recB r).length ≤ 80 := fun {rss rs} hO hl r hr => by
      obtain ⟨k, hk⟩ := List.mem_iff_getElem?.1 (List.mem_append_right rss.flatten hr)
      have hkl := (List.getElem?_eq_some_iff.1 hk).1
      have hkk : k * k ≤ 24 * 24 := Nat.mul_le_mul (by omega) (by omega)
      obtain ⟨ls, hG, rfl⟩ := hO k r hk
      have y1 : I64 ((k * k : Nat) : Int) := ⟨by omega, by omega⟩
      have y2 : I64 (k : Int) := ⟨by omega, by omega⟩
      exact ⟨lawR_good y1 y2 hG, lawR_len y1 y2 hG⟩
    have hnx : ∀ {rss : List (List RcD)} {rs : List RcD} (r : RcD), OrdR (rss.flatten ++ rs) → (rss.flatten ++ rs).length = i → nextL rss rs r = (rss, rs ++ [r]) := fun {rss rs} r hO hl => by
      have h1 := encL_law (hgood80 hO hl)
      have h2 : rs.length ≤ i := by rw [← hl, List.length_append]; omega
      unfold nextL
      rw [if_neg (by omega)]
    have hOs : ∀ {rss : List (List RcD)} {rs : List RcD} {ls : List Lab}, OrdR (rss.flatten ++ rs) → (rss.flatten ++ rs).length = i → GoodL ls → OrdR (rss.flatten ++ (rs ++ [lawR sq i ls])) ∧ (rss.flatten ++ (rs ++ [lawR sq i ls])).length = i + 1 := fun {rss rs ls} hO hl hG => by
      have h1 := hO.snoc hG
      rw [hl, hsqn] at h1
      rw [← List.append_assoc]
      exact ⟨h1, by rw [List.length_append, hl]; rfl⟩
    by_cases hc : i < turns.length
    · have q2 : ((i : Int) < turns.length) = True := eq_true (by omega)
      obtain ⟨bk, off, rfl, hg⟩ := src_get (hT.keep K Free.ty).src (by omega)
      have hg1 := hg i (by omega)
      rw [List.getElem?_map, List.getElem?_eq_getElem hc] at hg1
      simp only [Option.map_some] at hg1
      clear hg
      cases hb : turns[i] with
      | true =>
        rw [hb] at hg1
        simp [go_sem, e0, e1, e5, e6, e9, e10, q, q2, hc, hg1, hlt]
        refine (LogS.turn hS (by omega) (by omega)).mono ?_
        rintro e s1 ⟨rfl, hS1, hk1⟩
        simp [go_sem, e0, e1, e5, e6, e9, e10, hwf, hsq, hwm]
        refine rec_spec.mono ?_
        rintro e s2 ⟨hN2, cs, ls, rfl, hR, hG⟩
        have hlen80 := lawR_len hz1 hz2 hG
        simp [go_sem]
        refine (LogS.append (hS1.new hN2) hR (lawR_good hz1 hz2 hG) (by omega) (by omega) (by omega)).mono ?_
        rintro e s3 ⟨rfl, hS3, hk3⟩
        simp [go_sem, e0, e1, e5, e6, e9, e10, hwi, hwf]
        have hO1 : OrdR ((rss ++ [rs]).flatten ++ []) := by simpa using hO
        have hl1 : ((rss ++ [rs]).flatten ++ []).length = i := by simpa using hlen
        rw [hnx _ hO1 hl1] at hS3
        obtain ⟨hO3, hl3⟩ := hOs hO1 hl1 hG
        exact ⟨_, .rfl' _, ⟨((K.trans (hk1.imp of_freeL)).trans (hN2.to _)).trans (hk3.imp of_freeL), i + 1, rss ++ [rs], [] ++ [lawR sq i ls], by omega, by simp, by simp, by simp; omega, by rw [show 2 * (i + 1) = 2 * i + 1 + 1 by omega]; exact hS3, hO3, hl3⟩, by omega⟩
      | false =>
        rw [hb] at hg1
        simp [go_sem, e0, e1, e5, e6, e9, e10, q, q2, hc, hg1, hlt, hsq, hwm]
        refine rec_spec.mono ?_
        rintro e s2 ⟨hN2, cs, ls, rfl, hR, hG⟩
        have hlen80 := lawR_len hz1 hz2 hG
        simp [go_sem]
        refine (LogS.append (hS.new hN2) hR (lawR_good hz1 hz2 hG) (by omega) (by omega) (by omega)).mono ?_
        rintro e s3 ⟨rfl, hS3, hk3⟩
        simp [go_sem, e0, e1, e5, e6, e9, e10, hwi, hwf]
        rw [hnx _ hO hlen] at hS3
        obtain ⟨hO3, hl3⟩ := hOs hO hlen hG
        exact ⟨_, .rfl' _, ⟨(K.trans (hN2.to _)).trans (hk3.imp of_freeL), i + 1, rss, rs ++ [lawR sq i ls], by omega, by simp, rfl, by omega, (hS3.more (by omega) (by omega) (by omega)), hO3, hl3⟩, by omega⟩
    · have q2 : ((i : Int) < turns.length) = False := eq_false (by omega)
      simp [go_sem, e0, e1, e5, e6, e9, e10, q, q2, hc, hlt, hsq, hwm]
      refine rec_spec.mono ?_
      rintro e s2 ⟨hN2, cs, ls, rfl, hR, hG⟩
      have hlen80 := lawR_len hz1 hz2 hG
      simp [go_sem]
      refine (LogS.append (hS.new hN2) hR (lawR_good hz1 hz2 hG) (by omega) (by omega) (by omega)).mono ?_
      rintro e s3 ⟨rfl, hS3, hk3⟩
      simp [go_sem, e0, e1, e5, e6, e9, e10, hwi, hwf]
      rw [hnx _ hO hlen] at hS3
      obtain ⟨hO3, hl3⟩ := hOs hO hlen hG
      exact ⟨_, .rfl' _, ⟨(K.trans (hN2.to _)).trans (hk3.imp of_freeL), i + 1, rss, rs ++ [lawR sq i ls], by omega, by simp, rfl, by omega, (hS3.more (by omega) (by omega) (by omega)), hO3, hl3⟩, by omega⟩
  · have hq : i = m := by omega
    subst hq
    have q : ((i : Int) < (i : Int)) = False := eq_false (by omega)
    obtain ⟨hin, ⟨c, hqu, hF⟩, en, hL⟩ := hS
    simp [go_sem, e0, e1, e5, e6, e9, e10]
    refine (open_calm hF hin Torn.nil (by simp)).mono ?_
    rintro e s1 ⟨hN1, lp1, v1, cs1, rfl, hlp1, hL1, hV1, hR1⟩
    have hL' := hL.new hN1
    have hF' := hF.keep (hN1.to fun _ => True) (by simp)
    rw [hlen] at hV1
    obtain ⟨b1, n1, rfl⟩ := hV1.slice
    have hw3 : IntKind.i64.wrap (3 + (rss.length : Int)) = 3 + (rss.length : Int) := wrap_id (by omega) (by omega)
    have hw4 : IntKind.i64.wrap ((rss.length : Int) + 1) = (rss.length : Int) + 1 := wrap_id (by omega) (by omega)
    simp [go_sem, e0, e1, e5, e6, e9, e10]
    refine hL1.last.mono ?_
    rintro e s2 ⟨rfl, rfl⟩
    simp [go_sem, e0, e1, e5, e6, e9, e10, hw3]
    refine hL'.last.mono ?_
    rintro e s3 ⟨rfl, rfl⟩
    simp [go_sem, e0, e1, e5, e6, e9, e10, hw3]
    have hnow : (calm 3 (filesL rss rs []) c).now.length = rss.length + 1 := by simp only [calm, logD_length, filesL_length]
    refine (ListG_spec hF' (by rw [hnow]; omega) (logD_names hin.lo (by rw [filesL_length]; have := hin.hi; omega))).mono ?_
    rintro e s4 ⟨bb, bc, ns, rfl, hnp, -, hnV, hF4, hk4⟩
    rw [hnow]
    have hR4 := (hR1.free (hk4.imp of_freeF))
    have hV4 := hV1.keep hk4 out_tyF
    have hpl : (rss.flatten ++ rs).map plainR = rss.flatten ++ rs := hO.plain
    rw [hpl] at hR4
    obtain ⟨l, hl⟩ : ∃ l, rss.flatten ++ rs = l := ⟨_, rfl⟩
    rw [hl] at hR4 hlen hO
    clear hin hR1 hV1 hL1 hF hF4 hF' hL hL' hpl
    simp [go_sem, e0, e1, e5, e6, e9, e10, hw4]
    refine ⟨fun E s => E 0 = Val.i i ∧ E 12 = .slice b1 i n1 ∧ s = s4 ∧ ∃ j : Nat, j ≤ i ∧ E 13 = Val.i j,
      fun E _ => match E 13 with | .int _ j => i - j.toNat | _ => 0, ⟨s4, .rfl' _, by simp [go_sem, e0], by simp [go_sem], rfl, 0, by omega, by simp [go_sem]⟩, ?_⟩
    clear e0 e1 e5 e6 e9 e10 E
    rintro E s ⟨e0, e12, rfl, j, hj, e13⟩
    by_cases hjl : j < i
    · have q3 : ((j : Int) < (i : Int)) = True := eq_true (by omega)
      have hwj : IntKind.i64.wrap ((j : Int) + 1) = (j : Int) + 1 := wrap_id (by omega) (by omega)
      obtain ⟨sq, hsq⟩ : ∃ sq : Int, (j : Int) * (j : Int) = sq := ⟨_, rfl⟩
      have hjj : j * j ≤ 24 * 24 := Nat.mul_le_mul (by omega) (by omega)
      have hsqn : ((j * j : Nat) : Int) = sq := by rw [← hsq]; exact Int.natCast_mul j j
      have hwm : IntKind.i64.wrap sq = sq := wrap_id (by omega) (by omega)
      obtain ⟨r, hr⟩ : ∃ r, l[j]? = some r := ⟨_, List.getElem?_eq_getElem (by omega)⟩
      obtain ⟨ls, hG, rfl⟩ := hO j r hr
      obtain ⟨c0, c1, c2, c3⟩ := hR4.cells hr
      obtain ⟨blk, off, rfl, hg⟩ := src_get hV4.src (by omega)
      have g0 := hg (j * 18) (by omega)
      have g1 := hg (j * 18 + 1) (by omega)
      have g3 := hg (j * 18 + 3) (by omega)
      rw [c1] at g0
      rw [c2] at g1
      rw [c3] at g3
      rw [hsqn] at g0
      simp only [lawR] at g0 g1 g3
      have g1' : (cellsOf (s blk))[off + j * 18 + 1]? = some (Val.i 1) := by rw [show off + j * 18 + 1 = off + (j * 18 + 1) by omega]; exact g1
      have g3' : (cellsOf (s blk))[off + j * 18 + 2 + 1]? = some (Val.i j) := by rw [show off + j * 18 + 2 + 1 = off + (j * 18 + 3) by omega]; exact g3
      clear hg
      simp [go_sem, e0, e12, e13, q3, hjl, hwj, hsq, hwm, g0, g1', g3']
      exact ⟨_, .rfl' _, ⟨rfl, j + 1, by omega, rfl⟩, by omega⟩
    · have hq : j = i := by omega
      subst hq
      have q3 : ((j : Int) < (j : Int)) = False := eq_false (by omega)
      simp [go_sem, e0, e12, e13, q3]
      refine awk.mono ?_
      rintro e s5 rfl
      simp [go_sem]
end
end Go.Proofs.YtadgciaclhjjkaaGreat
