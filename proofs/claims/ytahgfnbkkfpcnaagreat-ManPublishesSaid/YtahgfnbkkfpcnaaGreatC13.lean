/- The document's own look at a matcher: the walk, whole. -/
import Derived.Test.YtahgfnbkkfpcnaaGreatC12
set_option linter.unusedVariables false
set_option linter.unusedSimpArgs false
set_option maxRecDepth 100000
set_option maxHeartbeats 4000000
namespace Go.Proofs.YtahgfnbkkfpcnaaGreat
open Go.RowKit (Below)
section
variable {W0 : World}
def LookR (st : Heap) (r : Nat) (R : Nat × Nat × Bool) (e : Ending) (st' : Heap) : Prop := e = .returned (.tuple #[]) ∧ st' r = some (sizeC R.1 R.2.1 R.2.2 r) ∧ But1 r st st'
def TxInv (st' : Heap) (r n : Nat) (l : List ByteArray) (RES : Nat × Nat × Bool) : Prop := ∃ b' bad', st' r = some (sizeC (n + 1) b' bad' r) ∧ b' ≤ 4096 ∧ (n + 1, z1i l (b', bad')) = RES
def KdInv (st' : Heap) (r deep : Nat) (l : List Mat) (RES : Nat × Nat × Bool) : Prop := ∃ n' b' bad', st' r = some (sizeC n' b' bad' r) ∧ (bad' = false → n' ≤ 64 ∧ b' ≤ 4096) ∧ z0w l deep n' b' bad' = RES
theorem z4j (m : Mat) {deep n b : Nat} (hn : n ≤ 64) (hb : b ≤ 4096) (h : (lookM m deep n b false).2.2 = false) : (lookM m deep n b false).1 ≤ 64 ∧ (lookM m deep n b false).2.1 ≤ 4096 := by
 obtain ⟨h1, h2⟩ := look_holds m deep n b hn hb
 rw [h] at h1
 obtain ⟨h3, h4, _⟩ := h2 h1
 exact ⟨h3, h4⟩
theorem zhj : ∀ (d : Nat) (m : Mat) {st : Heap} {cs : List Value} {r n b deep : Nat}, NiceM d m → MatAt st cs m → st r = some (sizeC n b false r) → n ≤ 64 → b ≤ 4096 → deep + d ≤ 20 →
  z00 Tryz.prog W0 141 #[ptr r, .agg cs.toArray, Val.i deep] st (LookR st r (lookM m deep n b false)) := by
 intro d
 induction d with
 | zero => intro m st cs r n b deep hN; unfold NiceM at hN; exact hN.elim
 | succ d ih =>
 intro m st cs r n b deep hN hm hr hn hb hdeep
 match m with
 | .mk op name value vals kids =>
 have hm0 := hm
 unfold MatAt at hm
 obtain ⟨vv, kv, ks, rfl, hv, hk, hkids⟩ := hm
 obtain ⟨vb, vc, rfl⟩ := hv.slice
 obtain ⟨kb, kc, rfl⟩ := hk.slice
 unfold NiceM at hN
 obtain ⟨z1, z2, z3, z4, z5, z6⟩ := hN
 generalize hRES : lookM (.mk op name value vals kids) deep n b false = RES
 unfold lookM at hRES
 have hwn := wrS n (by omega)
 refine enter (args := [_, _, _]) Tryz.func141 rfl ?_
 refine IW_cut (fun E' st' => ∃ tb, But1 r st st' ∧ tb ≠ r ∧ E' 0 = ptr r ∧ E' 2 = Val.i deep ∧ E' 4 = ptr tb ∧ st' tb = some (.cells true [Val.i op, .string name, .string value, .slice vb vals.length vc, .slice kb kids.length kc] 5 (.ty 0)) ∧ st' r = some (sizeC n b false r)) ?_ ?_
 ·simp [go_sem]
  unfold NewP
  intro tb htb
  refine ⟨.ty 0, ?_⟩
  have hne : tb ≠ r := Ne.symm (ne_of_new hr htb)
  have hne' := Ne.symm hne
  simp [go_sem, hne, hne', hr]
  exact ⟨(But1.refl _ _).add htb, tb, hne, rfl, upd_same _ _ _⟩
 rintro E1 st1 ⟨tb, hk1, hne, e0, e2, e4, ht, hr1⟩
 refine IW_cut (fun E' st' => But1 r st st' ∧ E' 0 = ptr r ∧ E' 2 = Val.i deep ∧ E' 4 = ptr tb ∧ st' tb = some (.cells true [Val.i op, .string name, .string value, .slice vb vals.length vc, .slice kb kids.length kc] 5 (.ty 0)) ∧ st' r = some (sizeC (n + 1) b false r)) ?_ ?_
 ·simp [go_sem, e0, e2, e4, hr1, sizeC, hwn, hne]
  exact ⟨hk1.put, ht⟩
 clear hr1 ht hk1 e0 e2 e4
 rintro E2 st2 ⟨hk2, e0, e2, e4, ht, hr2⟩
 refine z1a (fun E' st' => (¬ (false = true ∨ 64 < n + 1 ∨ 8 < deep)) ∧ But1 r st st' ∧ E' 0 = ptr r ∧ E' 2 = Val.i deep ∧ E' 4 = ptr tb ∧ st' tb = some (.cells true [Val.i op, .string name, .string value, .slice vb vals.length vc, .slice kb kids.length kc] 5 (.ty 0)) ∧ st' r = some (sizeC (n + 1) b false r)) ?_ ?_
 ·have hr2' := hr2
  unfold sizeC at hr2'
  by_cases h1 : 64 < n + 1
  ·have q1 : ((64 : Int) < ((n : Int) + 1)) = True := eq_true (by omega)
   rw [if_pos (.inr (.inl h1))] at hRES
   subst hRES
   simp [go_sem, e0, e2, e4, hr2', q1]
   exact ⟨rfl, upd_same _ _ _, hk2.put⟩
  have q1 : ((64 : Int) < ((n : Int) + 1)) = False := eq_false (by omega)
  by_cases h2 : 8 < deep
  ·have q2 : ((8 : Int) < deep) = True := eq_true (by omega)
   rw [if_pos (.inr (.inr h2))] at hRES
   subst hRES
   simp [go_sem, e0, e2, e4, hr2', q1, q2]
   exact ⟨rfl, upd_same _ _ _, hk2.put⟩
  have q2 : ((8 : Int) < deep) = False := eq_false (by omega)
  simp [go_sem, e0, e2, e4, hr2', q1, q2]
  exact ⟨⟨by omega, by omega⟩, hk2, ht, rfl⟩
 clear hr2 ht hk2 e0 e2 e4
 rintro E3 st3 ⟨hcond, hk3, e0, e2, e4, ht, hr3⟩
 rw [if_neg hcond] at hRES
 have O : op = 0 ∨ (op = 1 ∨ op = 2 ∨ op = 3) ∨ op = 4 ∨ (op = 5 ∨ op = 6 ∨ op = 7) ∨ ((op = 0) = False ∧ (op = 1) = False ∧ (op = 2) = False ∧ (op = 3) = False ∧ (op = 4) = False ∧ (op = 5) = False ∧ (op = 6) = False ∧ (op = 7) = False) := by
  by_cases h0 : op = 0; exact .inl h0
  by_cases h1 : op = 1 ∨ op = 2 ∨ op = 3; exact .inr (.inl h1)
  by_cases h4 : op = 4; exact .inr (.inr (.inl h4))
  by_cases h5 : op = 5 ∨ op = 6 ∨ op = 7; exact .inr (.inr (.inr (.inl h5)))
  exact .inr (.inr (.inr (.inr ⟨eq_false h0, eq_false (by omega), eq_false (by omega), eq_false (by omega), eq_false h4, eq_false (by omega), eq_false (by omega), eq_false (by omega)⟩)))
 have hr3' := hr3
 unfold sizeC at hr3'
 rcases O with o | o | o | o | ⟨o0, o1, o2, o3, o4, o5, o6, o7⟩
 ·subst o
  simp only [if_true] at hRES
  simp [go_sem, e0, e2, e4, ht]
  refine (z4y (vals := vals) false false false (.inl rfl)).mono ?_
  rintro e st4 ⟨rfl, hn4⟩
  have hr4 := hn4 _ _ hr3'
  subst hRES
  simp [go_sem, e0, e2, e4, hr4]
  exact ⟨rfl, by rw [upd_same]; rfl, (hk3.trans (hn4.but r)).put⟩
 ·have hRES1 : (n + 1, textS (textS (b, !bareM name value vals kids.length true false false || !labelM name.data.toList || decide (64 < value.size)) name.size) value.size) = RES := by
   rw [← hRES, if_neg (by omega), if_pos o]
  clear hRES
  rcases o with rfl | rfl | rfl
  all_goals
   simp [go_sem, e0, e2, e4, ht]
   refine (z4y (vals := vals) true false false (.inr (.inl rfl))).mono ?_
   rintro e st4 ⟨rfl, hn4⟩
   have hr4 := hn4 _ _ hr3'
   have ht4 := hn4 _ _ ht
   have hk4 := hk3.trans (hn4.but r)
   cases hB : bareM name value vals kids.length true false false
   ·rw [hB] at hRES1
    simp only [Bool.not_false, Bool.true_or] at hRES1
    simp [go_sem, e0, e2, e4, hr4, ht4, hne]
    refine (z1r (n := n + 1) (b := b) (bad := true) (by rw [upd_same]; rfl) hb (by omega)).mono ?_
    rintro e st5 ⟨rfl, hr5, hk5⟩
    have ht5 := hk5 _ _ hne (by rw [upd_ne _ _ hne]; exact ht4)
    simp [go_sem, e0, e2, e4, ht5]
    refine (z1r hr5 (z2e hb) (by omega)).mono ?_
    rintro e st6 ⟨rfl, hr6, hk6⟩
    simp [go_sem]
    subst hRES1
    exact ⟨rfl, hr6, (hk4.put.trans hk5).trans hk6⟩
   ·rw [hB] at hRES1
    simp only [Bool.not_true, Bool.false_or] at hRES1
    simp [go_sem, e0, e2, e4, hr4, ht4, hne]
    refine (zdb (by omega)).mono ?_
    rintro e st5 ⟨rfl, rfl⟩
    cases hL : labelM name.data.toList
    ·rw [hL] at hRES1
     simp only [Bool.not_false, Bool.true_or] at hRES1
     simp [go_sem, e0, e2, e4, hr4, ht4, hne]
     refine (z1r (n := n + 1) (b := b) (bad := true) (by rw [upd_same]; rfl) hb (by omega)).mono ?_
     rintro e st5 ⟨rfl, hr5, hk5⟩
     have ht5 := hk5 _ _ hne (by rw [upd_ne _ _ hne]; exact ht4)
     simp [go_sem, e0, e2, e4, ht5]
     refine (z1r hr5 (z2e hb) (by omega)).mono ?_
     rintro e st6 ⟨rfl, hr6, hk6⟩
     simp [go_sem]
     subst hRES1
     exact ⟨rfl, hr6, (hk4.put.trans hk5).trans hk6⟩
    ·rw [hL] at hRES1
     simp only [Bool.not_true, Bool.false_or] at hRES1
     by_cases hv64 : 64 < value.size
     ·have q : ((64 : Int) < value.size) = True := eq_true (by omega)
      rw [decide_eq_true hv64] at hRES1
      simp [go_sem, e0, e2, e4, hr4, ht4, hne, q]
      refine (z1r (n := n + 1) (b := b) (bad := true) (by rw [upd_same]; rfl) hb (by omega)).mono ?_
      rintro e st5 ⟨rfl, hr5, hk5⟩
      have ht5 := hk5 _ _ hne (by rw [upd_ne _ _ hne]; exact ht4)
      simp [go_sem, e0, e2, e4, ht5]
      refine (z1r hr5 (z2e hb) (by omega)).mono ?_
      rintro e st6 ⟨rfl, hr6, hk6⟩
      simp [go_sem]
      subst hRES1
      exact ⟨rfl, hr6, (hk4.put.trans hk5).trans hk6⟩
     ·have q : ((64 : Int) < value.size) = False := eq_false (by omega)
      rw [decide_eq_false hv64] at hRES1
      simp [go_sem, e0, e2, e4, hr4, ht4, hne, q]
      refine (z1r (n := n + 1) (b := b) (bad := false) (by rw [upd_same]; rfl) hb (by omega)).mono ?_
      rintro e st5 ⟨rfl, hr5, hk5⟩
      have ht5 := hk5 _ _ hne (by rw [upd_ne _ _ hne]; exact ht4)
      simp [go_sem, e0, e2, e4, ht5]
      refine (z1r hr5 (z2e hb) (by omega)).mono ?_
      rintro e st6 ⟨rfl, hr6, hk6⟩
      simp [go_sem]
      subst hRES1
      exact ⟨rfl, hr6, (hk4.put.trans hk5).trans hk6⟩
 ·have hRES1 : (n + 1, z1i vals (textS (b, !bareM name value vals kids.length false true false || !labelM name.data.toList || !valuesM vals) name.size)) = RES := by
   rw [← hRES, if_neg (by omega), if_neg (by omega), if_pos o]
  clear hRES
  subst o
  simp [go_sem, e0, e2, e4, ht]
  refine (z4y (vals := vals) false true false (.inr (.inr (.inl rfl)))).mono ?_
  rintro e st4 ⟨rfl, hn4⟩
  have hr4 := hn4 _ _ hr3'
  have ht4 := hn4 _ _ ht
  have hk4 := hk3.trans (hn4.but r)
  clear hn4
  cases hB : bareM name value vals kids.length false true false
  ·rw [hB] at hRES1
   simp only [Bool.not_false, Bool.true_or] at hRES1
   simp [go_sem, e0, e2, e4, hr4, ht4, hne]
   refine (z1r (n := n + 1) (b := b) (bad := true) (by rw [upd_same]; rfl) hb (by omega)).mono ?_
   rintro e st5 ⟨rfl, hr5, hk5⟩
   have ht5 := hk5 _ _ hne (by rw [upd_ne _ _ hne]; exact ht4)
   have hk5' := hk4.put.trans hk5
   have hb5 : (textS (b, true) name.size).1 ≤ 4096 := z2e hb
   clear hr4 ht4 hk4 hk5
   obtain ⟨⟨b5, bad5⟩, hT⟩ : ∃ x, textS (b, true) name.size = x := ⟨_, rfl⟩
   rw [hT] at hRES1 hr5 hb5
   simp only at hr5 hb5
   simp [go_sem, e0, e2, e4]
   refine ⟨fun E st' => But1 r st st' ∧ E 0 = ptr r ∧ E 4 = ptr tb ∧ st' tb = some (.cells true [Val.i 4, .string name, .string value, .slice vb vals.length vc, .slice kb kids.length kc] 5 (.ty 0)) ∧ ∃ i : Nat, E 6 = Val.i i ∧ i ≤ vals.length ∧ TxInv st' r n (vals.drop i) RES,
    fun E _ => match E 6 with | .int _ i => vals.length - i.toNat | _ => 0, ⟨st5, .rfl' _, hk5', by simp [go_sem, e0], by simp [go_sem, e4], ht5, 0, by simp [go_sem], by omega, b5, bad5, hr5, hb5, by simpa using hRES1⟩, ?_⟩
   clear hr5 ht5 hk5' hb5 hRES1 e0 e2 e4
   rintro E st6 ⟨hk6, e0, e4, ht6, i, e6, hi, b', bad', hr6, hb6, hrec⟩
   have hr6' := hr6
   unfold sizeC at hr6'
   by_cases hlt : i < vals.length
   ·have hlt' : ((i : Int) < vals.length) = True := eq_true (by omega)
    cases bad' with
    | true =>
     rw [z4r] at hrec
     subst hrec
     simp [go_sem, e0, e4, e6, ht6, hlt', hlt, hr6']
     exact ⟨rfl, hr6, hk6⟩
    | false =>
     obtain ⟨blk, off, rfl, hg⟩ := z0h (hv.but hk6 hr).src (by omega)
     have hgi := hg i (by omega)
     have hvi : vals[i]? = some vals[i] := List.getElem?_eq_getElem hlt
     have hgv : (vals.map Value.string)[i]? = some (.string vals[i]) := by simp [hvi]
     rw [hgv] at hgi
     have hd : vals.drop i = vals[i] :: vals.drop (i + 1) := List.drop_eq_getElem_cons hlt
     rw [hd] at hrec
     unfold z1i at hrec
     rw [if_neg (by simp)] at hrec
     have hwi := wrS i (by omega)
     have hvs := z4 _ (List.getElem_mem hlt)
     simp [go_sem, e0, e4, e6, ht6, hlt', hlt, hr6', hgi]
     refine (z1r hr6 hb6 (by omega)).mono ?_
     rintro e st7 ⟨rfl, hr7, hk7⟩
     simp [go_sem, e0, e4, e6, hwi]
     exact ⟨_, .rfl' _, ⟨hk6.trans hk7, hk7 _ _ hne ht6, i + 1, by omega, by omega, _, _, hr7, z2e hb6, hrec⟩, by omega⟩
   ·have hlt' : ((i : Int) < vals.length) = False := eq_false (by omega)
    have : i = vals.length := by omega
    subst this
    rw [List.drop_length] at hrec
    unfold z1i at hrec
    subst hrec
    simp [go_sem, e0, e4, e6, ht6]
    exact ⟨rfl, hr6, hk6⟩
  ·rw [hB] at hRES1
   simp only [Bool.not_true, Bool.false_or] at hRES1
   simp [go_sem, e0, e2, e4, hr4, ht4, hne]
   refine (zdb (by omega)).mono ?_
   rintro e st5 ⟨rfl, rfl⟩
   cases hL : labelM name.data.toList
   ·rw [hL] at hRES1
    simp only [Bool.not_false, Bool.true_or] at hRES1
    simp [go_sem, e0, e2, e4, hr4, ht4, hne]
    refine (z1r (n := n + 1) (b := b) (bad := true) (by rw [upd_same]; rfl) hb (by omega)).mono ?_
    rintro e st5 ⟨rfl, hr5, hk5⟩
    have ht5 := hk5 _ _ hne (by rw [upd_ne _ _ hne]; exact ht4)
    have hk5' := hk4.put.trans hk5
    have hb5 : (textS (b, true) name.size).1 ≤ 4096 := z2e hb
    clear hr4 ht4 hk4 hk5
    obtain ⟨⟨b5, bad5⟩, hT⟩ : ∃ x, textS (b, true) name.size = x := ⟨_, rfl⟩
    rw [hT] at hRES1 hr5 hb5
    simp only at hr5 hb5
    simp [go_sem, e0, e2, e4]
    refine ⟨fun E st' => But1 r st st' ∧ E 0 = ptr r ∧ E 4 = ptr tb ∧ st' tb = some (.cells true [Val.i 4, .string name, .string value, .slice vb vals.length vc, .slice kb kids.length kc] 5 (.ty 0)) ∧ ∃ i : Nat, E 6 = Val.i i ∧ i ≤ vals.length ∧ TxInv st' r n (vals.drop i) RES,
     fun E _ => match E 6 with | .int _ i => vals.length - i.toNat | _ => 0, ⟨st5, .rfl' _, hk5', by simp [go_sem, e0], by simp [go_sem, e4], ht5, 0, by simp [go_sem], by omega, b5, bad5, hr5, hb5, by simpa using hRES1⟩, ?_⟩
    clear hr5 ht5 hk5' hb5 hRES1 e0 e2 e4
    rintro E st6 ⟨hk6, e0, e4, ht6, i, e6, hi, b', bad', hr6, hb6, hrec⟩
    have hr6' := hr6
    unfold sizeC at hr6'
    by_cases hlt : i < vals.length
    ·have hlt' : ((i : Int) < vals.length) = True := eq_true (by omega)
     cases bad' with
     | true =>
      rw [z4r] at hrec
      subst hrec
      simp [go_sem, e0, e4, e6, ht6, hlt', hlt, hr6']
      exact ⟨rfl, hr6, hk6⟩
     | false =>
      obtain ⟨blk, off, rfl, hg⟩ := z0h (hv.but hk6 hr).src (by omega)
      have hgi := hg i (by omega)
      have hvi : vals[i]? = some vals[i] := List.getElem?_eq_getElem hlt
      have hgv : (vals.map Value.string)[i]? = some (.string vals[i]) := by simp [hvi]
      rw [hgv] at hgi
      have hd : vals.drop i = vals[i] :: vals.drop (i + 1) := List.drop_eq_getElem_cons hlt
      rw [hd] at hrec
      unfold z1i at hrec
      rw [if_neg (by simp)] at hrec
      have hwi := wrS i (by omega)
      have hvs := z4 _ (List.getElem_mem hlt)
      simp [go_sem, e0, e4, e6, ht6, hlt', hlt, hr6', hgi]
      refine (z1r hr6 hb6 (by omega)).mono ?_
      rintro e st7 ⟨rfl, hr7, hk7⟩
      simp [go_sem, e0, e4, e6, hwi]
      exact ⟨_, .rfl' _, ⟨hk6.trans hk7, hk7 _ _ hne ht6, i + 1, by omega, by omega, _, _, hr7, z2e hb6, hrec⟩, by omega⟩
    ·have hlt' : ((i : Int) < vals.length) = False := eq_false (by omega)
     have : i = vals.length := by omega
     subst this
     rw [List.drop_length] at hrec
     unfold z1i at hrec
     subst hrec
     simp [go_sem, e0, e4, e6, ht6]
     exact ⟨rfl, hr6, hk6⟩
   ·rw [hL] at hRES1
    simp only [Bool.not_true, Bool.false_or] at hRES1
    simp [go_sem, e0, e2, e4, hr4, ht4, hne]
    refine (zgr (hv.but hk4 hr)).mono ?_
    rintro e st5 ⟨rfl, rfl⟩
    cases hV : valuesM vals
    ·rw [hV] at hRES1
     simp only [Bool.not_false] at hRES1
     simp [go_sem, e0, e2, e4, hr4, ht4, hne]
     refine (z1r (n := n + 1) (b := b) (bad := true) (by rw [upd_same]; rfl) hb (by omega)).mono ?_
     rintro e st5 ⟨rfl, hr5, hk5⟩
     have ht5 := hk5 _ _ hne (by rw [upd_ne _ _ hne]; exact ht4)
     have hk5' := hk4.put.trans hk5
     have hb5 : (textS (b, true) name.size).1 ≤ 4096 := z2e hb
     clear hr4 ht4 hk4 hk5
     obtain ⟨⟨b5, bad5⟩, hT⟩ : ∃ x, textS (b, true) name.size = x := ⟨_, rfl⟩
     rw [hT] at hRES1 hr5 hb5
     simp only at hr5 hb5
     simp [go_sem, e0, e2, e4]
     refine ⟨fun E st' => But1 r st st' ∧ E 0 = ptr r ∧ E 4 = ptr tb ∧ st' tb = some (.cells true [Val.i 4, .string name, .string value, .slice vb vals.length vc, .slice kb kids.length kc] 5 (.ty 0)) ∧ ∃ i : Nat, E 6 = Val.i i ∧ i ≤ vals.length ∧ TxInv st' r n (vals.drop i) RES,
      fun E _ => match E 6 with | .int _ i => vals.length - i.toNat | _ => 0, ⟨st5, .rfl' _, hk5', by simp [go_sem, e0], by simp [go_sem, e4], ht5, 0, by simp [go_sem], by omega, b5, bad5, hr5, hb5, by simpa using hRES1⟩, ?_⟩
     clear hr5 ht5 hk5' hb5 hRES1 e0 e2 e4
     rintro E st6 ⟨hk6, e0, e4, ht6, i, e6, hi, b', bad', hr6, hb6, hrec⟩
     have hr6' := hr6
     unfold sizeC at hr6'
     by_cases hlt : i < vals.length
     ·have hlt' : ((i : Int) < vals.length) = True := eq_true (by omega)
      cases bad' with
      | true =>
       rw [z4r] at hrec
       subst hrec
       simp [go_sem, e0, e4, e6, ht6, hlt', hlt, hr6']
       exact ⟨rfl, hr6, hk6⟩
      | false =>
       obtain ⟨blk, off, rfl, hg⟩ := z0h (hv.but hk6 hr).src (by omega)
       have hgi := hg i (by omega)
       have hvi : vals[i]? = some vals[i] := List.getElem?_eq_getElem hlt
       have hgv : (vals.map Value.string)[i]? = some (.string vals[i]) := by simp [hvi]
       rw [hgv] at hgi
       have hd : vals.drop i = vals[i] :: vals.drop (i + 1) := List.drop_eq_getElem_cons hlt
       rw [hd] at hrec
       unfold z1i at hrec
       rw [if_neg (by simp)] at hrec
       have hwi := wrS i (by omega)
       have hvs := z4 _ (List.getElem_mem hlt)
       simp [go_sem, e0, e4, e6, ht6, hlt', hlt, hr6', hgi]
       refine (z1r hr6 hb6 (by omega)).mono ?_
       rintro e st7 ⟨rfl, hr7, hk7⟩
       simp [go_sem, e0, e4, e6, hwi]
       exact ⟨_, .rfl' _, ⟨hk6.trans hk7, hk7 _ _ hne ht6, i + 1, by omega, by omega, _, _, hr7, z2e hb6, hrec⟩, by omega⟩
     ·have hlt' : ((i : Int) < vals.length) = False := eq_false (by omega)
      have : i = vals.length := by omega
      subst this
      rw [List.drop_length] at hrec
      unfold z1i at hrec
      subst hrec
      simp [go_sem, e0, e4, e6, ht6]
      exact ⟨rfl, hr6, hk6⟩
    ·rw [hV] at hRES1
     simp only [Bool.not_true] at hRES1
     simp [go_sem, e0, e2, e4, hr4, ht4, hne]
     refine (z1r (n := n + 1) (b := b) (bad := false) (by rw [upd_same]; rfl) hb (by omega)).mono ?_
     rintro e st5 ⟨rfl, hr5, hk5⟩
     have ht5 := hk5 _ _ hne (by rw [upd_ne _ _ hne]; exact ht4)
     have hk5' := hk4.put.trans hk5
     have hb5 : (textS (b, false) name.size).1 ≤ 4096 := z2e hb
     clear hr4 ht4 hk4 hk5
     obtain ⟨⟨b5, bad5⟩, hT⟩ : ∃ x, textS (b, false) name.size = x := ⟨_, rfl⟩
     rw [hT] at hRES1 hr5 hb5
     simp only at hr5 hb5
     simp [go_sem, e0, e2, e4]
     refine ⟨fun E st' => But1 r st st' ∧ E 0 = ptr r ∧ E 4 = ptr tb ∧ st' tb = some (.cells true [Val.i 4, .string name, .string value, .slice vb vals.length vc, .slice kb kids.length kc] 5 (.ty 0)) ∧ ∃ i : Nat, E 6 = Val.i i ∧ i ≤ vals.length ∧ TxInv st' r n (vals.drop i) RES,
      fun E _ => match E 6 with | .int _ i => vals.length - i.toNat | _ => 0, ⟨st5, .rfl' _, hk5', by simp [go_sem, e0], by simp [go_sem, e4], ht5, 0, by simp [go_sem], by omega, b5, bad5, hr5, hb5, by simpa using hRES1⟩, ?_⟩
     clear hr5 ht5 hk5' hb5 hRES1 e0 e2 e4
     rintro E st6 ⟨hk6, e0, e4, ht6, i, e6, hi, b', bad', hr6, hb6, hrec⟩
     have hr6' := hr6
     unfold sizeC at hr6'
     by_cases hlt : i < vals.length
     ·have hlt' : ((i : Int) < vals.length) = True := eq_true (by omega)
      cases bad' with
      | true =>
       rw [z4r] at hrec
       subst hrec
       simp [go_sem, e0, e4, e6, ht6, hlt', hlt, hr6']
       exact ⟨rfl, hr6, hk6⟩
      | false =>
       obtain ⟨blk, off, rfl, hg⟩ := z0h (hv.but hk6 hr).src (by omega)
       have hgi := hg i (by omega)
       have hvi : vals[i]? = some vals[i] := List.getElem?_eq_getElem hlt
       have hgv : (vals.map Value.string)[i]? = some (.string vals[i]) := by simp [hvi]
       rw [hgv] at hgi
       have hd : vals.drop i = vals[i] :: vals.drop (i + 1) := List.drop_eq_getElem_cons hlt
       rw [hd] at hrec
       unfold z1i at hrec
       rw [if_neg (by simp)] at hrec
       have hwi := wrS i (by omega)
       have hvs := z4 _ (List.getElem_mem hlt)
       simp [go_sem, e0, e4, e6, ht6, hlt', hlt, hr6', hgi]
       refine (z1r hr6 hb6 (by omega)).mono ?_
       rintro e st7 ⟨rfl, hr7, hk7⟩
       simp [go_sem, e0, e4, e6, hwi]
       exact ⟨_, .rfl' _, ⟨hk6.trans hk7, hk7 _ _ hne ht6, i + 1, by omega, by omega, _, _, hr7, z2e hb6, hrec⟩, by omega⟩
     ·have hlt' : ((i : Int) < vals.length) = False := eq_false (by omega)
      have : i = vals.length := by omega
      subst this
      rw [List.drop_length] at hrec
      unfold z1i at hrec
      subst hrec
      simp [go_sem, e0, e4, e6, ht6]
      exact ⟨rfl, hr6, hk6⟩
 ·have hRES1 : z0w kids (deep + 1) (n + 1) b (!bareM name value vals kids.length false false true || (decide (op = 7) && !decide (kids.length = 1))) = RES := by
   rw [← hRES, if_neg (by omega), if_neg (by omega), if_neg (by omega), if_pos o]
  clear hRES
  rcases o with rfl | rfl | rfl
  ·simp [go_sem, e0, e2, e4, ht]
   refine (z4y (vals := vals) false false true (.inr (.inr (.inr rfl)))).mono ?_
   rintro e st4 ⟨rfl, hn4⟩
   have hr4 := hn4 _ _ hr3'
   have ht4 := hn4 _ _ ht
   have hk4 := hk3.trans (hn4.but r)
   clear hn4
   cases hB : bareM name value vals kids.length false false true
   ·rw [hB] at hRES1
    simp only [Bool.not_false, Bool.true_or] at hRES1
    simp [go_sem, e0, e2, e4, hr4, ht4, hne]
    obtain ⟨st5, hst5⟩ : ∃ s, upd st4 r (sizeC (n + 1) b true r) = s := ⟨_, rfl⟩
    have hr5 : st5 r = some (sizeC (n + 1) b true r) := by rw [← hst5]; exact upd_same _ _ _
    have ht5 : st5 tb = some (.cells true [Val.i 5, .string name, .string value, .slice vb vals.length vc, .slice kb kids.length kc] 5 (.ty 0)) := by rw [← hst5, upd_ne _ _ hne]; exact ht4
    have hk5 : But1 r st st5 := by rw [← hst5]; exact hk4.put
    have hge : true = false → n + 1 ≤ 64 ∧ b ≤ 4096 := fun _ => ⟨by omega, hb⟩
    refine ⟨fun E st' => But1 r st st' ∧ E 0 = ptr r ∧ E 2 = Val.i deep ∧ E 4 = ptr tb ∧ st' tb = some (.cells true [Val.i 5, .string name, .string value, .slice vb vals.length vc, .slice kb kids.length kc] 5 (.ty 0)) ∧ ∃ i : Nat, E 7 = Val.i i ∧ i ≤ kids.length ∧ KdInv st' r (deep + 1) (kids.drop i) RES,
     fun E _ => match E 7 with | .int _ i => kids.length - i.toNat | _ => 0, ⟨st5, by rw [← hst5]; exact .rfl' _, hk5, by simp [go_sem, e0], by simp [go_sem, e2], by simp [go_sem, e4], ht5, 0, by simp [go_sem], by omega, _, _, _, hr5, hge, by simpa using hRES1⟩, ?_⟩
    clear hr5 ht5 hk5 hge hr4 ht4 hk4 hst5 hRES1 e0 e2 e4
    rintro E st6 ⟨hk6, e0, e2, e4, ht6, i, e7, hi, n', b', bad', hr6, hge, hrec⟩
    have hr6' := hr6
    unfold sizeC at hr6'
    by_cases hlt : i < kids.length
    ·have hlt' : ((i : Int) < kids.length) = True := eq_true (by omega)
     have hki : kids[i]? = some kids[i] := List.getElem?_eq_getElem hlt
     have hd : kids.drop i = kids[i] :: kids.drop (i + 1) := List.drop_eq_getElem_cons hlt
     rw [hd] at hrec
     unfold z0w at hrec
     cases bad' with
     | true =>
      rw [if_pos rfl] at hrec
      subst hrec
      simp [go_sem, e0, e2, e4, e7, ht6, hlt', hlt, hr6']
      exact ⟨rfl, hr6, hk6⟩
     | false =>
      rw [if_neg (by simp)] at hrec
      obtain ⟨hn', hb'⟩ := hge rfl
      have hkr := hk.but hk6 hr
      obtain ⟨g5, hg5, hl5, base5, cap5, hv5', hc5, hreg5⟩ := hkr
      injection hv5' with q1 q2 q3; subst q1; subst q3
      rcases hreg5 with h0 | ⟨blk, off, rw5, ys5, m5, rfl, hs5, hp5, ho5⟩
      ·omega
      obtain ⟨hmi, hil⟩ := z04.get (z04.mono (fun _ _ _ _ h => h.but hk6 hr) _ _ hkids) hki
      have hcell : ((ys5.drop (off + i * 5)).take 5) = (ks.drop (i * 5)).take 5 := by
       obtain ⟨t, ht⟩ := hp5
       have a1 : i * 5 ≤ ks.length := by omega
       have a2 : 5 ≤ (ks.drop (i * 5)).length := by rw [List.length_drop]; omega
       rw [← List.drop_drop, ← ht, List.drop_append_of_le_length a1, List.take_append_of_le_length a2]
      have hlen5 : off + i * 5 + 5 ≤ ys5.length := by
       obtain ⟨t, ht⟩ := hp5
       have := congrArg List.length ht
       simp at this
       omega
      have hwi := wrS i (by omega)
      have hwd := wrS deep (by omega)
      simp [go_sem, e0, e2, e4, e7, ht6, hlt', hlt, hr6', hs5, hlen5, hcell, hwd]
      have hle := z4j kids[i] (deep := deep + 1) hn' hb'
      refine (ih kids[i] (deep := deep + 1) (z6 _ (List.getElem_mem hlt)) hmi hr6 hn' hb' (by omega)).mono ?_
      rintro e st7 ⟨rfl, hr7, hk7⟩
      simp [go_sem, e0, e2, e4, e7, hwi]
      exact ⟨_, .rfl' _, ⟨hk6.trans hk7, hk7 _ _ hne ht6, i + 1, by omega, by omega, _, _, _, hr7, hle, hrec⟩, by omega⟩
    ·have hlt' : ((i : Int) < kids.length) = False := eq_false (by omega)
     have : i = kids.length := by omega
     subst this
     rw [List.drop_length] at hrec
     unfold z0w at hrec
     subst hrec
     simp [go_sem, e0, e2, e4, e7, ht6]
     exact ⟨rfl, hr6, hk6⟩
   ·rw [hB] at hRES1
    simp only [Bool.not_true, Bool.false_or] at hRES1
    have hz : (decide ((5 : Int) = 7) && !decide (kids.length = 1)) = false := by simp
    rw [hz] at hRES1
    simp [go_sem, e0, e2, e4, hr4, ht4, hne]
    obtain ⟨st5, hst5⟩ : ∃ s, upd st4 r (sizeC (n + 1) b false r) = s := ⟨_, rfl⟩
    have hr5 : st5 r = some (sizeC (n + 1) b false r) := by rw [← hst5]; exact upd_same _ _ _
    have ht5 : st5 tb = some (.cells true [Val.i 5, .string name, .string value, .slice vb vals.length vc, .slice kb kids.length kc] 5 (.ty 0)) := by rw [← hst5, upd_ne _ _ hne]; exact ht4
    have hk5 : But1 r st st5 := by rw [← hst5]; exact hk4.put
    have hge : false = false → n + 1 ≤ 64 ∧ b ≤ 4096 := fun _ => ⟨by omega, hb⟩
    refine ⟨fun E st' => But1 r st st' ∧ E 0 = ptr r ∧ E 2 = Val.i deep ∧ E 4 = ptr tb ∧ st' tb = some (.cells true [Val.i 5, .string name, .string value, .slice vb vals.length vc, .slice kb kids.length kc] 5 (.ty 0)) ∧ ∃ i : Nat, E 7 = Val.i i ∧ i ≤ kids.length ∧ KdInv st' r (deep + 1) (kids.drop i) RES,
     fun E _ => match E 7 with | .int _ i => kids.length - i.toNat | _ => 0, ⟨st5, by rw [← hst5]; exact .rfl' _, hk5, by simp [go_sem, e0], by simp [go_sem, e2], by simp [go_sem, e4], ht5, 0, by simp [go_sem], by omega, _, _, _, hr5, hge, by simpa using hRES1⟩, ?_⟩
    clear hr5 ht5 hk5 hge hr4 ht4 hk4 hst5 hRES1 e0 e2 e4
    rintro E st6 ⟨hk6, e0, e2, e4, ht6, i, e7, hi, n', b', bad', hr6, hge, hrec⟩
    have hr6' := hr6
    unfold sizeC at hr6'
    by_cases hlt : i < kids.length
    ·have hlt' : ((i : Int) < kids.length) = True := eq_true (by omega)
     have hki : kids[i]? = some kids[i] := List.getElem?_eq_getElem hlt
     have hd : kids.drop i = kids[i] :: kids.drop (i + 1) := List.drop_eq_getElem_cons hlt
     rw [hd] at hrec
     unfold z0w at hrec
     cases bad' with
     | true =>
      rw [if_pos rfl] at hrec
      subst hrec
      simp [go_sem, e0, e2, e4, e7, ht6, hlt', hlt, hr6']
      exact ⟨rfl, hr6, hk6⟩
     | false =>
      rw [if_neg (by simp)] at hrec
      obtain ⟨hn', hb'⟩ := hge rfl
      have hkr := hk.but hk6 hr
      obtain ⟨g5, hg5, hl5, base5, cap5, hv5', hc5, hreg5⟩ := hkr
      injection hv5' with q1 q2 q3; subst q1; subst q3
      rcases hreg5 with h0 | ⟨blk, off, rw5, ys5, m5, rfl, hs5, hp5, ho5⟩
      ·omega
      obtain ⟨hmi, hil⟩ := z04.get (z04.mono (fun _ _ _ _ h => h.but hk6 hr) _ _ hkids) hki
      have hcell : ((ys5.drop (off + i * 5)).take 5) = (ks.drop (i * 5)).take 5 := by
       obtain ⟨t, ht⟩ := hp5
       have a1 : i * 5 ≤ ks.length := by omega
       have a2 : 5 ≤ (ks.drop (i * 5)).length := by rw [List.length_drop]; omega
       rw [← List.drop_drop, ← ht, List.drop_append_of_le_length a1, List.take_append_of_le_length a2]
      have hlen5 : off + i * 5 + 5 ≤ ys5.length := by
       obtain ⟨t, ht⟩ := hp5
       have := congrArg List.length ht
       simp at this
       omega
      have hwi := wrS i (by omega)
      have hwd := wrS deep (by omega)
      simp [go_sem, e0, e2, e4, e7, ht6, hlt', hlt, hr6', hs5, hlen5, hcell, hwd]
      have hle := z4j kids[i] (deep := deep + 1) hn' hb'
      refine (ih kids[i] (deep := deep + 1) (z6 _ (List.getElem_mem hlt)) hmi hr6 hn' hb' (by omega)).mono ?_
      rintro e st7 ⟨rfl, hr7, hk7⟩
      simp [go_sem, e0, e2, e4, e7, hwi]
      exact ⟨_, .rfl' _, ⟨hk6.trans hk7, hk7 _ _ hne ht6, i + 1, by omega, by omega, _, _, _, hr7, hle, hrec⟩, by omega⟩
    ·have hlt' : ((i : Int) < kids.length) = False := eq_false (by omega)
     have : i = kids.length := by omega
     subst this
     rw [List.drop_length] at hrec
     unfold z0w at hrec
     subst hrec
     simp [go_sem, e0, e2, e4, e7, ht6]
     exact ⟨rfl, hr6, hk6⟩
  ·simp [go_sem, e0, e2, e4, ht]
   refine (z4y (vals := vals) false false true (.inr (.inr (.inr rfl)))).mono ?_
   rintro e st4 ⟨rfl, hn4⟩
   have hr4 := hn4 _ _ hr3'
   have ht4 := hn4 _ _ ht
   have hk4 := hk3.trans (hn4.but r)
   clear hn4
   cases hB : bareM name value vals kids.length false false true
   ·rw [hB] at hRES1
    simp only [Bool.not_false, Bool.true_or] at hRES1
    simp [go_sem, e0, e2, e4, hr4, ht4, hne]
    obtain ⟨st5, hst5⟩ : ∃ s, upd st4 r (sizeC (n + 1) b true r) = s := ⟨_, rfl⟩
    have hr5 : st5 r = some (sizeC (n + 1) b true r) := by rw [← hst5]; exact upd_same _ _ _
    have ht5 : st5 tb = some (.cells true [Val.i 6, .string name, .string value, .slice vb vals.length vc, .slice kb kids.length kc] 5 (.ty 0)) := by rw [← hst5, upd_ne _ _ hne]; exact ht4
    have hk5 : But1 r st st5 := by rw [← hst5]; exact hk4.put
    have hge : true = false → n + 1 ≤ 64 ∧ b ≤ 4096 := fun _ => ⟨by omega, hb⟩
    refine ⟨fun E st' => But1 r st st' ∧ E 0 = ptr r ∧ E 2 = Val.i deep ∧ E 4 = ptr tb ∧ st' tb = some (.cells true [Val.i 6, .string name, .string value, .slice vb vals.length vc, .slice kb kids.length kc] 5 (.ty 0)) ∧ ∃ i : Nat, E 7 = Val.i i ∧ i ≤ kids.length ∧ KdInv st' r (deep + 1) (kids.drop i) RES,
     fun E _ => match E 7 with | .int _ i => kids.length - i.toNat | _ => 0, ⟨st5, by rw [← hst5]; exact .rfl' _, hk5, by simp [go_sem, e0], by simp [go_sem, e2], by simp [go_sem, e4], ht5, 0, by simp [go_sem], by omega, _, _, _, hr5, hge, by simpa using hRES1⟩, ?_⟩
    clear hr5 ht5 hk5 hge hr4 ht4 hk4 hst5 hRES1 e0 e2 e4
    rintro E st6 ⟨hk6, e0, e2, e4, ht6, i, e7, hi, n', b', bad', hr6, hge, hrec⟩
    have hr6' := hr6
    unfold sizeC at hr6'
    by_cases hlt : i < kids.length
    ·have hlt' : ((i : Int) < kids.length) = True := eq_true (by omega)
     have hki : kids[i]? = some kids[i] := List.getElem?_eq_getElem hlt
     have hd : kids.drop i = kids[i] :: kids.drop (i + 1) := List.drop_eq_getElem_cons hlt
     rw [hd] at hrec
     unfold z0w at hrec
     cases bad' with
     | true =>
      rw [if_pos rfl] at hrec
      subst hrec
      simp [go_sem, e0, e2, e4, e7, ht6, hlt', hlt, hr6']
      exact ⟨rfl, hr6, hk6⟩
     | false =>
      rw [if_neg (by simp)] at hrec
      obtain ⟨hn', hb'⟩ := hge rfl
      have hkr := hk.but hk6 hr
      obtain ⟨g5, hg5, hl5, base5, cap5, hv5', hc5, hreg5⟩ := hkr
      injection hv5' with q1 q2 q3; subst q1; subst q3
      rcases hreg5 with h0 | ⟨blk, off, rw5, ys5, m5, rfl, hs5, hp5, ho5⟩
      ·omega
      obtain ⟨hmi, hil⟩ := z04.get (z04.mono (fun _ _ _ _ h => h.but hk6 hr) _ _ hkids) hki
      have hcell : ((ys5.drop (off + i * 5)).take 5) = (ks.drop (i * 5)).take 5 := by
       obtain ⟨t, ht⟩ := hp5
       have a1 : i * 5 ≤ ks.length := by omega
       have a2 : 5 ≤ (ks.drop (i * 5)).length := by rw [List.length_drop]; omega
       rw [← List.drop_drop, ← ht, List.drop_append_of_le_length a1, List.take_append_of_le_length a2]
      have hlen5 : off + i * 5 + 5 ≤ ys5.length := by
       obtain ⟨t, ht⟩ := hp5
       have := congrArg List.length ht
       simp at this
       omega
      have hwi := wrS i (by omega)
      have hwd := wrS deep (by omega)
      simp [go_sem, e0, e2, e4, e7, ht6, hlt', hlt, hr6', hs5, hlen5, hcell, hwd]
      have hle := z4j kids[i] (deep := deep + 1) hn' hb'
      refine (ih kids[i] (deep := deep + 1) (z6 _ (List.getElem_mem hlt)) hmi hr6 hn' hb' (by omega)).mono ?_
      rintro e st7 ⟨rfl, hr7, hk7⟩
      simp [go_sem, e0, e2, e4, e7, hwi]
      exact ⟨_, .rfl' _, ⟨hk6.trans hk7, hk7 _ _ hne ht6, i + 1, by omega, by omega, _, _, _, hr7, hle, hrec⟩, by omega⟩
    ·have hlt' : ((i : Int) < kids.length) = False := eq_false (by omega)
     have : i = kids.length := by omega
     subst this
     rw [List.drop_length] at hrec
     unfold z0w at hrec
     subst hrec
     simp [go_sem, e0, e2, e4, e7, ht6]
     exact ⟨rfl, hr6, hk6⟩
   ·rw [hB] at hRES1
    simp only [Bool.not_true, Bool.false_or] at hRES1
    have hz : (decide ((6 : Int) = 7) && !decide (kids.length = 1)) = false := by simp
    rw [hz] at hRES1
    simp [go_sem, e0, e2, e4, hr4, ht4, hne]
    obtain ⟨st5, hst5⟩ : ∃ s, upd st4 r (sizeC (n + 1) b false r) = s := ⟨_, rfl⟩
    have hr5 : st5 r = some (sizeC (n + 1) b false r) := by rw [← hst5]; exact upd_same _ _ _
    have ht5 : st5 tb = some (.cells true [Val.i 6, .string name, .string value, .slice vb vals.length vc, .slice kb kids.length kc] 5 (.ty 0)) := by rw [← hst5, upd_ne _ _ hne]; exact ht4
    have hk5 : But1 r st st5 := by rw [← hst5]; exact hk4.put
    have hge : false = false → n + 1 ≤ 64 ∧ b ≤ 4096 := fun _ => ⟨by omega, hb⟩
    refine ⟨fun E st' => But1 r st st' ∧ E 0 = ptr r ∧ E 2 = Val.i deep ∧ E 4 = ptr tb ∧ st' tb = some (.cells true [Val.i 6, .string name, .string value, .slice vb vals.length vc, .slice kb kids.length kc] 5 (.ty 0)) ∧ ∃ i : Nat, E 7 = Val.i i ∧ i ≤ kids.length ∧ KdInv st' r (deep + 1) (kids.drop i) RES,
     fun E _ => match E 7 with | .int _ i => kids.length - i.toNat | _ => 0, ⟨st5, by rw [← hst5]; exact .rfl' _, hk5, by simp [go_sem, e0], by simp [go_sem, e2], by simp [go_sem, e4], ht5, 0, by simp [go_sem], by omega, _, _, _, hr5, hge, by simpa using hRES1⟩, ?_⟩
    clear hr5 ht5 hk5 hge hr4 ht4 hk4 hst5 hRES1 e0 e2 e4
    rintro E st6 ⟨hk6, e0, e2, e4, ht6, i, e7, hi, n', b', bad', hr6, hge, hrec⟩
    have hr6' := hr6
    unfold sizeC at hr6'
    by_cases hlt : i < kids.length
    ·have hlt' : ((i : Int) < kids.length) = True := eq_true (by omega)
     have hki : kids[i]? = some kids[i] := List.getElem?_eq_getElem hlt
     have hd : kids.drop i = kids[i] :: kids.drop (i + 1) := List.drop_eq_getElem_cons hlt
     rw [hd] at hrec
     unfold z0w at hrec
     cases bad' with
     | true =>
      rw [if_pos rfl] at hrec
      subst hrec
      simp [go_sem, e0, e2, e4, e7, ht6, hlt', hlt, hr6']
      exact ⟨rfl, hr6, hk6⟩
     | false =>
      rw [if_neg (by simp)] at hrec
      obtain ⟨hn', hb'⟩ := hge rfl
      have hkr := hk.but hk6 hr
      obtain ⟨g5, hg5, hl5, base5, cap5, hv5', hc5, hreg5⟩ := hkr
      injection hv5' with q1 q2 q3; subst q1; subst q3
      rcases hreg5 with h0 | ⟨blk, off, rw5, ys5, m5, rfl, hs5, hp5, ho5⟩
      ·omega
      obtain ⟨hmi, hil⟩ := z04.get (z04.mono (fun _ _ _ _ h => h.but hk6 hr) _ _ hkids) hki
      have hcell : ((ys5.drop (off + i * 5)).take 5) = (ks.drop (i * 5)).take 5 := by
       obtain ⟨t, ht⟩ := hp5
       have a1 : i * 5 ≤ ks.length := by omega
       have a2 : 5 ≤ (ks.drop (i * 5)).length := by rw [List.length_drop]; omega
       rw [← List.drop_drop, ← ht, List.drop_append_of_le_length a1, List.take_append_of_le_length a2]
      have hlen5 : off + i * 5 + 5 ≤ ys5.length := by
       obtain ⟨t, ht⟩ := hp5
       have := congrArg List.length ht
       simp at this
       omega
      have hwi := wrS i (by omega)
      have hwd := wrS deep (by omega)
      simp [go_sem, e0, e2, e4, e7, ht6, hlt', hlt, hr6', hs5, hlen5, hcell, hwd]
      have hle := z4j kids[i] (deep := deep + 1) hn' hb'
      refine (ih kids[i] (deep := deep + 1) (z6 _ (List.getElem_mem hlt)) hmi hr6 hn' hb' (by omega)).mono ?_
      rintro e st7 ⟨rfl, hr7, hk7⟩
      simp [go_sem, e0, e2, e4, e7, hwi]
      exact ⟨_, .rfl' _, ⟨hk6.trans hk7, hk7 _ _ hne ht6, i + 1, by omega, by omega, _, _, _, hr7, hle, hrec⟩, by omega⟩
    ·have hlt' : ((i : Int) < kids.length) = False := eq_false (by omega)
     have : i = kids.length := by omega
     subst this
     rw [List.drop_length] at hrec
     unfold z0w at hrec
     subst hrec
     simp [go_sem, e0, e2, e4, e7, ht6]
     exact ⟨rfl, hr6, hk6⟩
  ·simp [go_sem, e0, e2, e4, ht]
   refine (z4y (vals := vals) false false true (.inr (.inr (.inr rfl)))).mono ?_
   rintro e st4 ⟨rfl, hn4⟩
   have hr4 := hn4 _ _ hr3'
   have ht4 := hn4 _ _ ht
   have hk4 := hk3.trans (hn4.but r)
   clear hn4
   cases hB : bareM name value vals kids.length false false true
   ·rw [hB] at hRES1
    simp only [Bool.not_false, Bool.true_or] at hRES1
    simp [go_sem, e0, e2, e4, hr4, ht4, hne]
    obtain ⟨st5, hst5⟩ : ∃ s, upd st4 r (sizeC (n + 1) b true r) = s := ⟨_, rfl⟩
    have hr5 : st5 r = some (sizeC (n + 1) b true r) := by rw [← hst5]; exact upd_same _ _ _
    have ht5 : st5 tb = some (.cells true [Val.i 7, .string name, .string value, .slice vb vals.length vc, .slice kb kids.length kc] 5 (.ty 0)) := by rw [← hst5, upd_ne _ _ hne]; exact ht4
    have hk5 : But1 r st st5 := by rw [← hst5]; exact hk4.put
    have hge : true = false → n + 1 ≤ 64 ∧ b ≤ 4096 := fun _ => ⟨by omega, hb⟩
    refine ⟨fun E st' => But1 r st st' ∧ E 0 = ptr r ∧ E 2 = Val.i deep ∧ E 4 = ptr tb ∧ st' tb = some (.cells true [Val.i 7, .string name, .string value, .slice vb vals.length vc, .slice kb kids.length kc] 5 (.ty 0)) ∧ ∃ i : Nat, E 7 = Val.i i ∧ i ≤ kids.length ∧ KdInv st' r (deep + 1) (kids.drop i) RES,
     fun E _ => match E 7 with | .int _ i => kids.length - i.toNat | _ => 0, ⟨st5, by rw [← hst5]; exact .rfl' _, hk5, by simp [go_sem, e0], by simp [go_sem, e2], by simp [go_sem, e4], ht5, 0, by simp [go_sem], by omega, _, _, _, hr5, hge, by simpa using hRES1⟩, ?_⟩
    clear hr5 ht5 hk5 hge hr4 ht4 hk4 hst5 hRES1 e0 e2 e4
    rintro E st6 ⟨hk6, e0, e2, e4, ht6, i, e7, hi, n', b', bad', hr6, hge, hrec⟩
    have hr6' := hr6
    unfold sizeC at hr6'
    by_cases hlt : i < kids.length
    ·have hlt' : ((i : Int) < kids.length) = True := eq_true (by omega)
     have hki : kids[i]? = some kids[i] := List.getElem?_eq_getElem hlt
     have hd : kids.drop i = kids[i] :: kids.drop (i + 1) := List.drop_eq_getElem_cons hlt
     rw [hd] at hrec
     unfold z0w at hrec
     cases bad' with
     | true =>
      rw [if_pos rfl] at hrec
      subst hrec
      simp [go_sem, e0, e2, e4, e7, ht6, hlt', hlt, hr6']
      exact ⟨rfl, hr6, hk6⟩
     | false =>
      rw [if_neg (by simp)] at hrec
      obtain ⟨hn', hb'⟩ := hge rfl
      have hkr := hk.but hk6 hr
      obtain ⟨g5, hg5, hl5, base5, cap5, hv5', hc5, hreg5⟩ := hkr
      injection hv5' with q1 q2 q3; subst q1; subst q3
      rcases hreg5 with h0 | ⟨blk, off, rw5, ys5, m5, rfl, hs5, hp5, ho5⟩
      ·omega
      obtain ⟨hmi, hil⟩ := z04.get (z04.mono (fun _ _ _ _ h => h.but hk6 hr) _ _ hkids) hki
      have hcell : ((ys5.drop (off + i * 5)).take 5) = (ks.drop (i * 5)).take 5 := by
       obtain ⟨t, ht⟩ := hp5
       have a1 : i * 5 ≤ ks.length := by omega
       have a2 : 5 ≤ (ks.drop (i * 5)).length := by rw [List.length_drop]; omega
       rw [← List.drop_drop, ← ht, List.drop_append_of_le_length a1, List.take_append_of_le_length a2]
      have hlen5 : off + i * 5 + 5 ≤ ys5.length := by
       obtain ⟨t, ht⟩ := hp5
       have := congrArg List.length ht
       simp at this
       omega
      have hwi := wrS i (by omega)
      have hwd := wrS deep (by omega)
      simp [go_sem, e0, e2, e4, e7, ht6, hlt', hlt, hr6', hs5, hlen5, hcell, hwd]
      have hle := z4j kids[i] (deep := deep + 1) hn' hb'
      refine (ih kids[i] (deep := deep + 1) (z6 _ (List.getElem_mem hlt)) hmi hr6 hn' hb' (by omega)).mono ?_
      rintro e st7 ⟨rfl, hr7, hk7⟩
      simp [go_sem, e0, e2, e4, e7, hwi]
      exact ⟨_, .rfl' _, ⟨hk6.trans hk7, hk7 _ _ hne ht6, i + 1, by omega, by omega, _, _, _, hr7, hle, hrec⟩, by omega⟩
    ·have hlt' : ((i : Int) < kids.length) = False := eq_false (by omega)
     have : i = kids.length := by omega
     subst this
     rw [List.drop_length] at hrec
     unfold z0w at hrec
     subst hrec
     simp [go_sem, e0, e2, e4, e7, ht6]
     exact ⟨rfl, hr6, hk6⟩
   ·rw [hB] at hRES1
    simp only [Bool.not_true, Bool.false_or] at hRES1
    by_cases hk1 : kids.length = 1
    ·have hz : (decide True && !decide (kids.length = 1)) = false := by simp [hk1]
     rw [hz] at hRES1
     have qk : ((kids.length : Int) = 1) = True := eq_true (by omega)
     simp [go_sem, e0, e2, e4, hr4, ht4, hne, qk, hk1]
     obtain ⟨st5, hst5⟩ : ∃ s, upd st4 r (sizeC (n + 1) b false r) = s := ⟨_, rfl⟩
     have hr5 : st5 r = some (sizeC (n + 1) b false r) := by rw [← hst5]; exact upd_same _ _ _
     have ht5 : st5 tb = some (.cells true [Val.i 7, .string name, .string value, .slice vb vals.length vc, .slice kb kids.length kc] 5 (.ty 0)) := by rw [← hst5, upd_ne _ _ hne]; exact ht4
     have hk5 : But1 r st st5 := by rw [← hst5]; exact hk4.put
     have hge : false = false → n + 1 ≤ 64 ∧ b ≤ 4096 := fun _ => ⟨by omega, hb⟩
     refine ⟨fun E st' => But1 r st st' ∧ E 0 = ptr r ∧ E 2 = Val.i deep ∧ E 4 = ptr tb ∧ st' tb = some (.cells true [Val.i 7, .string name, .string value, .slice vb vals.length vc, .slice kb kids.length kc] 5 (.ty 0)) ∧ ∃ i : Nat, E 7 = Val.i i ∧ i ≤ kids.length ∧ KdInv st' r (deep + 1) (kids.drop i) RES,
      fun E _ => match E 7 with | .int _ i => kids.length - i.toNat | _ => 0, ⟨st5, by rw [← hst5]; exact .rfl' _, hk5, by simp [go_sem, e0], by simp [go_sem, e2], by simp [go_sem, e4], ht5, 0, by simp [go_sem], by omega, _, _, _, hr5, hge, by simpa using hRES1⟩, ?_⟩
     clear hr5 ht5 hk5 hge hr4 ht4 hk4 hst5 hRES1 e0 e2 e4
     rintro E st6 ⟨hk6, e0, e2, e4, ht6, i, e7, hi, n', b', bad', hr6, hge, hrec⟩
     have hr6' := hr6
     unfold sizeC at hr6'
     by_cases hlt : i < kids.length
     ·have hlt' : ((i : Int) < kids.length) = True := eq_true (by omega)
      have hki : kids[i]? = some kids[i] := List.getElem?_eq_getElem hlt
      have hd : kids.drop i = kids[i] :: kids.drop (i + 1) := List.drop_eq_getElem_cons hlt
      rw [hd] at hrec
      unfold z0w at hrec
      cases bad' with
      | true =>
       rw [if_pos rfl] at hrec
       subst hrec
       simp [go_sem, e0, e2, e4, e7, ht6, hlt', hlt, hr6']
       exact ⟨rfl, hr6, hk6⟩
      | false =>
       rw [if_neg (by simp)] at hrec
       obtain ⟨hn', hb'⟩ := hge rfl
       have hkr := hk.but hk6 hr
       obtain ⟨g5, hg5, hl5, base5, cap5, hv5', hc5, hreg5⟩ := hkr
       injection hv5' with q1 q2 q3; subst q1; subst q3
       rcases hreg5 with h0 | ⟨blk, off, rw5, ys5, m5, rfl, hs5, hp5, ho5⟩
       ·omega
       obtain ⟨hmi, hil⟩ := z04.get (z04.mono (fun _ _ _ _ h => h.but hk6 hr) _ _ hkids) hki
       have hcell : ((ys5.drop (off + i * 5)).take 5) = (ks.drop (i * 5)).take 5 := by
        obtain ⟨t, ht⟩ := hp5
        have a1 : i * 5 ≤ ks.length := by omega
        have a2 : 5 ≤ (ks.drop (i * 5)).length := by rw [List.length_drop]; omega
        rw [← List.drop_drop, ← ht, List.drop_append_of_le_length a1, List.take_append_of_le_length a2]
       have hlen5 : off + i * 5 + 5 ≤ ys5.length := by
        obtain ⟨t, ht⟩ := hp5
        have := congrArg List.length ht
        simp at this
        omega
       have hwi := wrS i (by omega)
       have hwd := wrS deep (by omega)
       simp [go_sem, e0, e2, e4, e7, ht6, hlt', hlt, hr6', hs5, hlen5, hcell, hwd]
       have hle := z4j kids[i] (deep := deep + 1) hn' hb'
       refine (ih kids[i] (deep := deep + 1) (z6 _ (List.getElem_mem hlt)) hmi hr6 hn' hb' (by omega)).mono ?_
       rintro e st7 ⟨rfl, hr7, hk7⟩
       simp [go_sem, e0, e2, e4, e7, hwi]
       exact ⟨_, .rfl' _, ⟨hk6.trans hk7, hk7 _ _ hne ht6, i + 1, by omega, by omega, _, _, _, hr7, hle, hrec⟩, by omega⟩
     ·have hlt' : ((i : Int) < kids.length) = False := eq_false (by omega)
      have : i = kids.length := by omega
      subst this
      rw [List.drop_length] at hrec
      unfold z0w at hrec
      subst hrec
      simp [go_sem, e0, e2, e4, e7, ht6]
      exact ⟨rfl, hr6, hk6⟩
    ·have hz : (decide True && !decide (kids.length = 1)) = true := by simp [hk1]
     rw [hz] at hRES1
     have qk : ((kids.length : Int) = 1) = False := eq_false (by omega)
     simp [go_sem, e0, e2, e4, hr4, ht4, hne, qk, hk1]
     obtain ⟨st5, hst5⟩ : ∃ s, upd st4 r (sizeC (n + 1) b true r) = s := ⟨_, rfl⟩
     have hr5 : st5 r = some (sizeC (n + 1) b true r) := by rw [← hst5]; exact upd_same _ _ _
     have ht5 : st5 tb = some (.cells true [Val.i 7, .string name, .string value, .slice vb vals.length vc, .slice kb kids.length kc] 5 (.ty 0)) := by rw [← hst5, upd_ne _ _ hne]; exact ht4
     have hk5 : But1 r st st5 := by rw [← hst5]; exact hk4.put
     have hge : true = false → n + 1 ≤ 64 ∧ b ≤ 4096 := fun _ => ⟨by omega, hb⟩
     refine ⟨fun E st' => But1 r st st' ∧ E 0 = ptr r ∧ E 2 = Val.i deep ∧ E 4 = ptr tb ∧ st' tb = some (.cells true [Val.i 7, .string name, .string value, .slice vb vals.length vc, .slice kb kids.length kc] 5 (.ty 0)) ∧ ∃ i : Nat, E 7 = Val.i i ∧ i ≤ kids.length ∧ KdInv st' r (deep + 1) (kids.drop i) RES,
      fun E _ => match E 7 with | .int _ i => kids.length - i.toNat | _ => 0, ⟨st5, by rw [← hst5]; exact .rfl' _, hk5, by simp [go_sem, e0], by simp [go_sem, e2], by simp [go_sem, e4], ht5, 0, by simp [go_sem], by omega, _, _, _, hr5, hge, by simpa using hRES1⟩, ?_⟩
     clear hr5 ht5 hk5 hge hr4 ht4 hk4 hst5 hRES1 e0 e2 e4
     rintro E st6 ⟨hk6, e0, e2, e4, ht6, i, e7, hi, n', b', bad', hr6, hge, hrec⟩
     have hr6' := hr6
     unfold sizeC at hr6'
     by_cases hlt : i < kids.length
     ·have hlt' : ((i : Int) < kids.length) = True := eq_true (by omega)
      have hki : kids[i]? = some kids[i] := List.getElem?_eq_getElem hlt
      have hd : kids.drop i = kids[i] :: kids.drop (i + 1) := List.drop_eq_getElem_cons hlt
      rw [hd] at hrec
      unfold z0w at hrec
      cases bad' with
      | true =>
       rw [if_pos rfl] at hrec
       subst hrec
       simp [go_sem, e0, e2, e4, e7, ht6, hlt', hlt, hr6']
       exact ⟨rfl, hr6, hk6⟩
      | false =>
       rw [if_neg (by simp)] at hrec
       obtain ⟨hn', hb'⟩ := hge rfl
       have hkr := hk.but hk6 hr
       obtain ⟨g5, hg5, hl5, base5, cap5, hv5', hc5, hreg5⟩ := hkr
       injection hv5' with q1 q2 q3; subst q1; subst q3
       rcases hreg5 with h0 | ⟨blk, off, rw5, ys5, m5, rfl, hs5, hp5, ho5⟩
       ·omega
       obtain ⟨hmi, hil⟩ := z04.get (z04.mono (fun _ _ _ _ h => h.but hk6 hr) _ _ hkids) hki
       have hcell : ((ys5.drop (off + i * 5)).take 5) = (ks.drop (i * 5)).take 5 := by
        obtain ⟨t, ht⟩ := hp5
        have a1 : i * 5 ≤ ks.length := by omega
        have a2 : 5 ≤ (ks.drop (i * 5)).length := by rw [List.length_drop]; omega
        rw [← List.drop_drop, ← ht, List.drop_append_of_le_length a1, List.take_append_of_le_length a2]
       have hlen5 : off + i * 5 + 5 ≤ ys5.length := by
        obtain ⟨t, ht⟩ := hp5
        have := congrArg List.length ht
        simp at this
        omega
       have hwi := wrS i (by omega)
       have hwd := wrS deep (by omega)
       simp [go_sem, e0, e2, e4, e7, ht6, hlt', hlt, hr6', hs5, hlen5, hcell, hwd]
       have hle := z4j kids[i] (deep := deep + 1) hn' hb'
       refine (ih kids[i] (deep := deep + 1) (z6 _ (List.getElem_mem hlt)) hmi hr6 hn' hb' (by omega)).mono ?_
       rintro e st7 ⟨rfl, hr7, hk7⟩
       simp [go_sem, e0, e2, e4, e7, hwi]
       exact ⟨_, .rfl' _, ⟨hk6.trans hk7, hk7 _ _ hne ht6, i + 1, by omega, by omega, _, _, _, hr7, hle, hrec⟩, by omega⟩
     ·have hlt' : ((i : Int) < kids.length) = False := eq_false (by omega)
      have : i = kids.length := by omega
      subst this
      rw [List.drop_length] at hrec
      unfold z0w at hrec
      subst hrec
      simp [go_sem, e0, e2, e4, e7, ht6]
      exact ⟨rfl, hr6, hk6⟩
 ·rw [if_neg (by simp [o0]), if_neg (by simp [o1, o2, o3]), if_neg (by simp [o4]), if_neg (by simp [o5, o6, o7])] at hRES
  subst hRES
  simp [go_sem, e0, e2, e4, ht, o0, o1, o2, o3, o4, o5, o6, o7, hr3']
  exact ⟨rfl, by rw [upd_same]; rfl, hk3.put⟩
theorem zbq {d : Nat} {m : Mat} {st : Heap} {cs : List Value} (hN : NiceM d m) (hd : d ≤ 12) (hm : MatAt st cs m) : z00 Tryz.prog W0 64 #[.agg cs.toArray] st fun e st' => e = .returned (.bool (z1n m)) ∧ New st st' := by
 match m with
 | .mk op name value vals kids =>
 have hm0 := hm
 unfold MatAt at hm
 obtain ⟨vv, kv, ks, rfl, hv, hk, hkids⟩ := hm
 obtain ⟨vb, vc, rfl⟩ := hv.slice
 obtain ⟨kb, kc, rfl⟩ := hk.slice
 rw [← zi2]
 refine enter (args := [_]) Tryz.func64 rfl ?_
 simp [Tryz.f64, go_sem]
 unfold NewP
 intro tb htb
 refine ⟨.ty 0, ?_⟩
 simp [go_sem]
 intro r hr
 refine ⟨.own r 0 65, ?_⟩
 have hne : tb ≠ r := by
  rintro rfl
  rw [upd_same] at hr
  cases hr
 have hne' := Ne.symm hne
 simp [go_sem, hne, hne']
 have hN' : New st (upd (upd st tb (.cells true [Val.i op, .string name, .string value, .slice vb vals.length vc, .slice kb kids.length kc] 5 (.ty 0))) r (sizeC 0 0 false r)) := ((New.refl _).add htb).add hr
 refine (zhj d (.mk op name value vals kids) (r := r) (n := 0) (b := 0) (deep := 1) hN (hm0.new hN') (upd_same _ _ _) (by omega) (by omega) (by omega)).mono ?_
 rintro e st' ⟨rfl, hr', hk'⟩
 unfold sizeC at hr'
 simp [go_sem, hr']
 exact ⟨by simp [z9b], fun k o hk => hk' k o (ne_of_new (((New.refl _).add htb) _ _ hk) hr) (hN' _ _ hk)⟩
end
end Go.Proofs.YtahgfnbkkfpcnaaGreat
