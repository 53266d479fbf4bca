/- Is a matcher small enough to be asked; a matcher in new memory. -/
import Derived.Test.YtahgfnbkkfpcnaaGreatC10
import Derived.Test.YtahgfnbkkfpcnaaGreatC11
import Derived.Test.YtahgfnbkkfpcnaaGreatC12
set_option linter.unusedVariables false
set_option linter.unusedSimpArgs false
set_option maxRecDepth 100000
set_option maxHeartbeats 2000000
namespace Go.Proofs.YtahgfnbkkfpcnaaGreat
open Go.RowKit (Below)
def tinyC (n : Nat) (r : Nat) : HObj := .cells true [Val.i n] 1 (.own r 0 61)
def TinyR (st : Heap) (r : Nat) (R : Bool × Nat) (e : Ending) (st' : Heap) : Prop := e = .returned (.bool R.1) ∧ st' r = some (tinyC R.2 r) ∧ But1 r st st'
section
variable {W0 : World}
theorem zdl (m : Mat) : ∀ {st : Heap} {cs : List Value} {r n deep : Nat}, MatAt st cs m → st r = some (tinyC n r) → n ≤ 200 → deep ≤ 12 →
  z00 Tryz.prog W0 140 #[.agg cs.toArray, ptr r, Val.i deep] st (TinyR st r (tinyM m n deep)) := by
 intro st cs r n deep hm hr hn hdeep
 match m with
 | .mk op name value vals kids =>
 have hm0 := hm
 unfold MatAt at hm
 obtain ⟨vv, kv, ks, rfl, hv, hk, hkids⟩ := hm
 obtain ⟨vb, vc, rfl⟩ := hv.slice
 obtain ⟨kb, kc, rfl⟩ := hk.slice
 generalize hRES : tinyM (.mk op name value vals kids) n deep = RES
 unfold tinyM at hRES
 have hwn := wrS n (by omega)
 refine enter (args := [_, _, _]) Tryz.func140 rfl ?_
 refine IW_cut (fun E' st' => ∃ tb, But1 r st st' ∧ tb ≠ r ∧ E' 1 = ptr r ∧ E' 2 = Val.i deep ∧ E' 3 = ptr tb ∧ st' tb = some (.cells true [Val.i op, .string name, .string value, .slice vb vals.length vc, .slice kb kids.length kc] 5 (.ty 0)) ∧ st' r = some (tinyC n r)) ?_ ?_
 ·simp [go_sem]
  unfold NewP
  intro tb htb
  refine ⟨.ty 0, ?_⟩
  have hne : tb ≠ r := Ne.symm (ne_of_new hr htb)
  have hne' := Ne.symm hne
  simp [go_sem, hne, hne', hr]
  exact ⟨(But1.refl _ _).add htb, tb, hne, rfl, upd_same _ _ _⟩
 rintro E1 st1 ⟨tb, hk1, hne, e1, e2, e3, ht, hr1⟩
 refine IW_cut (fun E' st' => But1 r st st' ∧ E' 1 = ptr r ∧ E' 2 = Val.i deep ∧ E' 3 = ptr tb ∧ st' tb = some (.cells true [Val.i op, .string name, .string value, .slice vb vals.length vc, .slice kb kids.length kc] 5 (.ty 0)) ∧ st' r = some (tinyC (n + 1) r)) ?_ ?_
 ·simp [go_sem, e1, e2, e3, hr1, tinyC, hwn, hne]
  exact ⟨hk1.put, ht⟩
 clear hr1 ht hk1 e1 e2 e3
 rintro E2 st2 ⟨hk2, e1, e2, e3, ht, hr2⟩
 have hfalse : (200 < n + 1 ∨ 11 < deep ∨ 300 < name.size ∨ 5000 < value.size ∨ 40 < vals.length) → RES = (false, n + 1) := fun h => by rw [← hRES, if_pos h]
 refine z1a (fun E' st' => (¬ (200 < n + 1 ∨ 11 < deep ∨ 300 < name.size ∨ 5000 < value.size ∨ 40 < vals.length)) ∧ But1 r st st' ∧ E' 1 = ptr r ∧ E' 2 = Val.i deep ∧ E' 3 = ptr tb ∧ st' tb = some (.cells true [Val.i op, .string name, .string value, .slice vb vals.length vc, .slice kb kids.length kc] 5 (.ty 0)) ∧ st' r = some (tinyC (n + 1) r)) ?_ ?_
 ·have hr2' := hr2
  unfold tinyC at hr2'
  by_cases h1 : 200 < n + 1
  ·have q1 : ((200 : Int) < ((n : Int) + 1)) = True := eq_true (by omega)
   have := hfalse (by omega)
   subst this
   simp [go_sem, e1, e2, e3, hr2', q1]
   exact ⟨rfl, hr2, hk2⟩
  have q1 : ((200 : Int) < ((n : Int) + 1)) = False := eq_false (by omega)
  by_cases h2 : 11 < deep
  ·have q2 : ((11 : Int) < deep) = True := eq_true (by omega)
   have := hfalse (by omega)
   subst this
   simp [go_sem, e1, e2, e3, hr2', q1, q2]
   exact ⟨rfl, hr2, hk2⟩
  have q2 : ((11 : Int) < deep) = False := eq_false (by omega)
  by_cases h3 : 300 < name.size
  ·have q3 : ((300 : Int) < name.size) = True := eq_true (by omega)
   have := hfalse (by omega)
   subst this
   simp [go_sem, e1, e2, e3, hr2', q1, q2, q3, ht]
   exact ⟨rfl, hr2, hk2⟩
  have q3 : ((300 : Int) < name.size) = False := eq_false (by omega)
  by_cases h4 : 5000 < value.size
  ·have q4 : ((5000 : Int) < value.size) = True := eq_true (by omega)
   have := hfalse (by omega)
   subst this
   simp [go_sem, e1, e2, e3, hr2', q1, q2, q3, q4, ht]
   exact ⟨rfl, hr2, hk2⟩
  have q4 : ((5000 : Int) < value.size) = False := eq_false (by omega)
  by_cases h5 : 40 < vals.length
  ·have q5 : ((40 : Int) < vals.length) = True := eq_true (by omega)
   have := hfalse (by omega)
   subst this
   simp [go_sem, e1, e2, e3, hr2', q1, q2, q3, q4, q5, ht]
   exact ⟨rfl, hr2, hk2⟩
  have q5 : ((40 : Int) < vals.length) = False := eq_false (by omega)
  simp [go_sem, e1, e2, e3, hr2', q1, q2, q3, q4, q5, ht]
  exact ⟨⟨by omega, by omega, by omega, by omega, by omega⟩, hk2, rfl⟩
 clear hr2 ht hk2 e1 e2 e3
 rintro E3 st3 ⟨hcond, hk3, e1, e2, e3, ht, hr3⟩
 rw [if_neg hcond] at hRES
 refine z1a (fun E' st' => vals.all (fun v => decide (v.size ≤ 300)) = true ∧ But1 r st st' ∧ E' 1 = ptr r ∧ E' 2 = Val.i deep ∧ E' 3 = ptr tb ∧ st' tb = some (.cells true [Val.i op, .string name, .string value, .slice vb vals.length vc, .slice kb kids.length kc] 5 (.ty 0)) ∧ st' r = some (tinyC (n + 1) r)) ?_ ?_
 ·simp [go_sem]
  refine ⟨fun E st' => st' = st3 ∧ E 1 = ptr r ∧ E 2 = Val.i deep ∧ E 3 = ptr tb ∧ ∃ i : Nat, E 7 = Val.i i ∧ i ≤ vals.length ∧ (vals.take i).all (fun v => decide (v.size ≤ 300)) = true,
   fun E _ => match E 7 with | .int _ i => vals.length - i.toNat | _ => 0, ⟨st3, .rfl' _, rfl, by simp [go_sem, e1], by simp [go_sem, e2], by simp [go_sem, e3], 0, by simp [go_sem], by omega, by simp⟩, ?_⟩
  rintro E st5 ⟨rfl, e1, e2, e3, i, e7, hi, hall⟩
  by_cases hlt : i < vals.length
  ·have hlt' : ((i : Int) < vals.length) = True := eq_true (by omega)
   obtain ⟨blk, off, rfl, hg⟩ := z0h (hv.but hk3 hr).src (by omega)
   have hgi := hg i (by omega)
   have hvi : vals[i]? = some vals[i] := List.getElem?_eq_getElem hlt
   have hgv : (vals.map Value.string)[i]? = some (.string vals[i]) := by simp [hvi]
   rw [hgv] at hgi
   have hwi := wrS i (by omega)
   have htk : vals.take (i + 1) = vals.take i ++ [vals[i]] := by rw [List.take_add_one, hvi]; rfl
   by_cases hs : 300 < vals[i].size
   ·have qs : ((300 : Int) < vals[i].size) = True := eq_true (by omega)
    have : RES = (false, n + 1) := by
     rw [← hRES, if_neg]
     intro h
     have := List.all_eq_true.1 h _ (List.getElem_mem hlt)
     simp at this; omega
    subst this
    simp [go_sem, e1, e2, e3, e7, ht, hlt, hlt', hgi, qs]
    exact ⟨rfl, hr3, hk3⟩
   ·have qs : ((300 : Int) < vals[i].size) = False := eq_false (by omega)
    simp [go_sem, e1, e2, e3, e7, ht, hlt, hlt', hgi, qs, hwi]
    refine ⟨_, .rfl' _, ⟨rfl, i + 1, by omega, by omega, ?_⟩, by omega⟩
    intro x hx
    rw [htk] at hx
    rcases List.mem_append.1 hx with hx | hx
    ·have := List.all_eq_true.1 hall x hx
     simpa using this
    ·simp at hx; subst hx; omega
  ·have hlt' : ((i : Int) < vals.length) = False := eq_false (by omega)
   have : i = vals.length := by omega
   subst this
   rw [List.take_length] at hall
   simp [go_sem, e1, e2, e3, e7, ht]
   exact ⟨by simpa using hall, hk3, hr3⟩
 clear hr3 ht hk3 e1 e2 e3
 rintro E5 st5 ⟨hall, hk5, e1, e2, e3, ht, hr5⟩
 rw [if_pos hall] at hRES
 simp [go_sem]
 refine ⟨fun E st' => But1 r st st' ∧ E 1 = ptr r ∧ E 2 = Val.i deep ∧ E 3 = ptr tb ∧ st' tb = some (.cells true [Val.i op, .string name, .string value, .slice vb vals.length vc, .slice kb kids.length kc] 5 (.ty 0)) ∧ ∃ i n' : Nat, E 8 = Val.i i ∧ i ≤ kids.length ∧ st' r = some (tinyC n' r) ∧ n' ≤ 200 ∧ i ≤ n' ∧ z2r (kids.drop i) n' (deep + 1) = RES,
  fun E _ => match E 8 with | .int _ i => kids.length - i.toNat | _ => 0, ⟨st5, .rfl' _, hk5, by simp [go_sem, e1], by simp [go_sem, e2], by simp [go_sem, e3], ht, 0, n + 1, by simp [go_sem], by omega, hr5, by omega, by omega, by simpa using hRES⟩, ?_⟩
 clear hr5 ht hk5 e1 e2 e3
 rintro E st7 ⟨hk7, e1, e2, e3, ht, i, n', e8, hi, hr7, hn', hin, hrec⟩
 by_cases hlt : i < kids.length
 ·have hlt' : ((i : Int) < kids.length) = True := eq_true (by omega)
  have hkr := hk.but hk7 hr
  obtain ⟨g5, hg5, hl5, base5, cap5, hv5, hc5, hreg5⟩ := hkr
  injection hv5 with q1 q2 q3; subst q1; subst q3
  rcases hreg5 with h0 | ⟨blk, off, rw5, ys5, m5, rfl, hs5, hp5, ho5⟩
  ·omega
  have hki : kids[i]? = some kids[i] := List.getElem?_eq_getElem hlt
  have hmem : kids[i] ∈ kids := List.getElem_mem hlt
  obtain ⟨hmi, hil⟩ := z04.get (z04.mono (fun _ _ _ _ h => h.but hk7 hr) _ _ hkids) hki
  have hd : kids.drop i = kids[i] :: kids.drop (i + 1) := List.drop_eq_getElem_cons hlt
  rw [hd] at hrec
  unfold z2r at hrec
  have hcell : ((ys5.drop (off + i * 5)).take 5) = (ks.drop (i * 5)).take 5 := by
   obtain ⟨t, ht⟩ := hp5
   have a1 : i * 5 ≤ ks.length := by omega
   have a2 : 5 ≤ (ks.drop (i * 5)).length := by rw [List.length_drop]; omega
   rw [← List.drop_drop, ← ht, List.drop_append_of_le_length a1, List.take_append_of_le_length a2]
  have hlen5 : off + i * 5 + 5 ≤ ys5.length := by
   obtain ⟨t, ht⟩ := hp5
   have := congrArg List.length ht
   simp at this
   omega
  have hwi := wrS i (by omega)
  have hwd := wrS deep (by omega)
  simp [go_sem, e1, e2, e3, e8, ht, hlt, hlt', hs5, hlen5, hcell, hwd]
  have hB := z8s kids[i] n' (deep + 1)
  refine (zdl kids[i] (deep := deep + 1) hmi hr7 hn' (by omega)).mono ?_
  rintro e st8 ⟨rfl, hr8, hk8⟩
  generalize tinyM kids[i] n' (deep + 1) = H at *
  obtain ⟨ok, n8⟩ := H
  obtain ⟨u1, u2⟩ := hB
  simp only at u1 u2 hr8 hrec
  have hk9 : But1 r st st8 := hk7.trans hk8
  cases ok with
  | true =>
   obtain ⟨u4, u5⟩ := u2 rfl
   simp only [if_true] at hrec
   simp [go_sem, e1, e2, e3, e8, hwi]
   refine ⟨_, .rfl' _, ⟨hk9, hk8 _ _ hne ht, i + 1, by omega, by omega, n8, hr8, by omega, by omega, hrec⟩, by omega⟩
  | false =>
   simp at hrec
   subst hrec
   simp [go_sem, e1, e2, e3, e8]
   exact ⟨rfl, hr8, hk9⟩
 ·have hlt' : ((i : Int) < kids.length) = False := eq_false (by omega)
  have : i = kids.length := by omega
  subst this
  rw [List.drop_length] at hrec
  unfold z2r at hrec
  subst hrec
  simp [go_sem, e1, e2, e3, e8, ht]
  exact ⟨rfl, hr7, hk7⟩
termination_by SizeOf.sizeOf m
decreasing_by
 have := List.sizeOf_lt_of_mem hmem
 simp
 omega
theorem zfh {st : Heap} {cs : List Value} {m : Mat} (hm : MatAt st cs m) : z00 Tryz.prog W0 63 #[.agg cs.toArray] st fun e st' => e = .returned (.bool (tinyM m 0 0).1) ∧ New st st' := by
 match m with
 | .mk op name value vals kids =>
 have hm0 := hm
 unfold MatAt at hm
 obtain ⟨vv, kv, ks, rfl, hv, hk, hkids⟩ := hm
 obtain ⟨vb, vc, rfl⟩ := hv.slice
 obtain ⟨kb, kc, rfl⟩ := hk.slice
 refine enter (args := [_]) Tryz.func63 rfl ?_
 simp [Tryz.f63, go_sem]
 unfold NewP
 intro tb htb
 refine ⟨.ty 0, ?_⟩
 simp [go_sem]
 unfold NewP
 intro r hr
 refine ⟨.own r 0 61, ?_⟩
 have hne : tb ≠ r := by
  rintro rfl
  rw [upd_same] at hr
  cases hr
 have hne' := Ne.symm hne
 simp [go_sem, hne, hne']
 have hN : New st (upd (upd st tb (.cells true [Val.i op, .string name, .string value, .slice vb vals.length vc, .slice kb kids.length kc] 5 (.ty 0))) r (.cells true [Val.i 0] 1 (.own r 0 61))) := ((New.refl _).add htb).add hr
 refine (zdl (.mk op name value vals kids) (r := r) (n := 0) (deep := 0) (hm0.new hN) (by rw [upd_same]; rfl) (by omega) (by omega)).mono ?_
 rintro e st' ⟨rfl, hr', hk'⟩
 simp [go_sem]
 exact fun k o hk => hk' k o (ne_of_new (((New.refl _).add htb) _ _ hk) hr) (hN _ _ hk)
theorem RegF.ext {st st' : Heap} {g : Tg} {size len : Nat} {v : Value} {xs : List Value} (h : RegF st size v xs len) (hk : Ext g st st') : RegF st' size v xs len := by
 obtain ⟨t, ht, h⟩ := h
 refine ⟨t, ht, ?_⟩
 by_cases e : t = g
 ·subst e; exact h.of_ext hk.grow
 ·exact h.keep (hk.toKeep (p := fun x => x ≠ g) (by simp)) e
theorem z04.append {st : Heap} : ∀ {ms : List Mat} {ks cs : List Value} {m : Mat}, z04 st ks ms → MatAt st cs m → z04 st (ks ++ cs) (ms ++ [m])
 | [], ks, cs, m, h, hm => by
  unfold z04 at h
  subst h
  have := hm.length
  unfold z04
  refine ⟨by simp [this], by simpa [← this] using hm, ?_⟩
  unfold z04
  simp [← this]
 | x :: ms, ks, cs, m, h, hm => by
  unfold z04 at h
  rw [List.cons_append]
  unfold z04
  refine ⟨by rw [List.length_append]; omega, ?_, ?_⟩
  ·rw [List.take_append_of_le_length h.1]; exact h.2.1
  ·rw [List.drop_append_of_le_length h.1]; exact z04.append h.2.2 hm
theorem z04.len {st : Heap} : ∀ {ms : List Mat} {ks : List Value}, z04 st ks ms → ks.length = ms.length * 5
 | [], ks, h => by unfold z04 at h; subst h; rfl
 | x :: ms, ks, h => by
  unfold z04 at h
  have := z04.len h.2.2
  rw [List.length_drop] at this
  simp only [List.length_cons]; omega
theorem MatAt.cells1 {st : Heap} {cs : List Value} {m : Mat} (h : MatAt st cs m) : ∀ y ∈ cs, y.oneCell' = true := by
 match m with
 | .mk op name value vals kids =>
 unfold MatAt at h
 obtain ⟨vv, kv, ks, rfl, hv, hk, -⟩ := h
 obtain ⟨vb, vc, rfl⟩ := hv.slice
 obtain ⟨kb, kc, rfl⟩ := hk.slice
 intro y hy
 simp at hy
 rcases hy with rfl | rfl | rfl | rfl | rfl <;> rfl
theorem matCopy_spec : ∀ (d : Nat) (m : Mat) {st : Heap} {cs : List Value} {deep : Nat}, NiceM d m → deep + d ≤ 12 → MatAt st cs m →
  z00 Tryz.prog W0 210 #[.agg cs.toArray, Val.i deep] st fun e st' => ∃ cs', e = .returned (.agg cs'.toArray) ∧ MatAt st' cs' m ∧ New st st' := by
 intro d
 induction d with
 | zero => intro m st cs deep hn; unfold NiceM at hn; exact hn.elim
 | succ d ih =>
 intro m st cs deep hn hdd hm
 match m with
 | .mk op name value vals kids =>
 have hm0 := hm
 unfold MatAt at hm
 obtain ⟨vv, kv, ks, rfl, hv, hk, hkids⟩ := hm
 obtain ⟨vb, vc, rfl⟩ := hv.slice
 obtain ⟨kb, kc, rfl⟩ := hk.slice
 unfold NiceM at hn
 obtain ⟨n1, n2, n3, n4, n5, n6⟩ := hn
 refine enter (args := [_, _]) Tryz.func210 rfl ?_
 refine IW_cut (fun E' st' => ∃ tb to, New st st' ∧ st tb = none ∧ st to = none ∧ tb ≠ to ∧ E' 1 = Val.i deep ∧ E' 2 = ptr tb ∧ E' 4 = ptr to ∧ st' tb = some (.cells true [Val.i op, .string name, .string value, .slice vb vals.length vc, .slice kb kids.length kc] 5 (.own tb 0 62)) ∧ (∃ zs, zs.length = 5 ∧ st' to = some (.cells true zs 5 (.own to 0 63)))) ?_ ?_
 ·simp [go_sem]
  unfold NewP
  intro tb htb
  refine ⟨.own tb 0 62, ?_⟩
  simp [go_sem]
  unfold NewP
  intro to hto
  refine ⟨.own to 0 63, ?_⟩
  have hne : tb ≠ to := by
   rintro rfl
   rw [upd_same] at hto
   cases hto
  have hne' := Ne.symm hne
  simp [go_sem, hne, hne']
  exact ⟨((New.refl _).add htb).add hto, tb, htb, to, ((New.refl _).add htb).none hto, hne, rfl, rfl, by simp [upd, hne], [Val.i 0, .string ⟨#[]⟩, .string ⟨#[]⟩, .slice none 0 0, .slice none 0 0], rfl, upd_same _ _ _⟩
 rintro E1 st1 ⟨tb, to, hk1, htb, hto, hne, e1, e2, e4, ht, zs, hzs, hz⟩
 have hne' := Ne.symm hne
 have toF : Free (.ty 0) := by intro g x r; simp
 refine IW_cut (fun E' st' => ∃ vb' vc', New st st' ∧ E' 1 = Val.i deep ∧ E' 2 = ptr tb ∧ E' 4 = ptr to ∧ st' tb = some (.cells true [Val.i op, .string name, .string value, .slice vb' vals.length vc', .slice kb kids.length kc] 5 (.own tb 0 62)) ∧ st' to = some (.cells true zs 5 (.own to 0 63)) ∧ RegF st' 1 (.slice vb' vals.length vc') (vals.map .string) vals.length) ?_ ?_
 ·simp [go_sem, e1, e2, e4, ht]
  refine z2q (.ty 0) si32 (m := vals.length) (ys := vals.map .string) (hv.new hk1).src (by omega) ?_
  intro base cap st2 hV hF hN2
  have ht2 := hN2 _ _ ht
  have hz2 := hN2 _ _ hz
  simp [go_sem, e1, e2, e4, ht2]
  exact ⟨(hk1.trans hN2).put htb, base, cap, ⟨rfl, rfl⟩, by rw [upd_ne _ _ hne']; exact hz2, (hV.reg.toF toF).but (But1.refl _ _).put ht2⟩
 clear ht hz hk1 e1 e2 e4
 rintro E2 st2 ⟨vb', vc', hk2, e1, e2, e4, ht, hz, hv2⟩
 refine IW_cut (fun E' st' => st' = st2 ∧ E' 1 = Val.i deep ∧ E' 2 = ptr tb ∧ E' 4 = ptr to ∧ E' 5 = .slice none 0 0) ?_ ?_
 ·simp [go_sem, e1, e2, e4]
 clear e1 e2 e4
 rintro E2' st2' ⟨rfl, e1, e2, e4, e5⟩
 refine IW_cut (fun E' st' => ∃ ks', New st st' ∧ E' 2 = ptr tb ∧ E' 4 = ptr to ∧ st' tb = some (.cells true [Val.i op, .string name, .string value, .slice vb' vals.length vc', .slice kb kids.length kc] 5 (.own tb 0 62)) ∧ st' to = some (.cells true zs 5 (.own to 0 63)) ∧ RegF st' 1 (.slice vb' vals.length vc') (vals.map .string) vals.length ∧ RegF st' 5 (E' 5) ks' kids.length ∧ z04 st' ks' kids) ?_ ?_
 ·simp [go_sem]
  refine ⟨fun E st' => New st st' ∧ E 1 = Val.i deep ∧ E 2 = ptr tb ∧ E 4 = ptr to ∧ st' tb = some (.cells true [Val.i op, .string name, .string value, .slice vb' vals.length vc', .slice kb kids.length kc] 5 (.own tb 0 62)) ∧ st' to = some (.cells true zs 5 (.own to 0 63)) ∧ RegF st' 1 (.slice vb' vals.length vc') (vals.map .string) vals.length ∧ ∃ (i : Nat) (ks' : List Value), E 6 = Val.i i ∧ i ≤ kids.length ∧ Vec st' (.ty 0) 5 (E 5) ks' i ∧ Fresh st (E 5) ∧ z04 st' ks' (kids.take i),
   fun E _ => match E 6 with | .int _ i => kids.length - i.toNat | _ => 0, ⟨st2', .rfl' _, hk2, by simp [go_sem, e1], by simp [go_sem, e2], by simp [go_sem, e4], ht, hz, hv2, 0, [], by simp [go_sem], by omega, by simpa [go_sem, e5] using Vec.nil, by simpa [go_sem, e5] using Fresh.none, by unfold z04; rfl⟩, ?_⟩
  clear ht hz hk2 e1 e2 e4 e5 hv2
  rintro E st5 ⟨hk5, e1, e2, e4, ht, hz, hv5, i, ks', e6, hi, hV, hF, hka⟩
  have hd12 : ((deep : Int) < 12) = True := eq_true (by omega)
  by_cases hlt : i < kids.length
  ·have hlt' : ((i : Int) < kids.length) = True := eq_true (by omega)
   have hkr := hk.new hk5
   obtain ⟨g5, hg5, hl5, base5, cap5, hv5', hc5, hreg5⟩ := hkr
   injection hv5' with q1 q2 q3; subst q1; subst q3
   rcases hreg5 with h0 | ⟨blk, off, rw5, ys5, m5, rfl, hs5, hp5, ho5⟩
   ·omega
   have hki : kids[i]? = some kids[i] := List.getElem?_eq_getElem hlt
   have hmem : kids[i] ∈ kids := List.getElem_mem hlt
   obtain ⟨hmi, hil⟩ := z04.get (hkids.new hk5) hki
   have htk : kids.take (i + 1) = kids.take i ++ [kids[i]] := by rw [List.take_add_one, hki]; rfl
   have hcell : ((ys5.drop (off + i * 5)).take 5) = (ks.drop (i * 5)).take 5 := by
    obtain ⟨t, ht⟩ := hp5
    have a1 : i * 5 ≤ ks.length := by omega
    have a2 : 5 ≤ (ks.drop (i * 5)).length := by rw [List.length_drop]; omega
    rw [← List.drop_drop, ← ht, List.drop_append_of_le_length a1, List.take_append_of_le_length a2]
   have hlen5 : off + i * 5 + 5 ≤ ys5.length := by
    obtain ⟨t, ht⟩ := hp5
    have := congrArg List.length ht
    simp at this
    omega
   have hwi := wrS i (by omega)
   have hwd := wrS deep (by omega)
   simp [go_sem, e1, e2, e4, e6, ht, hlt, hlt', hd12, hs5, hlen5, hcell, hwd]
   refine (ih kids[i] (deep := deep + 1) (n6 _ hmem) (by omega) hmi).mono ?_
   rintro e st6 ⟨cs6, rfl, hm6, hk6⟩
   have hl6 := hm6.length
   have h16 := hm6.cells1
   have ht6 := hk6 _ _ ht
   have hz6 := hk6 _ _ hz
   obtain ⟨⟨op6, name6, value6, vals6, kids6⟩, hkk⟩ : ∃ k, kids[i] = k := ⟨_, rfl⟩
   have hm6' := hm6
   rw [hkk] at hm6'
   unfold MatAt at hm6'
   obtain ⟨vv6, kv6, ks6, hcs6, hv6', hk6', -⟩ := hm6'
   obtain ⟨vb6, vc6, rfl⟩ := hv6'.slice
   obtain ⟨kb6, kc6, rfl⟩ := hk6'.slice
   subst hcs6
   simp [go_sem, e1, e2, e4, e6]
   unfold NewS
   intro nb hnb
   refine ⟨.own nb 0 64, ?_⟩
   have hN7 : New st6 (upd st6 nb (.cells true [Val.i op6, .string name6, .string value6, .slice vb6 vals6.length vc6, .slice kb6 kids6.length kc6] 5 (.own nb 0 64))) := (New.refl _).add hnb
   simp [go_sem, e1, e2, e4, e6]
   have hka6 := hka.new (hk6.trans hN7)
   have hlk := hka.len
   rw [List.length_take, Nat.min_eq_left (by omega)] at hlk
   refine AppI_new (st0 := st) (g := .ty 0) (m := 1) (ys := [Val.i op6, .string name6, .string value6, .slice vb6 vals6.length vc6, .slice kb6 kids6.length kc6]) si33 (hV.new' (hk6.trans hN7)) hF ((hk5.trans hk6).trans hN7) (by simp [z06, z0i, upd_same, cellsOf]) h16 (by omega) ?_
   intro base cap st8 hV8 hF8 hN8 hE8
   have ht8 := hE8.keep _ _ (hN7 _ _ ht6) (by simp [HObj.tag])
   have hz8 := hE8.keep _ _ (hN7 _ _ hz6) (by simp [HObj.tag])
   have hR8 := fun size v xs len (h : RegF st6 size v xs len) => (h.new hN7).ext hE8
   simp [go_sem, e1, e2, e4, e6, hwi]
   refine ⟨_, .rfl' _, ⟨hN8, ht8, hz8, hR8 _ _ _ _ (hv5.new hk6), i + 1, by omega, by omega, _, hV8, hF8, ?_⟩, by omega⟩
   rw [htk]
   exact z04.append (z04.mono hR8 _ _ (hka.new hk6)) (MatAt.mono hR8 _ _ hm6)
  ·have hlt' : ((i : Int) < kids.length) = False := eq_false (by omega)
   have : i = kids.length := by omega
   subst this
   rw [List.take_length] at hka
   simp [go_sem, e1, e2, e4, e6, ht]
   exact ⟨hk5, hz, hv5, ks', hV.reg.toF toF, hka⟩
 clear ht hz hk2 e1 e2 e4 e5 hv2
 rintro E3 st3 ⟨ks', hk3, e2, e4, ht, hz, hv3, hkv, hka⟩
 obtain ⟨kb', kc', e5⟩ := hkv.slice
 rw [e5] at hkv
 refine IW_cut (fun E' st' => New st st' ∧ E' 2 = ptr tb ∧ E' 4 = ptr to ∧ st' tb = some (.cells true [Val.i op, .string name, .string value, .slice vb' vals.length vc', .slice kb' kids.length kc'] 5 (.own tb 0 62)) ∧ st' to = some (.cells true zs 5 (.own to 0 63)) ∧ RegF st' 1 (.slice vb' vals.length vc') (vals.map .string) vals.length ∧ RegF st' 5 (.slice kb' kids.length kc') ks' kids.length ∧ z04 st' ks' kids) ?_ ?_
 ·simp [go_sem, e2, e4, e5, ht]
  have hR := fun size v xs len (h : RegF st3 size v xs len) => h.but (But1.put (o := .cells true [Val.i op, .string name, .string value, .slice vb' vals.length vc', .slice kb' kids.length kc'] 5 (.own tb 0 62)) (But1.refl tb st3)) ht
  exact ⟨hk3.put htb, by rw [upd_ne _ _ hne']; exact hz, hR _ _ _ _ hv3, hR _ _ _ _ hkv, z04.mono hR _ _ hka⟩
 clear ht hz hk3 e2 e4 hv3 hkv hka
 rintro E4 st4 ⟨hk4, e2, e4, ht, hz, hv4, hkv, hka⟩
 have hR := fun size v xs len (h : RegF st4 size v xs len) => h.but (But1.put (o := .cells true [Val.i op, .string name, .string value, .slice vb' vals.length vc', .slice kb' kids.length kc'] 5 (.own to 0 63)) (But1.refl to st4)) hz
 have hz0 : zs.drop 5 = [] := by rw [List.drop_eq_nil_iff]; omega
 simp [go_sem, e2, e4, ht, hz, hzs, hz0]
 refine z29 ?_
 simp [go_sem, e2, e4, ht, hz, hzs, hz0]
 refine ⟨?_, hk4.put hto⟩
 unfold MatAt
 exact ⟨_, _, ks', rfl, hR _ _ _ _ hv4, hR _ _ _ _ hkv, z04.mono hR _ _ hka⟩
end
end Go.Proofs.YtahgfnbkkfpcnaaGreat
