/- The document's matchers read: one matcher and its kids. -/
import Derived.Test.YtahgfnbkkfpcnaaGreatC40
import Derived.Test.YtahgfnbkkfpcnaaGreatC42
import Derived.Test.YtahgfnbkkfpcnaaGreatC32
set_option linter.unusedVariables false
set_option linter.unusedSimpArgs false
set_option maxRecDepth 100000
set_option maxHeartbeats 8000000
namespace Go.Proofs.YtahgfnbkkfpcnaaGreat
open Go.RowKit (Below)
def But2 (r s : Nat) (st st' : Heap) : Prop := ∀ k o, k ≠ r → k ≠ s → st k = some o → st' k = some o
theorem But2.refl (r s : Nat) (st : Heap) : But2 r s st st := fun _ _ _ _ h => h
theorem But2.trans {r s : Nat} {a b c : Heap} (h : But2 r s a b) (h' : But2 r s b c) : But2 r s a c := fun k o h1 h2 hk => h' k o h1 h2 (h k o h1 h2 hk)
theorem But1.two {r s : Nat} {a b : Heap} (h : But1 r a b) : But2 r s a b := fun k o h1 _ hk => h k o h1 hk
theorem New.two {r s : Nat} {a b : Heap} (h : New a b) : But2 r s a b := fun k o _ _ hk => h k o hk
theorem But2.put {r s b : Nat} {st0 st : Heap} {o : HObj} (h : But2 r s st0 st) (hb : st0 b = none) : But2 r s st0 (upd st b o) := fun k x h1 h2 hk => by
 rw [upd_ne _ _ (by rintro rfl; rw [hb] at hk; cases hk)]
 exact h k x h1 h2 hk
theorem But2.putr {r s : Nat} {st0 st : Heap} {o : HObj} (h : But2 r s st0 st) : But2 r s st0 (upd st r o) := fun k x h1 h2 hk => by
 rw [upd_ne _ _ h1]
 exact h k x h1 h2 hk
theorem But2.puts {r s : Nat} {st0 st : Heap} {o : HObj} (h : But2 r s st0 st) : But2 r s st0 (upd st s o) := fun k x h1 h2 hk => by
 rw [upd_ne _ _ h2]
 exact h k x h1 h2 hk
theorem RefAt.upd {st : Heap} {r b : Nat} {bv : Value} {p : Option Int} {o : HObj} (h : RefAt st r bv p) (hn : b ≠ r) : RefAt (upd st b o) r bv p := by
 unfold RefAt at h ⊢
 cases p with
 | some a => simp only at h ⊢; rw [upd_ne _ _ (Ne.symm hn)]; exact h
 | none => simp only at h ⊢; rw [upd_ne _ _ (Ne.symm hn)]; exact h
theorem RefAt.mv {st st' : Heap} {r : Nat} {bv : Value} {p : Option Int} (h : RefAt st r bv p) (hk : ∀ o, st r = some o → o.tag = some (.own r 0 94) → st' r = some o) : RefAt st' r bv p := by
 cases p with
 | some a => exact hk _ h rfl
 | none =>
  obtain ⟨a, h⟩ := h
  exact ⟨a, hk _ h rfl⟩
theorem But2.get {r s b : Nat} {st st' : Heap} {o : HObj} (h : But2 r s st st') (hb : st b = some o) (h1 : b ≠ r) (h2 : b ≠ s) : st' b = some o := h b o h1 h2 hb
theorem But2.none {r s b : Nat} {st st' : Heap} (h : But2 r s st st') (hb : st' b = none) (h1 : b ≠ r) (h2 : b ≠ s) : st b = none := by
 cases hz : st b with
 | none => rfl
 | some o => rw [h b o h1 h2 hz] at hb; cases hb
theorem But2.free {r s n m a b c d : Nat} {st st' : Heap} {w1 w2 : Bool} {xs ys : List Value} (h : But2 r s st st') (hr : st r = some (.cells w1 xs n (.own r a b))) (hs : st s = some (.cells w2 ys m (.own s c d))) : Keep Free st st' := fun k o g hk ht hp => by
 refine h k o ?_ ?_ hk
 ·rintro rfl
  rw [hr] at hk
  injection hk with hk
  subst hk
  injection ht with ht
  exact hp _ _ _ ht.symm
 ·rintro rfl
  rw [hs] at hk
  injection hk with hk
  subst hk
  injection ht with ht
  exact hp _ _ _ ht.symm
theorem but2_new (r s : Nat) (st : Heap) : ∃ s0 : Heap, (∀ st', New s0 st' ↔ But2 r s st st') ∧ (∀ v, Fresh st v → Fresh s0 v) := by
 refine ⟨fun k => if k = r ∨ k = s then none else st k, fun st' => ⟨fun h k o h1 h2 hk => h k o ?_, fun h k o hk => ?_⟩, fun v hv b off n c e => ?_⟩
 ·simp only
  rw [if_neg (by omega)]
  exact hk
 ·simp only at hk
  split at hk
  ·cases hk
  ·exact h k o (by omega) (by omega) hk
 ·simp only
  split
  ·rfl
  ·exact hv b off n c e
theorem z6i (n : Nat) : 1 ≤ (vputM n).length := by
 unfold vputM
 split <;> simp
theorem zie (s : ByteArray) : 1 ≤ (textB s).length := by
 unfold textB
 rw [List.length_append]
 have := z6i s.size
 omega
theorem putM_pos (m : Mat) : 1 ≤ (putM m).length := by
 obtain ⟨op, name, value, vals, kids⟩ := m
 unfold putM
 rw [List.length_append]
 have := z6i (IntKind.u64.wrap op).toNat
 omega
theorem z9o : ∀ l : List ByteArray, l.length ≤ ((l.map textB).flatten).length
 | [] => by simp
 | s :: l => by
  have := z9o l
  have h1 := zie s
  simp only [List.length_cons, List.map_cons, List.flatten_cons, List.length_append]
  omega
theorem zcx : ∀ l : List Mat, l.length ≤ (putsM l).length
 | [] => by simp
 | m :: l => by
  have := zcx l
  have h1 := putM_pos m
  unfold putsM
  simp only [List.length_cons, List.length_append]
  omega
theorem zgd {b : Bs} {k a : Nat} (ha : a ≤ b.length) (h : b.length < k + a) : txtsM b k (a : Int) = none := by
 cases ht : txtsM b k (a : Int) with
 | none => rfl
 | some r =>
  obtain ⟨h1, h2⟩ := z8t (l := r.1) (a' := r.2) (by omega) (by omega) ht
  have h3 := h2.len
  have h4 := z9o r.1
  have := h2.2.2.1
  omega
theorem zet {b : Bs} {d k a : Nat} {l : Int} (ha : a ≤ b.length) (h : b.length < k + a) : z0j (readM b d) k (a : Int) l = none := by
 cases ht : z0j (readM b d) k (a : Int) l with
 | none => rfl
 | some r =>
  have h1 := z6l ht
  have h2 := z4h (fun hr => z4m d hr) (by omega) (by omega) ht
  have h3 := h2.len
  have h4 := zcx r.1
  have := h2.2.2.1
  omega
def cntC (k : Int) (s : Nat) : HObj := .cells true [Val.i k] 1 (.own s 0 98)
def GotQ (st' : Heap) (r : Nat) (bv : Value) (cs : List Value) (k : Int) : Option (Mat × Int × Int) → Prop
 | some (m, a, l) => MatAt st' cs m ∧ RefAt st' r bv (some a) ∧ k = 64 - l
 | none => RefAt st' r bv none
def GotR (st : Heap) (r s : Nat) (bv : Value) (R : Option (Mat × Int × Int)) (e : Ending) (st' : Heap) : Prop := But2 r s st st' ∧ ∃ x0 x1 x2 x3 x4 : Value, e = .returned (.agg #[x0, x1, x2, x3, x4]) ∧ (x0.oneCell' = true ∧ x1.oneCell' = true ∧ x2.oneCell' = true ∧ x3.oneCell' = true ∧ x4.oneCell' = true) ∧ ∃ k, st' s = some (cntC k s) ∧ GotQ st' r bv [x0, x1, x2, x3, x4] k R
theorem zf2 (b : Bs) (most : Nat) : textR b most none = (⟨#[]⟩, none) := rfl
theorem z5l {b : Bs} {most : Nat} {a : Int} : textR b most (some a) = match txtM b a most with | some (s, a') => (s, some (a' : Int)) | none => (⟨#[]⟩, none) := rfl
theorem z6y {b : Bs} {a : Int} {most n a' : Nat} (h : numM b a most = some (n, a')) : vgetM b a = some (n, a') ∧ n ≤ most := by
 unfold numM at h
 obtain ⟨x, h1, h2⟩ := Option.bind_eq_some_iff.1 h
 split at h2
 ·injection h2 with h2
  subst h2
  exact ⟨h1, by assumption⟩
 ·cases h2
theorem zdk {b : Bs} {a : Int} {most : Nat} (h : numM b a most = none) : z10 b most (some a) = (0, none) := by
 unfold z10
 cases hv : vgetM b a with
 | none => simp [hv]
 | some x =>
  obtain ⟨n, a'⟩ := x
  simp only [Option.bind_some, hv]
  refine if_neg (fun hc => ?_)
  unfold numM at h
  rw [hv] at h
  simp [hc.1] at h
theorem zba {b : Bs} {most n a' : Nat} {a : Int} (h : numM b a most = some (n, a')) (hb : n + a' ≤ b.length) : z10 b most (some a) = (n, some (a' : Int)) := by
 obtain ⟨h1, h2⟩ := z6y h
 unfold z10
 simp only [Option.bind_some, h1]
 exact if_pos ⟨h2, hb⟩
theorem zce {b : Bs} {most n a' : Nat} {a : Int} (h : numM b a most = some (n, a')) (hb : b.length < n + a') : z10 b most (some a) = (0, none) := by
 obtain ⟨h1, h2⟩ := z6y h
 unfold z10
 simp only [Option.bind_some, h1]
 exact if_neg (by omega)
theorem zf7 {b : Bs} {d deep : Nat} {a k : Int} (hd : deep + d = 9) (h : 64 < k + 1 ∨ 8 < deep) : readM b d a (64 - k) = none := by
 cases d with
 | zero => rfl
 | succ d => unfold readM; rw [if_pos (by omega)]
section
variable {W0 : World}
theorem zdd {bv : Value} {b : Bs} {g0 : Tg} (hl : b.length < 2 ^ 60) (hg : Free g0) (d : Nat)
  (ih : ∀ d', d = d' + 1 → ∀ {st : Heap} {r s deep : Nat} {p : Option Int} {k : Int}, deep + d' = 9 → r ≠ s → RefAt st r bv p → st s = some (cntC k s) → Reg st g0 1 bv (bytesV b) b.length → 0 ≤ k → k ≤ 64 →
   z00 Tryz.prog W0 167 #[ptr r, ptr s, Val.i deep] st (GotR st r s bv (p.bind fun a => readM b d' a (64 - k)))) :
  ∀ {st : Heap} {r s deep : Nat} {p : Option Int} {k : Int}, deep + d = 9 → r ≠ s → RefAt st r bv p → st s = some (cntC k s) → Reg st g0 1 bv (bytesV b) b.length → 0 ≤ k → k ≤ 64 →
   z00 Tryz.prog W0 167 #[ptr r, ptr s, Val.i deep] st (GotR st r s bv (p.bind fun a => readM b d a (64 - k))) := by
 intro st r s deep p k hd hrs hr hs hb hk0 hk1
 generalize hRES : (p.bind fun a => readM b d a (64 - k)) = RES
 have hsr := Ne.symm hrs
 have hwk : IntKind.i64.wrap (k + 1) = k + 1 := z03 (by omega) (by omega)
 obtain ⟨a0, bad0, hr0, hp⟩ := hr.cell
 have hfree : ∀ {st'}, But2 r s st st' → Keep Free st st' := fun h => h.free hr0 hs
 have hbk : ∀ {st' : Heap}, But2 r s st st' → Reg st' g0 1 bv (bytesV b) b.length := fun hk => hb.keep (hfree hk) hg
 refine enter (args := [_, _, _]) Tryz.func167 rfl ?_
 refine IW_cut (fun E' st' => ∃ tb, But2 r s st st' ∧ tb ≠ r ∧ tb ≠ s ∧ st tb = none ∧ E' 0 = ptr r ∧ E' 1 = ptr s ∧ E' 2 = Val.i deep ∧ E' 6 = ptr tb ∧ st' tb = some (.cells true z0v 5 (.own tb 0 74)) ∧ RefAt st' r bv p ∧ st' s = some (cntC k s)) ?_ ?_
 ·simp [go_sem]
  unfold NewP
  intro tb htb
  refine ⟨.own tb 0 74, ?_⟩
  have n1 : tb ≠ r := Ne.symm (ne_of_new hr0 htb)
  have n2 : tb ≠ s := Ne.symm (ne_of_new hs htb)
  simp [go_sem]
  exact ⟨(But2.refl _ _ _).put htb, tb, n1, n2, htb, rfl, upd_same _ _ _, hr.upd n1, by rw [upd_ne _ _ (Ne.symm n2)]; exact hs⟩
 rintro E1 st1 ⟨tb, hk1', n1, n2, n3, e0, e1, e2, e6, ht1, hr1, hs1⟩
 refine IW_cut (fun E' st' => But2 r s st st' ∧ E' 0 = ptr r ∧ E' 1 = ptr s ∧ E' 2 = Val.i deep ∧ E' 6 = ptr tb ∧ st' tb = some (.cells true z0v 5 (.own tb 0 74)) ∧ RefAt st' r bv p ∧ st' s = some (cntC (k + 1) s)) ?_ ?_
 ·have hs1' := hs1
  unfold cntC at hs1'
  simp [go_sem, e0, e1, e2, e6, hs1', hwk]
  exact ⟨hk1'.puts, by rw [upd_ne _ _ n2]; exact ht1, hr1.upd hsr, rfl⟩
 clear hs1 hr1 ht1 hk1' e0 e1 e2 e6
 rintro E2 st2 ⟨hk2, e0, e1, e2, e6, ht2, hr2, hs2⟩
 refine IW_cut (fun E' st' => But2 r s st st' ∧ E' 0 = ptr r ∧ E' 1 = ptr s ∧ E' 2 = Val.i deep ∧ E' 6 = ptr tb ∧ st' tb = some (.cells true z0v 5 (.own tb 0 74)) ∧ RefAt st' r bv (if 64 < k + 1 ∨ 8 < deep then none else p) ∧ st' s = some (cntC (k + 1) s)) ?_ ?_
 ·have hs2' := hs2
  unfold cntC at hs2'
  obtain ⟨a2, bad2, hr2', hp2⟩ := hr2.cell
  unfold refC at hr2'
  by_cases c1 : 64 < k + 1
  ·have q1 := eq_true c1
   rw [if_pos (.inl c1)]
   simp [go_sem, e0, e1, e2, e6, hs2', q1, hr2']
   exact ⟨hk2.putr, by rw [upd_ne _ _ n1]; exact ht2, ⟨a2, upd_same _ _ _⟩, by rw [upd_ne _ _ hsr]; exact hs2⟩
  have q1 := eq_false c1
  by_cases c2 : 8 < deep
  ·have q2 : ((8 : Int) < deep) = True := eq_true (by omega)
   rw [if_pos (.inr c2)]
   simp [go_sem, e0, e1, e2, e6, hs2', q1, q2, hr2']
   exact ⟨hk2.putr, by rw [upd_ne _ _ n1]; exact ht2, ⟨a2, upd_same _ _ _⟩, by rw [upd_ne _ _ hsr]; exact hs2⟩
  have q2 : ((8 : Int) < deep) = False := eq_false (by omega)
  rw [if_neg (by omega)]
  simp [go_sem, e0, e1, e2, e6, hs2', q1, q2]
  exact ⟨hk2, ht2, hr2, rfl⟩
 clear hk2 e0 e1 e2 e6 ht2 hr2 hs2
 rintro E3 st3 ⟨hk3, e0, e1, e2, e6, ht3, hr3, hs3⟩
 generalize hp3 : (if 64 < k + 1 ∨ 8 < deep then none else p) = p3 at hr3
 have hRES3 : RES = (p3.bind fun a => readM b d a (64 - k)) := by
  rw [← hRES, ← hp3]
  split
  ·rename_i hc
   cases p with
   | none => rfl
   | some a => exact zf7 hd hc
  ·rfl
 have hd8 : p3 ≠ none → 0 ≤ 64 - k - 1 ∧ 1 ≤ d := by
  intro h
  rw [← hp3] at h
  split at h
  ·exact absurd rfl h
  ·omega
 clear hp3
 refine IW_cut (fun E' st' => But2 r s st st' ∧ E' 0 = ptr r ∧ E' 1 = ptr s ∧ E' 2 = Val.i deep ∧ E' 6 = ptr tb ∧ E' 7 = Val.u (numR b p3).1 ∧ st' tb = some (.cells true z0v 5 (.own tb 0 74)) ∧ RefAt st' r bv (numR b p3).2 ∧ st' s = some (cntC (k + 1) s)) ?_ ?_
 ·simp [go_sem, e0, e1, e2, e6]
  refine (z5o hr3 (hbk hk3) hg hl).mono ?_
  rintro e st4 ⟨hB4, rfl, hR4⟩
  have hk4 := hk3.trans hB4.two
  simp [go_sem]
  exact ⟨hk4, e0, e1, e2, e6, hB4.get ht3 n1, hR4, hB4.get hs3 hsr⟩
 clear hk3 e0 e1 e2 e6 ht3 hr3 hs3
 rintro E4 st4 ⟨hk4, e0, e1, e2, e6, e7, ht4, hr4, hs4⟩
 have early : ∀ {st' : Heap}, But2 r s st st' → RefAt st' r bv none → st' s = some (cntC (k + 1) s) → RES = none → GotR st r s bv RES (.returned (.agg z0v.toArray)) (upd st' tb (.cells true z0v 5 (.own tb 0 74))) := by
  intro st' h1 h2 h3 h4
  rw [h4]
  exact ⟨h1.put n3, _, _, _, _, _, rfl, ⟨rfl, rfl, rfl, rfl, rfl⟩, k + 1, by rw [upd_ne _ _ (Ne.symm n2)]; exact h3, h2.upd n1⟩
 refine z1a (fun E' st' => ∃ (a : Int) (op a1 : Nat), p3 = some a ∧ numM b a 7 = some (op, a1) ∧ op ≤ 7 ∧ a1 ≤ b.length ∧ But2 r s st st' ∧ E' 0 = ptr r ∧ E' 1 = ptr s ∧ E' 2 = Val.i deep ∧ E' 6 = ptr tb ∧ E' 7 = Val.u op ∧ st' tb = some (.cells true z0v 5 (.own tb 0 74)) ∧ RefAt st' r bv (some (a1 : Int)) ∧ st' s = some (cntC (k + 1) s)) ?_ ?_
 ·cases hv : p3.bind (vgetM b) with
  | none =>
   have hnum : numR b p3 = (0, none) := by unfold numR; rw [hv]
   rw [hnum] at hr4 e7
   have hn : RES = none := by
    rw [hRES3]
    cases p3 with
    | none => rfl
    | some a =>
     obtain ⟨h1, h2⟩ := hd8 (by simp)
     obtain ⟨d, rfl⟩ : ∃ d', d = d' + 1 := ⟨d - 1, by omega⟩
     simp only [Option.bind_some] at hv ⊢
     unfold readM
     rw [if_neg (by omega)]
     unfold headM numM
     rw [hv]
     rfl
   obtain ⟨a, hr4'⟩ := hr4
   unfold refC at hr4'
   have ht4' := ht4
   unfold z0v at ht4'
   simp [go_sem, e0, e1, e2, e6, e7, hr4', ht4', n1]
   refine z29 ?_
   simp [go_sem, e6]
   exact early hk4.putr ⟨a, upd_same _ _ _⟩ (by rw [upd_ne _ _ hsr]; exact hs4) hn
  | some x =>
   obtain ⟨op, a1⟩ := x
   have hnum : numR b p3 = (op, some (a1 : Int)) := by unfold numR; rw [hv]
   rw [hnum] at hr4 e7
   obtain ⟨a, rfl, hv'⟩ : ∃ a, p3 = some a ∧ vgetM b a = some (op, a1) := by
    obtain ⟨a, h1, h2⟩ := Option.bind_eq_some_iff.1 hv
    exact ⟨a, h1, h2⟩
   have hbd := z21 hv'
   simp only at hbd
   have hr4' := hr4
   change st4 r = some (refC bv (a1 : Int) false r) at hr4'
   unfold refC at hr4'
   have ht4' := ht4
   unfold z0v at ht4'
   by_cases h7 : op ≤ 7
   ·have q7 : ((7 : Int) < op) = False := eq_false (by omega)
    simp [go_sem, e0, e1, e2, e6, e7, hr4', ht4', q7]
    exact ⟨op, a1, by unfold numM; rw [hv']; simp [h7], h7, hbd.2.2, hk4, rfl, rfl, hr4', hs4⟩
   ·have q7 : ((7 : Int) < op) = True := eq_true (by omega)
    have hn : RES = none := by
     rw [hRES3]
     obtain ⟨h1, h2⟩ := hd8 (by simp)
     obtain ⟨d, rfl⟩ : ∃ d', d = d' + 1 := ⟨d - 1, by omega⟩
     simp only [Option.bind_some]
     unfold readM
     rw [if_neg (by omega)]
     unfold headM numM
     rw [hv']
     simp [h7]
    simp [go_sem, e0, e1, e2, e6, e7, hr4', ht4', q7, n1]
    refine z29 ?_
    simp [go_sem, e6]
    exact early hk4.putr ⟨a1, upd_same _ _ _⟩ (by rw [upd_ne _ _ hsr]; exact hs4) hn
 clear e0 e1 e2 e6 e7 ht4 hr4 hs4 hk4
 rintro E5 st5 ⟨a, op, a1, rfl, hop, hop7, ha1, hk5, e0, e1, e2, e6, e7, ht5, hr5, hs5⟩
 obtain ⟨hk2, hd1⟩ := hd8 (by simp)
 obtain ⟨d, rfl⟩ : ∃ d', d = d' + 1 := ⟨d - 1, by omega⟩
 simp only [Option.bind_some] at hRES3
 unfold readM at hRES3
 rw [if_neg (by omega)] at hRES3
 unfold headM at hRES3
 rw [hop] at hRES3
 simp only [Option.bind_some] at hRES3
 clear hd8 hRES
 refine IW_cut (fun E' st' => ∃ tm, tm ≠ r ∧ tm ≠ s ∧ tm ≠ tb ∧ st tm = none ∧ But2 r s st st' ∧ E' 0 = ptr r ∧ E' 1 = ptr s ∧ E' 2 = Val.i deep ∧ E' 6 = ptr tb ∧ E' 8 = ptr tm ∧ st' tb = some (.cells true z0v 5 (.own tb 0 74)) ∧ st' tm = some (.cells true [Val.i op, .string ⟨#[]⟩, .string ⟨#[]⟩, .slice none 0 0, .slice none 0 0] 5 (.own tm 0 75)) ∧ RefAt st' r bv (some (a1 : Int)) ∧ st' s = some (cntC (k + 1) s)) ?_ ?_
 ·have hwo : IntKind.i64.wrap (op : Int) = op := z03 (by omega) (by omega)
  simp [go_sem, e0, e1, e2, e6, e7, hwo]
  unfold NewP
  intro tm htm
  refine ⟨.own tm 0 75, ?_⟩
  have m1 : tm ≠ r := Ne.symm (ne_of_new hr5 htm)
  have m2 : tm ≠ s := Ne.symm (ne_of_new hs5 htm)
  have m3 : tm ≠ tb := Ne.symm (ne_of_new ht5 htm)
  simp [go_sem, e0, e1, e2, e6]
  exact ⟨tm, m1, m2, m3, hk5.none htm m1 m2, hk5.put (hk5.none htm m1 m2), rfl, by rw [upd_ne _ _ (Ne.symm m3)]; exact ht5, upd_same _ _ _, hr5.upd m1, by rw [upd_ne _ _ (Ne.symm m2)]; exact hs5⟩
 clear e0 e1 e2 e6 e7 ht5 hr5 hs5 hk5
 rintro E6 st6 ⟨tm, m1, m2, m3, m4, hk6, e0, e1, e2, e6, e8, ht6, hm6, hr6, hs6⟩
 refine IW_cut (fun E' st' => E' 6 = ptr tb ∧ E' 8 = ptr tm ∧ But2 r s st st' ∧ st' tb = some (.cells true z0v 5 (.own tb 0 74)) ∧ ∃ x0 x1 x2 x3 x4 : Value, st' tm = some (.cells true [x0, x1, x2, x3, x4] 5 (.own tm 0 75)) ∧ (x0.oneCell' = true ∧ x1.oneCell' = true ∧ x2.oneCell' = true ∧ x3.oneCell' = true ∧ x4.oneCell' = true) ∧ ∃ k, st' s = some (cntC k s) ∧ GotQ st' r bv [x0, x1, x2, x3, x4] k RES) ?_ ?_
 ·have hoc : op = 0 ∨ (op = 1 ∨ op = 2 ∨ op = 3) ∨ op = 4 ∨ (op = 5 ∨ op = 6) ∨ op = 7 := by omega
  rcases hoc with h0 | h123 | h4 | h56 | h7
  ·subst h0
   simp [z0j] at hRES3
   simp [go_sem, e0, e1, e2, e6, e8, hm6]
   subst hRES3
   refine ⟨hk6, ht6, _, _, _, _, _, ⟨rfl, rfl, rfl, rfl, rfl⟩, ⟨rfl, rfl, rfl, rfl, rfl⟩, k + 1, hs6, ?_, hr6, by omega⟩
   unfold MatAt
   exact ⟨_, _, [], rfl, RegF.nil, RegF.nil, by unfold z04; rfl⟩
  ·have hRES1 : RES = (txtM b a1 32).bind fun q => (txtM b q.2 64).bind fun z => some (Mat.mk op q.1 z.1 [] [], (z.2 : Int), 64 - k - 1) := by
    rw [hRES3, if_pos h123]
    cases txtM b a1 32 with
    | none => rfl
    | some q => cases h : txtM b q.2 64 <;> simp [h, z0j]
   clear hRES3 hop
   rcases h123 with rfl | rfl | rfl
   all_goals
    simp [go_sem, e0, e1, e2, e6, e8, hm6]
    refine (z7b (most := 32) hr6 (hbk hk6) hg hl (by omega)).mono ?_
    rintro e st7 ⟨hB7, rfl, hr7⟩
    have hm7 := hB7.get hm6 m1
    have ht7 := hB7.get ht6 n1
    have hs7 := hB7.get hs6 hsr
    have hk7 := hk6.trans hB7.two
    generalize hT : textR b 32 (some (a1 : Int)) = T at *
    obtain ⟨s1, p1⟩ := T
    simp only at hr7
    simp [go_sem, e0, e1, e2, e6, e8, hm7]
    refine (z7b (most := 64) (hr7.upd m1) (hbk (hk7.put m4)) hg hl (by omega)).mono ?_
    rintro e st8 ⟨hB8, rfl, hr8⟩
    have hm8 := hB8.get (upd_same st7 tm _) m1
    have ht8 := hB8.get ((upd_ne st7 _ (Ne.symm m3)).trans ht7) n1
    have hs8 := hB8.get ((upd_ne st7 _ (Ne.symm m2)).trans hs7) hsr
    have hk8 := (hk7.put m4).trans hB8.two
    generalize hU : textR b 64 p1 = U at *
    obtain ⟨s2, p2⟩ := U
    simp only at hr8
    simp [go_sem, e0, e1, e2, e6, e8, hm8]
    refine ⟨hk8.put m4, by rw [upd_ne _ _ (Ne.symm m3)]; exact ht8, _, _, _, _, _, ⟨rfl, rfl, rfl, rfl, rfl⟩, ⟨rfl, rfl, rfl, rfl, rfl⟩, k + 1, by rw [upd_ne _ _ (Ne.symm m2)]; exact hs8, ?_⟩
    rw [hRES1]
    rw [z5l] at hT
    cases hx1 : txtM b a1 32 with
    | none =>
     rw [hx1] at hT
     injection hT with hT1 hT2
     subst hT1
     subst hT2
     rw [zf2] at hU
     injection hU with hU1 hU2
     subst hU1
     subst hU2
     exact RefAt.upd (p := none) hr8 m1
    | some q =>
     obtain ⟨q1, q2⟩ := q
     rw [hx1] at hT
     injection hT with hT1 hT2
     subst hT1
     subst hT2
     rw [z5l] at hU
     simp only [Option.bind_some]
     cases hx2 : txtM b q2 64 with
     | none =>
      rw [hx2] at hU
      injection hU with hU1 hU2
      subst hU1
      subst hU2
      exact RefAt.upd (p := none) hr8 m1
     | some z =>
      obtain ⟨z1, z2⟩ := z
      rw [hx2] at hU
      injection hU with hU1 hU2
      subst hU1
      subst hU2
      refine ⟨?_, hr8.upd m1, by omega⟩
      unfold MatAt
      exact ⟨_, _, [], rfl, RegF.nil, RegF.nil, by unfold z04; rfl⟩
  ·have hRES1 : RES = (txtM b a1 32).bind fun q => (numM b q.2 16).bind fun c => (txtsM b c.1 c.2).bind fun z => some (Mat.mk 4 q.1 ⟨#[]⟩ z.1 [], z.2, 64 - k - 1) := by
    rw [hRES3, if_neg (by omega), if_pos h4]
    cases txtM b a1 32 with
    | none => rfl
    | some q =>
     cases h : numM b q.2 16 with
     | none => simp [h]
     | some c => cases h' : txtsM b c.1 c.2 <;> simp [h, h', z0j]
   clear hRES3 hop
   subst h4
   simp [go_sem, e0, e1, e2, e6, e8, hm6]
   refine (z7b (most := 32) hr6 (hbk hk6) hg hl (by omega)).mono ?_
   rintro e st7 ⟨hB7, rfl, hr7⟩
   have hm7 := hB7.get hm6 m1
   have ht7 := hB7.get ht6 n1
   have hs7 := hB7.get hs6 hsr
   have hk7 := hk6.trans hB7.two
   generalize hT : textR b 32 (some (a1 : Int)) = T at *
   obtain ⟨s1, p1⟩ := T
   simp only at hr7
   simp [go_sem, e0, e1, e2, e6, e8, hm7]
   refine (z6f (most := 16) (hr7.upd m1) (hbk (hk7.put m4)) hg hl (by omega)).mono ?_
   rintro e st8 ⟨hB8, rfl, hr8⟩
   have hm8 := hB8.get (upd_same st7 tm _) m1
   have ht8 := hB8.get ((upd_ne st7 _ (Ne.symm m3)).trans ht7) n1
   have hs8 := hB8.get ((upd_ne st7 _ (Ne.symm m2)).trans hs7) hsr
   have hk8 := (hk7.put m4).trans hB8.two
   generalize hU : z10 b 16 p1 = U at *
   obtain ⟨c, p2⟩ := U
   simp only at hr8
   obtain ⟨TX, hTX, hTX1, hTX2, hc16⟩ : ∃ TX : Option (List ByteArray × Int), RES = (TX.bind fun z => some (Mat.mk 4 s1 ⟨#[]⟩ z.1 [], z.2, 64 - k - 1)) ∧ (∀ a3, p2 = some a3 → TX = txtsM b c a3) ∧ (p2 = none → TX = none) ∧ c ≤ 16 := by
    rw [z5l] at hT
    cases hx1 : txtM b a1 32 with
    | none =>
     rw [hx1] at hT
     injection hT with hT1 hT2
     subst hT1
     subst hT2
     have hU' : z10 b 16 none = (0, none) := rfl
     rw [hU'] at hU
     injection hU with hU1 hU2
     subst hU1
     subst hU2
     exact ⟨none, by rw [hRES1, hx1]; rfl, by simp, by simp, by omega⟩
    | some q =>
     obtain ⟨q1, q2⟩ := q
     rw [hx1] at hT hRES1
     injection hT with hT1 hT2
     subst hT1
     subst hT2
     simp only [Option.bind_some] at hRES1
     cases hx2 : numM b q2 16 with
     | none =>
      rw [zdk hx2] at hU
      injection hU with hU1 hU2
      subst hU1
      subst hU2
      exact ⟨none, by rw [hRES1, hx2]; rfl, by simp, by simp, by omega⟩
     | some z =>
      obtain ⟨z1, z2⟩ := z
      rw [hx2] at hRES1
      simp only [Option.bind_some] at hRES1
      have hn := z6y hx2
      by_cases hbig : b.length < z1 + z2
      ·rw [zce hx2 hbig] at hU
       injection hU with hU1 hU2
       subst hU1
       subst hU2
       have hv := z21 hn.1
       simp only at hv
       exact ⟨none, by rw [hRES1, zgd hv.2.2 hbig], by simp, by simp, by omega⟩
      ·rw [zba hx2 (by omega)] at hU
       injection hU with hU1 hU2
       subst hU1
       subst hU2
       exact ⟨_, hRES1, fun a3 h => by injection h with h; subst h; rfl, by simp, hn.2⟩
   clear hRES1 hT hU
   obtain ⟨s0, hs01, hs02⟩ := but2_new r s st
   simp [go_sem, e0, e1, e2, e6, e8]
   refine ⟨fun E st' => But2 r s st st' ∧ E 0 = ptr r ∧ E 6 = ptr tb ∧ E 8 = ptr tm ∧ E 9 = Val.i c ∧ st' tb = some (.cells true z0v 5 (.own tb 0 74)) ∧ st' s = some (cntC (k + 1) s) ∧ ∃ (i : Nat) (vs : List ByteArray) (vv : Value) (p : Option Int), E 10 = Val.i i ∧ i ≤ c ∧ vs.length = i ∧ st' tm = some (.cells true [Val.i 4, .string s1, .string ⟨#[]⟩, vv, .slice none 0 0] 5 (.own tm 0 75)) ∧ Vec st' (.ty 1) 1 vv (vs.map .string) i ∧ Fresh s0 vv ∧ RefAt st' r bv p ∧ (∀ a3, p = some a3 → TX = (txtsM b (c - i) a3).map fun z => (vs ++ z.1, z.2)) ∧ (p = none → TX = none),
    fun E _ => match E 10 with | .int _ i => c - i.toNat | _ => 0, ⟨st8, .rfl' _, hk8, by simp [go_sem, e0], by simp [go_sem, e6], by simp [go_sem, e8], by simp [go_sem], ht8, hs8, 0, [], .slice none 0 0, p2, by simp [go_sem], by omega, rfl, hm8, Vec.nil, Fresh.none, hr8, fun a3 h => by rw [hTX1 a3 h]; cases txtsM b c a3 <;> simp, hTX2⟩, ?_⟩
   clear e0 e1 e2 e6 e8 hk6 hk7 hk8 hm6 hm7 hm8 ht6 ht7 ht8 hs6 hs7 hs8 hr6 hr7 hr8 hB7 hB8 hTX1 hTX2
   rintro E st9 ⟨hk9, e0, e6, e8, e9, ht9, hs9, i, vs, vv, p, e10, hi, hvl, hm9, hV, hF, hr9, hX1, hX2⟩
   obtain ⟨vb, vc, hvv⟩ := hV.slice
   have hr9' := hr9.cell
   obtain ⟨a9, bad9, hr9', hp9⟩ := hr9'
   unfold refC at hr9'
   have leave : (i = c ∨ bad9 = true) → ∃ x0 x1 x2 x3 x4 : Value, (Val.i 4 = x0 ∧ Value.string s1 = x1 ∧ Value.string ⟨#[]⟩ = x2 ∧ vv = x3 ∧ Value.slice none 0 0 = x4) ∧ (x0.oneCell' = true ∧ x1.oneCell' = true ∧ x2.oneCell' = true ∧ x3.oneCell' = true ∧ x4.oneCell' = true) ∧ ∃ k, st9 s = some (cntC k s) ∧ GotQ st9 r bv [x0, x1, x2, x3, x4] k RES := by
    intro h
    refine ⟨_, _, _, _, _, ⟨rfl, rfl, rfl, rfl, rfl⟩, ⟨rfl, rfl, rfl, by rw [hvv]; rfl, rfl⟩, k + 1, hs9, ?_⟩
    rw [hTX]
    cases p with
    | none => rw [hX2 rfl]; exact hr9
    | some a3 =>
     have hc : i = c := by
      rcases h with h | h
      ·exact h
      ·rw [h] at hp9; simp at hp9
     rw [hX1 a3 rfl, hc, Nat.sub_self]
     simp only [txtsM, Option.map_some, Option.bind_some, List.append_nil]
     refine ⟨?_, hr9, by omega⟩
     unfold MatAt
     exact ⟨_, _, [], rfl, hvl ▸ hV.reg.toF Free.ty, RegF.nil, by unfold z04; rfl⟩
   by_cases hlt : i < c
   rotate_left
   ·have hlt' : ((i : Int) < c) = False := eq_false (by omega)
    simp [go_sem, e0, e6, e8, e9, e10, hlt', hlt, hm9]
    exact ⟨hk9, ht9, leave (.inl (by omega))⟩
   have hlt' : ((i : Int) < c) = True := eq_true (by omega)
   cases bad9 with
   | true =>
    simp [go_sem, e0, e6, e8, e9, e10, hlt', hlt, hm9, hr9']
    exact ⟨hk9, ht9, leave (.inr rfl)⟩
   | false =>
   simp only [Bool.false_eq_true, if_false] at hp9
   subst hp9
   have hwi := wrS i (by omega)
   simp [go_sem, e0, e6, e8, e9, e10, hlt', hlt, hm9, hr9']
   refine (z7b (most := 64) hr9 (hbk hk9) hg hl (by omega)).mono ?_
   rintro e st10 ⟨hB10, rfl, hr10⟩
   have hm10 := hB10.get hm9 m1
   have ht10 := hB10.get ht9 n1
   have hs10 := hB10.get hs9 hsr
   have hk10 := hk9.trans hB10.two
   have hV10 := hV.but hB10 hr9'
   generalize hT : textR b 64 (some a9) = T at *
   obtain ⟨s4, p4⟩ := T
   simp only at hr10
   simp [go_sem, e0, e6, e8, e9, e10, hm10]
   unfold NewS
   intro nb hnb
   refine ⟨.ty 0, ?_⟩
   simp [go_sem]
   have hN := (New.refl st10).add (b := nb) (o := .cells true [.string s4] 1 (.ty 0)) hnb
   rw [hvv] at hV10 hF ⊢
   refine AppI_new (st0 := s0) (g := .ty 1) (m := 1) (ys := [.string s4]) si32 (hV10.new' hN) hF ((hs01 _).2 (hk10.trans hN.two)) ?_ (by simp; rfl) (by omega) ?_
   ·simp [z06, z0i, upd_same, cellsOf]
   intro base' cap' st11 hV11 hF11 hN11 hE11
   have hm11 := hE11.keep _ _ (hN _ _ hm10) (by simp [HObj.tag])
   have ht11 := hE11.keep _ _ (hN _ _ ht10) (by simp [HObj.tag])
   have hs11 := hE11.keep _ _ (hN _ _ hs10) (by simp [HObj.tag, cntC])
   have hk11 := (hs01 _).1 hN11
   simp [go_sem, e0, e6, e8, e9, e10, hm11, hwi]
   refine ⟨_, .rfl' _, ⟨hk11.put m4, by rw [upd_ne _ _ (Ne.symm m3)]; exact ht11, by rw [upd_ne _ _ (Ne.symm m2)]; exact hs11, i + 1, by omega, by omega, vs ++ [s4], by simp [hvl], _, upd_same _ _ _, ?_, hF11, p4, RefAt.upd ?_ m1, ?_, ?_⟩, by omega⟩
   ·have := hV11.but (But1.put (o := .cells true [Val.i 4, .string s1, .string ⟨#[]⟩, .slice base' (i + 1) cap', .slice none 0 0] 5 (.own tm 0 75)) (But1.refl tm st11)) hm11
    simpa using this
   ·exact hr10.mv fun o ho ht => hE11.keep _ _ (hN _ _ ho) (by rw [ht]; simp)
   ·intro a3 h3
    obtain ⟨m, hm⟩ : ∃ m, c - i = m + 1 := ⟨c - i - 1, by omega⟩
    have hx := hX1 a9 rfl
    rw [hm] at hx
    unfold txtsM at hx
    rw [z5l] at hT
    cases hx1 : txtM b a9 64 with
    | none =>
     rw [hx1] at hT
     injection hT with hT1 hT2
     rw [h3] at hT2
     cases hT2
    | some q =>
     rw [hx1] at hT hx
     injection hT with hT1 hT2
     rw [h3] at hT2
     injection hT2 with hT2
     simp only [Option.bind_some] at hx
     rw [hx, show c - (i + 1) = m by omega, ← hT2, ← hT1]
     cases txtsM b m q.2 <;> simp
   ·intro h3
    obtain ⟨m, hm⟩ : ∃ m, c - i = m + 1 := ⟨c - i - 1, by omega⟩
    have hx := hX1 a9 rfl
    rw [hm] at hx
    unfold txtsM at hx
    rw [z5l] at hT
    cases hx1 : txtM b a9 64 with
    | none => rw [hx, hx1]; rfl
    | some q =>
     rw [hx1] at hT
     injection hT with hT1 hT2
     rw [h3] at hT2
     cases hT2
  ·have hRES1 : RES = (numM b a1 64).bind fun c => (z0j (readM b d) c.1 c.2 (64 - k - 1)).bind fun z => some (Mat.mk op ⟨#[]⟩ ⟨#[]⟩ [] z.1, z.2) := by
    rw [hRES3, if_neg (by omega), if_neg (by omega), if_pos h56]
    cases numM b a1 64 with
    | none => rfl
    | some c => cases h' : z0j (readM b d) c.1 c.2 (64 - k - 1) <;> simp [h']
   clear hRES3 hop
   obtain ⟨s0, hs01, hs02⟩ := but2_new r s st
   rcases h56 with rfl | rfl
   all_goals
    simp [go_sem, e0, e1, e2, e6, e8, hm6]
    refine (z6f (most := 64) hr6 (hbk hk6) hg hl (by omega)).mono ?_
    rintro e st8 ⟨hB8, rfl, hr8⟩
    have hm8 := hB8.get hm6 m1
    have ht8 := hB8.get ht6 n1
    have hs8 := hB8.get hs6 hsr
    have hk8 := hk6.trans hB8.two
    generalize hU : z10 b 64 (some (a1 : Int)) = U at *
    obtain ⟨c, p2⟩ := U
    simp only at hr8
    obtain ⟨KX, hKX, hKX1, hKX2, hc64⟩ : ∃ KX : Option (List Mat × Int × Int), RES = (KX.bind fun z => some (Mat.mk _ ⟨#[]⟩ ⟨#[]⟩ [] z.1, z.2)) ∧ (∀ a3, p2 = some a3 → KX = z0j (readM b d) c a3 (64 - (k + 1))) ∧ (p2 = none → KX = none) ∧ c ≤ 64 := by
     rw [show 64 - k - 1 = 64 - (k + 1) by omega] at hRES1
     cases hx2 : numM b a1 64 with
     | none =>
      rw [zdk hx2] at hU
      injection hU with hU1 hU2
      subst hU1
      subst hU2
      exact ⟨none, by rw [hRES1, hx2]; rfl, by simp, by simp, by omega⟩
     | some z =>
      obtain ⟨z1, z2⟩ := z
      rw [hx2] at hRES1
      simp only [Option.bind_some] at hRES1
      have hn := z6y hx2
      by_cases hbig : b.length < z1 + z2
      ·rw [zce hx2 hbig] at hU
       injection hU with hU1 hU2
       subst hU1
       subst hU2
       have hv := z21 hn.1
       simp only at hv
       exact ⟨none, by rw [hRES1, zet hv.2.2 hbig], by simp, by simp, by omega⟩
      ·rw [zba hx2 (by omega)] at hU
       injection hU with hU1 hU2
       subst hU1
       subst hU2
       exact ⟨_, hRES1, fun a3 h => by injection h with h; subst h; rfl, by simp, hn.2⟩
    clear hRES1 hU
    simp [go_sem, e0, e1, e2, e6, e8]
    refine ⟨fun E st' => But2 r s st st' ∧ E 0 = ptr r ∧ E 1 = ptr s ∧ E 2 = Val.i deep ∧ E 6 = ptr tb ∧ E 8 = ptr tm ∧ E 12 = Val.i c ∧ st' tb = some (.cells true z0v 5 (.own tb 0 74)) ∧ ∃ (i : Nat) (kvs : List Mat) (kv : Value) (ks : List Value) (p : Option Int) (kk : Int), st' s = some (cntC kk s) ∧ E 13 = Val.i i ∧ i ≤ c ∧ kvs.length = i ∧ st' tm = some (.cells true [Val.i _, .string ⟨#[]⟩, .string ⟨#[]⟩, .slice none 0 0, kv] 5 (.own tm 0 75)) ∧ Vec st' (.ty 1) 5 kv ks i ∧ Fresh s0 kv ∧ RefAt st' r bv p ∧ (∀ a3, p = some a3 → z04 st' ks kvs ∧ 0 ≤ kk ∧ kk ≤ 64 ∧ KX = (z0j (readM b d) (c - i) a3 (64 - kk)).map fun z => (kvs ++ z.1, z.2)) ∧ (p = none → KX = none),
     fun E _ => match E 13 with | .int _ i => c - i.toNat | _ => 0, ⟨st8, .rfl' _, hk8, by simp [go_sem, e0], by simp [go_sem, e1], by simp [go_sem, e2], by simp [go_sem, e6], by simp [go_sem, e8], by simp [go_sem], ht8, 0, [], .slice none 0 0, [], p2, k + 1, hs8, by simp [go_sem], by omega, rfl, hm8, Vec.nil, Fresh.none, hr8, fun a3 h => ⟨by unfold z04; rfl, by omega, by omega, by rw [hKX1 a3 h]; cases z0j (readM b d) c a3 (64 - (k + 1)) <;> simp⟩, hKX2⟩, ?_⟩
    clear e0 e1 e2 e6 e8 hk6 hk8 hm6 hm8 ht6 ht8 hs6 hs8 hr6 hr8 hB8 hKX1 hKX2
    rintro E st9 ⟨hk9, e0, e1, e2, e6, e8, e12, ht9, i, kvs, kv, ks, p, kk, hs9, e13, hi, hvl, hm9, hV, hF, hr9, hX1, hX2⟩
    obtain ⟨kb, kc, hkv⟩ := hV.slice
    obtain ⟨a9, bad9, hr9', hp9⟩ := hr9.cell
    unfold refC at hr9'
    have leave : ∀ o : Int, RES = (KX.bind fun z => some (Mat.mk o ⟨#[]⟩ ⟨#[]⟩ [] z.1, z.2)) → (i = c ∨ bad9 = true) → ∃ x0 x1 x2 x3 x4 : Value, (Val.i o = x0 ∧ Value.string ⟨#[]⟩ = x1 ∧ Value.string ⟨#[]⟩ = x2 ∧ Value.slice none 0 0 = x3 ∧ kv = x4) ∧ (x0.oneCell' = true ∧ x1.oneCell' = true ∧ x2.oneCell' = true ∧ x3.oneCell' = true ∧ x4.oneCell' = true) ∧ ∃ k, st9 s = some (cntC k s) ∧ GotQ st9 r bv [x0, x1, x2, x3, x4] k RES := by
     intro o hKX h
     refine ⟨_, _, _, _, _, ⟨rfl, rfl, rfl, rfl, rfl⟩, ⟨rfl, rfl, rfl, rfl, by rw [hkv]; rfl⟩, kk, hs9, ?_⟩
     rw [hKX]
     cases p with
     | none => rw [hX2 rfl]; exact hr9
     | some a3 =>
      have hc : i = c := by
       rcases h with h | h
       ·exact h
       ·rw [h] at hp9; simp at hp9
      obtain ⟨hKA, hkk0, hkk1, hx⟩ := hX1 a3 rfl
      rw [hx, hc, Nat.sub_self]
      simp only [z0j, Option.map_some, Option.bind_some, List.append_nil]
      refine ⟨?_, hr9, by omega⟩
      unfold MatAt
      exact ⟨_, _, ks, rfl, RegF.nil, hvl ▸ hV.reg.toF Free.ty, hKA⟩
    by_cases hlt : i < c
    rotate_left
    ·have hlt' : ((i : Int) < c) = False := eq_false (by omega)
     simp [go_sem, e0, e6, e8, e12, e13, hlt', hlt, hm9]
     exact ⟨hk9, ht9, leave _ hKX (.inl (by omega))⟩
    have hlt' : ((i : Int) < c) = True := eq_true (by omega)
    cases bad9 with
    | true =>
     simp [go_sem, e0, e6, e8, e12, e13, hlt', hlt, hm9, hr9']
     exact ⟨hk9, ht9, leave _ hKX (.inr rfl)⟩
    | false =>
    simp only [Bool.false_eq_true, if_false] at hp9
    subst hp9
    obtain ⟨hKA, hkk0, hkk1, hx⟩ := hX1 a9 rfl
    have hwi := wrS i (by omega)
    have hwd := wrS deep (by omega)
    simp [go_sem, e0, e1, e2, e6, e8, e12, e13, hlt', hlt, hm9, hr9', hwd]
    refine (ih d rfl (deep := deep + 1) (by omega) hrs hr9 hs9 (hbk hk9) hkk0 hkk1).mono ?_
    rintro e st10 ⟨hB10, y0, y1, y2, y3, y4, rfl, ⟨o0, o1, o2, o3, o4⟩, kk', hs10, hQ⟩
    have hm10 := hB10.get hm9 m1 m2
    have ht10 := hB10.get ht9 n1 n2
    have hk10 := hk9.trans hB10
    have hf10 := hB10.free hr9' hs9
    have hV10 := hV.keep hf10 Free.ty
    have u0 := o0
    have u1 := o1
    have u2 := o2
    have u3 := o3
    have u4 := o4
    unfold Value.oneCell' at u0 u1 u2 u3 u4
    simp [go_sem]
    unfold NewP
    intro t14 ht14
    refine ⟨.ty 0, ?_⟩
    have n14 : tm ≠ t14 := ne_of_new hm10 ht14
    simp [go_sem, u0, u1, u2, u3, u4, e0, e1, e2, e6, e8, e12, e13, n14, hm10]
    rw [hkv] at hm10 hV10 hF ⊢
    have hNa := (New.refl st10).add (b := t14) (o := .cells true [y0, y1, y2, y3, y4] 5 (.ty 0)) ht14
    generalize hst11 : upd st10 t14 _ = st11 at hNa ⊢
    unfold NewS
    intro nb hnb
    refine ⟨.ty 0, ?_⟩
    simp [go_sem]
    have hNb := hNa.add (b := nb) (o := .cells true [y0, y1, y2, y3, y4] 5 (.ty 0)) hnb
    refine AppI_new (st0 := s0) (g := .ty 1) (m := 1) (ys := [y0, y1, y2, y3, y4]) si33 (hV10.new' hNb) hF ((hs01 _).2 (hk10.trans hNb.two)) ?_ (by simp [o0, o1, o2, o3, o4]) (by omega) ?_
    ·simp [z06, z0i, upd_same, cellsOf]
    intro base' cap' st12 hV12 hF12 hN12 hE12
    have hm12 := hE12.keep _ _ (hNb _ _ hm10) (by simp [HObj.tag])
    have ht12 := hE12.keep _ _ (hNb _ _ ht10) (by simp [HObj.tag])
    have hs12 := hE12.keep _ _ (hNb _ _ hs10) (by simp [HObj.tag, cntC])
    have hk12 := (hs01 _).1 hN12
    simp [go_sem, e0, e1, e2, e6, e8, e12, e13, hm12, hwi]
    have hB := fun o : Int => But1.put (o := .cells true [Val.i o, .string ⟨#[]⟩, .string ⟨#[]⟩, .slice none 0 0, .slice base' (i + 1) cap'] 5 (.own tm 0 75)) (But1.refl tm st12)
    obtain ⟨m, hm⟩ : ∃ m, c - i = m + 1 := ⟨c - i - 1, by omega⟩
    rw [hm] at hx
    unfold z0j at hx
    simp only [Option.bind_some] at hQ
    refine ⟨_, .rfl' _, ⟨hk12.put m4, by rw [upd_ne _ _ (Ne.symm m3)]; exact ht12, ?_⟩, by omega⟩
    cases hq : readM b d a9 (64 - kk) with
    | none =>
     rw [hq] at hQ hx
     exact ⟨i + 1, kvs ++ [.mk 0 ⟨#[]⟩ ⟨#[]⟩ [] []], _, _, none, kk', by rw [upd_ne _ _ (Ne.symm m2)]; exact hs12, by omega, by omega, by simp [hvl], upd_same _ _ _, hV12.but (hB _) hm12, hF12, RefAt.upd (p := none) (RefAt.mv (p := none) hQ fun o ho ht => hE12.keep _ _ (hNb _ _ ho) (by rw [ht]; simp)) m1, fun a3 h => (by cases h), fun _ => (by rw [hx]; rfl)⟩
    | some q =>
     obtain ⟨mk, a', l'⟩ := q
     have hleft := z9f hq
     rw [hq] at hQ hx
     obtain ⟨hM, hR, hkk'⟩ := hQ
     simp only [Option.bind_some] at hx
     have hKA12 := (z04.mono (fun _ _ _ _ hx => ((hx.free hf10).new hNb).ext hE12) _ _ hKA).append (MatAt.mono (fun _ _ _ _ hx => (hx.new hNb).ext hE12) _ _ hM)
     refine ⟨i + 1, kvs ++ [mk], _, _, some a', kk', by rw [upd_ne _ _ (Ne.symm m2)]; exact hs12, by omega, by omega, by simp [hvl], upd_same _ _ _, hV12.but (hB _) hm12, hF12, (hR.mv fun o ho ht => hE12.keep _ _ (hNb _ _ ho) (by rw [ht]; simp)).upd m1, fun a3 h => ?_, fun h => by cases h⟩
     injection h with h
     subst h
     refine ⟨z04.mono (fun _ _ _ _ hx => hx.but (hB _) hm12) _ _ hKA12, by omega, by omega, ?_⟩
     rw [hx, show c - (i + 1) = m by omega, show 64 - kk' = l' by omega]
     cases z0j (readM b d) m a' l' <;> simp
  ·subst h7
   simp [z0j] at hRES3
   have hwd := wrS deep (by omega)
   obtain ⟨s0, hs01, hs02⟩ := but2_new r s st
   have hr6' := hr6
   change st6 r = some (refC bv (a1 : Int) false r) at hr6'
   unfold refC at hr6'
   simp [go_sem, e0, e1, e2, e6, e8, hm6, hwd]
   refine (ih d rfl (deep := deep + 1) (p := some (a1 : Int)) (k := k + 1) (by omega) hrs hr6 hs6 (hbk hk6) (by omega) (by omega)).mono ?_
   rintro e st10 ⟨hB10, y0, y1, y2, y3, y4, rfl, ⟨o0, o1, o2, o3, o4⟩, kk', hs10, hQ⟩
   have hm10 := hB10.get hm6 m1 m2
   have ht10 := hB10.get ht6 n1 n2
   have hk10 := hk6.trans hB10
   have u0 := o0
   have u1 := o1
   have u2 := o2
   have u3 := o3
   have u4 := o4
   unfold Value.oneCell' at u0 u1 u2 u3 u4
   simp [go_sem]
   unfold NewP
   intro t15 ht15
   refine ⟨.ty 0, ?_⟩
   have n15 : tm ≠ t15 := ne_of_new hm10 ht15
   simp [go_sem, u0, u1, u2, u3, u4, e0, e1, e2, e6, e8, n15, hm10]
   have hNa := (New.refl st10).add (b := t15) (o := .cells true [y0, y1, y2, y3, y4] 5 (.ty 0)) ht15
   generalize hst11 : upd st10 t15 _ = st11 at hNa ⊢
   unfold NewS
   intro nb hnb
   refine ⟨.ty 0, ?_⟩
   simp [go_sem]
   have hNb := hNa.add (b := nb) (o := .cells true [y0, y1, y2, y3, y4] 5 (.ty 0)) hnb
   refine z2q (.ty 1) (m := 1) (ys := [y0, y1, y2, y3, y4]) si33 ?_ (by omega) ?_
   ·simp [z06, z0i, upd_same, cellsOf]
   intro base' cap' st12 hV12 hF12 hN12
   have hNc := hNb.trans hN12
   have hm12 := hNc _ _ hm10
   have ht12 := hNc _ _ ht10
   have hs12 := hNc _ _ hs10
   have hk12 := hk10.trans hNc.two
   simp [go_sem, e0, e1, e2, e6, e8, hm12]
   have hB := fun o : Int => But1.put (o := .cells true [Val.i o, .string ⟨#[]⟩, .string ⟨#[]⟩, .slice none 0 0, .slice base' 1 cap'] 5 (.own tm 0 75)) (But1.refl tm st12)
   refine ⟨hk12.put m4, by rw [upd_ne _ _ (Ne.symm m3)]; exact ht12, _, _, _, _, _, ⟨rfl, rfl, rfl, rfl, rfl⟩, ⟨rfl, rfl, rfl, rfl, rfl⟩, kk', by rw [upd_ne _ _ (Ne.symm m2)]; exact hs12, ?_⟩
   simp only [Option.bind_some] at hQ
   rw [hRES3, show 64 - k - 1 = 64 - (k + 1) by omega]
   cases hq : readM b d a1 (64 - (k + 1)) with
   | none =>
    rw [hq] at hQ
    exact RefAt.upd (p := none) (RefAt.mv (p := none) hQ fun o ho ht => hNc _ _ ho) m1
   | some q =>
    obtain ⟨mk, a', l'⟩ := q
    rw [hq] at hQ
    obtain ⟨hM, hR, hkk'⟩ := hQ
    refine ⟨?_, (hR.mv fun o ho ht => hNc _ _ ho).upd m1, hkk'⟩
    unfold MatAt
    refine ⟨_, _, [y0, y1, y2, y3, y4], rfl, RegF.nil, (hV12.reg.toF Free.ty).but (hB _) hm12, ?_⟩
    unfold z04
    refine ⟨by simp, MatAt.mono (fun _ _ _ _ hx => (hx.new hNc).but (hB _) hm12) _ _ hM, ?_⟩
    unfold z04
    rfl
 clear e0 e1 e2 e6 e8 ht6 hm6 hr6 hs6 hk6 early
 rintro E8 st8 ⟨e6, e8, hk8, ht8, x0, x1, x2, x3, x4, hm8, ⟨o0, o1, o2, o3, o4⟩, k8, hs8, hR8⟩
 unfold z0v at ht8
 have u0 := o0
 have u1 := o1
 have u2 := o2
 have u3 := o3
 have u4 := o4
 unfold Value.oneCell' at u0 u1 u2 u3 u4
 simp [go_sem, e6, e8, ht8, hm8, u0, u1, u2, u3, u4]
 refine z29 ?_
 simp [go_sem, e6]
 have hB := But1.put (o := .cells true [x0, x1, x2, x3, x4] 5 (.own tb 0 74)) (But1.refl tb st8)
 refine ⟨hk8.put n3, x0, x1, x2, x3, x4, rfl, ⟨o0, o1, o2, o3, o4⟩, k8, by rw [upd_ne _ _ (Ne.symm n2)]; exact hs8, ?_⟩
 cases RES with
 | none => exact RefAt.upd (p := none) hR8 n1
 | some q =>
  obtain ⟨m', a', l'⟩ := q
  obtain ⟨h1, h2, h3⟩ := hR8
  exact ⟨MatAt.mono (fun _ _ _ _ hx => hx.but hB ht8) _ _ h1, h2.upd n1, h3⟩
theorem got_spec {bv : Value} {b : Bs} {g0 : Tg} (hl : b.length < 2 ^ 60) (hg : Free g0) : ∀ (d : Nat) {st : Heap} {r s deep : Nat} {p : Option Int} {k : Int}, deep + d = 9 → r ≠ s → RefAt st r bv p → st s = some (cntC k s) → Reg st g0 1 bv (bytesV b) b.length → 0 ≤ k → k ≤ 64 →
  z00 Tryz.prog W0 167 #[ptr r, ptr s, Val.i deep] st (GotR st r s bv (p.bind fun a => readM b d a (64 - k))) := by
 intro d
 induction d with
 | zero => exact zdd hl hg 0 (fun d' h => by omega)
 | succ d ih =>
  refine zdd hl hg (d + 1) (fun d' h => ?_)
  have : d' = d := by omega
  subst this
  exact @ih
end
end Go.Proofs.YtahgfnbkkfpcnaaGreat
