/- Results that lie in cells. Plain theorems, over any program. -/
import Derived.Test.YtadgciaclhjjkaaGreatC07
import Derived.Test.YtadgciaclhjjkaaGreatC17
import Derived.Test.YtadgciaclhjjkaaGreatC10
import Derived.Test.YtadgciaclhjjkaaGreatC15
import Derived.Test.YtadgciaclhjjkaaGreatC16
set_option linter.unusedVariables false
set_option linter.unusedSimpArgs false
namespace Go.Proofs.YtadgciaclhjjkaaGreat
section
variable {P : Program} {R : Ending → Heap → Prop} {E : Env} {st : Heap}
theorem loadY_out {t : TypeId} {v : Value} {K : Value → Heap → Prop} (h : loadY (tyInfo P t) v K st) : ∃ a x, v = .pointer (some a) ∧ ldV P t st a = some x ∧ K x st := by
  unfold loadY at h
  split at h
  · rename_i n a hi
    obtain ⟨u, hu, h⟩ := optK_iff.1 (optS_iff.1 h)
    exact ⟨a, u, rfl, by unfold ldV; rw [hi]; exact hu, h⟩
  · rename_i n a hi
    obtain ⟨u, hu, h⟩ := optK_iff.1 (optS_iff.1 h)
    exact ⟨a, u, rfl, by unfold ldV; rw [hi]; exact hu, h⟩
  · exact h.elim
theorem wpS_asAddr {a : Addr} {K : Addr → Heap → Prop} {Kp : Value → Heap → Prop} : wpS P (asAddr (.pointer (some a))) K Kp st = K a st := by
  simp [asAddr, wpS_pure]
theorem wpS_map' {α β : Type} {f : α → β} {m : Sem α} {K : β → Heap → Prop} {Kp : Value → Heap → Prop} : wpS P (f <$> m) K Kp st = wpS P m (fun v st => K (f v) st) Kp st := by
  have : f <$> m = m >>= fun a => pure (f a) := rfl
  rw [this, wpS_bind]
  simp [wpS_pure]
theorem RetI_cell {a : Nat} {t : TypeId} (h : loadY (tyInfo P t) (E a) (fun v _ => R (.returned v) st) st) : RetI P #[.cell a t] R .ret E st := by
  obtain ⟨ad, x, hv, hl, hk⟩ := loadY_out h
  simp [RetI, resS, wpS_bind, hv, wpS_asAddr, wpS_pure]
  refine wpS_loadVar hl ?_
  simpa using hk
theorem RetI_cell_tmp {a u : Nat} {t : TypeId} (h : loadY (tyInfo P t) (E a) (fun v _ => R (.returned (.tuple #[v, E u])) st) st) : RetI P #[.cell a t, .tmp u] R .ret E st := by
  obtain ⟨ad, x, hv, hl, hk⟩ := loadY_out h
  simp [RetI, resS, wpS_bind, hv, wpS_asAddr, wpS_pure]
  rw [wpS_map']
  refine wpS_loadVar hl ?_
  simpa using hk
theorem RetI_cell_two {a u w : Nat} {t : TypeId} (h : loadY (tyInfo P t) (E a) (fun v _ => R (.returned (.tuple #[v, E u, E w])) st) st) : RetI P #[.cell a t, .tmp u, .tmp w] R .ret E st := by
  obtain ⟨ad, x, hv, hl, hk⟩ := loadY_out h
  simp [RetI, resS, wpS_bind, hv, wpS_asAddr, wpS_pure]
  rw [wpS_map']
  refine wpS_loadVar hl ?_
  simpa using hk
theorem RetI_cells {a b : Nat} {t u : TypeId} (h : loadY (tyInfo P t) (E a) (fun v _ => loadY (tyInfo P u) (E b) (fun w _ => R (.returned (.tuple #[v, w])) st) st) st) : RetI P #[.cell a t, .cell b u] R .ret E st := by
  obtain ⟨ad, x, hv, hl, hk⟩ := loadY_out h
  obtain ⟨ad', x', hv', hl', hk'⟩ := loadY_out hk
  simp [RetI, resS, wpS_bind, hv, hv', wpS_asAddr, wpS_pure]
  refine wpS_loadVar hl ?_
  rw [wpS_map']
  refine wpS_loadVar hl' ?_
  simpa using hk'
end
end Go.Proofs.YtadgciaclhjjkaaGreat
set_option linter.unusedVariables false
set_option linter.unusedSimpArgs false
set_option maxRecDepth 100000
set_option maxHeartbeats 2000000
namespace Go.Proofs.YtadgciaclhjjkaaGreat
open Go.RowKit (Below)
def tinyC (n : Nat) (r : Nat) : HObj := .cells true [Val.i n] 1 (.own r 0 61)
def TinyR (st : Heap) (r : Nat) (R : Bool × Nat) (e : Ending) (st' : Heap) : Prop := e = .returned (.bool R.1) ∧ st' r = some (tinyC R.2 r) ∧ But1 r st st'
section
variable {W0 : World}
theorem tiny_spec (m : Mat) : ∀ {st : Heap} {cs : List Value} {r n deep : Nat}, MatAt st cs m → st r = some (tinyC n r) → n ≤ 200 → deep ≤ 12 →
    ICalls Tryz.prog W0 114 #[.agg cs.toArray, ptr r, Val.i deep] st (TinyR st r (tinyM m n deep)) := by
  intro st cs r n deep hm hr hn hdeep
  match m with
  | .mk op name value vals kids =>
  have hm0 := hm
  unfold MatAt at hm
  obtain ⟨vv, kv, ks, rfl, hv, hk, hkids⟩ := hm
  obtain ⟨vb, vc, rfl⟩ := hv.slice
  obtain ⟨kb, kc, rfl⟩ := hk.slice
  generalize hRES : tinyM (.mk op name value vals kids) n deep = RES
  unfold tinyM at hRES
  have hwn : IntKind.i64.wrap ((n : Int) + 1) = ((n + 1 : Nat) : Int) := by rw [wrap_id (by omega) (by omega)]; omega
  refine enter (args := [_, _, _]) Tryz.func114 rfl ?_
  refine IW_cut (fun E' st' => ∃ tb, But1 r st st' ∧ tb ≠ r ∧ E' 1 = ptr r ∧ E' 2 = Val.i deep ∧ E' 3 = ptr tb ∧ st' tb = some (.cells true [Val.i op, .string name, .string value, .slice vb vals.length vc, .slice kb kids.length kc] 5 (.ty 0)) ∧ st' r = some (tinyC n r)) ?_ ?_
  · simp [go_sem]
    unfold NewP
    intro tb htb
    refine ⟨.ty 0, ?_⟩
    have hne : tb ≠ r := Ne.symm (ne_of_new hr htb)
    have hne' := Ne.symm hne
    simp [go_sem, hne, hne', hr]
    exact ⟨(But1.refl _ _).add htb, tb, hne, rfl, upd_same _ _ _⟩
  rintro E1 st1 ⟨tb, hk1, hne, e1, e2, e3, ht, hr1⟩
  refine IW_cut (fun E' st' => But1 r st st' ∧ E' 1 = ptr r ∧ E' 2 = Val.i deep ∧ E' 3 = ptr tb ∧ st' tb = some (.cells true [Val.i op, .string name, .string value, .slice vb vals.length vc, .slice kb kids.length kc] 5 (.ty 0)) ∧ st' r = some (tinyC (n + 1) r)) ?_ ?_
  · simp [go_sem, e1, e2, e3, hr1, tinyC, hwn, hne]
    exact ⟨hk1.put, ht⟩
  clear hr1 ht hk1 e1 e2 e3
  rintro E2 st2 ⟨hk2, e1, e2, e3, ht, hr2⟩
  have hfalse : (200 < n + 1 ∨ 11 < deep ∨ 300 < name.size ∨ 5000 < value.size ∨ 40 < vals.length) → RES = (false, n + 1) := fun h => by rw [← hRES, if_pos h]
  refine IW_cut' (fun E' st' => (¬ (200 < n + 1 ∨ 11 < deep ∨ 300 < name.size ∨ 5000 < value.size ∨ 40 < vals.length)) ∧ But1 r st st' ∧ E' 1 = ptr r ∧ E' 2 = Val.i deep ∧ E' 3 = ptr tb ∧ st' tb = some (.cells true [Val.i op, .string name, .string value, .slice vb vals.length vc, .slice kb kids.length kc] 5 (.ty 0)) ∧ st' r = some (tinyC (n + 1) r)) ?_ ?_
  · have hr2' := hr2
    unfold tinyC at hr2'
    by_cases h1 : 200 < n + 1
    · have q1 : ((200 : Int) < ((n : Int) + 1)) = True := eq_true (by omega)
      have := hfalse (by omega)
      subst this
      simp [go_sem, e1, e2, e3, hr2', q1]
      exact ⟨rfl, hr2, hk2⟩
    have q1 : ((200 : Int) < ((n : Int) + 1)) = False := eq_false (by omega)
    by_cases h2 : 11 < deep
    · have q2 : ((11 : Int) < deep) = True := eq_true (by omega)
      have := hfalse (by omega)
      subst this
      simp [go_sem, e1, e2, e3, hr2', q1, q2]
      exact ⟨rfl, hr2, hk2⟩
    have q2 : ((11 : Int) < deep) = False := eq_false (by omega)
    by_cases h3 : 300 < name.size
    · have q3 : ((300 : Int) < name.size) = True := eq_true (by omega)
      have := hfalse (by omega)
      subst this
      simp [go_sem, e1, e2, e3, hr2', q1, q2, q3, ht]
      exact ⟨rfl, hr2, hk2⟩
    have q3 : ((300 : Int) < name.size) = False := eq_false (by omega)
    by_cases h4 : 5000 < value.size
    · have q4 : ((5000 : Int) < value.size) = True := eq_true (by omega)
      have := hfalse (by omega)
      subst this
      simp [go_sem, e1, e2, e3, hr2', q1, q2, q3, q4, ht]
      exact ⟨rfl, hr2, hk2⟩
    have q4 : ((5000 : Int) < value.size) = False := eq_false (by omega)
    by_cases h5 : 40 < vals.length
    · have q5 : ((40 : Int) < vals.length) = True := eq_true (by omega)
      have := hfalse (by omega)
      subst this
      simp [go_sem, e1, e2, e3, hr2', q1, q2, q3, q4, q5, ht]
      exact ⟨rfl, hr2, hk2⟩
    have q5 : ((40 : Int) < vals.length) = False := eq_false (by omega)
    simp [go_sem, e1, e2, e3, hr2', q1, q2, q3, q4, q5, ht]
    exact ⟨⟨by omega, by omega, by omega, by omega, by omega⟩, hk2, rfl⟩
  clear hr2 ht hk2 e1 e2 e3
  rintro E3 st3 ⟨hcond, hk3, e1, e2, e3, ht, hr3⟩
  rw [if_neg hcond] at hRES
  refine IW_cut' (fun E' st' => vals.all (fun v => decide (v.size ≤ 300)) = true ∧ But1 r st st' ∧ E' 1 = ptr r ∧ E' 2 = Val.i deep ∧ E' 3 = ptr tb ∧ st' tb = some (.cells true [Val.i op, .string name, .string value, .slice vb vals.length vc, .slice kb kids.length kc] 5 (.ty 0)) ∧ st' r = some (tinyC (n + 1) r)) ?_ ?_
  · simp [go_sem]
    refine ⟨fun E st' => st' = st3 ∧ E 1 = ptr r ∧ E 2 = Val.i deep ∧ E 3 = ptr tb ∧ ∃ i : Nat, E 7 = Val.i i ∧ i ≤ vals.length ∧ (vals.take i).all (fun v => decide (v.size ≤ 300)) = true,
      fun E _ => match E 7 with | .int _ i => vals.length - i.toNat | _ => 0, ⟨st3, .rfl' _, rfl, by simp [go_sem, e1], by simp [go_sem, e2], by simp [go_sem, e3], 0, by simp [go_sem], by omega, by simp⟩, ?_⟩
    rintro E st5 ⟨rfl, e1, e2, e3, i, e7, hi, hall⟩
    by_cases hlt : i < vals.length
    · have hlt' : ((i : Int) < vals.length) = True := eq_true (by omega)
      obtain ⟨blk, off, rfl, hg⟩ := src_get (hv.but hk3 hr).src (by omega)
      have hgi := hg i (by omega)
      have hvi : vals[i]? = some vals[i] := List.getElem?_eq_getElem hlt
      have hgv : (vals.map Value.string)[i]? = some (.string vals[i]) := by simp [hvi]
      rw [hgv] at hgi
      have hwi : IntKind.i64.wrap ((i : Int) + 1) = ((i + 1 : Nat) : Int) := by rw [wrap_id (by omega) (by omega)]; omega
      have htk : vals.take (i + 1) = vals.take i ++ [vals[i]] := by rw [List.take_add_one, hvi]; rfl
      by_cases hs : 300 < vals[i].size
      · have qs : ((300 : Int) < vals[i].size) = True := eq_true (by omega)
        have : RES = (false, n + 1) := by
          rw [← hRES, if_neg]
          intro h
          have := List.all_eq_true.1 h _ (List.getElem_mem hlt)
          simp at this; omega
        subst this
        simp [go_sem, e1, e2, e3, e7, ht, hlt, hlt', hgi, qs]
        exact ⟨rfl, hr3, hk3⟩
      · have qs : ((300 : Int) < vals[i].size) = False := eq_false (by omega)
        simp [go_sem, e1, e2, e3, e7, ht, hlt, hlt', hgi, qs, hwi]
        refine ⟨_, .rfl' _, ⟨rfl, i + 1, by omega, by omega, ?_⟩, by omega⟩
        intro x hx
        rw [htk] at hx
        rcases List.mem_append.1 hx with hx | hx
        · have := List.all_eq_true.1 hall x hx
          simpa using this
        · simp at hx; subst hx; omega
    · have hlt' : ((i : Int) < vals.length) = False := eq_false (by omega)
      have : i = vals.length := by omega
      subst this
      rw [List.take_length] at hall
      simp [go_sem, e1, e2, e3, e7, ht]
      exact ⟨by simpa using hall, hk3, hr3⟩
  clear hr3 ht hk3 e1 e2 e3
  rintro E5 st5 ⟨hall, hk5, e1, e2, e3, ht, hr5⟩
  rw [if_pos hall] at hRES
  simp [go_sem]
  refine ⟨fun E st' => But1 r st st' ∧ E 1 = ptr r ∧ E 2 = Val.i deep ∧ E 3 = ptr tb ∧ st' tb = some (.cells true [Val.i op, .string name, .string value, .slice vb vals.length vc, .slice kb kids.length kc] 5 (.ty 0)) ∧ ∃ i n' : Nat, E 8 = Val.i i ∧ i ≤ kids.length ∧ st' r = some (tinyC n' r) ∧ n' ≤ 200 ∧ i ≤ n' ∧ tinysM (kids.drop i) n' (deep + 1) = RES,
    fun E _ => match E 8 with | .int _ i => kids.length - i.toNat | _ => 0, ⟨st5, .rfl' _, hk5, by simp [go_sem, e1], by simp [go_sem, e2], by simp [go_sem, e3], ht, 0, n + 1, by simp [go_sem], by omega, hr5, by omega, by omega, by simpa using hRES⟩, ?_⟩
  clear hr5 ht hk5 e1 e2 e3
  rintro E st7 ⟨hk7, e1, e2, e3, ht, i, n', e8, hi, hr7, hn', hin, hrec⟩
  by_cases hlt : i < kids.length
  · have hlt' : ((i : Int) < kids.length) = True := eq_true (by omega)
    have hkr := hk.but hk7 hr
    obtain ⟨g5, hg5, hl5, base5, cap5, hv5, hc5, hreg5⟩ := hkr
    injection hv5 with q1 q2 q3; subst q1; subst q3
    rcases hreg5 with h0 | ⟨blk, off, rw5, ys5, m5, rfl, hs5, hp5, ho5⟩
    · omega
    have hki : kids[i]? = some kids[i] := List.getElem?_eq_getElem hlt
    have hmem : kids[i] ∈ kids := List.getElem_mem hlt
    obtain ⟨hmi, hil⟩ := KidsAt.get (KidsAt.mono (fun _ _ _ _ h => h.but hk7 hr) _ _ hkids) hki
    have hd : kids.drop i = kids[i] :: kids.drop (i + 1) := List.drop_eq_getElem_cons hlt
    rw [hd] at hrec
    unfold tinysM at hrec
    have hcell : ((ys5.drop (off + i * 5)).take 5) = (ks.drop (i * 5)).take 5 := by
      obtain ⟨t, ht⟩ := hp5
      have a1 : i * 5 ≤ ks.length := by omega
      have a2 : 5 ≤ (ks.drop (i * 5)).length := by rw [List.length_drop]; omega
      rw [← List.drop_drop, ← ht, List.drop_append_of_le_length a1, List.take_append_of_le_length a2]
    have hlen5 : off + i * 5 + 5 ≤ ys5.length := by
      obtain ⟨t, ht⟩ := hp5
      have := congrArg List.length ht
      simp at this
      omega
    have hwi : IntKind.i64.wrap ((i : Int) + 1) = ((i + 1 : Nat) : Int) := by rw [wrap_id (by omega) (by omega)]; omega
    have hwd : IntKind.i64.wrap ((deep : Int) + 1) = ((deep + 1 : Nat) : Int) := by rw [wrap_id (by omega) (by omega)]; omega
    simp [go_sem, e1, e2, e3, e8, ht, hlt, hlt', hs5, hlen5, hcell, hwd]
    have hB := tinyM_spec kids[i] n' (deep + 1)
    refine (tiny_spec kids[i] (deep := deep + 1) hmi hr7 hn' (by omega)).mono ?_
    rintro e st8 ⟨rfl, hr8, hk8⟩
    generalize tinyM kids[i] n' (deep + 1) = H at *
    obtain ⟨ok, n8⟩ := H
    obtain ⟨u1, u2⟩ := hB
    simp only at u1 u2 hr8 hrec
    have hk9 : But1 r st st8 := hk7.trans hk8
    cases ok with
    | true =>
      obtain ⟨u4, u5⟩ := u2 rfl
      simp only [if_true] at hrec
      simp [go_sem, e1, e2, e3, e8, hwi]
      refine ⟨_, .rfl' _, ⟨hk9, hk8 _ _ hne ht, i + 1, by omega, by omega, n8, hr8, by omega, by omega, hrec⟩, by omega⟩
    | false =>
      simp at hrec
      subst hrec
      simp [go_sem, e1, e2, e3, e8]
      exact ⟨rfl, hr8, hk9⟩
  · have hlt' : ((i : Int) < kids.length) = False := eq_false (by omega)
    have : i = kids.length := by omega
    subst this
    rw [List.drop_length] at hrec
    unfold tinysM at hrec
    subst hrec
    simp [go_sem, e1, e2, e3, e8, ht]
    exact ⟨rfl, hr7, hk7⟩
termination_by SizeOf.sizeOf m
decreasing_by
  have := List.sizeOf_lt_of_mem hmem
  simp
  omega
theorem RegF.ext {st st' : Heap} {g : Tg} {size len : Nat} {v : Value} {xs : List Value} (h : RegF st size v xs len) (hk : Ext g st st') : RegF st' size v xs len := by
  obtain ⟨t, ht, h⟩ := h
  refine ⟨t, ht, ?_⟩
  by_cases e : t = g
  · subst e; exact h.of_ext hk.grow
  · exact h.keep (hk.toKeep (p := fun x => x ≠ g) (by simp)) e
theorem KidsAt.append {st : Heap} : ∀ {ms : List Mat} {ks cs : List Value} {m : Mat}, KidsAt st ks ms → MatAt st cs m → KidsAt st (ks ++ cs) (ms ++ [m])
  | [], ks, cs, m, h, hm => by
    unfold KidsAt at h
    subst h
    have := hm.length
    unfold KidsAt
    refine ⟨by simp [this], by simpa [← this] using hm, ?_⟩
    unfold KidsAt
    simp [← this]
  | x :: ms, ks, cs, m, h, hm => by
    unfold KidsAt at h
    rw [List.cons_append]
    unfold KidsAt
    refine ⟨by rw [List.length_append]; omega, ?_, ?_⟩
    · rw [List.take_append_of_le_length h.1]; exact h.2.1
    · rw [List.drop_append_of_le_length h.1]; exact KidsAt.append h.2.2 hm
theorem MatAt.cells1 {st : Heap} {cs : List Value} {m : Mat} (h : MatAt st cs m) : ∀ y ∈ cs, y.oneCell' = true := by
  match m with
  | .mk op name value vals kids =>
  unfold MatAt at h
  obtain ⟨vv, kv, ks, rfl, hv, hk, -⟩ := h
  obtain ⟨vb, vc, rfl⟩ := hv.slice
  obtain ⟨kb, kc, rfl⟩ := hk.slice
  intro y hy
  simp at hy
  rcases hy with rfl | rfl | rfl | rfl | rfl <;> rfl
end
end Go.Proofs.YtadgciaclhjjkaaGreat
set_option linter.unusedVariables false
set_option linter.unusedSimpArgs false
set_option maxRecDepth 100000
set_option maxHeartbeats 2000000
namespace Go.Proofs.YtadgciaclhjjkaaGreat
open Go.RowKit (Below)
def numM (b : Bs) (at_ : Int) (most : Nat) : Option (Nat × Nat) := (vgetM b at_).bind fun p => if p.1 ≤ most then some p else none
def txtM (b : Bs) (at_ : Int) (most : Nat) : Option (ByteArray × Nat) := (vgetTextM b at_ most).map fun p => (⟨p.1.toArray⟩, p.2)
def txtsM (b : Bs) : Nat → Int → Option (List ByteArray × Int)
  | 0, a => some ([], a)
  | k + 1, a => (txtM b a 64).bind fun p => (txtsM b k p.2).map fun q => (p.1 :: q.1, q.2)
structure MHead where
  op : Nat
  name : ByteArray
  value : ByteArray
  vals : List ByteArray
  k : Nat
  at_ : Int
def headM (b : Bs) (a : Int) : Option MHead := (numM b a 7).bind fun p =>
  if p.1 = 1 ∨ p.1 = 2 ∨ p.1 = 3 then (txtM b p.2 32).bind fun q => (txtM b q.2 64).map fun s => ⟨p.1, q.1, s.1, [], 0, s.2⟩
  else if p.1 = 4 then (txtM b p.2 32).bind fun q => (numM b q.2 16).bind fun c => (txtsM b c.1 c.2).map fun s => ⟨4, q.1, ⟨#[]⟩, s.1, 0, s.2⟩
  else if p.1 = 5 ∨ p.1 = 6 then (numM b p.2 64).map fun c => ⟨p.1, ⟨#[]⟩, ⟨#[]⟩, [], c.1, c.2⟩
  else if p.1 = 7 then some ⟨7, ⟨#[]⟩, ⟨#[]⟩, [], 1, p.2⟩
  else some ⟨p.1, ⟨#[]⟩, ⟨#[]⟩, [], 0, p.2⟩
def readsF (f : Int → Int → Option (Mat × Int × Int)) : Nat → Int → Int → Option (List Mat × Int × Int)
  | 0, a, l => some ([], a, l)
  | k + 1, a, l => (f a l).bind fun p => (readsF f k p.2.1 p.2.2).map fun q => (p.1 :: q.1, q.2)
/-- A matcher read: d is how deep one may still go. -/
def readM (b : Bs) : Nat → Int → Int → Option (Mat × Int × Int)
  | 0, _, _ => none
  | d + 1, a, l => if l - 1 < 0 then none else (headM b a).bind fun h => (readsF (readM b d) h.k h.at_ (l - 1)).map fun q => (.mk h.op h.name h.value h.vals q.1, q.2)
def ReadMR (st : Heap) (r : Nat) (bv : Value) (R : Option (Mat × Int × Int)) (e : Ending) (st' : Heap) : Prop := But1 r st st' ∧ match R with
  | some (m, a, l) => ∃ cs, e = .returned (.agg cs.toArray) ∧ MatAt st' cs m ∧ st' r = some (readC bv a l r)
  | none => e = .panicked (one badV) ∧ ∃ n l, st' r = some (readC bv n l r)
/-- All but one block. -/
def without (r : Nat) (st : Heap) : Heap := fun k => if k = r then none else st k
theorem new_without {r : Nat} {st st' : Heap} : New (without r st) st' ↔ But1 r st st' := by
  constructor
  · intro h k o hn hk
    exact h k o (by unfold without; rw [if_neg hn]; exact hk)
  · intro h k o hk
    unfold without at hk
    split at hk
    · cases hk
    · exact h k o ‹_› hk
theorem numM_le {b : Bs} {a : Int} {most n p : Nat} (h : numM b a most = some (n, p)) : n ≤ most := by
  unfold numM at h
  cases hv : vgetM b a with
  | none => rw [hv] at h; cases h
  | some q =>
    rw [hv] at h
    simp only [Option.bind_some] at h
    split at h
    · injection h with h; subst h; assumption
    · cases h
theorem Vec.but {r size len n m g x y : Nat} {st st' : Heap} {v : Value} {xs cs : List Value} {rw_ : Bool} (h : Vec st (.ty n) size v xs len) (hk : But1 r st st') (hr : st r = some (.cells rw_ cs m (.own g x y))) : Vec st' (.ty n) size v xs len := by
  obtain ⟨h1, base, cap, h2, h3, h4⟩ := h
  refine ⟨h1, base, cap, h2, h3, h4.imp ?_ id⟩
  rintro ⟨blk, nn, q1, q2, q3⟩
  refine ⟨blk, nn, q1, hk _ _ ?_ q2, q3⟩
  rintro rfl
  rw [hr] at q2
  injection q2 with q2
  injection q2 with _ _ _ q2
  cases q2
theorem Free.ty {n : Nat} : Free (.ty n) := by intro g x r; simp
theorem mat_cells' {st : Heap} {cs : List Value} {m : Mat} (h : MatAt st cs m) : ∃ op name value vb vl vc kb kl kc, cs = [Val.i op, .string name, .string value, .slice vb vl vc, .slice kb kl kc] := by
  obtain ⟨op, name, value, vals, kids⟩ := m
  unfold MatAt at h
  obtain ⟨vv, kv, ks, rfl, hv', hk', hkids⟩ := h
  obtain ⟨vb', vc', rfl⟩ := hv'.slice
  obtain ⟨kb', kc', rfl⟩ := hk'.slice
  exact ⟨_, _, _, _, _, _, _, _, _, rfl⟩
theorem readsF_left {f : Int → Int → Option (Mat × Int × Int)} (hf : ∀ {a l : Int} {m : Mat} {a' l' : Int}, f a l = some (m, a', l') → 0 ≤ l' ∧ l' ≤ l) : ∀ {k : Nat} {a l : Int} {ms : List Mat} {a' l' : Int}, 0 ≤ l → readsF f k a l = some (ms, a', l') → 0 ≤ l' ∧ l' ≤ l
  | 0, a, l, ms, a', l', h0, h => by
    unfold readsF at h
    injection h with h
    injection h with h1 h2
    injection h2 with h2 h3
    omega
  | k + 1, a, l, ms, a', l', h0, h => by
    unfold readsF at h
    obtain ⟨p, hp, h⟩ := Option.bind_eq_some_iff.1 h
    obtain ⟨q, hq, h⟩ := Option.map_eq_some_iff.1 h
    obtain ⟨m1, a1, l1⟩ := p
    obtain ⟨ms1, a2, l2⟩ := q
    injection h with h1 h2
    injection h2 with h2 h3
    have e1 := hf hp
    have e2 := readsF_left hf (show 0 ≤ l1 by omega) hq
    omega
theorem readM_left {b : Bs} : ∀ {d : Nat} {a l : Int} {m : Mat} {a' l' : Int}, readM b d a l = some (m, a', l') → 0 ≤ l' ∧ l' ≤ l
  | 0, a, l, m, a', l', h => by unfold readM at h; cases h
  | d + 1, a, l, m, a', l', h => by
    unfold readM at h
    split at h
    · cases h
    obtain ⟨hd, hhd, h⟩ := Option.bind_eq_some_iff.1 h
    obtain ⟨q, hq, h⟩ := Option.map_eq_some_iff.1 h
    obtain ⟨ms1, a2, l2⟩ := q
    injection h with h1 h2
    injection h2 with h2 h3
    have e2 := readsF_left (f := readM b d) (fun h => readM_left h) (by omega) hq
    omega
section
variable {W0 : World}
theorem Reg.but {r : Nat} {st st' : Heap} {t : Tg} {size len n : Nat} {v : Value} {xs cs : List Value} {rw_ : Bool} {g x y : Nat} (h : Reg st t size v xs len) (ht : Free t) (hk : But1 r st st') (hr : st r = some (.cells rw_ cs n (.own g x y))) : Reg st' t size v xs len := by
  obtain ⟨hl, base, cap, hv, hc, h⟩ := h
  refine ⟨hl, base, cap, hv, hc, h.imp id ?_⟩
  rintro ⟨b, off, rw', ys, m, h1, h2, h3⟩
  refine ⟨b, off, rw', ys, m, h1, hk b _ ?_ h2, h3⟩
  refine ne_of_tag h2 hr ?_
  simp only [HObj.tag, ne_eq, Option.some.injEq]
  exact ht g x y
theorem But1.putNew {r b : Nat} {st0 st : Heap} {o : HObj} (h : But1 r st0 st) (hb : st0 b = none) : But1 r st0 (upd st b o) := fun k x hn hk => by
  rw [upd_ne _ _ (by rintro rfl; rw [hb] at hk; cases hk)]
  exact h k x hn hk
/-- Reading a number, by its two ends. -/
theorem readNumber_ends {st : Heap} {r : Nat} {bv : Value} {b : Bs} {g0 : Tg} {at_ left : Int} {most : Nat} (hr : st r = some (readC bv at_ left r)) (hb : Reg st g0 1 bv (bytesV b) b.length) (hl : b.length < 2 ^ 60) (hm : most < 2 ^ 40) {K : Ending → Heap → Prop}
    (hK : ∀ e st', But1 r st st' → (∀ n a, numM b at_ most = some (n, a) → e = .returned (Val.i n) → st' r = some (readC bv a left r) → K e st') ∧ (numM b at_ most = none → e = .panicked (one badV) → (∃ n, st' r = some (readC bv n left r)) → K e st')) :
    ICalls Tryz.prog W0 229 #[ptr r, Val.u most] st K := by
  refine (readNumber_spec hr hb hl hm).mono ?_
  rintro e st' ⟨hk, h⟩
  obtain ⟨h1, h2⟩ := hK e st' hk
  unfold numM at h1 h2
  cases hv : vgetM b at_ with
  | none => rw [hv] at h; exact h2 (by simp [hv]) h.1 h.2
  | some p =>
    obtain ⟨n, a⟩ := p
    rw [hv] at h
    by_cases hn : n ≤ most
    · simp only [hn, if_true] at h
      exact h1 n a (by simp [hv, hn]) h.1 h.2
    · simp only [hn, if_false] at h
      exact h2 (by simp [hv]; omega) h.1 h.2
theorem readText_ends {st : Heap} {r : Nat} {bv : Value} {b : Bs} {g0 : Tg} {at_ left : Int} {most : Nat} (hr : st r = some (readC bv at_ left r)) (hb : Reg st g0 1 bv (bytesV b) b.length) (hl : b.length < 2 ^ 60) (hm : most < 2 ^ 40) {K : Ending → Heap → Prop}
    (hK : ∀ e st', But1 r st st' → (∀ s a, txtM b at_ most = some (s, a) → e = .returned (.string s) → st' r = some (readC bv a left r) → K e st') ∧ (txtM b at_ most = none → e = .panicked (one badV) → (∃ n, st' r = some (readC bv n left r)) → K e st')) :
    ICalls Tryz.prog W0 230 #[ptr r, Val.i most] st K := by
  refine (readText_spec hr hb hl (by omega)).mono ?_
  rintro e st' ⟨hk, h⟩
  obtain ⟨h1, h2⟩ := hK e st' hk
  unfold txtM at h1 h2
  cases hv : vgetTextM b at_ most with
  | none => rw [hv] at h; exact h2 (by simp [hv]) h.1 h.2
  | some p =>
    obtain ⟨s, a⟩ := p
    rw [hv] at h
    exact h1 _ a (by simp [hv]) h.1 h.2
theorem readMatcher_step {bv : Value} {b : Bs} {g0 : Tg} (hl : b.length < 2 ^ 60) (d : Nat)
    (ih : ∀ d', d = d' + 1 → ∀ {st : Heap} {r deep : Nat} {at_ left : Int}, deep + d' = 9 → st r = some (readC bv at_ left r) → Reg st g0 1 bv (bytesV b) b.length → Free g0 → 0 ≤ left → left ≤ 64 →
      ICalls Tryz.prog W0 185 #[ptr r, Val.i deep] st (ReadMR st r bv (readM b d' at_ left))) :
    ∀ {st : Heap} {r deep : Nat} {at_ left : Int}, deep + d = 9 → st r = some (readC bv at_ left r) → Reg st g0 1 bv (bytesV b) b.length → Free g0 → 0 ≤ left → left ≤ 64 →
      ICalls Tryz.prog W0 185 #[ptr r, Val.i deep] st (ReadMR st r bv (readM b d at_ left)) := by
  intro st r deep at_ left hd hr hb hg hl0 hl1
  generalize hRES : readM b d at_ left = RES
  have hwl : IntKind.i64.wrap (left - 1) = left - 1 := wrap_id (by omega) (by omega)
  refine enter (args := [_, _]) Tryz.func185 rfl ?_
  refine IW_cut (fun E' st' => ∃ tb, But1 r st st' ∧ tb ≠ r ∧ st tb = none ∧ E' 0 = ptr r ∧ E' 1 = Val.i deep ∧ E' 4 = ptr tb ∧ (∃ cs, st' tb = some (.cells true cs 5 (.own tb 0 74)) ∧ cs.length = 5) ∧ st' r = some (readC bv at_ left r)) ?_ ?_
  · simp [go_sem]
    unfold NewP
    intro tb htb
    refine ⟨.own tb 0 74, ?_⟩
    have hne : tb ≠ r := Ne.symm (ne_of_new hr htb)
    have hne' := Ne.symm hne
    simp [go_sem, hne, hne', hr]
    exact ⟨(But1.refl _ _).add htb, tb, hne, htb, rfl, _, upd_same _ _ _, rfl⟩
  rintro E1 st1 ⟨tb, hk1, hne, htb, e0, e1, e4, ⟨cs, ht, hcs⟩, hr1⟩
  refine IW_cut (fun E' st' => But1 r st st' ∧ E' 0 = ptr r ∧ E' 1 = Val.i deep ∧ E' 4 = ptr tb ∧ st' tb = some (.cells true cs 5 (.own tb 0 74)) ∧ st' r = some (readC bv at_ (left - 1) r)) ?_ ?_
  · unfold readC at hr1
    simp [go_sem, e0, e1, e4, hr1, hwl, hne]
    exact ⟨hk1.put, ht, rfl⟩
  clear ht hk1 e0 e1 e4 hr1
  rintro E2 st2 ⟨hk2, e0, e1, e4, ht, hr2⟩
  refine IW_cut' (fun E' st' => (0 ≤ left - 1 ∧ deep ≤ 8) ∧ But1 r st st' ∧ E' 0 = ptr r ∧ E' 1 = Val.i deep ∧ E' 4 = ptr tb ∧ st' tb = some (.cells true cs 5 (.own tb 0 74)) ∧ st' r = some (readC bv at_ (left - 1) r)) ?_ ?_
  · have hr2' := hr2
    unfold readC at hr2'
    by_cases h1 : left - 1 < 0
    · have q1 : (left - 1 < 0) = True := eq_true h1
      have : RES = none := by
        rw [← hRES]
        cases d with
        | zero => rfl
        | succ d => unfold readM; rw [if_pos h1]
      subst this
      simp [go_sem, e0, e1, e4, hr2', q1]
      exact ⟨hk2, rfl, _, _, hr2⟩
    have q1 : (left - 1 < 0) = False := eq_false h1
    by_cases h2 : 8 < deep
    · have q2 : ((8 : Int) < deep) = True := eq_true (by omega)
      have : RES = none := by
        rw [← hRES]
        have : d = 0 := by omega
        subst this
        rfl
      subst this
      simp [go_sem, e0, e1, e4, hr2', q1, q2]
      exact ⟨hk2, rfl, _, _, hr2⟩
    · have q2 : ((8 : Int) < deep) = False := eq_false (by omega)
      simp [go_sem, e0, e1, e4, hr2', q1, q2]
      exact ⟨⟨by omega, by omega⟩, hk2, ht, rfl⟩
  clear ht hk2 e0 e1 e4 hr2
  rintro E3 st3 ⟨⟨hl2, hd8⟩, hk3, e0, e1, e4, ht, hr3⟩
  obtain ⟨d, rfl⟩ : ∃ d', d = d' + 1 := ⟨d - 1, by omega⟩
  unfold readM at hRES
  rw [if_neg (by omega)] at hRES
  obtain ⟨l1, hl1'⟩ : ∃ l1, left - 1 = l1 := ⟨_, rfl⟩
  rw [hl1'] at hRES hr3 hl2
  have hbk : ∀ {st' : Heap}, But1 r st st' → Reg st' g0 1 bv (bytesV b) b.length := fun hk => hb.but hg hk hr
  unfold headM at hRES
  refine IW_cut' (fun E' st' => ∃ tm op a, numM b at_ 7 = some (op, a) ∧ But1 r st st' ∧ tm ≠ r ∧ tm ≠ tb ∧ st tm = none ∧ E' 0 = ptr r ∧ E' 1 = Val.i deep ∧ E' 4 = ptr tb ∧ E' 5 = ptr tm ∧ st' tb = some (.cells true cs 5 (.own tb 0 74)) ∧ st' tm = some (.cells true [Val.i op, .string ⟨#[]⟩, .string ⟨#[]⟩, .slice none 0 0, .slice none 0 0] 5 (.own tm 0 75)) ∧ st' r = some (readC bv a l1 r)) ?_ ?_
  · simp [go_sem, e0, e1, e4]
    refine readNumber_ends (most := 7) hr3 (hbk hk3) hl (by omega) ?_
    intro e st4 hk4
    refine ⟨?_, ?_⟩
    · rintro op a hop rfl hr4
      simp [go_sem]
      unfold NewP
      intro tm htm
      refine ⟨.own tm 0 75, ?_⟩
      have ht4 := hk4 _ _ hne ht
      have n1 : tm ≠ r := Ne.symm (ne_of_new hr4 htm)
      have n2 : tm ≠ tb := Ne.symm (ne_of_new ht4 htm)
      have n1' := Ne.symm n1
      have n2' := Ne.symm n2
      have n3 : st tm = none := by
        cases hz : st tm with
        | none => rfl
        | some o => have := (hk3.trans hk4) _ _ n1 hz; rw [htm] at this; cases this
      simp [go_sem, e0, e1, e4, n1, n2, n1', n2', hr4, ht4]
      exact ⟨tm, op, a, hop, (hk3.trans hk4).add htm, n1, n2, n3, rfl, upd_same _ _ _, rfl⟩
    · rintro hop rfl ⟨n, hr4⟩
      rw [hop] at hRES
      simp at hRES
      subst hRES
      simp [go_sem]
      exact ⟨hk3.trans hk4, rfl, _, _, hr4⟩
  clear ht hk3 e0 e1 e4 hr3
  rintro E4 st4 ⟨tm, op, a, hop, hk4, n1, n2, n3, e0, e1, e4, e5, ht, htm, hr4⟩
  rw [hop] at hRES
  simp only [Option.bind_some] at hRES
  have hRES0 := hRES
  refine IW_cut (fun E' st' => st' = st4 ∧ E' 0 = ptr r ∧ E' 1 = Val.i deep ∧ E' 4 = ptr tb ∧ E' 5 = ptr tm ∧ E' 6 = Val.i 0) ?_ ?_
  · simp [go_sem, e0, e1, e4, e5]
  clear e0 e1 e4 e5
  rintro E5 st5 ⟨rfl, e0, e1, e4, e5, e6⟩
  have hop7 : op ≤ 7 := by
    unfold numM at hop
    cases hv : vgetM b at_ with
    | none => rw [hv] at hop; cases hop
    | some p =>
      rw [hv] at hop
      simp only [Option.bind_some] at hop
      split at hop
      · injection hop with hop; subst hop; assumption
      · cases hop
  refine IW_cut' (fun E' st' => ∃ h : MHead, (readsF (readM b d) h.k h.at_ l1).map (fun q => (Mat.mk h.op h.name h.value h.vals q.1, q.2)) = RES ∧ But1 r st st' ∧ E' 0 = ptr r ∧ E' 1 = Val.i deep ∧ E' 4 = ptr tb ∧ E' 5 = ptr tm ∧ E' 6 = Val.i h.k ∧ h.k ≤ 64 ∧ st' tb = some (.cells true cs 5 (.own tb 0 74)) ∧
    (∃ vv, st' tm = some (.cells true [Val.i h.op, .string h.name, .string h.value, vv, .slice none 0 0] 5 (.own tm 0 75)) ∧ RegF st' 1 vv (h.vals.map .string) h.vals.length) ∧ st' r = some (readC bv h.at_ l1 r)) ?_ ?_
  · have hoc : op = 0 ∨ (op = 1 ∨ op = 2 ∨ op = 3) ∨ op = 4 ∨ (op = 5 ∨ op = 6) ∨ op = 7 := by omega
    rcases hoc with h0 | h123 | h4 | h56 | h7
    · subst h0
      simp at hRES
      simp [go_sem, e0, e1, e4, e5, e6, htm]
      exact ⟨⟨0, ⟨#[]⟩, ⟨#[]⟩, [], 0, a⟩, by simpa using hRES, hk4, rfl, by simp, ht, ⟨_, ⟨rfl, rfl, rfl, rfl⟩, RegF.nil⟩, hr4⟩
    · have hRES1 : (txtM b a 32).bind (fun q => (txtM b q.2 64).bind fun s => (readsF (readM b d) 0 s.2 l1).map fun z => (Mat.mk op q.1 s.1 [] z.1, z.2)) = RES := by
        rw [← hRES, if_pos h123]
        cases txtM b a 32 with
        | none => rfl
        | some q => cases h : txtM b q.2 64 <;> simp [h]
      clear hRES hRES0 hop
      rcases h123 with rfl | rfl | rfl
      all_goals
        simp [go_sem, e0, e1, e4, e5, e6, htm]
        refine readText_ends (most := 32) hr4 (hbk hk4) hl (by omega) ?_
        intro e st6 hk6
        refine ⟨?_, ?_⟩
        · rintro s1 a1 hs1 rfl hr6
          rw [hs1] at hRES1
          simp only [Option.bind_some] at hRES1
          simp [go_sem, e0, e1, e4, e5, e6]
          refine readText_ends (most := 64) hr6 (hbk (hk4.trans hk6)) hl (by omega) ?_
          intro e st7 hk7
          refine ⟨?_, ?_⟩
          · rintro s2 a2 hs2 rfl hr7
            rw [hs2] at hRES1
            simp only [Option.bind_some] at hRES1
            have htm7 := hk7 _ _ n1 (hk6 _ _ n1 htm)
            simp [go_sem, e0, e1, e4, e5, e6, htm7]
            exact ⟨⟨_, s1, s2, [], 0, a2⟩, by simpa using hRES1, ((hk4.trans hk6).trans hk7).putNew n3, rfl, by simp, by rw [upd_ne _ _ (Ne.symm n2)]; exact hk7 _ _ hne (hk6 _ _ hne ht), ⟨_, ⟨rfl, rfl, rfl, rfl⟩, RegF.nil⟩, by rw [upd_ne _ _ (Ne.symm n1)]; exact hr7⟩
          · rintro hs2 rfl ⟨n, hr7⟩
            rw [hs2] at hRES1
            simp at hRES1
            subst hRES1
            simp [go_sem]
            exact ⟨(hk4.trans hk6).trans hk7, rfl, _, _, hr7⟩
        · rintro hs1 rfl ⟨n, hr6⟩
          rw [hs1] at hRES1
          simp at hRES1
          subst hRES1
          simp [go_sem]
          exact ⟨hk4.trans hk6, rfl, _, _, hr6⟩
    · have hRES1 : (txtM b a 32).bind (fun q => (numM b q.2 16).bind fun c => (txtsM b c.1 c.2).bind fun s => (readsF (readM b d) 0 s.2 l1).map fun z => (Mat.mk 4 q.1 ⟨#[]⟩ s.1 z.1, z.2)) = RES := by
        rw [← hRES, if_neg (by omega), if_pos h4]
        cases txtM b a 32 with
        | none => rfl
        | some q =>
          cases h : numM b q.2 16 with
          | none => simp [h]
          | some c => cases h' : txtsM b c.1 c.2 <;> simp [h, h']
      clear hRES hRES0 hop
      subst h4
      simp [go_sem, e0, e1, e4, e5, e6, htm]
      refine readText_ends (most := 32) hr4 (hbk hk4) hl (by omega) ?_
      intro e st6 hk6
      refine ⟨?_, ?_⟩
      · rintro s1 a1 hs1 rfl hr6
        rw [hs1] at hRES1
        simp only [Option.bind_some] at hRES1
        have htm6 := hk6 _ _ n1 htm
        simp [go_sem, e0, e1, e4, e5, e6, htm6]
        refine readNumber_ends (most := 16) (at_ := a1) (left := l1) (bv := bv) (b := b) (g0 := g0) (by rw [upd_ne _ _ (Ne.symm n1)]; exact hr6) (hbk ((hk4.trans hk6).putNew n3)) hl (by omega) ?_
        intro e st7 hk7
        refine ⟨?_, ?_⟩
        · rintro c a2 hc rfl hr7
          rw [hc] at hRES1
          simp only [Option.bind_some] at hRES1
          simp [go_sem, e0, e1, e4, e5, e6]
          have hc16 := numM_le hc
          have htm7 := hk7 _ _ n1 (upd_same st6 tm (.cells true [Val.i 4, .string s1, .string ⟨#[]⟩, .slice none 0 0, .slice none 0 0] 5 (.own tm 0 75)))
          have htb7 := hk7 _ _ hne ((upd_ne st6 (.cells true [Val.i 4, .string s1, .string ⟨#[]⟩, .slice none 0 0, .slice none 0 0] 5 (.own tm 0 75)) (Ne.symm n2)).trans (hk6 _ _ hne ht))
          have hk47 := ((hk4.trans hk6).putNew n3 (o := .cells true [Val.i 4, .string s1, .string ⟨#[]⟩, .slice none 0 0, .slice none 0 0] 5 (.own tm 0 75))).trans hk7
          refine ⟨fun E st' => But1 r st st' ∧ E 0 = ptr r ∧ E 1 = Val.i deep ∧ E 4 = ptr tb ∧ E 5 = ptr tm ∧ E 6 = Val.i 0 ∧ E 46 = Val.i c ∧ st' tb = some (.cells true cs 5 (.own tb 0 74)) ∧ ∃ (i : Nat) (vs : List ByteArray) (vv : Value) (a3 : Int), E 47 = Val.i i ∧ i ≤ c ∧ vs.length = i ∧ st' tm = some (.cells true [Val.i 4, .string s1, .string ⟨#[]⟩, vv, .slice none 0 0] 5 (.own tm 0 75)) ∧ Vec st' (.ty 1) 1 vv (vs.map .string) i ∧ Fresh (without r st) vv ∧ st' r = some (readC bv a3 l1 r) ∧
              (txtsM b (c - i) a3).bind (fun s => (readsF (readM b d) 0 s.2 l1).map fun z => (Mat.mk 4 s1 ⟨#[]⟩ (vs ++ s.1) z.1, z.2)) = RES,
            fun E _ => match E 47 with | .int _ i => c - i.toNat | _ => 0, ⟨st7, .rfl' _, hk47, by simp [go_sem, e0], by simp [go_sem, e1], by simp [go_sem, e4], by simp [go_sem, e5], by simp [go_sem, e6], by simp [go_sem], htb7, 0, [], .slice none 0 0, a2, by simp [go_sem], by omega, rfl, htm7, Vec.nil, Fresh.none, hr7, by simpa using hRES1⟩, ?_⟩
          clear e0 e1 e4 e5 e6 hr7 htm7 htb7 hk47 hRES1 hr6 htm6 hr4 htm ht
          rintro E st8 ⟨hk8, e0, e1, e4, e5, e6, e46, htb8, i, vs, vv, a3, e47, hi, hvl, htm8, hV, hF, hr8, hrec⟩
          by_cases hlt : i < c
          · have hlt' : ((i : Int) < c) = True := eq_true (by omega)
            have hwi : IntKind.i64.wrap ((i : Int) + 1) = ((i + 1 : Nat) : Int) := by rw [wrap_id (by omega) (by omega)]; omega
            obtain ⟨m, hm⟩ : ∃ m, c - i = m + 1 := ⟨c - i - 1, by omega⟩
            rw [hm] at hrec
            unfold txtsM at hrec
            simp [go_sem, e46, e47, hlt, hlt']
            refine drawK2 [0, 1, 2] [3, 4, 5] [6, 7] (fun i => match i with | 0 => .pointer (some ⟨tm, 3, none⟩) | 1 => vv | _ => ptr r) (fun st' => ∃ x y z w, st' tm = some (.cells true [x, y, z, vv, w] 5 (.own tm 0 75))) (by kernel_rfl) (by kernel_rfl) (by kernel_rfl) (by kernel_rfl) (by kernel_rfl) (by kernel_rfl) (by kernel_rfl) (by kernel_rfl) (by kernel_rfl) ⟨_, _, _, _, htm8⟩ ?_ ?_
            · simp [knownW, go_sem, e0, e5]
              intro st' x y z w h'
              simp [go_sem, h']
            · simp [chainW, knownE, go_sem]
              refine readText_ends (most := 64) hr8 (hbk hk8) hl (by omega) ?_
              intro e st9 hk9
              refine ⟨?_, ?_⟩
              · rintro s4 a4 hs4 rfl hr9
                rw [hs4] at hrec
                simp only [Option.bind_some] at hrec
                have htm9 := hk9 _ _ n1 htm8
                have htb9 := hk9 _ _ hne htb8
                have hV9 : Vec st9 (.ty 1) 1 vv (vs.map .string) i := hV.but hk9 hr8
                simp [go_sem]
                refine ⟨⟨_, _, _, _, htm9⟩, ?_⟩
                unfold NewS
                intro nb hnb
                refine ⟨.own nb 0 76, ?_⟩
                simp [go_sem]
                have hN := (New.refl st9).add (b := nb) (o := .cells true [.string s4] 1 (.own nb 0 76)) hnb
                refine ⟨⟨_, _, _, _, hN _ _ htm9⟩, ?_⟩
                refine AppI_new (st0 := without r st) (g := .ty 1) (m := 1) (ys := [.string s4]) si32 (hV9.new' hN) hF (new_without.2 (hk8.trans (hk9.trans (hN.but r)))) ?_ (by simp; rfl) (by omega) ?_
                · simp [srcCells, lkN_mk, upd_same, cellsOf]
                intro base cap st10 hV10 hF10 hN10 hE10
                have htm10 := hE10.keep _ _ (hN _ _ htm9) (by simp [HObj.tag])
                have htb10 := hE10.keep _ _ (hN _ _ htb9) (by simp [HObj.tag])
                have hr10 := hE10.keep _ _ (hN _ _ hr9) (by simp [HObj.tag, readC])
                have hk10 := new_without.1 hN10
                refine ⟨⟨_, _, _, _, htm10⟩, ?_⟩
                simp [go_sem, e0, e1, e4, e5, e6, e46, e47, htm10, hwi]
                refine ⟨_, .rfl' _, ⟨hk10.putNew n3, by rw [upd_ne _ _ (Ne.symm n2)]; exact htb10, i + 1, by omega, by omega, vs ++ [s4], by simp [hvl], _, upd_same _ _ _, ?_, hF10, a4, by rw [upd_ne _ _ (Ne.symm n1)]; exact hr10, ?_⟩, by omega⟩
                · have := hV10.but (But1.put (o := .cells true [Val.i 4, .string s1, .string ⟨#[]⟩, .slice base (i + 1) cap, .slice none 0 0] 5 (.own tm 0 75)) (But1.refl tm st10)) htm10
                  simpa using this
                · rw [← hrec, show c - (i + 1) = m by omega]
                  cases txtsM b m a4 <;> simp
              · rintro hs4 rfl ⟨n, hr9⟩
                rw [hs4] at hrec
                simp at hrec
                subst hrec
                simp [go_sem]
                exact ⟨hk8.trans hk9, rfl, _, _, hr9⟩
          · have hlt' : ((i : Int) < c) = False := eq_false (by omega)
            have : i = c := by omega
            subst this
            simp [go_sem, e46, e47, hlt, hlt']
            simp [txtsM] at hrec
            exact ⟨⟨4, s1, ⟨#[]⟩, vs, 0, a3⟩, by simpa using hrec, hk8, e0, e1, e4, e5, e6, by simp, htb8, ⟨vv, htm8, hvl ▸ hV.reg.toF Free.ty⟩, hr8⟩
        · rintro hc rfl ⟨n, hr7⟩
          rw [hc] at hRES1
          simp at hRES1
          subst hRES1
          simp [go_sem]
          exact ⟨((hk4.trans hk6).putNew n3).trans hk7, rfl, _, _, hr7⟩
      · rintro hs1 rfl ⟨n, hr6⟩
        rw [hs1] at hRES1
        simp at hRES1
        subst hRES1
        simp [go_sem]
        exact ⟨hk4.trans hk6, rfl, _, _, hr6⟩
    · rcases h56 with rfl | rfl
      all_goals
        simp at hRES
        simp [go_sem, e0, e1, e4, e5, e6, htm]
        refine readNumber_ends (most := 64) hr4 (hbk hk4) hl (by omega) ?_
        intro e st6 hk6
        refine ⟨?_, ?_⟩
        · rintro c a' hc rfl hr6
          rw [hc] at hRES
          simp at hRES
          simp [go_sem, e0, e1, e4, e5, e6]
          have hc64 : c ≤ 64 := by
            unfold numM at hc
            cases hv : vgetM b a with
            | none => rw [hv] at hc; cases hc
            | some p =>
              rw [hv] at hc
              simp only [Option.bind_some] at hc
              split at hc
              · injection hc with hc; subst hc; assumption
              · cases hc
          exact ⟨⟨_, ⟨#[]⟩, ⟨#[]⟩, [], c, a'⟩, hRES, hk4.trans hk6, rfl, hc64, hk6 _ _ hne ht, ⟨_, hk6 _ _ n1 htm, RegF.nil⟩, hr6⟩
        · rintro hc rfl ⟨n, hr6⟩
          rw [hc] at hRES
          simp at hRES
          subst hRES
          simp [go_sem]
          exact ⟨hk4.trans hk6, rfl, _, _, hr6⟩
    · subst h7
      simp at hRES
      simp [go_sem, e0, e1, e4, e5, e6, htm]
      exact ⟨⟨7, ⟨#[]⟩, ⟨#[]⟩, [], 1, a⟩, by simpa using hRES, hk4, rfl, by simp, ht, ⟨_, ⟨rfl, rfl, rfl, rfl⟩, RegF.nil⟩, hr4⟩
  clear e0 e1 e4 e5 e6 hr4 htm ht hRES hRES0 hop hop7
  rintro E6 st6 ⟨h, hRES, hk6, e0, e1, e4, e5, e6, hk64, ht6, ⟨vv, htm6, hvv⟩, hr6⟩
  simp [go_sem, e6]
  refine ⟨fun E st' => But1 r st st' ∧ E 0 = ptr r ∧ E 1 = Val.i deep ∧ E 4 = ptr tb ∧ E 5 = ptr tm ∧ E 64 = Val.i h.k ∧ st' tb = some (.cells true cs 5 (.own tb 0 74)) ∧ ∃ (i : Nat) (kvs : List Mat) (kv : Value) (ks : List Value) (a3 l3 : Int), E 65 = Val.i i ∧ i ≤ h.k ∧ kvs.length = i ∧ st' tm = some (.cells true [Val.i h.op, .string h.name, .string h.value, vv, kv] 5 (.own tm 0 75)) ∧ RegF st' 1 vv (h.vals.map .string) h.vals.length ∧ Vec st' (.ty 1) 5 kv ks i ∧ KidsAt st' ks kvs ∧ Fresh (without r st) kv ∧ st' r = some (readC bv a3 l3 r) ∧ 0 ≤ l3 ∧ l3 ≤ 64 ∧
      (readsF (readM b d) (h.k - i) a3 l3).map (fun q => (Mat.mk h.op h.name h.value h.vals (kvs ++ q.1), q.2)) = RES,
    fun E _ => match E 65 with | .int _ i => h.k - i.toNat | _ => 0, ⟨st6, .rfl' _, hk6, by simp [go_sem, e0], by simp [go_sem, e1], by simp [go_sem, e4], by simp [go_sem, e5], by simp [go_sem], ht6, 0, [], .slice none 0 0, [], h.at_, l1, by simp [go_sem], by omega, rfl, htm6, hvv, Vec.nil, by unfold KidsAt; rfl, Fresh.none, hr6, by omega, by omega, by simpa using hRES⟩, ?_⟩
  clear e0 e1 e4 e5 e6 hr6 htm6 ht6 hRES hk6 hvv
  rintro E st8 ⟨hk8, e0, e1, e4, e5, e64, htb8, i, kvs, kv, ks, a3, l3, e65, hi, hvl, htm8, hvv, hV, hKA, hF, hr8, hl30, hl31, hrec⟩
  by_cases hlt : i < h.k
  · have hlt' : ((i : Int) < h.k) = True := eq_true (by omega)
    have hwi : IntKind.i64.wrap ((i : Int) + 1) = ((i + 1 : Nat) : Int) := by rw [wrap_id (by omega) (by omega)]; omega
    have hwd : IntKind.i64.wrap ((deep : Int) + 1) = ((deep + 1 : Nat) : Int) := by rw [wrap_id (by omega) (by omega)]; omega
    obtain ⟨m, hm⟩ : ∃ m, h.k - i = m + 1 := ⟨h.k - i - 1, by omega⟩
    rw [hm] at hrec
    unfold readsF at hrec
    simp [go_sem, e64, e65, hlt, hlt']
    refine drawK2 [0, 1, 2, 3, 4] [5, 6, 7] [8, 9] (fun i => match i with | 0 => .pointer (some ⟨tm, 4, none⟩) | 1 => kv | 2 => ptr r | 3 => Val.i deep | _ => Val.i ((deep + 1 : Nat) : Int)) (fun st' => ∃ x y z w, st' tm = some (.cells true [x, y, z, w, kv] 5 (.own tm 0 75))) (by kernel_rfl) (by kernel_rfl) (by kernel_rfl) (by kernel_rfl) (by kernel_rfl) (by kernel_rfl) (by kernel_rfl) (by kernel_rfl) (by kernel_rfl) ⟨_, _, _, _, htm8⟩ ?_ ?_
    · simp [knownW, go_sem, e0, e1, e5, hwd]
      intro st' x y z w h'
      simp [go_sem, h']
    · simp [chainW, knownE, go_sem]
      refine (ih d rfl (deep := deep + 1) (by omega) hr8 (hbk hk8) hg hl30 hl31).mono ?_
      rintro e st9 ⟨hk9, hR⟩
      cases hrm : readM b d a3 l3 with
      | none =>
        rw [hrm] at hR hrec
        obtain ⟨rfl, n, l, hr9⟩ := hR
        simp at hrec
        subst hrec
        simp [go_sem]
        exact ⟨hk8.trans hk9, rfl, _, _, hr9⟩
      | some p =>
        obtain ⟨mk, a4, l4⟩ := p
        rw [hrm] at hR hrec
        simp only [Option.bind_some] at hrec
        obtain ⟨cs', rfl, hmk, hr9⟩ := hR
        have htm9 := hk9 _ _ n1 htm8
        have htb9 := hk9 _ _ hne htb8
        have hV9 := hV.but hk9 hr8
        have hvv9 := hvv.but hk9 hr8
        have hKA9 := KidsAt.mono (fun _ _ _ _ hx => hx.but hk9 hr8) _ _ hKA
        have hl4 := readM_left hrm
        obtain ⟨op', name', value', vb', vl', vc', kb', kl', kc', rfl⟩ := mat_cells' hmk
        simp [go_sem]
        refine ⟨⟨_, _, _, _, htm9⟩, ?_⟩
        unfold NewS
        intro nb hnb
        refine ⟨.own nb 0 76, ?_⟩
        simp [go_sem]
        have hN := (New.refl st9).add (b := nb) (o := .cells true [Val.i op', .string name', .string value', .slice vb' vl' vc', .slice kb' kl' kc'] 5 (.own nb 0 76)) hnb
        refine ⟨⟨_, _, _, _, hN _ _ htm9⟩, ?_⟩
        refine AppI_new (st0 := without r st) (g := .ty 1) (m := 1) (ys := [Val.i op', .string name', .string value', .slice vb' vl' vc', .slice kb' kl' kc']) si33 (hV9.new' hN) hF (new_without.2 (hk8.trans (hk9.trans (hN.but r)))) ?_ hmk.cells1 (by omega) ?_
        · simp [srcCells, lkN_mk, upd_same, cellsOf]
        intro base cap st10 hV10 hF10 hN10 hE10
        have htm10 := hE10.keep _ _ (hN _ _ htm9) (by simp [HObj.tag])
        have htb10 := hE10.keep _ _ (hN _ _ htb9) (by simp [HObj.tag])
        have hr10 := hE10.keep _ _ (hN _ _ hr9) (by simp [HObj.tag, readC])
        have hk10 := new_without.1 hN10
        have hvv10 := (hvv9.new hN).ext hE10
        have hKA10 := (KidsAt.mono (fun _ _ _ _ hx => (hx.new hN).ext hE10) _ _ hKA9).append (MatAt.mono (fun _ _ _ _ hx => (hx.new hN).ext hE10) _ _ hmk)
        refine ⟨⟨_, _, _, _, htm10⟩, ?_⟩
        simp [go_sem, e0, e1, e4, e5, e64, e65, htm10, hwi]
        have hB := But1.put (o := .cells true [Val.i h.op, .string h.name, .string h.value, vv, .slice base (i + 1) cap] 5 (.own tm 0 75)) (But1.refl tm st10)
        refine ⟨_, .rfl' _, ⟨hk10.putNew n3, by rw [upd_ne _ _ (Ne.symm n2)]; exact htb10, i + 1, by omega, by omega, kvs ++ [mk], by simp [hvl], _, upd_same _ _ _, hvv10.but hB htm10, _, hV10.but hB htm10, KidsAt.mono (fun _ _ _ _ hx => hx.but hB htm10) _ _ hKA10, hF10, a4, l4, by rw [upd_ne _ _ (Ne.symm n1)]; exact hr10, by omega, by omega, ?_⟩, by omega⟩
        rw [← hrec, show h.k - (i + 1) = m by omega]
        cases readsF (readM b d) m a4 l4 <;> simp
  · have hlt' : ((i : Int) < h.k) = False := eq_false (by omega)
    have : i = h.k := by omega
    subst this
    simp [go_sem, e64, e65, hlt, hlt']
    simp [readsF] at hrec
    obtain ⟨kb, kc, rfl⟩ := hV.reg.slice
    obtain ⟨vb, vc, rfl⟩ := hvv.slice
    have hz0 : cs.drop 5 = [] := by rw [List.drop_eq_nil_iff]; omega
    have hnt := Ne.symm n2
    simp [go_sem, e0, e1, e4, e5, htm8, htb8, hcs, hz0]
    refine RetI_cell ?_
    simp [go_sem, e4]
    subst hrec
    have hB := But1.put (o := .cells true [Val.i h.op, .string h.name, .string h.value, .slice vb h.vals.length vc, .slice kb h.k kc] 5 (.own tb 0 74)) (But1.refl tb st8)
    refine ⟨hk8.putNew htb, [Val.i h.op, .string h.name, .string h.value, .slice vb h.vals.length vc, .slice kb h.k kc], rfl, ?_, by rw [upd_ne _ _ (Ne.symm hne)]; exact hr8⟩
    unfold MatAt
    refine ⟨_, _, ks, rfl, hvv.but hB htb8, ?_, KidsAt.mono (fun _ _ _ _ hx => hx.but hB htb8) _ _ hKA⟩
    rw [hvl]
    exact (hV.reg.toF Free.ty).but hB htb8
theorem readMatcher_spec {bv : Value} {b : Bs} {g0 : Tg} (hl : b.length < 2 ^ 60) : ∀ (d : Nat) {st : Heap} {r deep : Nat} {at_ left : Int}, deep + d = 9 → st r = some (readC bv at_ left r) → Reg st g0 1 bv (bytesV b) b.length → Free g0 → 0 ≤ left → left ≤ 64 →
    ICalls Tryz.prog W0 185 #[ptr r, Val.i deep] st (ReadMR st r bv (readM b d at_ left)) := by
  intro d
  induction d with
  | zero => exact readMatcher_step hl 0 (fun d' h => by omega)
  | succ d ih =>
    refine readMatcher_step hl (d + 1) (fun d' h => ?_)
    have : d' = d := by omega
    subst this
    exact @ih
end
end Go.Proofs.YtadgciaclhjjkaaGreat
