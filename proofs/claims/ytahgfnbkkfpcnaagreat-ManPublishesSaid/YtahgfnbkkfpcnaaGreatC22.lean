/- A region of any order whose last operations wait for all that stand ahead of them: the first ones by themselves (each result), then the last ones, one by one. Plain definitions and theorems, over any program. -/
import Derived.Test.YtahgfnbkkfpcnaaGreatC11
import Derived.Test.YtahgfnbkkfpcnaaGreatC15
import Derived.Test.YtahgfnbkkfpcnaaGreatC19
import Derived.Test.YtahgfnbkkfpcnaaGreatC21
set_option linter.unusedVariables false
set_option linter.unusedSimpArgs false
namespace Go.Proofs.YtahgfnbkkfpcnaaGreat
open Go.RowKit (Below)
def reach (ops : List Oper) : Nat → List Nat → List Nat
 | 0, l => l
 | k + 1, l => reach ops k (l ++ (l.flatMap fun i => match ops[i]? with | some o => (o.after.toList.filter bnds).map (·.on) | none => []).filter fun j => !l.contains j)
def after1 (ops : List Oper) (i : Nat) : List Nat := match ops[i]? with | some o => (o.after.toList.filter bnds).map (·.on) | none => []
def tailOK (ops : List Oper) (n : Nat) : Bool := (List.range ops.length).all fun t => decide (t < n) || (List.range t).all fun j => (reach ops ops.length (after1 ops t)).contains j
theorem z8q {ops : List Oper} {done : List Nat} (hcl : ∀ (j : Nat) (oj : Oper), j ∈ done → ops[j]? = some oj → ∀ e ∈ oj.after.toList, bnds e = true → e.on ∈ done) : ∀ (k : Nat) (l : List Nat), (∀ i ∈ l, i ∈ done) → ∀ i ∈ reach ops k l, i ∈ done
 | 0, l, h, i, hi => h i hi
 | k + 1, l, h, i, hi => by
  refine z8q hcl k _ ?_ i hi
  intro j hj
  rcases List.mem_append.1 hj with hj | hj
  ·exact h j hj
  ·obtain ⟨x, hx, hjx⟩ := List.mem_flatMap.1 (List.mem_filter.1 hj).1
   split at hjx
   ·rename_i o ho
    obtain ⟨e, he, rfl⟩ := List.mem_map.1 hjx
    obtain ⟨he1, he2⟩ := List.mem_filter.1 he
    exact hcl x o (h x hx) ho e he1 he2
   ·cases hjx
theorem zd9 {ops : List Oper} {n t : Nat} (ht : tailOK ops n = true) (hn : n ≤ t) (hl : t < ops.length) {done : List Nat} (hcl : ∀ (j : Nat) (oj : Oper), j ∈ done → ops[j]? = some oj → ∀ e ∈ oj.after.toList, bnds e = true → e.on ∈ done) (hd : ∀ i ∈ after1 ops t, i ∈ done) : ∀ j, j < t → j ∈ done := by
 intro j hj
 have h1 := List.all_eq_true.1 ht t (List.mem_range.2 hl)
 simp only [Bool.or_eq_true, decide_eq_true_eq] at h1
 rcases h1 with h1 | h1
 ·omega
 ·have h2 := List.all_eq_true.1 h1 j (List.mem_range.2 hj)
  exact z8q hcl _ _ hd j (by simpa using h2)
theorem z8g {ops : List Oper} {t : Nat} {o : Oper} (ho : ops[t]? = some o) {done : List Nat} (h : ∀ e ∈ o.after.toList, bnds e = true → e.on ∈ done) : ∀ i ∈ after1 ops t, i ∈ done := by
 intro i hi
 unfold after1 at hi
 rw [ho] at hi
 obtain ⟨e, he, rfl⟩ := List.mem_map.1 hi
 obtain ⟨h1, h2⟩ := List.mem_filter.1 he
 exact h e h1 h2
theorem z1x {ops : List Oper} {t i n : Nat} (h : oldB (ops.take n) t i = true) : ∀ (j : Nat) (oj : Oper), j < n → ops[j]? = some oj → oj.dst = some t → ∃ e ∈ oj.after.toList, bnds e = true ∧ e.on = i :=
 fun j oj hj ho hd => z1c h j oj (by rw [List.getElem?_take, if_pos hj]; exact ho) hd
theorem z43 {ops : List Oper} {t n : Nat} (h : ((ops.take n).all fun o => o.dst != some t) = true) : ∀ (j : Nat) (oj : Oper), j < n → ops[j]? = some oj → oj.dst ≠ some t :=
 fun j oj hj ho => z4d h j oj (by rw [List.getElem?_take, if_pos hj]; exact ho)
theorem drawT {P : Program} {W0 : World} {ops : List Oper} {Q : IPost} {Kp : PPost} {E0 : Env} {st0 : Heap} (n : Nat) (l : List Nat) (V : Nat → Value → Heap → Prop) (htopo : topoOK ops [] l = true) (hdst : dstOK (ops.take n) = true) (htail : tailOK ops n = true) (hlen : n ≤ ops.length)
  (hst : ∀ i v st st', New st st' → V i v st → V i v st')
  (hstep : ∀ (i : Nat) (o : Oper), i < n → ops[i]? = some o → ∀ (E : Env) (st : Heap), New st0 st →
   (∀ e ∈ o.after.toList, bnds e = true → ∀ (oj : Oper) (dj : Nat), ops[e.on]? = some oj → oj.dst = some dj → V e.on (E dj) st) →
   (∀ t, (∀ (j : Nat) (oj : Oper), j < n → ops[j]? = some oj → oj.dst = some t → ∃ e ∈ oj.after.toList, bnds e = true ∧ e.on = i) → E t = E0 t) →
   (bif z02 ops.toArray o E then opX P W0 o E (fun v st' => New st st' ∧ V i v st') Kp st else V i undef st))
  (hend : ∀ (E : Env) (st : Heap), New st0 st → (∀ (i : Nat) (o : Oper) (d : Nat), i < n → ops[i]? = some o → o.dst = some d → V i (E d) st) → (∀ t, (∀ (j : Nat) (oj : Oper), j < n → ops[j]? = some oj → oj.dst ≠ some t) → E t = E0 t) → IL P W0 ops.toArray Q Kp (ops.drop n) E st)
  (hc : ∀ (j : Nat) (oj : Oper), ops[j]? = some oj → clsR P oj.op ≤ 3) : DrawI P W0 ops Q Kp E0 st0 := by
 let Vi (done : List Nat) (E : Env) (st : Heap) : Prop := New st0 st ∧ (∀ (i : Nat) (o : Oper) (d : Nat), i < n → ops[i]? = some o → i ∈ done → o.dst = some d → V i (E d) st) ∧ (∀ t, (∀ (j : Nat) (oj : Oper), j < n → ops[j]? = some oj → oj.dst = some t → j ∉ done) → E t = E0 t)
 refine drawJ l (fun done E st => ((∀ i ∈ done, i < n) ∧ Vi done E st) ∨ ∃ t, n ≤ t ∧ (∀ i, i ∈ done ↔ i ≤ t) ∧ IL P W0 ops.toArray Q Kp (ops.drop (t + 1)) E st) htopo (.inl ⟨by simp, New.refl _, by simp, fun _ _ => rfl⟩) ?_ ?_ hc
 ·intro i o ho done E st hnot hdeps hcl hJ
  have hil := (List.getElem?_eq_some_iff.1 ho).1
  -- a last operation
  have last : n ≤ i → (∀ j, j ∈ done ↔ j < i) → IL P W0 ops.toArray Q Kp (ops.drop i) E st → (bif z02 ops.toArray o E then opX P W0 o E (fun v st' => ((∀ j ∈ i :: done, j < n) ∧ Vi (i :: done) (E.put o.dst v) st') ∨ ∃ t, n ≤ t ∧ (∀ j, j ∈ i :: done ↔ j ≤ t) ∧ IL P W0 ops.toArray Q Kp (ops.drop (t + 1)) (E.put o.dst v) st') Kp st
    else ((∀ j ∈ i :: done, j < n) ∧ Vi (i :: done) (E.put o.dst undef) st) ∨ ∃ t, n ≤ t ∧ (∀ j, j ∈ i :: done ↔ j ≤ t) ∧ IL P W0 ops.toArray Q Kp (ops.drop (t + 1)) (E.put o.dst undef) st) := by
   intro hni hdn hIL
   have hd : ops.drop i = o :: ops.drop (i + 1) := by
    rw [List.drop_eq_getElem_cons hil]
    congr 1
    rw [List.getElem?_eq_getElem hil] at ho
    exact Option.some.inj ho
   rw [hd] at hIL
   unfold IL at hIL
   have hmem : ∀ j, j ∈ i :: done ↔ j ≤ i := fun j => by
    rw [List.mem_cons, hdn j]
    omega
   cases hw : z02 ops.toArray o E with
   | true =>
    rw [hw] at hIL
    simp only [cond_true] at hIL ⊢
    exact opX_mono (hc i o ho) (fun v st' _ hk => .inr ⟨i, hni, hmem, hk⟩) (fun _ _ => id) hIL
   | false =>
    rw [hw] at hIL
    simp only [cond_false] at hIL ⊢
    exact .inr ⟨i, hni, hmem, hIL⟩
  rcases hJ with ⟨hdn, hN, hV, hE⟩ | ⟨t, hnt, hdn, hIL⟩
  ·rcases Nat.lt_or_ge i n with hin | hni
   ·have hnext : ∀ (v : Value) (st' : Heap), New st st' → V i v st' → ((∀ j ∈ i :: done, j < n) ∧ Vi (i :: done) (E.put o.dst v) st') := by
     intro v st' hk hv
     refine ⟨fun j hj => ?_, hN.trans hk, ?_, ?_⟩
     ·rcases List.mem_cons.1 hj with rfl | hj
      ·exact hin
      ·exact hdn j hj
     ·intro k ok d hkn hok hkd hd
      rcases List.mem_cons.1 hkd with rfl | hkd
      ·rw [ho] at hok; injection hok with hok; subst hok
       rw [hd]
       show V k ((E.set d v) d) st'
       simp [Env.set]
       exact hv
      ·have h1 : E.put o.dst v d = E d := by
        cases hod : o.dst with
        | none => rfl
        | some d' =>
         show E.set d' v d = E d
         unfold Env.set
         rw [if_neg]
         rintro rfl
         have e1 : (ops.take n)[i]? = some o := by rw [List.getElem?_take, if_pos hin]; exact ho
         have e2 : (ops.take n)[k]? = some ok := by rw [List.getElem?_take, if_pos hkn]; exact hok
         exact hnot ((dstOK_spec hdst e1 e2 hod hd) ▸ hkd)
       rw [h1]
       exact hst _ _ _ _ hk (hV k ok d hkn hok hkd hd)
     ·intro t ht
      have h1 : E.put o.dst v t = E t := by
       cases hod : o.dst with
       | none => rfl
       | some d' =>
        show E.set d' v t = E t
        unfold Env.set
        rw [if_neg]
        rintro rfl
        exact ht i o hin ho hod (by simp)
      rw [h1]
      exact hE t fun j oj hjn hoj hd hm => ht j oj hjn hoj hd (by simp [hm])
    have hs := hstep i o hin ho E st hN (fun e he hb oj dj hoj hdj => hV e.on oj dj (hdn _ (hdeps e he hb)) hoj (hdeps e he hb) hdj) (fun t ht => hE t fun j oj hjn hoj hd hm => by
     obtain ⟨e, he, hb, hon⟩ := ht j oj hjn hoj hd
     have := hcl j oj hm hoj e he hb
     rw [hon] at this
     exact hnot this)
    cases hw : z02 ops.toArray o E with
    | true =>
     rw [hw] at hs
     simp only [cond_true] at hs ⊢
     exact opX_mono (hc i o ho) (fun v st' _ hk => .inl (hnext v st' hk.1 hk.2)) (fun _ _ => id) hs
    | false =>
     rw [hw] at hs
     simp only [cond_false] at hs ⊢
     exact .inl (hnext undef st (New.refl _) hs)
   ·have hall := zd9 htail hni hil hcl (z8g ho hdeps)
    have hin : i = n := by
     rcases Nat.lt_or_ge n i with h | h
     ·have := hdn n (hall n h); omega
     ·omega
    subst hin
    refine last (Nat.le_refl _) (fun j => ⟨fun h => hdn j h, fun h => hall j h⟩) (hend E st hN (fun k ok d hkn hok hd => hV k ok d hkn hok (hall k hkn) hd) (fun t ht => hE t fun j oj hjn hoj hd _ => ht j oj hjn hoj hd))
  ·have hit : t < i := by
    rcases Nat.lt_or_ge t i with h | h
    ·exact h
    ·exact absurd ((hdn i).2 h) hnot
   have hall := zd9 htail (by omega) hil hcl (z8g ho hdeps)
   have : i = t + 1 := by
    rcases Nat.lt_or_ge (t + 1) i with h | h
    ·have := (hdn (t + 1)).1 (hall (t + 1) h); omega
    ·omega
   subst this
   exact last (by omega) (fun j => by rw [hdn j]; omega) hIL
 ·intro done E st hall hJ
  rcases hJ with ⟨hdn, hN, hV, hE⟩ | ⟨t, hnt, hdn, hIL⟩
  ·have hnl : n = ops.length := by
    rcases Nat.lt_or_ge n ops.length with h | h
    ·have := hdn n (hall n h); omega
    ·omega
   have := hend E st hN (fun k ok d hkn hok hd => hV k ok d hkn hok (hall k (List.getElem?_eq_some_iff.1 hok).1) hd) (fun t ht => hE t fun j oj hjn hoj hd _ => ht j oj hjn hoj hd)
   rw [hnl, List.drop_length] at this
   exact this
  ·have : ops.drop (t + 1) = [] := by
    apply List.drop_eq_nil_of_le
    rcases Nat.lt_or_ge (t + 1) ops.length with h | h
    ·have := (hdn (t + 1)).1 (hall (t + 1) h); omega
    ·exact h
   rw [this] at hIL
   exact hIL
set_option maxRecDepth 100000
set_option maxHeartbeats 4000000
theorem Fresh.oldR {st s : Heap} {v : Value} (h : Fresh s v) (hk : New st s) : Fresh st v := fun b off n c e => hk.none (h b off n c e)
theorem z53 (n : ByteArray) (l : RDir) : (z0f n l).length ≤ l.length := List.length_filter_le _ _
theorem zdp (t : RTn) (l : RDir) : (t.does l).length ≤ l.length + 1 := by
 have h1 := z53 t.name l
 have h2 := z53 t.to (z0f t.name l)
 unfold RTn.does
 split
 ·simp; omega
 split
 ·split
  ·simp; omega
  ·omega
 split
 ·omega
 ·omega
theorem Vec.rf {st : Heap} {size len : Nat} {v : Value} {xs : List Value} (h : Vec st (.ty 1) size v xs len) : RegF st size v xs len := ⟨.ty 1, (by intro g x r; simp), h.reg⟩
section
variable {W0 : World} {st : Heap}
theorem zhd {v u : Value} {l : RDir} {ts : List RTn} {n : Int} (h : RegF st 2 v (dV l) l.length) {g : Tg} (ht : Reg st g 4 u (tV ts) ts.length) (hl : l.length < 2 ^ 30) (htl : ts.length < 2 ^ 30) : z00 Tryz.prog W0 189 #[v, u, Val.i n] st fun e st' => ∃ w, e = .returned w ∧ Vec st' (.ty 1) 2 w (dV (z25 l (ts.take n.toNat))) (z25 l (ts.take n.toNat)).length ∧ Fresh st w ∧ New st st' := by
 obtain ⟨vb, vc, rfl⟩ := h.slice
 obtain ⟨ub, uc, rfl⟩ := ht.slice
 obtain ⟨RES, hRES⟩ : ∃ R, z25 l (ts.take n.toNat) = R := ⟨_, rfl⟩
 rw [hRES]
 refine enter (args := [_, _, _]) Tryz.func189 rfl ?_
 simp [Tryz.f189, go_sem]
 refine z2q (.ty 1) si89 h.src (by omega) ?_
 intro b0 c0 s0 hV0 hF0 k0
 simp [go_sem]
 refine ⟨fun E s => New st s ∧ E 1 = .slice ub ts.length uc ∧ E 2 = Val.i n ∧ ∃ (i : Nat) (w : Value) (L : RDir), E 7 = Val.i (i : Int) ∧ i ≤ ts.length ∧ i ≤ n.toNat ∧ E 0 = w ∧ Vec s (.ty 1) 2 w (dV L) L.length ∧ Fresh st w ∧ L.length ≤ l.length + i ∧ z25 L ((ts.drop i).take (n.toNat - i)) = RES,
  fun E _ => match E 7 with | .int _ z => ts.length - z.toNat | _ => 0,
  ⟨s0, .rfl' _, k0, by simp [go_sem], by simp [go_sem], 0, _, l, by simp [go_sem], by omega, by omega, by simp [go_sem], hV0, hF0, by omega, by simpa using hRES⟩, ?_⟩
 clear hV0 hF0 k0
 rintro E s1 ⟨k1, e1, e2, i, w, L, e7, hi, hin, e0, hV, hF, hLl, hR⟩
 obtain ⟨wb, wc, rfl⟩ := hV.slice
 by_cases hlt : i < ts.length
 rotate_left
 ·have : i = ts.length := by omega
  subst this
  rw [List.drop_length, List.take_nil] at hR
  have hR' : L = RES := hR
  subst hR'
  simp [go_sem, e0, e1, e2, e7]
  exact ⟨hV, hF, k1⟩
 have t1 : ((i : Int) < ts.length) = True := eq_true (by omega)
 by_cases hln : (i : Int) < n
 rotate_left
 ·have t2 : ((i : Int) < n) = False := eq_false hln
  rw [show n.toNat - i = 0 by omega, List.take_zero] at hR
  have hR' : L = RES := hR
  subst hR'
  simp [go_sem, e0, e1, e2, e7, t1, t2, hlt]
  exact ⟨hV, hF, k1⟩
 have t2 : ((i : Int) < n) = True := eq_true hln
 have hwi := wrS i (by omega)
 obtain ⟨mb, off, rfl, hget⟩ := z0h (ht.new k1).src (by omega)
 obtain ⟨hul, base, cap, hv, hcap, hr⟩ := ht.new k1
 injection hv with v1 v2 v3
 subst v1; subst v3
 rcases hr with hr | ⟨mb', off', rw_, zs, mm, h1, hs, hp, hoff⟩
 ·omega
 injection h1 with h1
 injection h1 with h1 h2 h3
 subst h1; subst h2
 have hx : ts[i]? = some ts[i] := List.getElem?_eq_getElem hlt
 have hcell := tV_get ts i _ hx
 have hd : (ts.drop i).take (n.toNat - i) = ts[i] :: (ts.drop (i + 1)).take (n.toNat - (i + 1)) := by
  rw [List.drop_eq_getElem_cons hlt, show n.toNat - i = (n.toNat - (i + 1)) + 1 by omega, List.take_succ_cons]
 rw [hd] at hR
 generalize ts[i] = x at *
 have htl4 : (tV ts).length = ts.length * 4 := tV_len ts
 have hpl := hp.length_le
 rw [List.length_drop] at hpl
 have hzl : off + i * 4 + 4 ≤ zs.length := by omega
 have hcell' : (zs.drop (off + i * 4)).take 4 = [Val.i x.kind, .string x.name, .string x.to, Val.i x.file] := by
  rw [← hcell]
  obtain ⟨r, hr⟩ := hp
  rw [← List.drop_drop, ← hr, List.drop_append, List.take_append_of_le_length (by rw [List.length_drop]; omega)]
 have hR2 : z25 (x.does L) ((ts.drop (i + 1)).take (n.toNat - (i + 1))) = RES := hR
 have hdl := zdp x L
 have hi1 : i + 1 ≤ n.toNat := by omega
 -- what comes of a new list
 clear hR
 simp [go_sem, e0, e1, e2, e7, t1, t2, hlt, hs, hzl, hcell']
 unfold NewP
 intro t8 ht8
 refine ⟨.ty 1, ?_⟩
 have n1 := (New.refl s1).add (b := t8) (o := .cells true [Val.i x.kind, .string x.name, .string x.to, Val.i x.file] 4 (.ty 1)) ht8
 have g8 := upd_same s1 t8 (.cells true [Val.i x.kind, .string x.name, .string x.to, Val.i x.file] 4 (.ty 1))
 obtain ⟨s2, hs2⟩ : ∃ s, upd s1 t8 (.cells true [Val.i x.kind, .string x.name, .string x.to, Val.i x.file] 4 (.ty 1)) = s := ⟨_, rfl⟩
 rw [hs2] at n1 g8
 have k2 := k1.trans n1
 have hV2 := hV.new' n1
 by_cases kd0 : x.kind = 0
 ·have q0 : (x.kind = 0) = True := eq_true kd0
  have hdo : x.does L = z0f x.name L ++ [(x.name, x.file)] := by unfold RTn.does; rw [if_pos kd0]
  rw [hdo] at hR2 hdl
  simp [go_sem, hs2, g8, q0, e0, e1, e2, e7]
  refine drawT 10 [0, 1, 2, 3, 4, 5, 6, 7, 8, 9, 10, 11] (fun ix v st' => match ix with
   | 0 => v = .slice wb L.length wc
   | 1 | 4 => v = .pointer (some ⟨t8, 1, none⟩)
   | 2 | 5 => v = .string x.name
   | 3 => ∃ b c, v = .slice b (z0f x.name L).length c ∧ Vec st' (.ty 1) 2 v (dV (z0f x.name L)) (z0f x.name L).length ∧ Fresh st v
   | 6 => v = .pointer (some ⟨t8, 3, none⟩)
   | 7 => v = Val.i x.file
   | 8 => v = .agg #[.string x.name, Val.i x.file]
   | 9 => ∃ nb, v = .slice (some ⟨nb, 0, none⟩) 1 1 ∧ st' nb = some (.cells true [.string x.name, Val.i x.file] 2 (.ty 1))
   | _ => True) (by kernel_rfl) (by kernel_rfl) (by kernel_rfl) (by decide) ?_ ?_ ?_ ?_
  ·intro ix v sta stb hNw h
   match ix with
   | 3 => obtain ⟨a, b, h1, h2, h3⟩ := h; exact ⟨a, b, h1, h2.new' hNw, h3⟩
   | 9 => obtain ⟨nb, h1, h2⟩ := h; exact ⟨nb, h1, hNw _ _ h2⟩
   | 0 => exact h
   | 1 => exact h
   | 2 => exact h
   | 4 => exact h
   | 5 => exact h
   | 6 => exact h
   | 7 => exact h
   | 8 => exact h
   | ix + 10 => exact h
  ·intro ix oo hin hi E sta hNw hd hE
   have ga := hNw _ _ g8
   match ix with
   | 0 =>
    have x0 := hE 0 (z1x (by kernel_rfl))
    injection hi with hi; subst hi
    simp [z02, go_sem, x0, e0, ga]
    exact New.refl _
   | 1 =>
    have x8 := hE 8 (z1x (by kernel_rfl))
    injection hi with hi; subst hi
    simp [z02, go_sem, x8, hwi, ga]
    exact New.refl _
   | 2 =>
    injection hi with hi; subst hi
    have d1 := hd { on := 1, ground := .data } (by simp) (by decide) _ _ rfl rfl
    simp only at d1
    simp [z02, go_sem, d1, ga]
    exact New.refl _
   | 3 =>
    injection hi with hi; subst hi
    have d0 := hd { on := 0, ground := .data } (by simp) (by decide) _ _ rfl rfl
    have d2 := hd { on := 2, ground := .data } (by simp) (by decide) _ _ rfl rfl
    simp only at d0 d2
    simp [z02, go_sem, d0, d2, ga]
    refine (z75 (n := x.name) ((hV2.new' hNw).rf)  (by omega)).mono ?_
    rintro e s5 ⟨w5, rfl, hw5, hf5, n5⟩
    obtain ⟨wb5, wc5, rfl⟩ := hw5.slice
    simp [go_sem]
    exact ⟨n5, hw5, hf5.oldR (k2.trans hNw)⟩
   | 4 =>
    have x8 := hE 8 (z1x (by kernel_rfl))
    injection hi with hi; subst hi
    simp [z02, go_sem, x8, hwi, ga]
    exact New.refl _
   | 5 =>
    injection hi with hi; subst hi
    have d4 := hd { on := 4, ground := .data } (by simp) (by decide) _ _ rfl rfl
    simp only at d4
    simp [z02, go_sem, d4, ga]
    exact New.refl _
   | 6 =>
    have x8 := hE 8 (z1x (by kernel_rfl))
    injection hi with hi; subst hi
    simp [z02, go_sem, x8, hwi, ga]
    exact New.refl _
   | 7 =>
    injection hi with hi; subst hi
    have d6 := hd { on := 6, ground := .data } (by simp) (by decide) _ _ rfl rfl
    simp only at d6
    simp [z02, go_sem, d6, ga]
    exact New.refl _
   | 8 =>
    injection hi with hi; subst hi
    have d5 := hd { on := 5, ground := .data } (by simp) (by decide) _ _ rfl rfl
    have d7 := hd { on := 7, ground := .data } (by simp) (by decide) _ _ rfl rfl
    simp only at d5 d7
    simp [z02, go_sem, d5, d7, ga]
    exact New.refl _
   | 9 =>
    injection hi with hi; subst hi
    have d8 := hd { on := 8, ground := .data } (by simp) (by decide) _ _ rfl rfl
    simp only at d8
    simp [z02, go_sem, d8, ga]
    unfold NewS
    intro nb hnb
    refine ⟨.ty 1, ?_⟩
    exact ⟨(New.refl _).add hnb, nb, rfl, upd_same _ _ _⟩
   | ix + 10 => omega
  ·intro E sta hNw hd hE
   obtain ⟨b3, c3, h3, hw3, hf3⟩ := hd 3 _ 35 (by omega) rfl rfl
   obtain ⟨nb, h9, hn9⟩ := hd 9 _ 41 (by omega) rfl rfl
   rw [h3] at hw3 hf3
   have y1 := hE 1 (z43 (by kernel_rfl))
   have y2 := hE 2 (z43 (by kernel_rfl))
   have y7 := hE 7 (z43 (by kernel_rfl))
   have y1' : E 1 = .slice (some ⟨mb, off, none⟩) ts.length uc := by rw [y1]; simp [go_sem, e1]
   have y2' : E 2 = Val.i n := by rw [y2]; simp [go_sem, e2]
   have y7' : E 7 = Val.i (i : Int) := by rw [y7]; simp [go_sem, e7]
   simp [go_sem, h3, h9]
   refine AppI_new (st0 := st) (g := .ty 1) (m := 1) (ys := [.string x.name, Val.i x.file]) si89 hw3 hf3 (k2.trans hNw) (by simp [z06, z0i, hn9, cellsOf]) (by simp [Value.oneCell']) (by have := z53 x.name L; omega) ?_
   intro base cap st4 hV4 hF4 k4 hx4
   simp [go_sem, y1', y2', y7', hwi]
   refine ⟨st4, .rfl' _, ⟨k4, i + 1, by simp, by omega, hi1, z0f x.name L ++ [(x.name, x.file)], ?_, hF4, by omega, hR2⟩, by omega⟩
   rw [z6p, List.length_append]
   exact hV4
  ·intro j oj hj
   match j with
   | 0 | 1 | 2 | 3 | 4 | 5 | 6 | 7 | 8 | 9 | 10 | 11 => simp at hj; subst hj; decide
   | j + 12 => simp at hj
 have q0 : (x.kind = 0) = False := eq_false kd0
 by_cases kd1 : x.kind = 1
 ·have q1 : (x.kind = 1) = True := eq_true kd1
  simp [go_sem, hs2, g8, q0, q1, e0, e1, e2, e7]
  refine (z7w hV2.rf (by omega)).mono ?_
  rintro e s3 ⟨rfl, rfl⟩
  rcases z5g x.name L 0 with ⟨-, z2⟩ | ⟨j, p, z1, -, z3⟩
  ·have hdo : x.does L = L := by unfold RTn.does; rw [if_neg kd0, if_pos kd1, if_neg (by rw [z2]; omega)]
   rw [hdo] at hR2 hdl
   simp [go_sem, g8, q0, q1, e0, e1, e2, e7, z2, hwi]
   refine ⟨s3, .rfl' _, ⟨k2, i + 1, by simp, by omega, hi1, L, hV2, hF, by omega, hR2⟩, by omega⟩
  rw [Nat.zero_add] at z3
  have hjL := (List.getElem?_eq_some_iff.1 z1).1
  by_cases he : x.name = x.to
  ·have qe : (x.name = x.to) = True := eq_true he
   have hdo : x.does L = L := by unfold RTn.does; rw [if_neg kd0, if_pos kd1, if_neg (fun h => by rw [(strEq_iff _ _).2 he] at h; exact absurd h.2 (by simp))]
   rw [hdo] at hR2 hdl
   simp [go_sem, g8, q0, q1, e0, e1, e2, e7, z3, qe, hwi]
   refine ⟨s3, .rfl' _, ⟨k2, i + 1, by simp, by omega, hi1, L, hV2, hF, by omega, hR2⟩, by omega⟩
  have qe : (x.name = x.to) = False := eq_false he
  have hse : strEq x.name x.to = false := by cases h : strEq x.name x.to with
   | false => rfl
   | true => exact absurd ((strEq_iff _ _).1 h) he
  have hdo : x.does L = z0f x.to (z0f x.name L) ++ [(x.to, p.2)] := by
   unfold RTn.does
   rw [if_neg kd0, if_pos kd1, if_pos ⟨by omega, hse⟩, z3]
   simp [z1]
  rw [hdo] at hR2 hdl
  obtain ⟨mb2, off2, cap2, rw2, zs2, mm2, g2, hv2, hs3, hget2⟩ := z1d hV2.rf (by omega)
  injection hv2 with v1 v2 v3
  subst v1; subst v3
  obtain ⟨hlen2, hcell2, hcc2⟩ := hget2 j hjL
  rw [z7f L j _ z1] at hcell2 hcc2
  have c1 := hcc2 1 (by omega)
  simp only [List.getElem?_cons_zero, List.getElem?_cons_succ] at c1
  have hj' : ((j : Int) < L.length) = True := eq_true (by omega)
  simp [go_sem, g8, q0, q1, e0, e1, e2, e7, z3, qe, hs3, c1, hjL, hj']
  refine drawT 12 [0, 1, 2, 3, 4, 5, 6, 7, 8, 9, 10, 11, 12, 13] (fun ix v st' => match ix with
   | 0 => v = .slice (some ⟨mb2, off2, none⟩) L.length wc
   | 1 => v = .pointer (some ⟨t8, 1, none⟩)
   | 2 => v = .string x.name
   | 3 => ∃ b c, v = .slice b (z0f x.name L).length c ∧ Vec st' (.ty 1) 2 v (dV (z0f x.name L)) (z0f x.name L).length ∧ Fresh st v
   | 4 | 7 => v = .pointer (some ⟨t8, 2, none⟩)
   | 5 | 8 => v = .string x.to
   | 6 => ∃ b c, v = .slice b (z0f x.to (z0f x.name L)).length c ∧ Vec st' (.ty 1) 2 v (dV (z0f x.to (z0f x.name L))) (z0f x.to (z0f x.name L)).length ∧ Fresh st v
   | 9 => v = Val.i p.2
   | 10 => v = .agg #[.string x.to, Val.i p.2]
   | 11 => ∃ nb, v = .slice (some ⟨nb, 0, none⟩) 1 1 ∧ st' nb = some (.cells true [.string x.to, Val.i p.2] 2 (.ty 1))
   | _ => True) (by kernel_rfl) (by kernel_rfl) (by kernel_rfl) (by decide) ?_ ?_ ?_ ?_
  ·intro ix v sta stb hNw h
   match ix with
   | 3 => obtain ⟨a, b, h1, h2, h3⟩ := h; exact ⟨a, b, h1, h2.new' hNw, h3⟩
   | 6 => obtain ⟨a, b, h1, h2, h3⟩ := h; exact ⟨a, b, h1, h2.new' hNw, h3⟩
   | 11 => obtain ⟨nb, h1, h2⟩ := h; exact ⟨nb, h1, hNw _ _ h2⟩
   | 0 => exact h
   | 1 => exact h
   | 2 => exact h
   | 4 => exact h
   | 5 => exact h
   | 7 => exact h
   | 8 => exact h
   | 9 => exact h
   | 10 => exact h
   | ix + 12 => exact h
  ·intro ix oo hin hi E sta hNw hd hE
   have ga := hNw _ _ g8
   match ix with
   | 0 =>
    have x0 := hE 0 (z1x (by kernel_rfl))
    injection hi with hi; subst hi
    simp [z02, go_sem, x0, e0, ga]
    exact New.refl _
   | 1 =>
    have x8 := hE 8 (z1x (by kernel_rfl))
    injection hi with hi; subst hi
    simp [z02, go_sem, x8, hwi, ga]
    exact New.refl _
   | 2 =>
    injection hi with hi; subst hi
    have d1 := hd { on := 1, ground := .data } (by simp) (by decide) _ _ rfl rfl
    simp only at d1
    simp [z02, go_sem, d1, ga]
    exact New.refl _
   | 3 =>
    injection hi with hi; subst hi
    have d0 := hd { on := 0, ground := .data } (by simp) (by decide) _ _ rfl rfl
    have d2 := hd { on := 2, ground := .data } (by simp) (by decide) _ _ rfl rfl
    simp only at d0 d2
    simp [z02, go_sem, d0, d2, ga]
    refine (z75 (n := x.name) ((hV2.new' hNw).rf)  (by omega)).mono ?_
    rintro e s5 ⟨w5, rfl, hw5, hf5, n5⟩
    obtain ⟨wb5, wc5, rfl⟩ := hw5.slice
    simp [go_sem]
    exact ⟨n5, hw5, hf5.oldR (k2.trans hNw)⟩
   | 4 =>
    have x8 := hE 8 (z1x (by kernel_rfl))
    injection hi with hi; subst hi
    simp [z02, go_sem, x8, hwi, ga]
    exact New.refl _
   | 5 =>
    injection hi with hi; subst hi
    have d4 := hd { on := 4, ground := .data } (by simp) (by decide) _ _ rfl rfl
    simp only at d4
    simp [z02, go_sem, d4, ga]
    exact New.refl _
   | 6 =>
    injection hi with hi; subst hi
    have d3 := hd { on := 3, ground := .data } (by simp) (by decide) _ _ rfl rfl
    have d5 := hd { on := 5, ground := .data } (by simp) (by decide) _ _ rfl rfl
    simp only at d3 d5
    obtain ⟨b3, c3, d3, hw3, hf3⟩ := d3
    rw [d3] at hw3
    simp [z02, go_sem, d3, d5, ga]
    refine (z75 (n := x.to) hw3.rf  (by have := z53 x.name L; omega)).mono ?_
    rintro e s5 ⟨w5, rfl, hw5, hf5, n5⟩
    obtain ⟨wb5, wc5, rfl⟩ := hw5.slice
    simp [go_sem]
    exact ⟨n5, hw5, hf5.oldR (k2.trans hNw)⟩
   | 7 =>
    have x8 := hE 8 (z1x (by kernel_rfl))
    injection hi with hi; subst hi
    simp [z02, go_sem, x8, hwi, ga]
    exact New.refl _
   | 8 =>
    injection hi with hi; subst hi
    have d7 := hd { on := 7, ground := .data } (by simp) (by decide) _ _ rfl rfl
    simp only at d7
    simp [z02, go_sem, d7, ga]
    exact New.refl _
   | 9 =>
    have x10 := hE 10 (z1x (by kernel_rfl))
    injection hi with hi; subst hi
    simp [z02, go_sem, x10, ga]
    exact New.refl _
   | 10 =>
    injection hi with hi; subst hi
    have d8 := hd { on := 8, ground := .data } (by simp) (by decide) _ _ rfl rfl
    have d9 := hd { on := 9, ground := .data } (by simp) (by decide) _ _ rfl rfl
    simp only at d8 d9
    simp [z02, go_sem, d8, d9, ga]
    exact New.refl _
   | 11 =>
    injection hi with hi; subst hi
    have d10 := hd { on := 10, ground := .data } (by simp) (by decide) _ _ rfl rfl
    simp only at d10
    simp [z02, go_sem, d10, ga]
    unfold NewS
    intro nb hnb
    refine ⟨.ty 1, ?_⟩
    exact ⟨(New.refl _).add hnb, nb, rfl, upd_same _ _ _⟩
   | ix + 12 => omega
  ·intro E sta hNw hd hE
   obtain ⟨b3, c3, h3, hw3, hf3⟩ := hd 6 _ 69 (by omega) rfl rfl
   obtain ⟨nb, h9, hn9⟩ := hd 11 _ 74 (by omega) rfl rfl
   rw [h3] at hw3 hf3
   have y1 := hE 1 (z43 (by kernel_rfl))
   have y2 := hE 2 (z43 (by kernel_rfl))
   have y7 := hE 7 (z43 (by kernel_rfl))
   have y1' : E 1 = .slice (some ⟨mb, off, none⟩) ts.length uc := by rw [y1]; simp [go_sem, e1]
   have y2' : E 2 = Val.i n := by rw [y2]; simp [go_sem, e2]
   have y7' : E 7 = Val.i (i : Int) := by rw [y7]; simp [go_sem, e7]
   simp [go_sem, h3, h9]
   refine AppI_new (st0 := st) (g := .ty 1) (m := 1) (ys := [.string x.to, Val.i p.2]) si89 hw3 hf3 (k2.trans hNw) (by simp [z06, z0i, hn9, cellsOf]) (by simp [Value.oneCell']) (by have := z53 x.name L; have := z53 x.to (z0f x.name L); omega) ?_
   intro base cap st4 hV4 hF4 k4 hx4
   simp [go_sem, y1', y2', y7', hwi]
   refine ⟨st4, .rfl' _, ⟨k4, i + 1, by simp, by omega, hi1, z0f x.to (z0f x.name L) ++ [(x.to, p.2)], ?_, hF4, by omega, hR2⟩, by omega⟩
   rw [z6p, List.length_append]
   exact hV4
  ·intro j oj hj
   match j with
   | 0 | 1 | 2 | 3 | 4 | 5 | 6 | 7 | 8 | 9 | 10 | 11 | 12 | 13 => simp at hj; subst hj; decide
   | j + 14 => simp at hj
 have q1 : (x.kind = 1) = False := eq_false kd1
 by_cases kd2 : x.kind = 2
 ·have q2 : (x.kind = 2) = True := eq_true kd2
  have hdo : x.does L = z0f x.name L := by unfold RTn.does; rw [if_neg kd0, if_neg kd1, if_pos kd2]
  rw [hdo] at hR2 hdl
  simp [go_sem, hs2, g8, q0, q1, q2, e0, e1, e2, e7]
  refine (z75 (n := x.name) hV2.rf (by omega)).mono ?_
  rintro e s3 ⟨w3, rfl, hw3, hf3, n3⟩
  obtain ⟨wb3, wc3, rfl⟩ := hw3.slice
  simp [go_sem, e1, e2, e7, hwi]
  refine ⟨s3, .rfl' _, ⟨k2.trans n3, i + 1, by simp, by omega, hi1, z0f x.name L, hw3, hf3.oldR k2, by omega, hR2⟩, by omega⟩
 ·have q2 : (x.kind = 2) = False := eq_false kd2
  have hdo : x.does L = L := by unfold RTn.does; rw [if_neg kd0, if_neg kd1, if_neg kd2]
  rw [hdo] at hR2 hdl
  simp [go_sem, hs2, g8, q0, q1, q2, e0, e1, e2, e7, hwi]
  refine ⟨s2, .rfl' _, ⟨k2, i + 1, by simp, by omega, hi1, L, hV2, hF, by omega, hR2⟩, by omega⟩
end
end Go.Proofs.YtahgfnbkkfpcnaaGreat
