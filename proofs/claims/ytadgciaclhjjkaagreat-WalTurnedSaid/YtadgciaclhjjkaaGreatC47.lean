/- A region of any order: first ones that only make new rows, then one that waits for all of them, then ones that only reckon with what that one told. Plain definitions and theorems, over any program. -/
import Derived.Test.YtadgciaclhjjkaaGreatC25
import Derived.Test.YtadgciaclhjjkaaGreatC46
import Derived.Test.YtadgciaclhjjkaaGreatC20
import Derived.Test.YtadgciaclhjjkaaGreatC31
import Derived.Test.YtadgciaclhjjkaaGreatC32
import Derived.Test.YtadgciaclhjjkaaGreatC29
set_option linter.unusedVariables false
set_option linter.unusedSimpArgs false
namespace Go.Proofs.YtadgciaclhjjkaaGreat
open Go.RowKit (Below)
theorem putU_same (E : Env) (d : Nat) (v : Value) : E.put (some d) v d = v := by
  show E.set d v d = v
  simp [Env.set]
theorem putU_ne {E : Env} {o : Option Nat} {t : Nat} {v : Value} (h : o ≠ some t) : E.put o v t = E t := by
  cases o with
  | none => rfl
  | some d =>
    show E.set d v t = E t
    unfold Env.set
    rw [if_neg]
    rintro rfl
    exact h rfl
end Go.Proofs.YtadgciaclhjjkaaGreat
set_option linter.unusedVariables false
set_option linter.unusedSimpArgs false
set_option maxRecDepth 100000
set_option maxHeartbeats 4000000
namespace Go.Proofs.YtadgciaclhjjkaaGreat
open Go.RowKit (Below)
/-- The records that WalTorn writes. -/
def TorR (l : List RcD) : Prop := ∀ (i : Nat) r, l[i]? = some r → ∃ ls, GoodL ls ∧ r = lawR ((i : Int) + 1) i ls
theorem TorR.snoc {l : List RcD} (h : TorR l) {ls : List Lab} (hG : GoodL ls) : TorR (l ++ [lawR ((l.length : Int) + 1) l.length ls]) := fun i r hi => by
  by_cases hlt : i < l.length
  · rw [List.getElem?_append_left hlt] at hi
    exact h i r hi
  · have hi2 : i = l.length := by
      have := (List.getElem?_eq_some_iff.1 hi).1
      simp at this
      omega
    subst hi2
    simp at hi
    exact ⟨ls, hG, hi.symm⟩
theorem TorR.good {l : List RcD} (h : TorR l) (hl : l.length < 1000) : ∀ r ∈ l, RcGood r ∧ (recB r).length ≤ 80 := fun r hr => by
  obtain ⟨k, hk⟩ := List.mem_iff_getElem?.1 hr
  have hkl := (List.getElem?_eq_some_iff.1 hk).1
  obtain ⟨ls, hG, rfl⟩ := h k r hk
  have y1 : I64 ((k : Int) + 1) := ⟨by omega, by omega⟩
  have y2 : I64 (k : Int) := ⟨by omega, by omega⟩
  exact ⟨lawR_good y1 y2 hG, lawR_len y1 y2 hG⟩
theorem encL_law {rs : List RcD} (h : ∀ r ∈ rs, RcGood r ∧ (recB r).length ≤ 80) : (encL rs).length ≤ 94 * rs.length := by
  induction rs with
  | nil => simp [encL]
  | cons r rs ih =>
    have h1 := h r (by simp)
    have h2 := recF_len h1.1
    have h3 := ih fun x hx => h x (by simp [hx])
    have e : encL (r :: rs) = recF r ++ encL rs := rfl
    rw [e, List.length_append, List.length_cons]
    omega
theorem one_row {st : Heap} {g : Tg} {v : Value} {B : Bs} (h : Reg st g 1 v (bytesV B) B.length) (hl : B.length ≤ 1000000) : ∀ (i : Nat) (b : Bs) (w : Value), [B][i]? = some b → [v][i]? = some w → Reg st g 1 w (bytesV b) b.length ∧ b.length ≤ 1000000 := fun i b w hb hw => by
  match i with
  | 0 =>
    simp at hb hw
    subst hb; subst hw
    exact ⟨h, hl⟩
  | i + 1 => simp at hb
section
variable {W0 : World} {st : Heap}
end
end Go.Proofs.YtadgciaclhjjkaaGreat
set_option linter.unusedVariables false
set_option linter.unusedSimpArgs false
namespace Go.Proofs.YtadgciaclhjjkaaGreat
open Go.RowKit (Below)
def chainOK (ops : List Oper) : List Nat → List Nat → Bool
  | _, [] => true
  | done, h :: hs => decide (h < ops.length) && !(done.contains h) && (done.all fun j => (reach ops ops.length (after1 ops h)).contains j) && chainOK ops (done ++ [h]) hs
theorem chain_at {ops : List Oper} : ∀ {hs done : List Nat}, chainOK ops done hs = true → ∀ (m : Nat) (i : Nat), hs[m]? = some i → (∀ j ∈ done ++ hs.take m, j ∈ reach ops ops.length (after1 ops i)) ∧ i ∉ done ++ hs.take m
  | [], done, _, m, i, h => by simp at h
  | h :: hs, done, hc, m, i, hi => by
    unfold chainOK at hc
    simp only [Bool.and_eq_true, Bool.not_eq_true', decide_eq_true_eq] at hc
    obtain ⟨⟨⟨h1, h2⟩, h3⟩, h4⟩ := hc
    cases m with
    | zero =>
      simp at hi
      subst hi
      simp only [List.take_zero, List.append_nil]
      exact ⟨fun j hj => by simpa using List.all_eq_true.1 h3 j hj, by simpa using h2⟩
    | succ m =>
      have := chain_at h4 m i (by simpa using hi)
      simpa using this
theorem drawX {P : Program} {W0 : World} {ops : List Oper} {Q : IPost} {Kp : PPost} {E0 : Env} {st0 : Heap} (l : List Nat) (heavy : List Nat) (L : Nat → Value → Prop) (C : Nat → (Nat → Value) → Heap → Prop) (htopo : topoOK ops [] l = true) (hdst : dstOK ops = true) (hchain : chainOK ops [] heavy = true)
    (h0 : ∀ vals, C 0 vals st0)
    (hlight : ∀ (i : Nat) (o : Oper), i ∉ heavy → ops[i]? = some o → ∀ (j : Nat) (vals : Nat → Value) (E : Env) (st : Heap), C j vals st →
      (∀ e ∈ o.after.toList, bnds e = true → ∀ (oj : Oper) (dj : Nat), ops[e.on]? = some oj → oj.dst = some dj → if e.on ∈ heavy then E dj = vals e.on ∧ e.on ∈ heavy.take j else L e.on (E dj)) →
      (∀ t, (∀ (k : Nat) (ok : Oper), ops[k]? = some ok → ok.dst = some t → ∃ e ∈ ok.after.toList, bnds e = true ∧ e.on = i) → E t = E0 t) →
      (bif wantedE ops.toArray o E then opX P W0 o E (fun v st' => st' = st ∧ L i v) Kp st else L i undef))
    (hheavy : ∀ (j i : Nat) (o : Oper), heavy[j]? = some i → ops[i]? = some o → ∀ (vals : Nat → Value) (E : Env) (st : Heap), C j vals st →
      (∀ e ∈ o.after.toList, bnds e = true → ∀ (oj : Oper) (dj : Nat), ops[e.on]? = some oj → oj.dst = some dj → if e.on ∈ heavy then E dj = vals e.on ∧ e.on ∈ heavy.take j else L e.on (E dj)) →
      (∀ t, (∀ (k : Nat) (ok : Oper), ops[k]? = some ok → ok.dst = some t → ∃ e ∈ ok.after.toList, bnds e = true ∧ e.on = i) → E t = E0 t) →
      (bif wantedE ops.toArray o E then opX P W0 o E (fun v st' => C (j + 1) (fun k => if k = i then v else vals k) st') Kp st else C (j + 1) (fun k => if k = i then undef else vals k) st))
    (hend : ∀ (vals : Nat → Value) (E : Env) (st : Heap), C heavy.length vals st → (∀ (i : Nat) (o : Oper) (d : Nat), ops[i]? = some o → o.dst = some d → if i ∈ heavy then E d = vals i else L i (E d)) → (∀ t, (∀ (k : Nat) (ok : Oper), ops[k]? = some ok → ok.dst ≠ some t) → E t = E0 t) → Q .normal E st)
    (hc : ∀ (j : Nat) (oj : Oper), ops[j]? = some oj → clsR P oj.op ≤ 3) : DrawI P W0 ops Q Kp E0 st0 := by
  refine drawJ l (fun done E st => (∃ j vals, (∀ m k, heavy[m]? = some k → (k ∈ done ↔ m < j)) ∧ j ≤ heavy.length ∧ C j vals st ∧ (∀ (k : Nat) (ok : Oper) (d : Nat), k ∈ done → ops[k]? = some ok → ok.dst = some d → if k ∈ heavy then E d = vals k else L k (E d))) ∧ ∀ t, (∀ (j : Nat) (oj : Oper), ops[j]? = some oj → oj.dst = some t → j ∉ done) → E t = E0 t) htopo ⟨⟨0, fun _ => undef, by simp, by omega, h0 _, by simp⟩, fun _ _ => rfl⟩ ?_ ?_ hc
  · rintro i o ho done E st hnot hdeps hcl ⟨⟨j, vals, hj, hjl, hC, hV⟩, hE⟩
    have hE' : ∀ v, ∀ t, (∀ (j : Nat) (oj : Oper), ops[j]? = some oj → oj.dst = some t → j ∉ i :: done) → E.put o.dst v t = E0 t := fun v t ht => by
      rw [putU_ne (fun h => ht i o ho h (by simp))]
      exact hE t fun j oj hoj hd hm => ht j oj hoj hd (by simp [hm])
    have stay : ∀ {k : Nat} {ok : Oper} {d : Nat} (v : Value), k ∈ done → ops[k]? = some ok → ok.dst = some d → E.put o.dst v d = E d := fun {k ok d} v hk hok hd => putU_ne fun h => hnot (dstOK_spec hdst ho hok h hd ▸ hk)
    have hdep : ∀ e ∈ o.after.toList, bnds e = true → ∀ (oj : Oper) (dj : Nat), ops[e.on]? = some oj → oj.dst = some dj → if e.on ∈ heavy then E dj = vals e.on ∧ e.on ∈ heavy.take j else L e.on (E dj) := fun e he hb oj dj hoj hdj => by
      have h1 := hV e.on oj dj (hdeps e he hb) hoj hdj
      by_cases hh : e.on ∈ heavy
      · rw [if_pos hh] at h1 ⊢
        refine ⟨h1, ?_⟩
        obtain ⟨m, hm⟩ := List.mem_iff_getElem?.1 hh
        have := (hj m _ hm).1 (hdeps e he hb)
        exact List.mem_iff_getElem?.2 ⟨m, by rw [List.getElem?_take, if_pos this]; exact hm⟩
      · rw [if_neg hh] at h1 ⊢
        exact h1
    have hout : ∀ t, (∀ (k : Nat) (ok : Oper), ops[k]? = some ok → ok.dst = some t → ∃ e ∈ ok.after.toList, bnds e = true ∧ e.on = i) → E t = E0 t := fun t ht => hE t fun k ok hok hd hm => by
      obtain ⟨e, he, hb, hon⟩ := ht k ok hok hd
      have := hcl k ok hm hok e he hb
      rw [hon] at this
      exact hnot this
    by_cases hh : i ∈ heavy
    · obtain ⟨m, hm⟩ := List.mem_iff_getElem?.1 hh
      have hmj : m = j := by
        have h1 : ¬ m < j := fun h => hnot ((hj m i hm).2 h)
        obtain ⟨h2, h3⟩ := chain_at hchain m i hm
        rcases Nat.lt_or_ge j m with h | h
        · have hml := (List.getElem?_eq_some_iff.1 hm).1
          have hx : heavy[j]? = some heavy[j] := List.getElem?_eq_getElem (by omega)
          have h4 := h2 heavy[j] (List.mem_append_right _ (List.mem_iff_getElem?.2 ⟨j, by rw [List.getElem?_take, if_pos h]; exact hx⟩))
          have h5 := reach_done hcl _ _ (after1_spec ho hdeps) _ h4
          have := (hj j _ hx).1 h5
          omega
        · omega
      subst hmj
      have hs := hheavy m i o hm ho vals E st hC hdep hout
      have hnext : ∀ (v : Value) (st' : Heap), C (m + 1) (fun k => if k = i then v else vals k) st' → ∃ j vals, (∀ m' k, heavy[m']? = some k → (k ∈ i :: done ↔ m' < j)) ∧ j ≤ heavy.length ∧ C j vals st' ∧ (∀ (k : Nat) (ok : Oper) (d : Nat), k ∈ i :: done → ops[k]? = some ok → ok.dst = some d → if k ∈ heavy then E.put o.dst v d = vals k else L k (E.put o.dst v d)) := fun v st' hC' => by
        have hml := (List.getElem?_eq_some_iff.1 hm).1
        refine ⟨m + 1, _, fun m' k hk => ?_, by omega, hC', fun k ok d hkd hok hd => ?_⟩
        · rw [List.mem_cons]
          constructor
          · rintro (rfl | h)
            · -- the same place
              rcases Nat.lt_trichotomy m' m with h | h | h
              · omega
              · omega
              · have := (chain_at hchain m' k hk).2
                exact absurd (List.mem_append_right [] (List.mem_iff_getElem?.2 ⟨m, by rw [List.getElem?_take, if_pos h]; exact hm⟩)) this
            · have := (hj m' k hk).1 h; omega
          · intro h
            rcases Nat.lt_or_ge m' m with h' | h'
            · exact .inr ((hj m' k hk).2 h')
            · have : m' = m := by omega
              subst this
              rw [hm] at hk
              injection hk with hk
              exact .inl hk.symm
        · by_cases hki : k = i
          · subst hki
            rw [ho] at hok; injection hok with hok; subst hok
            rw [if_pos hh, hd, putU_same]
            simp
          · have hkd' : k ∈ done := by
              rcases List.mem_cons.1 hkd with h | h
              · exact absurd h hki
              · exact h
            have h1 := hV k ok d hkd' hok hd
            rw [stay v hkd' hok hd]
            by_cases hkh : k ∈ heavy
            · rw [if_pos hkh] at h1 ⊢
              simpa [hki] using h1
            · rw [if_neg hkh] at h1 ⊢
              exact h1
      cases hw : wantedE ops.toArray o E with
      | true =>
        rw [hw] at hs
        simp only [cond_true] at hs ⊢
        exact opX_mono (hc i o ho) (fun v st' _ hk => ⟨hnext v st' hk, hE' v⟩) (fun _ _ => id) hs
      | false =>
        rw [hw] at hs
        simp only [cond_false] at hs ⊢
        exact ⟨hnext undef st hs, hE' _⟩
    · have hs := hlight i o hh ho j vals E st hC hdep hout
      have hnext : ∀ (v : Value), L i v → ∃ j vals, (∀ m' k, heavy[m']? = some k → (k ∈ i :: done ↔ m' < j)) ∧ j ≤ heavy.length ∧ C j vals st ∧ (∀ (k : Nat) (ok : Oper) (d : Nat), k ∈ i :: done → ops[k]? = some ok → ok.dst = some d → if k ∈ heavy then E.put o.dst v d = vals k else L k (E.put o.dst v d)) := fun v hv => by
        refine ⟨j, vals, fun m' k hk => ?_, hjl, hC, fun k ok d hkd hok hd => ?_⟩
        · rw [List.mem_cons, ← hj m' k hk]
          constructor
          · rintro (rfl | h)
            · exact absurd (List.mem_iff_getElem?.2 ⟨m', hk⟩) hh
            · exact h
          · exact .inr
        · rcases List.mem_cons.1 hkd with rfl | hkd'
          · rw [ho] at hok; injection hok with hok; subst hok
            rw [if_neg hh, hd, putU_same]
            exact hv
          · have h1 := hV k ok d hkd' hok hd
            rw [stay v hkd' hok hd]
            exact h1
      cases hw : wantedE ops.toArray o E with
      | true =>
        rw [hw] at hs
        simp only [cond_true] at hs ⊢
        refine opX_mono (hc i o ho) (fun v st' _ hk => ?_) (fun _ _ => id) hs
        obtain ⟨rfl, hk⟩ := hk
        exact ⟨hnext v hk, hE' v⟩
      | false =>
        rw [hw] at hs
        simp only [cond_false] at hs ⊢
        exact ⟨hnext undef hs, hE' _⟩
  · rintro done E st hall ⟨⟨j, vals, hj, hjl, hC, hV⟩, hE⟩
    have hjq : j = heavy.length := by
      rcases Nat.lt_or_ge j heavy.length with h | h
      · have hx : heavy[j]? = some heavy[j] := List.getElem?_eq_getElem h
        have hb : heavy[j] < ops.length := by
          have : ∀ {hs done : List Nat}, chainOK ops done hs = true → ∀ x ∈ hs, x < ops.length := by
            intro hs
            induction hs with
            | nil => intro done _ x hx; cases hx
            | cons a hs ih =>
              intro done hc x hx
              unfold chainOK at hc
              simp only [Bool.and_eq_true, Bool.not_eq_true', decide_eq_true_eq] at hc
              rcases List.mem_cons.1 hx with rfl | hx
              · exact hc.1.1.1
              · exact ih hc.2 x hx
          exact this hchain _ (List.getElem_mem h)
        have := (hj j _ hx).1 (hall _ hb)
        omega
      · omega
    subst hjq
    exact hend vals E st hC (fun i o d ho hd => hV i o d (hall i (List.getElem?_eq_some_iff.1 ho).1) ho hd) fun t ht => hE t fun j oj hoj hd => absurd hd (ht j oj hoj)
end Go.Proofs.YtadgciaclhjjkaaGreat
set_option linter.unusedVariables false
set_option linter.unusedSimpArgs false
set_option maxRecDepth 100000
set_option maxHeartbeats 8000000
namespace Go.Proofs.YtadgciaclhjjkaaGreat
open Go.RowKit (Below)
theorem cellsU_at {l : List Nat} {i x : Nat} (h : l[i]? = some x) : (cellsU l)[i]? = some (Val.u (x : Int)) := by simp [cellsU, h]
theorem bkV_at {l : List Bk} {i : Nat} {x : Bk} (h : l[i]? = some x) : (bkV l)[i * 2]? = some (Val.i x.1) ∧ (bkV l)[i * 2 + 1]? = some (Val.u (x.2 : Int)) := by
  have h1 := bkV_get l i x h
  have g : ∀ j, j < 2 → (bkV l)[i * 2 + j]? = (((bkV l).drop (i * 2)).take 2)[j]? := fun j hj => by rw [List.getElem?_take, if_pos hj, List.getElem?_drop]
  refine ⟨?_, ?_⟩
  · have := g 0 (by omega); rw [Nat.add_zero] at this; rw [this, h1]; rfl
  · rw [g 1 (by omega), h1]; rfl
theorem labV_at {l : List Lab} {i : Nat} {x : Lab} (h : l[i]? = some x) : (labV l)[i * 2]? = some (.string x.1) ∧ (labV l)[i * 2 + 1]? = some (.string x.2) := by
  have h1 := labV_get l i x h
  have g : ∀ j, j < 2 → (labV l)[i * 2 + j]? = (((labV l).drop (i * 2)).take 2)[j]? := fun j hj => by rw [List.getElem?_take, if_pos hj, List.getElem?_drop]
  refine ⟨?_, ?_⟩
  · have := g 0 (by omega); rw [Nat.add_zero] at this; rw [this, h1]; rfl
  · rw [g 1 (by omega), h1]; rfl
theorem ascK_at : ∀ {l : List Nat} {i a b : Nat}, ascK l = true → l[i]? = some a → l[i + 1]? = some b → a < b
  | [], i, a, b, _, h, _ => by simp at h
  | [x], i, a, b, _, _, h => by simp at h
  | x :: y :: l, 0, a, b, h, h1, h2 => by
    unfold ascK at h
    simp at h h1 h2
    omega
  | x :: y :: l, i + 1, a, b, h, h1, h2 => by
    unfold ascK at h
    simp only [Bool.and_eq_true] at h
    exact ascK_at (l := y :: l) (i := i) h.2 (by simpa using h1) (by simpa using h2)
def RiseI (st s : Heap) (g : Tg) (l : List Nat) (x v : Value) : Prop := ∃ (i next : Nat) (pre : Bs), i ≤ l.length ∧ x = Val.i i ∧ (next = 0 ∧ i = 0 ∨ ∃ j x, i = j + 1 ∧ l[j]? = some x ∧ next = x + 1) ∧ pre ++ riseT next (l.drop i) = riseB l ∧ Vec s g 1 v (bytesV pre) pre.length ∧ Fresh st v
def SparI (st s : Heap) (g : Tg) (l : List Bk) (x v : Value) : Prop := ∃ (i next : Nat) (pre : Bs), i ≤ l.length ∧ x = Val.i i ∧ (next = 0 ∧ i = 0 ∨ ∃ j y, i = j + 1 ∧ l[j]? = some y ∧ next = y.1.toNat + 1) ∧ pre ++ sparT next (l.drop i) = sparB l ∧ Vec s g 1 v (bytesV pre) pre.length ∧ Fresh st v
def EightI (st s : Heap) (g : Tg) (n : Nat) (x v : Value) : Prop := ∃ (i : Nat) (pre : Bs), i ≤ 8 ∧ x = Val.i i ∧ pre ++ leB (8 - i) (n / 256 ^ i) = leB 8 n ∧ pre.length = i ∧ Vec s g 1 v (bytesV pre) pre.length ∧ Fresh st v
theorem checkB_at : ∀ {l : List Bk} {p : Int} {i : Nat} {a b : Bk}, checkB p l = true → l[i]? = some a → l[i + 1]? = some b → a.1 < b.1
  | [], p, i, a, b, _, h, _ => by simp at h
  | [x], p, i, a, b, _, _, h => by simp at h
  | x :: y :: l, p, 0, a, b, h, h1, h2 => by
    obtain ⟨_, _, _, h3⟩ := rcB_cons h
    obtain ⟨h4, _⟩ := rcB_cons h3
    simp at h1 h2
    subst h1; subst h2
    exact h4
  | x :: y :: l, p, i + 1, a, b, h, h1, h2 => by
    obtain ⟨_, _, _, h3⟩ := rcB_cons h
    exact checkB_at (l := y :: l) (i := i) h3 (by simpa using h1) (by simpa using h2)
section
variable {W0 : World} {st : Heap}
theorem rise04_spec (g : Tg) {lv : Value} {l : List Nat} (hL : RegF st 1 lv (cellsU l) l.length) (hs : ascK l = true) (hb : ∀ x ∈ l, x < 2 ^ 64) (hl : l.length ≤ 1000000) : ICalls Tryz.prog W0 132 #[lv] st (MatPutR st g (riseB l)) := by
  obtain ⟨lb, lc, rfl⟩ := hL.slice
  refine enter (args := [_]) Tryz.func132 rfl ?_
  have hw : IntKind.u64.wrap (l.length : Int) = l.length := wraps_u64 _ (by omega) (by omega)
  have hvl := vputM_len l.length (by omega)
  have hrt := (riseT_len l 0 hb).2
  simp [Tryz.f132, go_sem, hw]
  refine (put04_spec g (show l.length < 2 ^ 64 by omega)).mono ?_
  rintro e st2 ⟨v, rfl, hV, hF, hN⟩
  simp [go_sem]
  refine ⟨fun E s => E 0 = .slice lb l.length lc ∧ New st s ∧ RiseI st s g l (E 4) (E 3),
    fun E _ => match E 4 with | .int _ j => l.length - j.toNat | _ => 0, ⟨st2, .rfl' _, by simp [go_sem], hN, 0, 0, vputM l.length, by omega, by simp [go_sem], .inl ⟨rfl, rfl⟩, rfl, by simpa [go_sem] using hV, by simpa [go_sem] using hF⟩, ?_⟩
  rintro E s ⟨e0, hN1, i, next, pre, hi, e4, hnx, hpre, hV1, hF1⟩
  have hpl := congrArg List.length hpre
  rw [List.length_append] at hpl
  have hrl : (riseB l).length ≤ 10000020 := by unfold riseB; rw [List.length_append]; omega
  obtain ⟨v3, e3⟩ : ∃ v, E 3 = v := ⟨_, rfl⟩
  rw [e3] at hV1 hF1
  obtain ⟨vb, vc, rfl⟩ := hV1.slice
  by_cases hlt : i < l.length
  · have q : ((i : Int) < l.length) = True := eq_true (by omega)
    have hwi : IntKind.i64.wrap ((i : Int) + 1) = (i : Int) + 1 := wrap_id (by omega) (by omega)
    obtain ⟨x, hx⟩ : ∃ x, l[i]? = some x := ⟨_, List.getElem?_eq_getElem hlt⟩
    have hxb := hb x (List.mem_of_getElem? hx)
    have hd : l.drop i = x :: l.drop (i + 1) := by rw [List.drop_eq_getElem_cons hlt]; congr 1; rw [List.getElem?_eq_getElem hlt] at hx; exact Option.some.inj hx
    rw [hd, riseT_cons] at hpre
    have hpl2 := congrArg List.length hpre
    simp only [List.length_append] at hpl2
    obtain ⟨blk, off, rfl, hg⟩ := src_get (hL.new hN1).src (by omega)
    have g0 := hg i (by omega)
    rw [cellsU_at hx] at g0
    rcases hnx with ⟨rfl, rfl⟩ | ⟨j, y, rfl, hy, rfl⟩
    · rw [Nat.add_zero] at g0
      simp [go_sem, e0, e3, e4, q, hlt, g0]
      rw [Nat.sub_zero] at hpre hpl2
      refine (put04_spec (.ty 9) hxb).mono ?_
      rintro e s3 ⟨w, rfl, hW, hFW, hN3⟩
      obtain ⟨wb, wc, rfl⟩ := hW.slice
      simp [go_sem]
      refine appB (st0 := st) si40 (hV1.new' hN3) hF1 (hN1.trans hN3) hW.reg (by rw [List.length_append]; omega) ?_
      intro v4 s4 hV4 hF4 hN4
      have w1 : IntKind.i64.wrap 1 = 1 := by decide
      simp [go_sem, e4, w1]
      refine ⟨_, .rfl' _, ⟨e0, hN4, 1, x + 1, pre ++ vputM x, by omega, by simp, .inr ⟨0, x, rfl, hx, rfl⟩, ?_, hV4, hF4⟩, by omega⟩
      rw [List.append_assoc]
      exact hpre
    · have hyx := ascK_at hs hy hx
      have hyb := hb y (List.mem_of_getElem? hy)
      have gm := hg j (by omega)
      rw [cellsU_at hy] at gm
      have q0 : (((j + 1 : Nat) : Int) = 0) = False := eq_false (by omega)
      have q0' : (((j : Int) + 1) = 0) = False := eq_false (by omega)
      have q' : ((j : Int) + 1 < l.length) = True := eq_true (by omega)
      have q'' : ((j : Int) < l.length) = True := eq_true (by omega)
      have hw1 : IntKind.i64.wrap (j : Int) = (j : Int) := wrap_id (by omega) (by omega)
      have hw1' : IntKind.i64.wrap ((j : Int) + 1 + 1) = (j : Int) + 1 + 1 := wrap_id (by omega) (by omega)
      have hw2 : IntKind.u64.wrap ((x : Int) - (y : Int)) = (x : Int) - (y : Int) := wraps_u64 _ (by omega) (by omega)
      have hw3 : IntKind.u64.wrap ((x : Int) - (y : Int) - 1) = ((x - (y + 1) : Nat) : Int) := by rw [wraps_u64 _ (by omega) (by omega)]; omega
      have hjl : j + 1 < l.length := hlt
      have hjl2 : j < l.length := by omega
      obtain ⟨z, hz⟩ : ∃ z, x - (y + 1) = z := ⟨_, rfl⟩
      rw [hz] at hw3 hpre hpl2
      simp [go_sem, e0, e3, e4, q, q', q0, q0', hjl]
      refine draw [0, 1, 2, 3, 5, 6, 7, 8, 4, 9, 10, 11, 12, 13, 14] (by kernel_rfl) ?_
      have g0' : (cellsOf (s blk))[off + (j + 1)]? = some (Val.u (x : Int)) := g0
      have e1 : ((j : Int) + 1).toNat = j + 1 := by omega
      have p1 : (0 : Int) ≤ (j : Int) + 1 := by omega
      simp [go_sem, e0, e3, e4, q, q', q'', hjl, hjl2, g0', gm, hw1, hw2, hw3, e1, p1]
      refine (put04_spec (.ty 9) (show z < 2 ^ 64 by omega)).mono ?_
      rintro e s3 ⟨w, rfl, hW, hFW, hN3⟩
      obtain ⟨wb, wc, rfl⟩ := hW.slice
      simp [go_sem]
      refine appB (st0 := st) si40 (hV1.new' hN3) hF1 (hN1.trans hN3) hW.reg (by rw [List.length_append]; omega) ?_
      intro v4 s4 hV4 hF4 hN4
      simp [go_sem, e4, hw1']
      refine ⟨_, .rfl' _, ⟨e0, hN4, j + 1 + 1, x + 1, pre ++ vputM z, by omega, by simp, .inr ⟨j + 1, x, rfl, hx, rfl⟩, ?_, hV4, hF4⟩, by omega⟩
      rw [List.append_assoc]
      exact hpre
  · have hq : i = l.length := by omega
    subst hq
    have q : ((l.length : Int) < l.length) = False := eq_false (by omega)
    simp [go_sem, e0, e3, e4, q]
    rw [List.drop_length] at hpre
    have hpe : pre = riseB l := by simpa [riseT] using hpre
    subst hpe
    exact ⟨_, rfl, hV1, hF1, hN1⟩
theorem eight09_spec (g : Tg) {x : Nat} (hx : x < 2 ^ 64) : ICalls Tryz.prog W0 188 #[Val.u (x : Int)] st (MatPutR st g (leB 8 x)) := by
  refine enter (args := [_]) Tryz.func188 rfl ?_
  simp [Tryz.f188, go_sem]
  refine ⟨fun E s => E 0 = Val.u (x : Int) ∧ New st s ∧ EightI st s g x (E 4) (E 3),
    fun E _ => match E 4 with | .int _ j => 8 - j.toNat | _ => 0, ⟨st, .rfl' _, by simp [go_sem], New.refl _, 0, [], by omega, by simp [go_sem], by simp, rfl, by simp [go_sem]; exact Vec.nil, by simp [go_sem]; exact Fresh.none⟩, ?_⟩
  rintro E s ⟨e0, hN1, i, pre, hi, e4, hpre, hpl, hV1, hF1⟩
  obtain ⟨v3, e3⟩ : ∃ v, E 3 = v := ⟨_, rfl⟩
  rw [e3] at hV1 hF1
  obtain ⟨vb, vc, rfl⟩ := hV1.slice
  by_cases hlt : i < 8
  · have q : ((i : Int) < 8) = True := eq_true (by omega)
    have hwi : IntKind.i64.wrap ((i : Int) + 1) = (i : Int) + 1 := wrap_id (by omega) (by omega)
    have hwm : IntKind.i64.wrap (8 * (i : Int)) = 8 * (i : Int) := wrap_id (by omega) (by omega)
    have hwu : IntKind.u64.wrap (8 * (i : Int)) = 8 * (i : Int) := wraps_u64 _ (by omega) (by omega)
    have q8 : (8 * (i : Int) < 0) = False := eq_false (by omega)
    obtain ⟨d, hd⟩ : ∃ d, x / 256 ^ i = d := ⟨_, rfl⟩
    have hsh : (x : Int).fdiv (2 ^ min (8 * (i : Int)).toNat 64) = (d : Int) := by
      have e1 : min (8 * (i : Int)).toNat 64 = 8 * i := by omega
      have e2 : (2 : Int) ^ (8 * i) = ((256 ^ i : Nat) : Int) := by
        rw [Int.pow_mul]
        push_cast
        rfl
      rw [e1, e2, Int.fdiv_eq_ediv_of_nonneg _ (Int.natCast_nonneg _), ← hd]
      exact (Int.natCast_ediv _ _).symm
    have hw8 : IntKind.u8.wrap (d : Int) = ((d % 256 : Nat) : Int) := by rw [IntKind.wrap_u8]; omega
    have hdd : x / 256 ^ (i + 1) = d / 256 := by rw [Nat.pow_succ, ← Nat.div_div_eq_div_mul, hd]
    have hun : leB (8 - i) d = UInt8.ofNat (d % 256) :: leB (8 - (i + 1)) (d / 256) := by rw [show 8 - i = (8 - (i + 1)) + 1 by omega, leB]
    have hbt : ((UInt8.ofNat (d % 256)).toNat : Int) = ((d % 256 : Nat) : Int) := by rw [ofNat_u8 _ (by omega)]
    obtain ⟨y, hy⟩ : ∃ y, UInt8.ofNat (d % 256) = y := ⟨_, rfl⟩
    obtain ⟨z, hz⟩ : ∃ z, d % 256 = z := ⟨_, rfl⟩
    rw [hz] at hw8
    rw [hy, hz] at hbt
    rw [hy] at hun
    simp [go_sem, e0, e3, e4, q, hlt, hwm, hwu, q8, hsh, hw8]
    unfold NewS
    intro nb hnb
    refine ⟨.ty 9, ?_⟩
    have k4 := (New.refl s).add (b := nb) (o := .cells true [.int .u8 (z : Int)] 1 (.ty 9)) hnb
    have gb := upd_same s nb (.cells true [.int .u8 (z : Int)] 1 (.ty 9))
    simp [go_sem]
    generalize upd s nb (.cells true [.int .u8 (z : Int)] 1 (.ty 9)) = s3 at *
    refine AppI_new (st0 := st) (g := g) (m := 1) (ys := bytesV [y]) si40 (hV1.new' k4) hF1 (hN1.trans k4) (by simp [srcCells, lkN_mk, gb, cellsOf, bytesV, hbt]) (bytesV_one _) (by omega) ?_
    intro base cap s5 hV5 hF5 hN5 hE5
    simp [go_sem, e4, hwi]
    refine ⟨_, .rfl' _, ⟨e0, hN5, i + 1, pre ++ [y], by omega, by simp, ?_, by simp [hpl], by simpa [bytesV] using hV5, by simpa using hF5⟩, by omega⟩
    rw [hdd, List.append_assoc]
    rw [hd, hun] at hpre
    exact hpre
  · have hq : i = 8 := by omega
    subst hq
    simp [go_sem, e0, e3, e4]
    rw [Nat.sub_self] at hpre
    have hpe : pre = leB 8 x := by simpa [leB] using hpre
    subst hpe
    exact ⟨_, rfl, hV1, hF1, hN1⟩
theorem sparse07_spec (g : Tg) {lv : Value} {l : List Bk} (hL : RegF st 2 lv (bkV l) l.length) (hc : checkB (-1) l = true) (hb : ∀ x ∈ l, x.2 < 2 ^ 64) : ICalls Tryz.prog W0 186 #[lv] st (MatPutR st g (sparB l)) := by
  obtain ⟨lb, lc, rfl⟩ := hL.slice
  obtain ⟨hll, -, hsl⟩ := spar_bound hc hb
  have hall := rcB_all hc
  refine enter (args := [_]) Tryz.func186 rfl ?_
  have hw : IntKind.u64.wrap (l.length : Int) = l.length := wraps_u64 _ (by omega) (by omega)
  have hvl := vputM_len l.length (by omega)
  simp [Tryz.f186, go_sem, hw]
  unfold NewS
  intro nb hnb
  refine ⟨g, ?_⟩
  have k1 := (New.refl st).add (b := nb) (o := .cells true [.int .u8 0] 1 g) hnb
  have hV0 : Vec (upd st nb (.cells true [.int .u8 0] 1 g)) g 1 (.slice (some ⟨nb, 0, none⟩) 1 1) (bytesV [0]) 1 := Vec.new (xs := bytesV [0]) (by simp [bytesV]) (by omega) (upd_same _ _ _) (by omega)
  simp [go_sem, hw]
  generalize upd st nb (.cells true [.int .u8 0] 1 g) = s1 at *
  refine (put04_spec (.ty 9) (show l.length < 2 ^ 64 by omega)).mono ?_
  rintro e st2 ⟨v, rfl, hW, hFW, hN2⟩
  obtain ⟨wb, wc, rfl⟩ := hW.slice
  simp [go_sem]
  refine appB (st0 := st) (B := [0]) si40 (hV0.new' hN2) (Fresh.some hnb) (k1.trans hN2) hW.reg (by rw [List.length_append]; simp; omega) ?_
  intro v2 s2 hV2 hF2 hN3
  simp [go_sem]
  refine ⟨fun E s => E 0 = .slice lb l.length lc ∧ New st s ∧ SparI st s g l (E 4) (E 3),
    fun E _ => match E 4 with | .int _ j => l.length - j.toNat | _ => 0, ⟨s2, .rfl' _, by simp [go_sem], hN3, 0, 0, [0] ++ vputM l.length, by omega, by simp [go_sem], .inl ⟨rfl, rfl⟩, ?_, by simpa [go_sem] using hV2, by simpa [go_sem] using hF2⟩, ?_⟩
  · unfold sparB
    rw [vput0, List.drop_zero, List.append_assoc]
  rintro E s ⟨e0, hN1, i, next, pre, hi, e4, hnx, hpre, hV1, hF1⟩
  have hpl := congrArg List.length hpre
  rw [List.length_append] at hpl
  obtain ⟨v3, e3⟩ : ∃ v, E 3 = v := ⟨_, rfl⟩
  rw [e3] at hV1 hF1
  obtain ⟨vb, vc, rfl⟩ := hV1.slice
  by_cases hlt : i < l.length
  · have q : ((i : Int) < l.length) = True := eq_true (by omega)
    have hwi : IntKind.i64.wrap ((i : Int) + 1) = (i : Int) + 1 := wrap_id (by omega) (by omega)
    obtain ⟨x, hx⟩ : ∃ x, l[i]? = some x := ⟨_, List.getElem?_eq_getElem hlt⟩
    have hxb := hb x (List.mem_of_getElem? hx)
    have hxa := hall x (List.mem_of_getElem? hx)
    have hd : l.drop i = x :: l.drop (i + 1) := by rw [List.drop_eq_getElem_cons hlt]; congr 1; rw [List.getElem?_eq_getElem hlt] at hx; exact Option.some.inj hx
    rw [hd, sparT_cons] at hpre
    have hpl2 := congrArg List.length hpre
    simp only [List.length_append] at hpl2
    obtain ⟨gx1, gx2⟩ := bkV_at hx
    obtain ⟨blk, off, rfl, hg⟩ := src_get (hL.new hN1).src (by omega)
    have g0 := hg (i * 2) (by omega)
    have g1 := hg (i * 2 + 1) (by omega)
    rw [gx1] at g0
    rw [gx2] at g1
    have g1' : (cellsOf (s blk))[off + i * 2 + 1]? = some (Val.u (x.2 : Int)) := g1
    obtain ⟨xa, xn⟩ := x
    simp only at *
    obtain ⟨xk, rfl⟩ : ∃ k : Nat, xa = k := ⟨xa.toNat, by omega⟩
    rw [Int.toNat_natCast] at hpre hpl2
    rcases hnx with ⟨rfl, rfl⟩ | ⟨j, y, rfl, hy, rfl⟩
    · rw [Nat.zero_mul, Nat.add_zero] at g0
      have g1' : (cellsOf (s blk))[off + 1]? = some (Val.u (xn : Int)) := by simpa using g1
      have hwx : IntKind.u64.wrap (xk : Int) = (xk : Int) := wraps_u64 _ (by omega) (by omega)
      have w1 : IntKind.i64.wrap 1 = 1 := by decide
      simp [go_sem, e0, e3, e4, q, hlt, g0, hwx]
      rw [Nat.sub_zero] at hpre hpl2
      refine (put04_spec (.ty 9) (show xk < 2 ^ 64 by omega)).mono ?_
      rintro e s3 ⟨w, rfl, hW, hFW, hN3⟩
      obtain ⟨wb, wc, rfl⟩ := hW.slice
      simp [go_sem]
      refine appB (st0 := st) si40 (hV1.new' hN3) hF1 (hN1.trans hN3) hW.reg (by rw [List.length_append]; omega) ?_
      intro v4 s4 hV4 hF4 hN4
      have hg4 : (cellsOf (s4 blk))[off + 1]? = some (Val.u (xn : Int)) := by
        obtain ⟨blk', off', he, hg'⟩ := src_get (hL.new hN4).src (by omega)
        injection he with he
        injection he with he1 he2
        subst he1; subst he2
        have := hg' 1 (by omega)
        rw [this]; simpa using gx2
      simp [go_sem, e0, e4, hlt, hg4]
      refine (put04_spec (.ty 9) hxb).mono ?_
      rintro e s5 ⟨w5, rfl, hW5, hFW5, hN5⟩
      obtain ⟨wb5, wc5, rfl⟩ := hW5.slice
      simp [go_sem]
      refine appB (st0 := st) si40 (hV4.new' hN5) hF4 (hN4.trans hN5) hW5.reg (by simp only [List.length_append]; omega) ?_
      intro v6 s6 hV6 hF6 hN6
      simp [go_sem, e4, w1]
      refine ⟨_, .rfl' _, ⟨e0, hN6, 1, xk + 1, (pre ++ vputM xk) ++ vputM xn, by omega, by simp, .inr ⟨0, _, rfl, hx, by simp⟩, ?_, hV6, hF6⟩, by omega⟩
      rw [← hpre]
      simp only [List.append_assoc]
    · have hyx := checkB_at hc hy hx
      have hya := hall y (List.mem_of_getElem? hy)
      obtain ⟨gy1, gy2⟩ := bkV_at hy
      have gm := hg (j * 2) (by omega)
      rw [gy1] at gm
      obtain ⟨ya, yn⟩ := y
      simp only at *
      obtain ⟨yk, rfl⟩ : ∃ k : Nat, ya = k := ⟨ya.toNat, by omega⟩
      rw [Int.toNat_natCast] at hpre hpl2
      have q0 : (0 < ((j + 1 : Nat) : Int)) = True := eq_true (by omega)
      have q0' : (0 < ((j : Int) + 1)) = True := eq_true (by omega)
      have q' : ((j : Int) + 1 < l.length) = True := eq_true (by omega)
      have q'' : ((j : Int) < l.length) = True := eq_true (by omega)
      have hjl : j + 1 < l.length := hlt
      have hjl2 : j < l.length := by omega
      have hw1 : IntKind.i64.wrap (j : Int) = (j : Int) := wrap_id (by omega) (by omega)
      have hw1' : IntKind.i64.wrap ((j : Int) + 1 + 1) = (j : Int) + 1 + 1 := wrap_id (by omega) (by omega)
      have hw2 : IntKind.i64.wrap ((xk : Int) - (yk : Int)) = (xk : Int) - (yk : Int) := wrap_id (by omega) (by omega)
      have hw3 : IntKind.i64.wrap ((xk : Int) - (yk : Int) - 1) = ((xk - (yk + 1) : Nat) : Int) := by rw [wrap_id (by omega) (by omega)]; omega
      obtain ⟨z, hz⟩ : ∃ z, xk - (yk + 1) = z := ⟨_, rfl⟩
      rw [hz] at hw3 hpre hpl2
      have hwz : IntKind.u64.wrap (z : Int) = (z : Int) := wraps_u64 _ (by omega) (by omega)
      have g0' : (cellsOf (s blk))[off + (j + 1) * 2]? = some (Val.i (xk : Int)) := g0
      have e1 : ((j : Int) + 1).toNat = j + 1 := by omega
      have p1 : (0 : Int) ≤ (j : Int) + 1 := by omega
      simp [go_sem, e0, e3, e4, q, q', q'', q0, q0', hjl, hjl2, g0', gm, hw1, hw2, hw3, hwz, e1, p1]
      refine (put04_spec (.ty 9) (show z < 2 ^ 64 by omega)).mono ?_
      rintro e s3 ⟨w, rfl, hW, hFW, hN3⟩
      obtain ⟨wb, wc, rfl⟩ := hW.slice
      simp [go_sem]
      refine appB (st0 := st) si40 (hV1.new' hN3) hF1 (hN1.trans hN3) hW.reg (by rw [List.length_append]; omega) ?_
      intro v4 s4 hV4 hF4 hN4
      have hg4 : (cellsOf (s4 blk))[off + (j + 1) * 2 + 1]? = some (Val.u (xn : Int)) := by
        obtain ⟨blk', off', he, hg'⟩ := src_get (hL.new hN4).src (by omega)
        injection he with he
        injection he with he1 he2
        subst he1; subst he2
        have := hg' ((j + 1) * 2 + 1) (by omega)
        rw [gx2] at this
        exact this
      simp [go_sem, e0, e4, q', hjl, hg4, e1, p1]
      refine (put04_spec (.ty 9) hxb).mono ?_
      rintro e s5 ⟨w5, rfl, hW5, hFW5, hN5⟩
      obtain ⟨wb5, wc5, rfl⟩ := hW5.slice
      simp [go_sem]
      refine appB (st0 := st) si40 (hV4.new' hN5) hF4 (hN4.trans hN5) hW5.reg (by simp only [List.length_append]; omega) ?_
      intro v6 s6 hV6 hF6 hN6
      simp [go_sem, e4, hw1']
      refine ⟨_, .rfl' _, ⟨e0, hN6, j + 1 + 1, xk + 1, (pre ++ vputM z) ++ vputM xn, by omega, by simp, .inr ⟨j + 1, _, rfl, hx, by simp⟩, ?_, hV6, hF6⟩, by omega⟩
      rw [← hpre]
      simp only [List.append_assoc]
  · have hq : i = l.length := by omega
    subst hq
    have q : ((l.length : Int) < l.length) = False := eq_false (by omega)
    simp [go_sem, e0, e3, e4, q]
    rw [List.drop_length] at hpre
    have hpe : pre = sparB l := by simpa [sparT] using hpre
    subst hpe
    exact ⟨_, rfl, hV1, hF1, hN1⟩
end
end Go.Proofs.YtadgciaclhjjkaaGreat
set_option linter.unusedVariables false
set_option linter.unusedSimpArgs false
set_option maxRecDepth 100000
set_option maxHeartbeats 8000000
namespace Go.Proofs.YtadgciaclhjjkaaGreat
open Go.RowKit (Below)
theorem checkB_lt {l : List Bk} {p : Int} (hc : checkB p l = true) : ∀ {d i : Nat} {a b : Bk}, l[i]? = some a → l[i + d + 1]? = some b → a.1 < b.1
  | 0, i, a, b, h1, h2 => checkB_at hc h1 h2
  | d + 1, i, a, b, h1, h2 => by
    have hlt := (List.getElem?_eq_some_iff.1 h2).1
    obtain ⟨m, hm⟩ : ∃ m, l[i + d + 1]? = some m := ⟨_, List.getElem?_eq_getElem (by omega)⟩
    have := checkB_lt hc h1 hm
    have := checkB_at hc hm h2
    omega
theorem lastB_get {l : List Bk} {x : Bk} (h : l[l.length - 1]? = some x) : lastB l = x.1.toNat := by
  unfold lastB
  rw [List.getLast?_eq_getElem?, h]
  rfl
theorem firstB_get {l : List Bk} {x : Bk} (h : l[0]? = some x) : firstB l = x.1.toNat := by
  unfold firstB
  rw [List.head?_eq_getElem?, h]
  rfl
def DensI (st s : Heap) (g : Tg) (l : List Bk) (n : Nat) (x y v : Value) : Prop := ∃ (i k : Nat) (pre : Bs), i ≤ n ∧ x = Val.i k ∧ y = Val.i i ∧ ((∃ z, l[k]? = some z ∧ ((firstB l + i : Nat) : Int) ≤ z.1) ∨ (k = l.length ∧ i = n)) ∧ pre ++ densT (firstB l + i) (l.drop k) = densB l ∧ Vec s g 1 v (bytesV pre) pre.length ∧ Fresh st v
section
variable {W0 : World} {st : Heap}
theorem dense07_spec (g : Tg) {lv : Value} {l : List Bk} (hL : RegF st 2 lv (bkV l) l.length) (hc : checkB (-1) l = true) (hb : ∀ x ∈ l, x.2 < 2 ^ 64) (hne : l ≠ []) : ICalls Tryz.prog W0 187 #[lv] st (MatPutR st g (densB l)) := by
  obtain ⟨lb, lc, rfl⟩ := hL.slice
  obtain ⟨hll, -, hsl⟩ := spar_bound hc hb
  have hall := rcB_all hc
  have hlen : 0 < l.length := List.length_pos_iff.2 hne
  refine enter (args := [_]) Tryz.func187 rfl ?_
  obtain ⟨a, ha⟩ : ∃ a, l[0]? = some a := ⟨_, List.getElem?_eq_getElem hlen⟩
  obtain ⟨z, hz⟩ : ∃ z, l[l.length - 1]? = some z := ⟨_, List.getElem?_eq_getElem (by omega)⟩
  have hf := firstB_get ha
  have hla := lastB_get hz
  have haa := hall a (List.mem_of_getElem? ha)
  have hza := hall z (List.mem_of_getElem? hz)
  have haz : a.1 ≤ z.1 := by
    by_cases h1 : l.length = 1
    · rw [h1] at hz
      rw [ha] at hz
      injection hz with hz
      rw [hz]; exact Int.le_refl _
    · have := checkB_lt hc (d := l.length - 2) (i := 0) ha (by rw [show 0 + (l.length - 2) + 1 = l.length - 1 by omega]; exact hz)
      omega
  obtain ⟨fr, hfr⟩ : ∃ fr, firstB l = fr := ⟨_, rfl⟩
  obtain ⟨la, hlaq⟩ : ∃ la, lastB l = la := ⟨_, rfl⟩
  have hfi : a.1 = (fr : Int) := by omega
  have hli : z.1 = (la : Int) := by omega
  obtain ⟨n, hn⟩ : ∃ n, la - fr + 1 = n := ⟨_, rfl⟩
  have hf1 : checkB ((fr : Int) - 1) l = true := by
    cases l with
    | nil => exact absurd rfl hne
    | cons y l =>
      simp at ha
      subst ha
      obtain ⟨c1, c2, c3, c4⟩ := rcB_cons hc
      unfold checkB
      simp
      exact ⟨⟨⟨by omega, by omega⟩, by omega⟩, c4⟩
  have hdB : densB l = vputM 1 ++ (vputM fr ++ (vputM n ++ densT fr l)) := by unfold densB; rw [hfr, hlaq, hn]
  have hdl : (densB l).length ≤ 100000 := by
    have h1 := (densT_len hne (next := fr) hf1 hb).2
    have h2 := vputM_len fr (by omega)
    have h3 := vputM_len n (by omega)
    rw [hdB]
    simp only [List.length_append, vput1 (show (1 : Nat) < 128 by omega)]
    omega
  have hn74 : n ≤ 7424 := by omega
  have hw0 : IntKind.i64.wrap ((l.length : Int) - 1) = ((l.length - 1 : Nat) : Int) := by rw [wrap_id (by omega) (by omega)]; omega
  have hw1 : IntKind.i64.wrap ((la : Int) - (fr : Int)) = (la : Int) - (fr : Int) := wrap_id (by omega) (by omega)
  have hw2 : IntKind.i64.wrap ((la : Int) - (fr : Int) + 1) = (n : Int) := by rw [wrap_id (by omega) (by omega)]; omega
  have hwf : IntKind.u64.wrap (fr : Int) = (fr : Int) := wraps_u64 _ (by omega) (by omega)
  have hwn : IntKind.u64.wrap (n : Int) = (n : Int) := wraps_u64 _ (by omega) (by omega)
  have hvf := vputM_len fr (by omega)
  have hvn := vputM_len n (by omega)
  have q0 : ((l.length : Int) = 0) = False := eq_false (by omega)
  have q0' : ¬ l.length = 0 := by omega
  have q0'' : 0 < l.length := hlen
  have qm : l.length - 1 < l.length := by omega
  have qm' : (((l.length - 1 : Nat) : Int) < l.length) = True := eq_true (by omega)
  obtain ⟨ga1, ga2⟩ := bkV_at ha
  obtain ⟨gz1, gz2⟩ := bkV_at hz
  rw [hfi] at ga1
  rw [hli] at gz1
  obtain ⟨blk, off, rfl, hg⟩ := src_get hL.src (by omega)
  have g0 := hg 0 (by omega)
  have gz := hg ((l.length - 1) * 2) (by omega)
  rw [Nat.zero_mul] at ga1
  rw [ga1] at g0
  rw [gz1] at gz
  rw [Nat.add_zero] at g0
  simp [Tryz.f187, go_sem, q0, q0', hne]
  refine (refHistCheck_spec hL (by omega)).mono ?_
  rintro e s0 ⟨rfl, rfl⟩
  rw [hc]
  obtain ⟨m, hm⟩ : ∃ m, l.length - 1 = m := ⟨_, rfl⟩
  rw [hm] at hw0 qm qm' gz
  simp [go_sem, q0, q0', q0'', hne, hw0, hw1, hw2, qm, qm', g0, gz, hwf]
  unfold NewS
  intro nb hnb
  refine ⟨g, ?_⟩
  have k1 := (New.refl s0).add (b := nb) (o := .cells true [.int .u8 1] 1 g) hnb
  have hV0 : Vec (upd s0 nb (.cells true [.int .u8 1] 1 g)) g 1 (.slice (some ⟨nb, 0, none⟩) 1 1) (bytesV [1]) 1 := Vec.new (xs := bytesV [1]) (by simp [bytesV]) (by omega) (upd_same _ _ _) (by omega)
  simp [go_sem, hwf]
  generalize upd s0 nb (.cells true [.int .u8 1] 1 g) = s1 at *
  refine (put04_spec (.ty 9) (show fr < 2 ^ 64 by omega)).mono ?_
  rintro e s2 ⟨v, rfl, hW, hFW, hN2⟩
  obtain ⟨wb, wc, rfl⟩ := hW.slice
  simp [go_sem]
  refine appB (st0 := s0) (B := [1]) si40 (hV0.new' hN2) (Fresh.some hnb) (k1.trans hN2) hW.reg (by rw [List.length_append]; simp; omega) ?_
  intro v3 s3 hV3 hF3 hN3
  simp [go_sem, hwn]
  refine (put04_spec (.ty 9) (show n < 2 ^ 64 by omega)).mono ?_
  rintro e s4 ⟨w, rfl, hW4, hFW4, hN4⟩
  obtain ⟨wb4, wc4, rfl⟩ := hW4.slice
  simp [go_sem]
  refine appB (st0 := s0) si40 (hV3.new' hN4) hF3 (hN3.trans hN4) hW4.reg (by simp only [List.length_append]; simp; omega) ?_
  intro v5 s5 hV5 hF5 hN5
  have hv1 : vputM 1 = [1] := by unfold vputM; rfl
  simp [go_sem]
  refine ⟨fun E s => E 0 = .slice (some ⟨blk, off, none⟩) l.length lc ∧ E 3 = Val.i fr ∧ E 4 = Val.i n ∧ New s0 s ∧ DensI s0 s g l n (E 6) (E 7) (E 5),
    fun E _ => match E 7 with | .int _ j => n - j.toNat | _ => 0, ⟨s5, .rfl' _, by simp [go_sem], by simp [go_sem], by simp [go_sem], hN5, 0, 0, [1] ++ vputM fr ++ vputM n, by omega, by simp [go_sem], by simp [go_sem], .inl ⟨a, ha, by rw [hfr, hfi]; simp⟩, ?_, by simpa [go_sem] using hV5, by simpa [go_sem] using hF5⟩, ?_⟩
  · rw [hdB, hv1, hfr, List.drop_zero, Nat.add_zero]
    simp only [List.append_assoc]
  rintro E s ⟨e0, e3, e4, hN6, i, k, pre, hi, e6, e7, hal, hpre, hV6, hF6⟩
  rw [hfr] at hal hpre
  have hpl := congrArg List.length hpre
  rw [List.length_append] at hpl
  obtain ⟨vv, e5⟩ : ∃ v, E 5 = v := ⟨_, rfl⟩
  rw [e5] at hV6 hF6
  obtain ⟨vb, vc, rfl⟩ := hV6.slice
  by_cases hlt : i < n
  · have q : ((i : Int) < n) = True := eq_true (by omega)
    have hwi : IntKind.i64.wrap ((i : Int) + 1) = (i : Int) + 1 := wrap_id (by omega) (by omega)
    rcases hal with ⟨x, hx, hxi⟩ | ⟨_, h⟩
    rotate_left
    · omega
    have hkl := (List.getElem?_eq_some_iff.1 hx).1
    have hxb := hb x (List.mem_of_getElem? hx)
    have hxa := hall x (List.mem_of_getElem? hx)
    have hd : l.drop k = x :: l.drop (k + 1) := by rw [List.drop_eq_getElem_cons hkl]; congr 1; rw [List.getElem?_eq_getElem hkl] at hx; exact Option.some.inj hx
    rw [hd] at hpre hpl
    obtain ⟨gx1, gx2⟩ := bkV_at hx
    obtain ⟨blk', off', he, hg'⟩ := src_get (hL.new hN6).src (by omega)
    injection he with he
    injection he with he1 he2
    subst he1; subst he2
    have h0 := hg' (k * 2) (by omega)
    have h1 := hg' (k * 2 + 1) (by omega)
    rw [gx1] at h0
    rw [gx2] at h1
    have h1' : (cellsOf (s blk))[off + k * 2 + 1]? = some (Val.u (x.2 : Int)) := h1
    have hq1 : ((k : Int) < l.length) = True := eq_true (by omega)
    have hwk : IntKind.i64.wrap ((k : Int) + 1) = (k : Int) + 1 := wrap_id (by omega) (by omega)
    have hwfi : IntKind.i64.wrap ((fr : Int) + (i : Int)) = (fr : Int) + (i : Int) := wrap_id (by omega) (by omega)
    have htail : ∀ t : Nat, True := fun _ => trivial
    by_cases hxe : x.1 = (fr : Int) + (i : Int)
    · have q2 : (x.1 = (fr : Int) + (i : Int)) = True := eq_true hxe
      have hxt : x.1.toNat = fr + i := by omega
      rw [densT_cons, hxt, Nat.sub_self] at hpre hpl
      simp only [List.replicate_zero, List.nil_append, List.length_append] at hpre hpl
      simp [go_sem, e0, e3, e4, e5, e6, e7, q, hlt, hkl, hq1, h0, h1', hwfi, q2]
      refine (put04_spec (.ty 9) hxb).mono ?_
      rintro e s7 ⟨w, rfl, hW7, hFW7, hN7⟩
      obtain ⟨wb7, wc7, rfl⟩ := hW7.slice
      simp [go_sem]
      refine appB (st0 := s0) si40 (hV6.new' hN7) hF6 (hN6.trans hN7) hW7.reg (by rw [List.length_append]; omega) ?_
      intro v8 s8 hV8 hF8 hN8
      simp [go_sem, e6, e7, hwk, hwi]
      refine ⟨_, .rfl' _, ⟨e0, e3, e4, hN8, i + 1, k + 1, pre ++ vputM x.2, by omega, by simp, by simp, ?_, ?_, hV8, hF8⟩, by omega⟩
      · rw [hfr]
        by_cases hk1 : k + 1 < l.length
        · obtain ⟨y, hy⟩ : ∃ y, l[k + 1]? = some y := ⟨_, List.getElem?_eq_getElem hk1⟩
          have := checkB_at hc hx hy
          exact .inl ⟨y, hy, by omega⟩
        · have hkz : l.length - 1 = k := by omega
          have : m = k := by omega
          subst this
          rw [hm] at hz
          rw [hx] at hz
          injection hz with hz
          subst hz
          exact .inr ⟨by omega, by omega⟩
      · rw [hfr, show fr + (i + 1) = fr + i + 1 by omega, List.append_assoc]
        exact hpre
    · have q2 : (x.1 = (fr : Int) + (i : Int)) = False := eq_false hxe
      obtain ⟨y, hy⟩ : ∃ y, x.1.toNat - (fr + (i + 1)) = y := ⟨_, rfl⟩
      have hxt : x.1.toNat - (fr + i) = y + 1 := by omega
      rw [densT_cons, hxt, List.replicate_succ] at hpre hpl
      simp only [List.cons_append, List.length_append, List.length_cons] at hpl
      simp [go_sem, e0, e3, e4, e5, e6, e7, q, hlt, hkl, hq1, h0, h1', hwfi, q2]
      unfold NewS
      intro nb7 hnb7
      refine ⟨.ty 9, ?_⟩
      have k7 := (New.refl s).add (b := nb7) (o := .cells true [.int .u8 0] 1 (.ty 9)) hnb7
      have gb7 := upd_same s nb7 (.cells true [.int .u8 0] 1 (.ty 9))
      simp [go_sem]
      generalize upd s nb7 (.cells true [.int .u8 0] 1 (.ty 9)) = s7 at *
      refine AppI_new (st0 := s0) (g := g) (m := 1) (ys := bytesV [0]) si40 (hV6.new' k7) hF6 (hN6.trans k7) (by simp [srcCells, lkN_mk, gb7, cellsOf, bytesV]) (bytesV_one _) (by omega) ?_
      intro base cap s8 hV8 hF8 hN8 hE8
      simp [go_sem, e6, e7, hwi]
      refine ⟨_, .rfl' _, ⟨e0, e3, e4, hN8, i + 1, k, pre ++ [0], by omega, by simp, by simp, .inl ⟨x, hx, by rw [hfr]; omega⟩, ?_, by simpa [bytesV] using hV8, by simpa using hF8⟩, by omega⟩
      rw [hfr, hd, densT_cons, hy, List.append_assoc]
      exact hpre
  · have hq : i = n := by omega
    subst hq
    simp [go_sem, e0, e3, e4, e5, e6, e7]
    have hkl : k = l.length := by
      rcases hal with ⟨x, hx, hxi⟩ | ⟨h, _⟩
      · exfalso
        have hkl := (List.getElem?_eq_some_iff.1 hx).1
        rcases Nat.lt_or_ge k m with h | h
        · have := checkB_lt hc (d := m - k - 1) hx (by rw [show k + (m - k - 1) + 1 = l.length - 1 by omega]; exact hz)
          omega
        · have : k = m := by omega
          subst this
          rw [hm] at hz
          rw [hx] at hz
          injection hz with hz
          subst hz
          omega
      · exact h
    subst hkl
    rw [List.drop_length] at hpre
    have hpe : pre = densB l := by simpa [densT] using hpre
    subst hpe
    exact ⟨_, rfl, hV6, hF6, hN6⟩
end
end Go.Proofs.YtadgciaclhjjkaaGreat
