/- Sums of sketches: the order plays no part. Plain. -/
import Derived.Test.YtflbapmjdfnhhaaGreatC40
import Derived.Test.YtflbapmjdfnhhaaGreatC41
import Derived.Test.YtflbapmjdfnhhaaGreatC35
set_option linter.unusedVariables false
set_option linter.unusedSimpArgs false
set_option maxRecDepth 100000
namespace Go.Proofs.YtflbapmjdfnhhaaGreat
open Go.RowKit (Below)
theorem foldl_perm_inv {α β : Type} {f : β → α → β} {I : β → Prop} {p : α → Prop} (hI : ∀ z x, I z → p x → I (f z x)) (hc : ∀ z x y, I z → p x → p y → f (f z x) y = f (f z y) x) {l l' : List α} (h : l.Perm l') : (∀ x ∈ l, p x) → ∀ z, I z → l.foldl f z = l'.foldl f z := by
  induction h with
  | nil => intro _ z _; rfl
  | cons x h ih => intro hp z hz; exact ih (fun y hy => hp y (by simp [hy])) _ (hI _ _ hz (hp x (by simp)))
  | swap x y l => intro hp z hz; simp only [List.foldl_cons]; rw [hc z y x hz (hp y (by simp)) (hp x (by simp))]
  | trans h1 h2 ih1 ih2 => intro hp z hz; rw [ih1 hp z hz]; exact ih2 (fun x hx => hp x (h1.mem_iff.2 hx)) z hz
/-! ### Buckets -/
theorem satAdd_right (x a b : Nat) : satAdd (satAdd x a) b = satAdd (satAdd x b) a := by simp only [satAdd_min]; omega
theorem satAdd_comm (a b : Nat) : satAdd a b = satAdd b a := by simp only [satAdd_min]; omega
theorem addB_comm (h : List Nat) (p q : Int × Nat) : addB (addB h p) q = addB (addB h q) p := by
  unfold addB
  by_cases e : p.1.toNat = q.1.toNat
  · rw [e]
    by_cases hl : q.1.toNat < h.length
    · rw [getD_set _ _ _ _ hl, getD_set _ _ _ _ hl, if_pos rfl, if_pos rfl, List.set_set, List.set_set, satAdd_right]
    · have : ∀ v, h.set q.1.toNat v = h := fun v => List.set_eq_of_length_le (by omega)
      simp only [this]
  · rw [List.set_comm _ _ e]
    have h1 : ∀ (i j v : Nat), i ≠ j → (h.set i v).getD j 0 = h.getD j 0 := fun i j v hij => by
      rw [List.getD_eq_getElem?_getD, List.getElem?_set_ne hij, ← List.getD_eq_getElem?_getD]
    rw [h1 _ _ _ e, h1 _ _ _ (Ne.symm e)]
theorem mergeB_comm (h : List Nat) (a b : List (Int × Nat)) : mergeB (mergeB h a) b = mergeB (mergeB h b) a := by
  unfold mergeB
  rw [← List.foldl_append, ← List.foldl_append]
  exact foldl_perm_inv (I := fun _ => True) (p := fun _ => True) (fun _ _ _ _ => trivial) (fun z x y _ _ _ => addB_comm z x y) List.perm_append_comm (fun _ _ => trivial) h trivial
/-! ### Hashes -/
theorem take_insS : ∀ (n : Nat) (L : List Nat) (k : Nat), (insS (L.take n) k).take n = (insS L k).take n
  | 0, L, k => by simp
  | n + 1, [], k => by simp
  | n + 1, x :: L, k => by
    rw [List.take_succ_cons]
    unfold insS
    split
    · simp only [List.take_succ_cons]
      cases n with
      | zero => rfl
      | succ n => simp [List.take_take]
    · split
      · simp [List.take_take]
      · simp only [List.take_succ_cons]
        rw [take_insS n L k]
theorem insS_comm {S : List Nat} (hS : Asc S) (h k : Nat) : insS (insS S h) k = insS (insS S k) h := by
  have a1 := asc_insS _ k (asc_insS S h hS)
  have a2 := asc_insS _ h (asc_insS S k hS)
  refine asc_unique a1 a2 ((List.perm_ext_iff_of_nodup (asc_nodup a1) (asc_nodup a2)).2 fun x => ?_)
  simp only [mem_insS]
  constructor <;> (rintro (h | h | h) <;> simp [h])
theorem insK_comm {S : List Nat} (hS : Asc S) (h k : Nat) : insK (insK S h) k = insK (insK S k) h := by
  unfold insK
  rw [take_insS, take_insS, insS_comm hS]
theorem asc_insK {S : List Nat} (hS : Asc S) (h : Nat) : Asc (insK S h) := (asc_insS S h hS).sublist (List.take_sublist _ _)
theorem mergeK_comm {S : List Nat} (hS : Asc S) (a b : List Nat) : mergeK (mergeK S a) b = mergeK (mergeK S b) a := by
  unfold mergeK
  rw [← List.foldl_append, ← List.foldl_append]
  exact foldl_perm_inv (I := Asc) (p := fun _ => True) (fun z x hz _ => asc_insK hz x) (fun z x y hz _ _ => insK_comm hz x y) List.perm_append_comm (fun _ _ => trivial) S hS
/-! ### Gauges -/
theorem keyN_inj {a b : Nat} (ha : a < 2 ^ 64) (hb : b < 2 ^ 64) (h : keyN a = keyN b) : a = b := by
  unfold keyN at h
  split at h <;> split at h <;> omega
def minK (a b : Nat) : Nat := if keyN b < keyN a then b else a
def maxK (a b : Nat) : Nat := if keyN a < keyN b then b else a
theorem minK_comm {a b : Nat} (ha : a < 2 ^ 64) (hb : b < 2 ^ 64) : minK a b = minK b a := by
  unfold minK
  have := keyN_inj ha hb
  split <;> split <;> omega
theorem maxK_comm {a b : Nat} (ha : a < 2 ^ 64) (hb : b < 2 ^ 64) : maxK a b = maxK b a := by
  unfold maxK
  have := keyN_inj ha hb
  split <;> split <;> omega
theorem minK_right {x a b : Nat} (hx : x < 2 ^ 64) (ha : a < 2 ^ 64) (hb : b < 2 ^ 64) : minK (minK x a) b = minK (minK x b) a := by
  have h1 := keyN_inj ha hb
  unfold minK
  by_cases c1 : keyN a < keyN x <;> by_cases c2 : keyN b < keyN x <;> simp only [c1, c2, if_true, if_false] <;> (repeat' split) <;> omega
theorem maxK_right {x a b : Nat} (hx : x < 2 ^ 64) (ha : a < 2 ^ 64) (hb : b < 2 ^ 64) : maxK (maxK x a) b = maxK (maxK x b) a := by
  have h1 := keyN_inj ha hb
  unfold maxK
  by_cases c1 : keyN x < keyN a <;> by_cases c2 : keyN x < keyN b <;> simp only [c1, c2, if_true, if_false] <;> (repeat' split) <;> omega
/-- A gauge that may be. -/
structure GauC (g : GauD) : Prop where
  ok : GauOK g
  ck : checkG g = true
theorem GauC.zero {g : GauD} (h : GauC g) (h0 : g.n = 0) : g.lo = 0 ∧ g.hi = 0 := by
  have := h.ck
  unfold checkG at this
  rw [if_pos h0] at this
  simpa using this
theorem GauC.kinds {g : GauD} (h : GauC g) (h0 : g.n ≠ 0) : kindN g.lo ≠ 4 ∧ kindN g.hi ≠ 4 := by
  have := h.ck
  unfold checkG at this
  rw [if_neg h0] at this
  simp only [Bool.and_eq_true, decide_eq_true_eq] at this
  exact ⟨this.1, this.2.1⟩
theorem GauC.merge {a b : GauD} (ha : GauC a) (hb : GauC b) : GauC (mergeG a b) := ⟨mergeG_ok ha.ok hb.ok, checkG_merge ha.ok hb.ok ha.ck hb.ck⟩
theorem mergeG_zero {a b : GauD} (ha : a.n = 0) (hb : GauC b) : mergeG a b = ⟨b.n, satAdd a.nans b.nans, b.lo, b.hi⟩ := by
  unfold mergeG
  have h1 := hb.ok.n
  have : satAdd a.n b.n = b.n := by rw [ha]; simp only [satAdd_min]; omega
  rw [if_pos (.inl ha), this, if_pos ha]
theorem mergeG_zero' {a b : GauD} (hb : b.n = 0) (ha : GauC a) (hbc : GauC b) : mergeG a b = ⟨a.n, satAdd a.nans b.nans, a.lo, a.hi⟩ := by
  unfold mergeG
  have h1 := ha.ok.n
  have : satAdd a.n b.n = a.n := by rw [hb]; simp only [satAdd_min]; omega
  rw [if_pos (.inr hb), this]
  by_cases h0 : a.n = 0
  · rw [if_pos h0]
    obtain ⟨z1, z2⟩ := hbc.zero hb
    obtain ⟨z3, z4⟩ := ha.zero h0
    rw [z1, z2, z3, z4]
  · rw [if_neg h0]
theorem mergeG_both {a b : GauD} (ha : a.n ≠ 0) (hb : b.n ≠ 0) (hac : GauC a) (hbc : GauC b) : mergeG a b = ⟨satAdd a.n b.n, satAdd a.nans b.nans, minK a.lo b.lo, maxK a.hi b.hi⟩ := by
  unfold mergeG minK maxK
  rw [if_neg (by omega), lessN_iff (hbc.kinds hb).1 (hac.kinds ha).1, lessN_iff (hac.kinds ha).2 (hbc.kinds hb).2]
  simp only [decide_eq_true_eq]
theorem mergeG_n {a b : GauD} : (mergeG a b).n = satAdd a.n b.n := by unfold mergeG; split <;> rfl
theorem satAdd_pos {a b : Nat} : satAdd a b ≠ 0 ↔ a ≠ 0 ∨ b ≠ 0 := by simp only [satAdd_min]; omega
theorem mergeG_comm {g a b : GauD} (hg : GauC g) (ha : GauC a) (hb : GauC b) : mergeG (mergeG g a) b = mergeG (mergeG g b) a := by
  have hga := hg.merge ha
  have hgb := hg.merge hb
  have na : (mergeG g a).n = satAdd g.n a.n := mergeG_n
  have nb : (mergeG g b).n = satAdd g.n b.n := mergeG_n
  have og := hg.ok; have oa := ha.ok; have ob := hb.ok
  by_cases a0 : a.n = 0
  · rw [mergeG_zero' a0 hgb ha]
    by_cases b0 : b.n = 0
    · rw [mergeG_zero' b0 hga hb, mergeG_zero' a0 hg ha, mergeG_zero' b0 hg hb]
      simp only [satAdd_right g.nans a.nans b.nans]
    · by_cases g0 : g.n = 0
      · rw [mergeG_zero (a := mergeG g a) (by rw [na, g0, a0]; rfl) hb, mergeG_zero g0 hb, mergeG_zero g0 ha]
        simp only [satAdd_right g.nans a.nans b.nans]
      · rw [mergeG_both (a := mergeG g a) (by rw [na]; exact satAdd_pos.2 (.inl g0)) b0 hga hb, mergeG_both g0 b0 hg hb, mergeG_zero' a0 hg ha]
        simp only [satAdd_right g.nans a.nans b.nans]
  · by_cases b0 : b.n = 0
    · rw [mergeG_zero' b0 hga hb]
      by_cases g0 : g.n = 0
      · rw [mergeG_zero (a := mergeG g b) (by rw [nb, g0, b0]; rfl) ha, mergeG_zero g0 ha, mergeG_zero g0 hb]
        simp only [satAdd_right g.nans a.nans b.nans]
      · rw [mergeG_both (a := mergeG g b) (by rw [nb]; exact satAdd_pos.2 (.inl g0)) a0 hgb ha, mergeG_both g0 a0 hg ha, mergeG_zero' b0 hg hb]
        simp only [satAdd_right g.nans a.nans b.nans]
    · rw [mergeG_both (a := mergeG g a) (by rw [na]; exact satAdd_pos.2 (.inr a0)) b0 hga hb, mergeG_both (a := mergeG g b) (by rw [nb]; exact satAdd_pos.2 (.inr b0)) a0 hgb ha]
      by_cases g0 : g.n = 0
      · rw [mergeG_zero g0 ha, mergeG_zero g0 hb]
        simp only [satAdd_right g.nans a.nans b.nans, satAdd_comm a.n b.n, minK_comm oa.lo ob.lo, maxK_comm oa.hi ob.hi]
      · rw [mergeG_both g0 a0 hg ha, mergeG_both g0 b0 hg hb]
        simp only [satAdd_right g.nans a.nans b.nans, satAdd_right g.n a.n b.n, minK_right og.lo oa.lo ob.lo, maxK_right og.hi oa.hi ob.hi]
/-! ### Sums -/
def SkC (s : SkD) : Prop := SkOK s ∧ checkS s = true
theorem SkC.g {s : SkD} (h : SkC s) : GauC s.g := ⟨h.1.g, by have := h.2; unfold checkS at this; simp only [Bool.and_eq_true] at this; exact this.2.2⟩
theorem addS_comm {x : SumD} {a b : SkD} (hx : SumOK x) (ha : SkC a) (hb : SkC b) : addS (addS x a) b = addS (addS x b) a := by
  unfold addS
  simp only
  rw [mergeB_comm, mergeK_comm hx.asc, mergeG_comm ⟨hx.g, hx.cg⟩ ha.g hb.g]
theorem sum_perm {l l' : List SkD} (h : l.Perm l') (hc : ∀ s ∈ l, SkC s) : sumSk l = sumSk l' := by
  unfold sumSk
  rw [foldl_perm_inv (I := SumOK) (p := SkC) (fun z x hz hx => addS_ok hz hx.1 hx.2) (fun z x y hz hx hy => addS_comm hz hx hy) h hc sum0 sum0_ok]
theorem winL_perm {L L' : List RowD} (h : L.Perm L') (a b : Int) : (winL L a b).Perm (winL L' a b) := (h.filter _).map _
theorem ansOf_perm {q : AskD} {L L' : List RowD} (h : L.Perm L') (hok : ∀ r ∈ L, RowOK r) (hck : ∀ r ∈ L, checkS r.s = true) (w f : Int) : ansOf q L w f = ansOf q L' w f := by
  unfold ansOf
  rw [sum_perm (winL_perm h f (f + w)) fun s hs => by
    obtain ⟨r, hr, rfl⟩ := List.mem_map.1 hs
    have hr' := (List.mem_filter.1 hr).1
    exact ⟨(hok r hr').s, hck r hr'⟩]
end Go.Proofs.YtflbapmjdfnhhaaGreat
set_option linter.unusedVariables false
set_option linter.unusedSimpArgs false
set_option maxRecDepth 100000
set_option maxHeartbeats 4000000
namespace Go.Proofs.YtflbapmjdfnhhaaGreat
open Go.RowKit (Below)
theorem neq_ans (A : AnsD) (f : Int) : binV Tryz.prog .neq 43 (.agg (A.cells f).toArray) (.agg (A.cells f).toArray) = some (.bool false) := by
  have hs : Tryz.prog.stoodInHeld 43 = false := by kernel_rfl
  have hg : Tryz.prog.eqGuardType Tryz.prog.depth 43 = false := by kernel_rfl
  unfold binV eqBin aggEqB AnsD.cells
  simp only [Tryz.underlying43, hs, hg]
  simp [fieldsEq, Tryz.underlying3, Tryz.underlying4, Tryz.underlying26, Tryz.underlying41]
theorem RowAt.one {st : Heap} {cs : List Value} {r : RowD} (h : RowAt st cs r) : ∀ y ∈ cs, y.oneCell' = true := by
  obtain ⟨lb, lc, hb, hc, kb, kc, rfl⟩ := h.cells
  simp [Value.oneCell']
theorem RowsIn.one {st : Heap} {ys : List Value} {l : List RowD} (h : RowsIn st ys l) : ∀ y ∈ ys, y.oneCell' = true := fun y hy => by
  obtain ⟨j, hj⟩ := List.mem_iff_getElem?.1 hy
  have hjl := (List.getElem?_eq_some_iff.1 hj).1
  have hl := h.1
  have hi : j / 8 < l.length := by omega
  have hr := h.2 (j / 8) l[j / 8] (List.getElem?_eq_getElem hi)
  refine hr.one y ?_
  refine List.mem_iff_getElem?.2 ⟨j % 8, ?_⟩
  rw [List.getElem?_take, if_pos (by omega), List.getElem?_drop, show j / 8 * 8 + j % 8 = j by omega]
  exact hj
theorem RowsIn.append {st : Heap} {ys zs : List Value} {l m : List RowD} (h : RowsIn st ys l) (h' : RowsIn st zs m) : RowsIn st (ys ++ zs) (l ++ m) := by
  have e1 := h.1
  have e2 := h'.1
  refine ⟨by simp [e1, e2]; omega, fun i r hi => ?_⟩
  by_cases hlt : i < l.length
  · rw [List.getElem?_append_left hlt] at hi
    rw [List.drop_append_of_le_length (by omega), List.take_append_of_le_length (by rw [List.length_drop]; omega)]
    exact h.2 i r hi
  · rw [List.getElem?_append_right (by omega)] at hi
    have := h'.2 (i - l.length) r hi
    rw [List.drop_append, List.drop_eq_nil_of_le (by omega), List.nil_append, show i * 8 - ys.length = (i - l.length) * 8 by omega]
    exact this
section
variable {W0 : World} {st : Heap}
theorem queryTurns_walk {ks : List Value} {q : AskD} {rv : Value} {rows : List RowD} {turn : Int} (hq : AskW st ks q) (hrows : RowsAt st rv rows) (hlen : rows.length < 2 ^ 50) (hok : ∀ r ∈ rows, RowOK r) :
    ICalls Tryz.prog W0 4 #[.agg ks.toArray, rv, Val.i turn] st fun e st' => e = .returned (.bool true) := by
  obtain ⟨⟨ms, hm, rfl⟩, aok⟩ := hq
  obtain ⟨rb, rc, rfl⟩ := hrows.slice
  have awake : ∀ (sta : Heap) {K : Ending → Heap → Prop}, (∀ st', K (.returned (.bool true)) st') → ICalls Tryz.prog W0 10 #[] sta K := fun sta K hK => awake23_spec.mono fun e st' h => by rw [h.1]; exact hK st'
  have hcap : rows.length ≤ rc := by
    obtain ⟨ys, ⟨g, hg, hr⟩, _⟩ := hrows
    exact hr.cap
  obtain ⟨a0, a1, a2, a3, a4, rfl⟩ := five hm.length
  refine enter (args := [_, _, _]) Tryz.func4 rfl ?_
  refine IW_assoc ?_
  refine IW_cut' (fun E' st' => ∃ tb : Nat, (NiceM 12 q.m ∧ checkM q.m = true ∧ rows.length ≤ 30) ∧ New st st' ∧ E' 1 = .slice rb rows.length rc ∧ E' 2 = Val.i turn ∧ E' 3 = ptr tb ∧ st tb = none ∧ st' tb = some (.cells true [a0, a1, a2, a3, a4, Val.i q.start, Val.i q.step, Val.i q.n, Val.i q.kind, Val.u q.a, Val.u q.b] 11 (.ty 1))) ?_ ?_
  · simp [go_sem, AskD.tail]
    unfold NewP
    intro tb htb
    refine ⟨.ty 1, ?_⟩
    have k1 := (New.refl st).add (b := tb) (o := .cells true [a0, a1, a2, a3, a4, Val.i q.start, Val.i q.step, Val.i q.n, Val.i q.kind, Val.u q.a, Val.u q.b] 11 (.ty 1)) htb
    have g1 := upd_same st tb (.cells true [a0, a1, a2, a3, a4, Val.i q.start, Val.i q.step, Val.i q.n, Val.i q.kind, Val.u q.a, Val.u q.b] 11 (.ty 1))
    try simp [go_sem]
    generalize upd st tb (.cells true [a0, a1, a2, a3, a4, Val.i q.start, Val.i q.step, Val.i q.n, Val.i q.kind, Val.u q.a, Val.u q.b] 11 (.ty 1)) = st1 at *
    refine ICalls.mono (by simpa using Tiny_spec (W0 := W0) (hm.new k1)) ?_
    rintro e st2 ⟨rfl, k2⟩
    have g2 := k2 _ _ g1
    cases htn : (tinyM q.m 0 0).1 with
    | false =>
      simp [go_sem]
      refine awake _ fun st' => ?_
      simp [go_sem]
    | true =>
    have hN : NiceM 12 q.m := ((tinyM_spec q.m 0 0).2 htn).2
    simp [go_sem, g2]
    refine ICalls.mono (by simpa using refCheck_spec (W0 := W0) hN (by omega) (hm.new (k1.trans k2))) ?_
    rintro e st3 ⟨rfl, k3⟩
    have g3 := k3 _ _ g2
    cases hcm : checkM q.m with
    | false =>
      simp [go_sem]
      refine awake _ fun st' => ?_
      simp [go_sem]
    | true =>
    have kk := (k1.trans k2).trans k3
    by_cases c1 : 30 < rows.length
    · have t1 : ((30 : Int) < rows.length) = True := eq_true (by omega)
      simp [go_sem, g3, t1, c1]
      refine awake _ fun st' => ?_
      simp [go_sem]
    have t1 : ((30 : Int) < rows.length) = False := eq_false (by omega)
    simp [go_sem, g3, t1, c1]
    exact ⟨⟨hN, by omega⟩, kk, htb⟩
  rintro E st1 ⟨tb, ⟨hN, hcm, hl30⟩, hk1, e1, e2, e3, htb, g3⟩
  obtain ⟨n, hn⟩ : ∃ n : Int, (if 12 < q.n then (12 : Int) else q.n) = n := ⟨_, rfl⟩
  have hn12 : n ≤ 12 := by rw [← hn]; split <;> omega
  have hnb : -2 ^ 63 ≤ n := by have := aok.n; rw [← hn]; split <;> omega
  obtain ⟨L, hL⟩ : ∃ L, rows.filter (keepR (evalM q.m)) = L := ⟨_, rfl⟩
  have hLl : L.length ≤ 30 := by
    have := List.length_filter_le (keepR (evalM q.m)) rows
    rw [hL] at this
    omega
  have hLok : ∀ r ∈ L, RowOK r := fun r hr => by rw [← hL] at hr; exact hok r (List.mem_filter.1 hr).1
  have hck : ∀ r ∈ L, checkS r.s = true := by rw [← hL]; exact keepR_check
  obtain ⟨q1, hq1⟩ : ∃ q1 : AskD, q1 = ⟨q.m, q.start, q.step, n, q.kind, q.a, q.b⟩ := ⟨_, rfl⟩
  have aok1 : AskOK q1 := by
    rw [hq1]
    exact ⟨aok.start, aok.step, ⟨by dsimp only; omega, by dsimp only; omega⟩, aok.a, aok.b⟩
  have hw1 : windowsN q1.start q1.step q1.n ≤ 12 := by
    rw [hq1]
    unfold windowsN
    dsimp only
    split <;> omega
  obtain ⟨N, hN1⟩ : ∃ N, windowsN q1.start q1.step q1.n = N := ⟨_, rfl⟩
  rw [hN1] at hw1
  have hmin : min N (Int.toNat 100) = N := by omega
  -- the rows, turned
  iterate 2 refine IW_assoc ?_
  refine IW_cut (fun E' st' => ∃ (k : Nat) (v8 : Value), k ≤ rows.length ∧ New st st' ∧ E' 1 = .slice rb rows.length rc ∧ E' 3 = ptr tb ∧ st' tb = some (.cells true [a0, a1, a2, a3, a4, Val.i q.start, Val.i q.step, Val.i n, Val.i q.kind, Val.u q.a, Val.u q.b] 11 (.ty 1)) ∧ E' 8 = v8 ∧ RowsAt st' v8 (rows.drop k ++ rows.take k)) ?_ ?_
  · have hwl : IntKind.i64.wrap ((rows.length : Int) + 1) = (rows.length : Int) + 1 := wrap_id (by omega) (by omega)
    simp [go_sem, e1, e2, e3, g3, hn, hwl]
    obtain ⟨s2, hs2⟩ : ∃ s2, upd st1 tb (.cells true [a0, a1, a2, a3, a4, Val.i q.start, Val.i q.step, Val.i n, Val.i q.kind, Val.u q.a, Val.u q.b] 11 (.ty 1)) = s2 := ⟨_, rfl⟩
    have hk2 : New st s2 := by rw [← hs2]; exact hk1.put htb
    have g4 : s2 tb = some (.cells true [a0, a1, a2, a3, a4, Val.i q.start, Val.i q.step, Val.i n, Val.i q.kind, Val.u q.a, Val.u q.b] 11 (.ty 1)) := by rw [← hs2]; exact upd_same _ _ _
    rw [hs2]
    refine (Place_spec (k := (rows.length : Int) + 1) (by omega) (by omega)).mono ?_
    rintro e s3 ⟨⟨k, hk, rfl⟩, rfl⟩
    have hk' : k ≤ rows.length := by omega
    have hki : (k : Int) ≤ rows.length := by omega
    have hkc : k ≤ rc := by omega
    simp [go_sem, e1, e2, e3]
    refine draw [0, 1, 2, 4, 5, 6, 3, 7, 8, 9] (by kernel_rfl) ?_
    simp [go_sem, e1, e2, e3, hk', hki, hkc]
    have hd1 := RowsAt.drop (hrows.new hk2) rfl hk' rfl (a' := if rc = k then rb else Option.map (fun x => x.add (k * 8)) rb) (cap' := rc - k) (fun h0 => by rw [if_neg (by omega)]) (by omega)
    have ht1 := RowsAt.take (hrows.new hk2) rfl hk' (a' := rb) (cap' := rc) (fun _ => rfl) hkc
    refine (Rows_copyV hd1 (by rw [List.length_drop]; omega) (fun r hr => hok r (List.mem_of_mem_drop hr))).mono ?_
    rintro e s4 ⟨w4, ys4, rfl, hV4, hR4, hF4, k4⟩
    obtain ⟨wb4, wc4, rfl⟩ := hV4.slice
    simp [go_sem, e1, e2, e3]
    refine (Rows_copyV (ht1.new k4) (by rw [List.length_take]; omega) (fun r hr => hok r (List.mem_of_mem_take hr))).mono ?_
    rintro e s5 ⟨w5, ys5, rfl, hV5, hR5, hF5, k5⟩
    simp [go_sem, e1, e2, e3]
    have hl4 : (rows.drop k).length = rows.length - k := List.length_drop
    have hl5 : (rows.take k).length = k := by rw [List.length_take]; omega
    have hsrc := hV5.src
    rw [hl4] at hV4
    rw [hl5] at hsrc
    refine AppI_new (st0 := s3) (g := .ty 1) (m := k) (ys := ys5) si29 (hV4.new' k5) (by rw [← hl4]; exact hF4) (k4.trans k5) hsrc hR5.one (by omega) ?_
    intro base cap s6 hV6 hF6 k6 hx6
    simp [go_sem, e1, e2, e3]
    refine ⟨k, hk', hk2.trans k6, k6 _ _ g4, ⟨_, ⟨.ty 1, (by intro g x r; simp), ?_⟩, ((hR4.new k5).ext hx6).append (hR5.ext hx6)⟩⟩
    have : (rows.drop k ++ rows.take k).length = rows.length - k + k := by rw [List.length_append, hl4, hl5]
    rw [this]
    exact hV6.reg
  clear e1 e2 e3 g3 hk1
  rintro E st2 ⟨k, v8, hk, hk1, e1, e3, g3, e8, h8⟩
  obtain ⟨M, hM⟩ : ∃ M, rows.drop k ++ rows.take k = M := ⟨_, rfl⟩
  rw [hM] at h8
  have hperm : M.Perm rows := by
    rw [← hM]
    have := List.perm_append_comm (l₁ := rows.drop k) (l₂ := rows.take k)
    rw [List.take_append_drop] at this
    exact this
  have hMl : M.length ≤ 30 := by rw [hperm.length_eq]; exact hl30
  have hMok : ∀ r ∈ M, RowOK r := fun r hr => hok r (hperm.subset hr)
  obtain ⟨L2, hL2⟩ : ∃ L, M.filter (keepR (evalM q.m)) = L := ⟨_, rfl⟩
  have hLp : L2.Perm L := by rw [← hL, ← hL2]; exact hperm.filter _
  have hL2l : L2.length ≤ 30 := by rw [hLp.length_eq]; exact hLl
  have hL2ok : ∀ r ∈ L2, RowOK r := fun r hr => hLok r (hLp.subset hr)
  have hck2 : ∀ r ∈ L2, checkS r.s = true := by rw [← hL2]; exact keepR_check
  -- both are asked
  refine IW_assoc ?_
  refine IW_cut (fun E' st' => ToldAt st' (E' 9) (ansOf q1 L q1.step) q1.start q1.step N ∧ ToldAt st' (E' 10) (ansOf q1 L2 q1.step) q1.start q1.step N) ?_ ?_
  · simp [go_sem, e1, e3, g3]
    refine (ask_x hN (hm.new hk1)).mono ?_
    rintro e s3 ⟨mo, mn, mv, mb1, mn1, mc1, kb1, kn1, kc1, rfl, hm3, k3⟩
    simp [go_sem, e1, e3, e8]
    refine (Rows_copy (hrows.new (hk1.trans k3)) (by omega) hok).mono ?_
    rintro e s4 ⟨w4, rfl, hw4, k4⟩
    simp [go_sem, e1, e3, e8]
    refine (answers_x (hm3.new k4) hN hcm hw4 (by omega) hok).mono ?_
    rintro e s5 ⟨fv, rfl, hf5, k5⟩
    rw [hL, ← hq1] at hf5
    simp [go_sem, e1, e3, e8]
    refine (told_made (most := 100) hf5 rfl aok1 (by omega) hLok hck (by omega) (by rw [hN1]; omega)).mono ?_
    rintro e s6 ⟨v6, rfl, hv6, k6⟩
    rw [hN1, hmin] at hv6
    have kk := ((k3.trans k4).trans k5).trans k6
    have g6 := kk _ _ g3
    simp [go_sem, e1, e3, e8, g6]
    refine (ask_x hN (hm.new (hk1.trans kk))).mono ?_
    rintro e s7 ⟨xo, xn, xv, xb1, xn1, xc1, yb1, yn1, yc1, rfl, hm7, k7⟩
    simp [go_sem, e1, e3, e8]
    refine (answers_x hm7 hN hcm (h8.new (kk.trans k7)) (by omega) hMok).mono ?_
    rintro e s8 ⟨fv8, rfl, hf8, k8⟩
    rw [hL2, ← hq1] at hf8
    simp [go_sem, e1, e3, e8]
    refine (told_made (most := 100) hf8 rfl aok1 (by omega) hL2ok hck2 (by omega) (by rw [hN1]; omega)).mono ?_
    rintro e s9 ⟨v9, rfl, hv9, k9⟩
    rw [hN1, hmin] at hv9
    simp [go_sem, e1, e3, e8]
    exact ⟨hv6.new ((k7.trans k8).trans k9), hv9⟩
  clear e1 e3 g3 hk1 e8 h8
  rintro E s ⟨h9, h10⟩
  have heq : ansOf q1 L2 q1.step = ansOf q1 L q1.step := by
    funext f
    exact (ansOf_perm hLp hL2ok hck2 _ f)
  rw [heq] at h10
  obtain ⟨b9, c9, e9⟩ := h9.slice
  obtain ⟨b10, c10, e10⟩ := h10.slice
  rw [e9] at h9
  rw [e10] at h10
  simp [go_sem, e9, e10]
  refine ⟨fun E st' => s = st' ∧ E 9 = .slice b9 N c9 ∧ E 10 = .slice b10 N c10 ∧ ∃ i : Nat, E 11 = Val.i (i : Int) ∧ i ≤ N, fun E _ => match E 11 with | .int _ z => N - z.toNat | _ => 0,
    ⟨s, .rfl' _, rfl, by simp [go_sem, e9], by simp [go_sem, e10], 0, by simp [go_sem], by omega⟩, ?_⟩
  clear e9 e10
  rintro E st' ⟨rfl, e9, e10, i, e11, hi⟩
  by_cases hlt : i < N
  rotate_left
  · have : i = N := by omega
    subst this
    simp [go_sem, e9, e10, e11]
    refine awake _ fun st' => ?_
    simp [go_sem]
  have t1 : ((i : Int) < N) = True := eq_true (by omega)
  have hwi : IntKind.i64.wrap ((i : Int) + 1) = ((i + 1 : Nat) : Int) := by rw [wrap_id (by omega) (by omega)]; omega
  obtain ⟨bx, cx, mx, hvx, hbx, hlx, hgx, -, -, -, -⟩ := h9.get hlt
  obtain ⟨by_, cy, my, hvy, hby, hly, hgy, -, -, -, -⟩ := h10.get hlt
  injection hvx with v1 v2 v3
  subst v1; subst v3
  injection hvy with v1 v2 v3
  subst v1; subst v3
  generalize ansL (ansOf q1 L q1.step) q1.start q1.step N = A at *
  generalize ansOf q1 L q1.step (q1.start + (i : Int) * q1.step) = B at *
  generalize q1.start + (i : Int) * q1.step = f at *
  simp [go_sem, e9, e10, e11, t1, hlt]
  refine draw [0, 1, 2, 4, 5, 6, 3, 7, 8] (by kernel_rfl) ?_
  have hne : binV Tryz.prog .neq 43 (.agg (B.cells f).toArray) (.agg (B.cells f).toArray) = some (.bool false) := neq_ans B f
  simp [go_sem, e9, e10, e11, t1, hlt, hbx, hby, hlx, hly, hgx, hgy, hne, hwi]
  exact ⟨_, .rfl' _, ⟨rfl, i + 1, by simp, by omega⟩, by omega⟩
end
end Go.Proofs.YtflbapmjdfnhhaaGreat
