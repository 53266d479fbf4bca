/- Operations that may be done in whatever order are done in one of them: when each that is done first only looks, and the others leave what it looks at. Plain definitions and theorems, over any program. -/
import Derived.Test.YtadgciaclhjjkaaGreatC04
import Derived.Scope
import Derived.Orders
set_option linter.unusedVariables false
set_option linter.unusedSimpArgs false
namespace Go.Proofs.YtadgciaclhjjkaaGreat
open Go.RowKit (Below)

def wantedE (ops : Array Oper) (o : Oper) (E : Env) : Bool :=
  match o.guard with
  | none => true
  | some (j, want) => match (ops[j]?).bind (·.dst) with
    | some d => match E d with
      | .bool b => b == want
      | _ => false
    | none => false

abbrev IPost := Exit → Env → Heap → Prop
abbrev PPost := List PanicEntry → Heap → Prop

/-- Operations one by one. -/
def IL (P : Program) (W0 : World) (ops : Array Oper) (Q : IPost) (Kp : PPost) : List Oper → Env → Heap → Prop
  | [], E, st => Q .normal E st
  | o :: rest, E, st => bif wantedE ops o E then opX P W0 o E (fun v st' => IL P W0 ops Q Kp rest (E.put o.dst v) st') Kp st else IL P W0 ops Q Kp rest (E.put o.dst undef) st
def IOp (P : Program) (W0 : World) (ops : Array Oper) (Kp : PPost) (i : Nat) (K : Env → Heap → Prop) (E : Env) (st : Heap) : Prop :=
  match ops[i]? with
  | none => K E st
  | some o => bif wantedE ops o E then opX P W0 o E (fun v st' => K (E.put o.dst v) st') Kp st else K (E.put o.dst undef) st
/-- Operations in whatever order. -/
def IAny (P : Program) (W0 : World) (ops : Array Oper) (Q : IPost) (Kp : PPost) : Nat → Array Bool → Env → Heap → Prop
  | 0, listed, E, st => Region.ready .any ops listed = [] ∧ Q .normal E st
  | fuel + 1, listed, E, st =>
    (Region.ready .any ops listed = [] → Q .normal E st) ∧ ∀ i ∈ Region.ready .any ops listed, IOp P W0 ops Kp i (IAny P W0 ops Q Kp fuel (listed.setIfInBounds i true)) E st

/-! ### What an operation is: 0 only reckons, 1 looks at the heap, 2 lets it grow, 3 writes, 4 none of these -/
def clsR (P : Program) : Op → Nat
  | .move _ | .assign _ | .pick .. | .extract .. | .nilCheck _ | .fieldAddr .. | .field .. | .binOp .. | .unOp .. | .build .. | .indexAddr .. | .index .. | .slice .. | .makeFunc .. | .makeInterface .. => 0
  | .load .. | .lookup .. => 1
  | .convert _ dst _ => match P.underlying dst with
    | some .string => 1
    | some (.int _) => 1
    | _ => 2
  | .box .. | .alloc .. | .buildSlice .. | .makeSlice .. | .makeMap _ none => 2
  | .store .. | .mapUpdate .. | .mapEntry .. | .entryStore .. => 3
  | .call ⟨.value _, _, _⟩ => 3
  | .call ⟨.builtin b, _, _⟩ => match b with
    | .len => 1
    | .append => 2
    | .min | .max => 0
    | .copy | .delete | .clear => 3
    | _ => 4
  | _ => 4

theorem Heap.Le.rfl' (st : Heap) : Heap.Le st st := fun b o h => ⟨o, h, .refl o⟩
theorem Heap.Le.new {st : Heap} {b : Nat} (o : HObj) (h : st b = none) : Heap.Le st (upd st b o) := fun k x hk => ⟨x, by unfold upd; rw [if_neg (by rintro rfl; rw [h] at hk; cases hk)]; exact hk, .refl x⟩
theorem Heap.Le.cells' {st : Heap} {b : Nat} {xs ys : List Value} {n : Nat} {e : Tg} (h : st b = some (.cells true xs n e)) : Heap.Le st (upd st b (.cells true (xs ++ ys) n e)) := fun k x hk => by
  by_cases hkb : k = b
  · subst hkb
    rw [h] at hk
    injection hk with hk; subst hk
    exact ⟨_, by unfold upd; rw [if_pos rfl], .cells ⟨ys, rfl⟩ id⟩
  · exact ⟨x, by unfold upd; rw [if_neg hkb]; exact hk, .refl x⟩
theorem cellsOf_le {st st' : Heap} (h : Heap.Le st st') (b : Nat) : cellsOf (st b) <+: cellsOf (st' b) := by
  cases hb : st b with
  | none => exact List.nil_prefix
  | some o =>
    obtain ⟨o', h1, h2⟩ := h b o hb
    rw [h1]
    cases h2 with
    | refl => exact List.prefix_refl _
    | cells hp hr => exact hp
    | map => exact List.prefix_refl _
theorem lkN_le {st st' : Heap} (h : Heap.Le st st') {a : Addr} {n : Nat} {l : List Value} (hl : lkN st a n = some l) : lkN st' a n = some l := by
  unfold lkN at *
  split at hl
  · cases hl
  · split at hl
    · rename_i hle
      obtain ⟨t, ht⟩ := cellsOf_le h a.block
      have : a.off + n ≤ (cellsOf (st' a.block)).length := by rw [← ht, List.length_append]; omega
      rw [if_pos this, ← hl, ← ht, List.drop_append_of_le_length (by omega), List.take_append_of_le_length (by rw [List.length_drop]; omega)]
    · cases hl
theorem lk_le {st st' : Heap} (h : Heap.Le st st') {a : Addr} {v : Value} (hl : lk st a = some v) : lk st' a = some v := by
  unfold lk at *
  split at hl
  · cases hl
  · split at hl
    · rename_i rw xs n e hb
      obtain ⟨o', h1, h2⟩ := h _ _ hb
      rw [h1]
      cases h2 with
      | refl => exact hl
      | cells hp hr =>
        obtain ⟨t, rfl⟩ := hp
        simp only
        rw [List.getElem?_append_left (List.getElem?_eq_some_iff.1 hl).1]
        exact hl
    · cases hl
theorem textOf_le {st st' : Heap} (h : Heap.Le st st') {v : Value} {s : ByteArray} (hl : textOf st v = some s) : textOf st' v = some s := by
  unfold textOf at *
  split at hl
  · exact hl
  · split at hl
    · rename_i h0; rw [if_pos h0]; exact hl
    · rename_i h0
      rw [if_neg h0]
      obtain ⟨l, h1, h2⟩ := Option.bind_eq_some_iff.1 hl
      rw [lkN_le h h1]
      exact h2
  · cases hl
theorem mapOf_le {st st' : Heap} (h : Heap.Le st st') {x : Value} {es : KV} (hl : mapOf st x = some es) : mapOf st' x = some es := by
  unfold mapOf at *
  split at hl
  · exact hl
  · split at hl
    · rename_i r g es' hb
      obtain ⟨o', h1, h2⟩ := h _ _ hb
      rw [h1]
      cases h2 with
      | refl => exact hl
      | map => exact hl
    · cases hl
  · cases hl

section
variable {P : Program} {W0 : World} {E : Env} {K K' : Value → Heap → Prop} {Kp Kp' : List PanicEntry → Heap → Prop} {st : Heap}
theorem optS_mono {o : Option Value} (hk : ∀ v, K v st → K' v st) (h : optS o K st) : optS o K' st := by
  unfold optS at *; cases o with
  | none => exact h
  | some v => exact hk v h
theorem optS_calm {o : Option Value} (h : optS o K st) : ∃ v, o = some v ∧ K v st := by
  unfold optS at h; cases o with
  | none => exact h.elim
  | some v => exact ⟨v, rfl, h⟩
theorem NewP_mono {e : TypeId} {xs : List Value} (hk : ∀ v st', Heap.Le st st' → K v st' → K' v st') (h : NewP e xs K st) : NewP e xs K' st := fun b hb => let ⟨g, h'⟩ := h b hb; ⟨g, hk _ _ (.new _ hb) h'⟩
theorem NewS_mono {e : TypeId} {xs : List Value} {len cap : Nat} (hk : ∀ v st', Heap.Le st st' → K v st' → K' v st') (h : NewS e xs len cap K st) : NewS e xs len cap K' st := fun b hb => let ⟨g, h'⟩ := h b hb; ⟨g, hk _ _ (.new _ hb) h'⟩
theorem NewB_mono {e : TypeId} {s : ByteArray} (hk : ∀ v st', Heap.Le st st' → K v st' → K' v st') (h : NewB e s K st) : NewB e s K' st := fun b c hb hc => let ⟨g, h'⟩ := h b c hb hc; ⟨g, hk _ _ (.new _ hb) h'⟩
theorem NewM_mono (hk : ∀ v st', Heap.Le st st' → K v st' → K' v st') (h : NewM K st) : NewM K' st := fun b hb => let ⟨g, h'⟩ := h b hb; ⟨g, hk _ _ (.new _ hb) h'⟩
theorem appX_mono {t : TypeId} {v x : Value} (hk : ∀ v st', Heap.Le st st' → K v st' → K' v st') (h : appX P t v x K st) : appX P t v x K' st := by
  obtain ⟨i, hi, h⟩ := optK_iff.1 h
  refine optK_iff.2 ⟨i, hi, ?_⟩
  split at h
  · obtain ⟨s, hs, h⟩ := optK_iff.1 h
    refine optK_iff.2 ⟨s, hs, ?_⟩
    split
    · rename_i hc; rw [if_pos hc] at h; exact hk _ _ (.rfl' st) h
    · rename_i hc
      rw [if_neg hc] at h
      refine ⟨h.1, fun hl => ?_, fun hl => ?_⟩
      · have h2 := h.2.1 hl
        split at h2
        · obtain ⟨hs, xs, n, e, hb, h3, h4, h5, h6⟩ := h2
          exact ⟨hs, xs, n, e, hb, h3, h4, h5, hk _ _ (.cells' hb) h6⟩
        · exact h2.elim
      · obtain ⟨o, ho, h3⟩ := optK_iff.1 (h.2.2 hl)
        exact optK_iff.2 ⟨o, ho, fun b c hb hc => let ⟨g, h'⟩ := h3 b c hb hc; ⟨g, hk _ _ (.new _ hb) h'⟩⟩
  · exact h.elim
theorem app2Y_mono {P : Program} {u : Option TypeDesc} {t : TypeId} {x y : Value} {K K' : Value → Heap → Prop} {st : Heap} (hk : ∀ v st', Heap.Le st st' → K v st' → K' v st') (h : app2Y P u t x y K st) : app2Y P u t x y K' st := by
  unfold app2Y at *
  cases u with
  | none => cases y <;> exact h.elim
  | some d => cases d <;> cases y <;> first | exact h.elim | exact appX_mono hk h | exact ⟨h.1, h.2.1, h.2.2.1, appX_mono hk h.2.2.2⟩
theorem opX_mono {o : Oper} (hc : clsR P o.op ≤ 3) (hk : ∀ v st', (clsR P o.op ≤ 2 → Heap.Le st st') → K v st' → K' v st') (hp : ∀ v st, Kp v st → Kp' v st) (h : opX P W0 o E K Kp st) : opX P W0 o E K' Kp' st := by
  obtain ⟨dst, op, type, pos, after, guard⟩ := o
  have h0 : ∀ v, K v st → K' v st := fun v => hk v st (fun _ => .rfl' st)
  cases op
  case call c =>
    obtain ⟨callee, args, ts⟩ := c
    cases callee with
    | value f =>
      simp only [opX, callX] at h ⊢
      split at h
      · rcases h with h | ⟨x, hx, h⟩
        · exact .inl ⟨h.1, h.2.mono fun e st' he => by cases e <;> first | exact hk _ _ (fun hc => absurd hc (by simp [clsR])) he | exact hp _ _ he | exact he⟩
        · exact .inr ⟨x, hx, wpS_mono _ (fun v st' he => hk _ _ (fun hc => absurd hc (by simp [clsR])) he) (fun v st' he => hp _ _ he) h⟩
      · obtain ⟨r, h1, h2, h3⟩ := h
        exact ⟨r, h1, h2, h3.mono fun e st' he => by cases e <;> first | exact hk _ _ (fun hc => absurd hc (by simp [clsR])) he | exact hp _ _ he | exact he⟩
      · exact h.elim
    | invoke => simp [clsR] at hc
    | builtin b =>
      simp only [opX] at h ⊢
      unfold builtinY at h ⊢
      split at h
      · exact optS_mono h0 h
      · have hk' : ∀ v st', Heap.Le st st' → K v st' → K' v st' := fun v st' hl => hk v st' (fun _ => hl)
        split
        · rename_i hc; rw [if_pos hc] at h; exact appX_mono hk' h
        · rename_i hc; rw [if_neg hc] at h; exact app2Y_mono hk' h
      · have hk' : ∀ v st', K v st' → K' v st' := fun v st' => hk v st' (fun hc => absurd hc (by simp [clsR]))
        unfold CopyI copyX at h ⊢
        obtain ⟨i, hi, h⟩ := optK_iff.1 h
        refine optK_iff.2 ⟨i, hi, ?_⟩
        split at h
        · obtain ⟨s, hs, h⟩ := optK_iff.1 h
          refine optK_iff.2 ⟨s, hs, ?_⟩
          split at h
          · obtain ⟨st1, h1, h2, h3⟩ := optK_iff.1 h
            exact optK_iff.2 ⟨st1, h1, h2, hk' _ _ h3⟩
          · exact hk' _ _ h
        · exact h.elim
      · have hk' : ∀ v st', K v st' → K' v st' := fun v st' => hk v st' (fun hc => absurd hc (by simp [clsR]))
        unfold delY at h ⊢
        split at h
        · unfold optM at h ⊢
          split at h
          · exact hk' _ _ h
          · exact h
        · exact h
      · exact optS_mono h0 h
      · exact optS_mono h0 h
      · have hk' : ∀ v st', K v st' → K' v st' := fun v st' => hk v st' (fun hc => absurd hc (by simp [clsR]))
        unfold ClearI clearX at h ⊢
        obtain ⟨i, hi, h⟩ := optK_iff.1 h
        refine optK_iff.2 ⟨i, hi, ?_⟩
        split at h
        · exact hk' _ _ h
        · split at h
          · rename_i hz; rw [if_pos hz]; exact hk' _ _ h
          · rename_i hz; rw [if_neg hz]
            obtain ⟨st1, h1, h2, h3⟩ := optK_iff.1 h
            exact optK_iff.2 ⟨st1, h1, h2, hk' _ _ h3⟩
        · exact h.elim
      · exact h.elim
  case store t x y =>
    have hk' : ∀ v st', K v st' → K' v st' := fun v st' => hk v st' (fun hc => absurd hc (by simp [clsR]))
    simp only [opX, storeY, optB] at h ⊢
    split at h
    · split
      · rename_i hc; rw [if_pos hc] at h; split at h
        · exact hk' _ _ h
        · exact h
      · rename_i hc; rw [if_neg hc] at h; exact h
    · split at h
      · split
        · rename_i hc; rw [if_pos hc] at h; split at h
          · exact hk' _ _ h
          · exact h
        · rename_i hc; rw [if_neg hc] at h; exact h
      · exact h
    · exact h
  case mapUpdate t x k v =>
    have hk' : ∀ v st', K v st' → K' v st' := fun v st' => hk v st' (fun hc => absurd hc (by simp [clsR]))
    simp only [opX, mapUpdY, optM] at h ⊢
    split at h
    · split at h
      · exact hk' _ _ h
      · exact h
    · exact h
  case mapEntry t x k =>
    have hk' : ∀ v st', K v st' → K' v st' := fun v st' => hk v st' (fun hc => absurd hc (by simp [clsR]))
    simp only [opX, MapEntryI, mapEntryX] at h ⊢
    split at h
    · obtain ⟨i, hi, h⟩ := optK_iff.1 h
      obtain ⟨es, hes, h⟩ := optK_iff.1 h
      obtain ⟨f, hf, h⟩ := optK_iff.1 h
      exact optK_iff.2 ⟨i, hi, optK_iff.2 ⟨es, hes, optK_iff.2 ⟨f, hf, fun ents clock hm e he => hk' _ _ (h ents clock hm e he)⟩⟩⟩
    · exact h
  case entryStore t x n v =>
    have hk' : ∀ v st', K v st' → K' v st' := fun v st' => hk v st' (fun hc => absurd hc (by simp [clsR]))
    simp only [opX, EntryStoreI, entryStoreX] at h ⊢
    split at h
    · obtain ⟨ents, clock, g, es, j, e, h1, h2, h3, h4, h5⟩ := h
      exact ⟨ents, clock, g, es, j, e, h1, h2, h3, h4, hk' _ _ h5⟩
    · exact h
  case box =>
    simp only [opX] at h ⊢
    exact NewP_mono (fun v st' hl => hk v st' (fun _ => hl)) h
  case alloc =>
    simp only [opX, allocY] at h ⊢
    split at h
    · exact NewP_mono (fun v st' hl => hk v st' (fun _ => hl)) h
    · exact h
  case buildSlice =>
    simp only [opX, buildSliceY, newSO] at h ⊢
    split at h
    · split
      · rename_i hc; rw [if_pos hc] at h; split at h
        · exact NewS_mono (fun v st' hl => hk v st' (fun _ => hl)) h
        · exact h
      · rename_i hc; rw [if_neg hc] at h; exact h
    · exact h
  case makeSlice =>
    simp only [opX, makeSliceY] at h ⊢
    split at h
    · exact ⟨h.1, h.2.1, h.2.2.1, NewS_mono (fun v st' hl => hk v st' (fun _ => hl)) h.2.2.2⟩
    · exact h
  case makeMap t r => cases r with
    | none => exact NewM_mono (fun v st' hl => hk v st' (fun _ => hl)) h
    | some => simp [clsR] at hc
  case convert =>
    simp only [opX, convY] at h ⊢
    split at h
    · exact h0 _ h
    · exact h0 _ h
    · exact ⟨h.1, NewB_mono (fun v st' hl => hk v st' (fun _ => hl)) h.2⟩
    · refine ⟨h.1, ?_⟩
      have h2 := h.2
      unfold optT at h2 ⊢
      split at h2
      · exact h0 _ h2
      · exact h2
    · exact ⟨h.1, h.2.1, h.2.2.1, h0 _ h.2.2.2⟩
    · exact h
  case move => exact h0 _ h
  case assign => exact h0 _ h
  case makeFunc => exact h0 _ h
  case makeInterface => exact ⟨h.1, h0 _ h.2⟩
  case binOp => exact optS_mono h0 h
  case unOp => exact optS_mono h0 h
  case pick =>
    simp only [opX, pickX] at h ⊢
    split at h <;> first | exact h0 _ h | exact h
  case extract =>
    simp only [opX, extractY] at h ⊢
    split at h <;> first | exact optS_mono h0 h | exact h
  case nilCheck =>
    simp only [opX, nilX] at h ⊢
    split at h <;> first | exact h0 _ h | exact h
  case fieldAddr =>
    simp only [opX, fieldAddrY] at h ⊢
    split at h <;> first | exact h0 _ h | exact h
  case field =>
    simp only [opX, fieldY] at h ⊢
    split at h <;> first | exact optS_mono h0 h | exact h0 _ h | exact h
  case load =>
    simp only [opX, loadY] at h ⊢
    split at h <;> first | exact optS_mono h0 h | exact h
  case build =>
    simp only [opX, buildY] at h ⊢
    split at h <;> first | exact optS_mono h0 h | exact h
  case indexAddr =>
    simp only [opX, indexAddrY] at h ⊢
    split at h <;> first | exact ⟨h.1, h.2.1, h0 _ h.2.2⟩ | exact h
  case index =>
    simp only [opX, indexY] at h ⊢
    split at h <;> first | exact ⟨h.1, h.2.1, h0 _ h.2.2⟩ | exact ⟨h.1, h.2.1, optS_mono h0 h.2.2⟩ | exact h
  case slice =>
    simp only [opX, sliceY, sliceTextY, sliceRowY] at h ⊢
    split at h
    · refine ⟨h.1, ?_⟩
      have h2 := h.2
      split at h2 <;> first | exact ⟨h2.1, h2.2.1, h0 _ h2.2.2⟩ | exact h2
    · refine ⟨h.1, ?_⟩
      have h2 := h.2
      split at h2 <;> first | exact ⟨h2.1, h2.2.1, h2.2.2.1, h0 _ h2.2.2.2⟩ | exact h2
    · refine ⟨h.1, ?_⟩
      have h2 := h.2
      split at h2 <;> first | exact ⟨h2.1, h2.2.1, h2.2.2.1, h0 _ h2.2.2.2⟩ | exact h2
    · exact h
  case lookup =>
    simp only [opX, lookupY, lookupR] at h ⊢
    split at h
    · split at h <;> first | exact h0 _ h | exact h
    · exact h
  all_goals (simp [clsR] at hc)
theorem lenV_le {st st' : Heap} (h : Heap.Le st st') {t : TypeId} {x v : Value} (hl : lenV P st t x = some v) : lenV P st' t x = some v := by
  unfold lenV at *
  split at hl
  · simp_all
  · simp_all
  · simp_all
  · rename_i r hu
    split at hl
    · rename_i g es hes
      obtain ⟨o', h1, h2⟩ := h _ _ hes
      simp only [hu, h1]
      cases h2 <;> exact hl
    · cases hl
  · cases hl
theorem opX_calm {o : Oper} (hc : clsR P o.op ≤ 1) (h : opX P W0 o E K Kp st) : ∃ v, K v st ∧ ∀ (st' : Heap) (K' : Value → Heap → Prop) (Kp' : List PanicEntry → Heap → Prop), (clsR P o.op = 0 ∨ Heap.Le st st') → K' v st' → opX P W0 o E K' Kp' st' := by
  obtain ⟨dst, op, type, pos, after, guard⟩ := o
  cases op
  case call c =>
    obtain ⟨callee, args, ts⟩ := c
    cases callee with
    | value f => simp [clsR] at hc
    | invoke => simp [clsR] at hc
    | builtin b =>
      simp only [opX] at h ⊢
      unfold builtinY at h ⊢
      split at h
      · obtain ⟨v, h1, h2⟩ := optS_calm h
        exact ⟨v, h2, fun st' K' Kp' hle hk => by rw [lenV_le (hle.resolve_left (by simp [clsR])) h1]; exact hk⟩
      · simp [clsR] at hc
      · simp [clsR] at hc
      · simp [clsR] at hc
      · obtain ⟨v, h1, h2⟩ := optS_calm h
        exact ⟨v, h2, fun st' K' Kp' hle hk => by rw [h1]; exact hk⟩
      · obtain ⟨v, h1, h2⟩ := optS_calm h
        exact ⟨v, h2, fun st' K' Kp' hle hk => by rw [h1]; exact hk⟩
      · simp [clsR] at hc
      · exact h.elim
  case move => exact ⟨_, h, fun _ _ _ _ hk => hk⟩
  case assign => exact ⟨_, h, fun _ _ _ _ hk => hk⟩
  case makeFunc => exact ⟨_, h, fun _ _ _ _ hk => hk⟩
  case makeInterface => exact ⟨_, h.2, fun _ _ _ _ hk => ⟨h.1, hk⟩⟩
  case binOp =>
    obtain ⟨v, h1, h2⟩ := optS_calm h
    exact ⟨v, h2, fun st' K' Kp' hle hk => by simp only [opX, h1]; exact hk⟩
  case unOp =>
    obtain ⟨v, h1, h2⟩ := optS_calm h
    exact ⟨v, h2, fun st' K' Kp' hle hk => by simp only [opX, h1]; exact hk⟩
  case pick =>
    simp only [opX, pickX] at h ⊢
    split at h <;> first | exact ⟨_, h, fun _ _ _ _ hk => hk⟩ | exact h.elim
  case extract =>
    simp only [opX, extractY] at h ⊢
    split at h
    · obtain ⟨v, h1, h2⟩ := optS_calm h
      exact ⟨v, h2, fun st' K' Kp' hle hk => by simp only [h1]; exact hk⟩
    · exact h.elim
  case nilCheck =>
    simp only [opX, nilX] at h ⊢
    split at h <;> first | exact ⟨_, h, fun _ _ _ _ hk => hk⟩ | exact h.elim
  case fieldAddr =>
    simp only [opX, fieldAddrY] at h ⊢
    split at h <;> first | exact ⟨_, h, fun _ _ _ _ hk => hk⟩ | exact h.elim
  case field =>
    simp only [opX, fieldY] at h ⊢
    split at h
    · obtain ⟨v, h1, h2⟩ := optS_calm h
      exact ⟨v, h2, fun st' K' Kp' hle hk => by simp only [h1]; exact hk⟩
    · exact ⟨_, h, fun _ _ _ _ hk => hk⟩
    · exact h.elim
  case load =>
    simp only [opX, loadY] at h ⊢
    split at h
    · obtain ⟨v, h1, h2⟩ := optS_calm h
      exact ⟨v, h2, fun st' K' Kp' hle hk => by simp only [lk_le (hle.resolve_left (by simp [clsR])) h1]; exact hk⟩
    · obtain ⟨v, h1, h2⟩ := optS_calm h
      obtain ⟨l, h3, h4⟩ := Option.map_eq_some_iff.1 h1
      exact ⟨v, h2, fun st' K' Kp' hle hk => by simp only [lkN_le (hle.resolve_left (by simp [clsR])) h3, Option.map_some, h4]; exact hk⟩
    · exact h.elim
  case build =>
    simp only [opX, buildY] at h ⊢
    split at h
    · obtain ⟨v, h1, h2⟩ := optS_calm h
      exact ⟨v, h2, fun st' K' Kp' hle hk => by simp only [h1]; exact hk⟩
    · exact h.elim
  case indexAddr =>
    simp only [opX, indexAddrY] at h ⊢
    split at h <;> first | exact ⟨_, h.2.2, fun _ _ _ _ hk => ⟨h.1, h.2.1, hk⟩⟩ | exact h.elim
  case index =>
    simp only [opX, indexY] at h ⊢
    split at h
    · exact ⟨_, h.2.2, fun _ _ _ _ hk => ⟨h.1, h.2.1, hk⟩⟩
    · obtain ⟨v, h1, h2⟩ := optS_calm h.2.2
      exact ⟨v, h2, fun st' K' Kp' hle hk => ⟨h.1, h.2.1, by simp only [h1]; exact hk⟩⟩
    · exact ⟨_, h.2.2, fun _ _ _ _ hk => ⟨h.1, h.2.1, hk⟩⟩
    · exact h.elim
  case slice =>
    simp only [opX, sliceY, sliceTextY, sliceRowY] at h ⊢
    split at h
    · obtain ⟨h1, h2⟩ := h
      split at h2 <;> first | exact ⟨_, h2.2.2, fun _ _ _ _ hk => ⟨h1, h2.1, h2.2.1, hk⟩⟩ | exact h2.elim
    · obtain ⟨h1, h2⟩ := h
      split at h2 <;> first | exact ⟨_, h2.2.2.2, fun _ _ _ _ hk => ⟨h1, h2.1, h2.2.1, h2.2.2.1, hk⟩⟩ | exact h2.elim
    · obtain ⟨h1, h2⟩ := h
      split at h2 <;> first | exact ⟨_, h2.2.2.2, fun _ _ _ _ hk => ⟨h1, h2.1, h2.2.1, h2.2.2.1, hk⟩⟩ | exact h2.elim
    · exact h.elim
  case lookup =>
    simp only [opX, lookupY] at h ⊢
    split at h
    · rename_i hi hes
      have hm : ∀ st', Heap.Le st st' → mapOf st' _ = _ := fun st' hl => mapOf_le hl hes
      unfold lookupR at h
      split at h
      · rename_i hr; exact ⟨_, h, fun st' K' Kp' hle hk => by simp only [hm st' (hle.resolve_left (by simp [clsR])), hi, lookupR, hr]; exact hk⟩
      · rename_i hr; exact ⟨_, h, fun st' K' Kp' hle hk => by simp only [hm st' (hle.resolve_left (by simp [clsR])), hi, lookupR, hr]; exact hk⟩
      · rename_i hr; exact ⟨_, h, fun st' K' Kp' hle hk => by simp only [hm st' (hle.resolve_left (by simp [clsR])), hi, lookupR, hr]; exact hk⟩
      · rename_i hr; exact ⟨_, h, fun st' K' Kp' hle hk => by simp only [hm st' (hle.resolve_left (by simp [clsR])), hi, lookupR, hr]; exact hk⟩
      · exact h.elim
    · exact h.elim
  case makeMap t r => cases r <;> simp [clsR] at hc
  case convert src dst x =>
    simp only [opX, convY] at h ⊢
    split at h
    · exact ⟨_, h, fun _ _ _ _ hk => hk⟩
    · exact ⟨_, h, fun _ _ _ _ hk => hk⟩
    · rename_i _ hu _; simp [clsR, hu] at hc
    · rename_i _ hu _
      obtain ⟨h1, h2⟩ := h
      unfold optT at h2
      split at h2
      · rename_i s hs
        refine ⟨_, h2, fun st' K' Kp' hle hk => ⟨h1, ?_⟩⟩
        rw [textOf_le (hle.resolve_left (by simp [clsR, hu])) hs]
        exact hk
      · exact h2.elim
    · rename_i _ hu _; simp [clsR, hu] at hc
    · exact h.elim
  all_goals (simp [clsR] at hc)
theorem opX_congr {o : Oper} {E' : Env} (hs : ∀ cs b, o.op ≠ .select cs b) (h : ∀ x ∈ o.op.operands, E.ev x = E'.ev x) : opX P W0 o E K Kp st = opX P W0 o E' K Kp st := by
  have hW : opW P W0 o E K Kp st = opW P W0 o E' K Kp st := by unfold opW; rw [execOp_congr o hs h]
  obtain ⟨dst, op, type, pos, after, guard⟩ := o
  have pairs : ∀ ps : Array (Nat × Operand), (∀ x ∈ ps.toList.map (·.2), E.ev x = E'.ev x) → (ps.toList.map fun p => (p.1, E.ev p.2)) = (ps.toList.map fun p => (p.1, E'.ev p.2)) := fun ps hp =>
    List.map_congr_left fun p hm => by rw [hp p.2 (List.mem_map_of_mem hm)]
  cases op
  case build t ps => simp only [opX, pairs ps fun x hx => h x (by simpa [Op.operands] using hx)]
  case buildSlice t n ps => simp only [opX, pairs ps fun x hx => h x (by simpa [Op.operands] using hx)]
  case call c =>
    obtain ⟨callee, args, ts⟩ := c
    cases callee with
    | value f =>
      have h1 := h f (by simp [Op.operands, Call.operands])
      have h2 : args.map E.ev = args.map E'.ev := Array.map_congr_left fun x hx => h x (by simp [Op.operands, Call.operands, hx])
      simp only [opX, h1, h2]
    | invoke => exact hW
    | builtin b =>
      have h2 : args.toList.map E.ev = args.toList.map E'.ev := List.map_congr_left fun x hx => h x (by simp [Op.operands, Call.operands]; exact Array.mem_toList_iff.1 hx)
      simp only [opX, h2]
  case makeFunc fn first captured =>
    have h1 : first.map E.ev = first.map E'.ev := Array.map_congr_left fun x hx => h x (by simp [Op.operands, hx])
    have h2 : captured.map E.ev = captured.map E'.ev := Array.map_congr_left fun x hx => h x (by simp [Op.operands, hx])
    simp only [opX, h1, h2]
  case slice t x lo hi mx => cases lo <;> cases hi <;> cases mx <;> simp_all [opX, Op.operands]
  case makeMap t r => cases r with
    | none => rfl
    | some => exact hW
  case next x b => cases b <;> first | exact hW | simp_all [opX, Op.operands]
  case select => exact hW
  all_goals (first | exact hW | (simp only [Op.operands] at h; simp_all [opX]; done))

theorem ev_put {E : Env} {dst : Option Nat} {v : Value} {x : Operand} (h : ∀ d, dst = some d → x ≠ .tmp d) : (E.put dst v).ev x = E.ev x := by
  cases dst with
  | none => rfl
  | some d =>
    cases x with
    | tmp t =>
      have := h d rfl
      show (E.set d v) t = E t
      unfold Env.set
      rw [if_neg (by rintro rfl; exact this rfl)]
    | _ => rfl
theorem put_comm (E : Env) {x y : Option Nat} (v u : Value) (h : ∀ d, x = some d → y ≠ some d) : (E.put x v).put y u = (E.put y u).put x v := by
  cases x with
  | none => rfl
  | some a =>
    cases y with
    | none => rfl
    | some b =>
      have hab : a ≠ b := fun e => h a rfl (by rw [e])
      funext t
      simp only [Env.put, Env.set]
      by_cases h1 : t = a
      · subst h1; simp [hab]
      · simp [h1]
variable {ops : Array Oper} {Q : IPost}
theorem opX_put {o : Oper} (hs : ∀ cs b, o.op ≠ .select cs b) (dst : Option Nat) (v : Value) (h : ∀ d, dst = some d → d ∉ o.looksAt ops) : opX P W0 o (E.put dst v) K Kp st = opX P W0 o E K Kp st :=
  opX_congr hs fun x hx => ev_put fun d hd hxd => h d hd (by
    subst hxd
    exact List.mem_append_left _ (List.mem_filterMap.2 ⟨.tmp d, by simpa using hx, rfl⟩))
theorem wantedE_put (o : Oper) (dst : Option Nat) (v : Value) (h : ∀ d, dst = some d → d ∉ o.looksAt ops) : wantedE ops o (E.put dst v) = wantedE ops o E := by
  cases dst with
  | none => rfl
  | some d =>
    unfold wantedE
    cases hg : o.guard with
    | none => rfl
    | some gw =>
      obtain ⟨g, want⟩ := gw
      simp only
      cases ht : (ops[g]?).bind (·.dst) with
      | none => rfl
      | some t =>
        have hne : d ≠ t := fun e => h d rfl (by subst e; simp [Oper.looksAt, hg, ht])
        simp only [Env.put, Env.set]
        rw [if_neg (Ne.symm hne)]
theorem clsR_select {P : Program} {o : Oper} (h : clsR P o.op ≤ 3) (cs : Array SelectCase) (b : Bool) : o.op ≠ .select cs b := by
  intro e; rw [e] at h; simp [clsR] at h
theorem IOp_mono {i : Nat} {K K' : Env → Heap → Prop} {Kp : PPost} {E : Env} {st : Heap} (hc : ∀ o : Oper, ops[i]? = some o → clsR P o.op ≤ 3) (hk : ∀ E st, K E st → K' E st) (h : IOp P W0 ops Kp i K E st) : IOp P W0 ops Kp i K' E st := by
  unfold IOp at *
  cases ho : ops[i]? with
  | none => rw [ho] at h; exact hk _ _ h
  | some o =>
    rw [ho] at h
    simp only at h ⊢
    cases hw : wantedE ops o E with
    | true => rw [hw] at h; simp only [cond_true] at h ⊢; exact opX_mono (hc o ho) (fun v st' _ => hk _ _) (fun _ _ => id) h
    | false => rw [hw] at h; simp only [cond_false] at h ⊢; exact hk _ _ h
/-- One that only looks, with those that may come before it, gives v there as well. -/
def Yld (P : Program) (W0 : World) (ops : Array Oper) (o : Oper) (v : Value) (E : Env) (st : Heap) : Prop :=
  (wantedE ops o E = true ∧ ∀ (st' : Heap) (K' : Value → Heap → Prop) (Kp' : List PanicEntry → Heap → Prop), (clsR P o.op = 0 ∨ Heap.Le st st') → K' v st' → opX P W0 o E K' Kp' st') ∨ (wantedE ops o E = false ∧ v = undef)
theorem Yld.of_IOp {i : Nat} {o : Oper} {K : Env → Heap → Prop} {Kp : PPost} {E : Env} {st : Heap} (ho : ops[i]? = some o) (hc : clsR P o.op ≤ 1) (h : IOp P W0 ops Kp i K E st) : ∃ v, Yld P W0 ops o v E st ∧ K (E.put o.dst v) st := by
  unfold IOp at h
  rw [ho] at h
  simp only at h
  cases hw : wantedE ops o E with
  | true =>
    rw [hw] at h
    simp only [cond_true] at h
    obtain ⟨v, h1, h2⟩ := opX_calm hc h
    exact ⟨v, .inl ⟨hw, h2⟩, h1⟩
  | false => rw [hw] at h; simp only [cond_false] at h; exact ⟨undef, .inr ⟨hw, rfl⟩, h⟩
theorem Yld.iop {i : Nat} {o : Oper} {v : Value} {K : Env → Heap → Prop} {Kp : PPost} {E : Env} {st : Heap} (ho : ops[i]? = some o) (hy : Yld P W0 ops o v E st) (h : K (E.put o.dst v) st) : IOp P W0 ops Kp i K E st := by
  unfold IOp
  rw [ho]
  simp only
  rcases hy with ⟨hw, hy⟩ | ⟨hw, rfl⟩
  · rw [hw]; simp only [cond_true]; exact hy st (fun v st' => K (E.put o.dst v) st') _ (.inr (.rfl' st)) h
  · rw [hw]; simp only [cond_false]; exact h
theorem Yld.le {o : Oper} {v : Value} {E : Env} {st st' : Heap} (hy : Yld P W0 ops o v E st) (hl : clsR P o.op = 0 ∨ Heap.Le st st') : Yld P W0 ops o v E st' := by
  rcases hy with ⟨hw, hy⟩ | h
  · refine .inl ⟨hw, fun st2 K' Kp' h2 hk => hy st2 K' Kp' ?_ hk⟩
    rcases h2 with h2 | h2
    · exact .inl h2
    · rcases hl with hl | hl
      · exact .inl hl
      · refine .inr fun b x hb => ?_
        obtain ⟨y, h3, h4⟩ := hl b x hb
        obtain ⟨z, h5, h6⟩ := h2 b y h3
        refine ⟨z, h5, ?_⟩
        cases h4 with
        | refl => exact h6
        | map es => cases h6 <;> exact .map es
        | cells hp hr => cases h6 with
          | refl => exact .cells hp hr
          | cells hp' hr' => exact .cells (hp.trans hp') (fun e => hr' (hr e))
  · exact .inr h
theorem Yld.put {o : Oper} {v u : Value} {E : Env} {st : Heap} {dst : Option Nat} (hs : ∀ cs b, o.op ≠ .select cs b) (h : ∀ d, dst = some d → d ∉ o.looksAt ops) (hy : Yld P W0 ops o v E st) : Yld P W0 ops o v (E.put dst u) st := by
  rcases hy with ⟨hw, hy⟩ | ⟨hw, rfl⟩
  · exact .inl ⟨by rw [wantedE_put o dst u h]; exact hw, fun st' K' Kp' hl hk => by rw [opX_put hs dst u h]; exact hy st' K' Kp' hl hk⟩
  · exact .inr ⟨by rw [wantedE_put o dst u h]; exact hw, rfl⟩
/-- i, which only looks, may be done ahead of j. -/
def compat (P : Program) (ops : Array Oper) (x y : Oper) : Bool := x.apart ops y && Nat.ble (clsR P y.op) 3 && (clsR P x.op == 0 || (clsR P x.op == 1 && Nat.ble (clsR P y.op) 2))
theorem iop_swap {j : Nat} {oi oj : Oper} {v : Value} {K : Env → Heap → Prop} {Kp : PPost} {E : Env} {st : Heap} (hj : ops[j]? = some oj) (hc : compat P ops oi oj = true) (hsi : ∀ cs b, oi.op ≠ .select cs b) (hy : Yld P W0 ops oi v E st)
    (h : IOp P W0 ops Kp j K (E.put oi.dst v) st) : IOp P W0 ops Kp j (fun E' st' => K (E'.put oi.dst v) st' ∧ Yld P W0 ops oi v E' st') E st := by
  unfold compat at hc
  simp only [Bool.and_eq_true, Bool.or_eq_true, Nat.ble_eq, beq_iff_eq] at hc
  obtain ⟨⟨hap, h3⟩, hcl⟩ := hc
  obtain ⟨h1, h2, h4⟩ := Oper.apart_spec hap
  unfold IOp at *
  rw [hj] at h ⊢
  simp only at h ⊢
  rw [wantedE_put oj oi.dst v h1] at h
  cases hw : wantedE ops oj E with
  | true =>
    rw [hw] at h
    simp only [cond_true] at h ⊢
    rw [opX_put (clsR_select h3) oi.dst v h1] at h
    refine opX_mono h3 (fun u st' hl hk => ⟨?_, ?_⟩) (fun _ _ => id) h
    · rw [← put_comm E v u h2]; exact hk
    · refine (hy.le ?_).put hsi h4
      rcases hcl with hcl | hcl
      · exact .inl hcl
      · exact .inr (hl hcl.2)
  | false =>
    rw [hw] at h
    simp only [cond_false] at h ⊢
    exact ⟨by rw [← put_comm E v undef h2]; exact h, hy.put hsi h4⟩
theorem IAny_first {i : Nat} {oi : Oper} {v : Value} {Kp : PPost} {D : Nat → Bool} (hi : ops[i]? = some oi) (hsi : ∀ cs b, oi.op ≠ .select cs b) (hcls : ∀ (j : Nat) (oj : Oper), ops[j]? = some oj → clsR P oj.op ≤ 3)
    (hD : ∀ (j : Nat) (oj : Oper), ops[j]? = some oj → D j = true → ∃ e ∈ oj.after, Region.binds .any e = true ∧ (e.on = i ∨ D e.on = true)) :
    ∀ (fuel : Nat) (listed : Array Bool) (E : Env) (st : Heap), (∀ j, D j = true → listed.getD j false = false) →
      (∀ (j : Nat) (oj : Oper), ops[j]? = some oj → j ≠ i → listed.getD j true = false → D j = false → compat P ops oi oj = true) →
      i ∈ Region.ready .any ops listed → Yld P W0 ops oi v E st →
      IAny P W0 ops Q Kp fuel (listed.setIfInBounds i true) (E.put oi.dst v) st → IAny P W0 ops Q Kp (fuel + 1) listed E st := by
  have hDr : ∀ (listed : Array Bool) (j : Nat), (∀ j, D j = true → listed.getD j false = false) → i ∈ Region.ready .any ops listed → j ∈ Region.ready .any ops listed → D j = false := by
    intro listed j hL hr hj
    cases hd : D j with
    | false => rfl
    | true =>
      obtain ⟨hjun, oj, hoj, hall⟩ := mem_ready.1 hj
      obtain ⟨e, he, hb, hon⟩ := hD j oj hoj hd
      have h1 := hall e he hb
      rcases hon with hon | hon
      · have h0 := (mem_ready.1 hr).1
        rw [hon] at h1
        rcases Nat.lt_or_ge i listed.size with h' | h'
        · simp [h'] at h0 h1; rw [h0] at h1; cases h1
        · simp [Array.getElem?_eq_none h'] at h1
      · rw [hL _ hon] at h1; cases h1
  intro fuel
  induction fuel with
  | zero =>
    intro listed E st _ _ hr hy H
    refine ⟨fun h => (by rw [h] at hr; cases hr), fun j hj => ?_⟩
    by_cases hji : j = i
    · subst hji; exact hy.iop hi H
    · have := ready_mono hj hji
      rw [H.1] at this
      cases this
  | succ fuel ih =>
    intro listed E st hL hfree hr hy H
    refine ⟨fun h => (by rw [h] at hr; cases hr), fun j hj => ?_⟩
    by_cases hji : j = i
    · subst hji; exact hy.iop hi H
    · have h1 := H.2 j (ready_mono hj hji)
      obtain ⟨hjun, oj, hoj, hall⟩ := mem_ready.1 hj
      have hDj := hDr listed j hL hr hj
      have h2 := iop_swap hoj (hfree j oj hoj hji hjun hDj) hsi hy h1
      refine IOp_mono (fun o ho => hcls j o ho) (fun E' st' h3 => ih (listed.setIfInBounds j true) E' st' ?_ ?_ (ready_mono hr (Ne.symm hji)) h3.2 ?_) h2
      · intro k hk
        by_cases hjk : j = k
        · subst hjk; rw [hDj] at hk; cases hk
        · rw [getD_set_ne false hjk]; exact hL k hk
      · intro k ok hk hki hun hno
        refine hfree k ok hk hki ?_ hno
        by_cases hjk : j = k
        · subst hjk; exact hjun
        · rw [getD_set_ne true hjk] at hun; exact hun
      · rw [Array.setIfInBounds_comm _ _ hji]
        exact h3.1
/-- Those that come behind i by what binds them. -/
def behind (ops : Array Oper) (i : Nat) : Nat → List Nat
  | 0 => []
  | n + 1 =>
    let l := behind ops i n
    match ops[n]? with
    | some o => if o.after.any (fun e => Region.binds .any e && (e.on == i || l.contains e.on)) then n :: l else l
    | none => l
theorem behind_spec (ops : Array Oper) (i : Nat) : ∀ n j oj, ops[j]? = some oj → j ∈ behind ops i n → ∃ e ∈ oj.after, Region.binds .any e = true ∧ (e.on = i ∨ e.on ∈ behind ops i n)
  | 0, j, oj, _, h => by cases h
  | n + 1, j, oj, ho, h => by
    have hup : ∀ x, x ∈ behind ops i n → x ∈ behind ops i (n + 1) := by
      intro x hx
      unfold behind
      simp only
      split
      · split
        · exact List.mem_cons_of_mem _ hx
        · exact hx
      · exact hx
    have hold : j ∈ behind ops i n → ∃ e ∈ oj.after, Region.binds .any e = true ∧ (e.on = i ∨ e.on ∈ behind ops i (n + 1)) := fun h => by
      obtain ⟨e, h1, h2, h3⟩ := behind_spec ops i n j oj ho h
      exact ⟨e, h1, h2, h3.imp id (hup _)⟩
    unfold behind at h
    simp only at h
    split at h
    · rename_i o hn
      split at h
      · rename_i hany
        rcases List.mem_cons.1 h with rfl | h
        · rw [ho] at hn; injection hn with hn; subst hn
          obtain ⟨e, he, hb⟩ := Array.any_eq_true'.1 hany
          simp only [Bool.and_eq_true, Bool.or_eq_true, beq_iff_eq, List.contains_iff_mem] at hb
          exact ⟨e, he, hb.1, hb.2.imp id (hup _)⟩
        · exact hold h
      · exact hold h
    · exact hold h
/-- May i be done first? -/
def firstOK (P : Program) (ops : Array Oper) (listed : Array Bool) (i : Nat) : Bool :=
  match ops[i]? with
  | none => false
  | some oi =>
    let D := behind ops i ops.size
    (Region.ready .any ops listed).contains i && D.all (fun j => !listed.getD j false) && Nat.ble (clsR P oi.op) 3 &&
    (List.range ops.size).all fun j => j == i || listed.getD j true || D.contains j || match ops[j]? with | some oj => compat P ops oi oj | none => true
def orderOK (P : Program) (ops : Array Oper) : Array Bool → List Nat → Bool
  | listed, [] => (Region.ready .any ops listed).isEmpty
  | listed, i :: rest => firstOK P ops listed i && orderOK P ops (listed.setIfInBounds i true) rest
def IOrd (P : Program) (W0 : World) (ops : Array Oper) (Q : IPost) (Kp : PPost) : List Nat → Env → Heap → Prop
  | [], E, st => Q .normal E st
  | i :: rest, E, st => IOp P W0 ops Kp i (IOrd P W0 ops Q Kp rest) E st
theorem IAny_done {Kp : PPost} {listed : Array Bool} (hr : Region.ready .any ops listed = []) (h : Q .normal E st) : ∀ fuel, IAny P W0 ops Q Kp fuel listed E st
  | 0 => ⟨hr, h⟩
  | _ + 1 => ⟨fun _ => h, by rw [hr]; simp⟩
theorem IAny_order {Kp : PPost} (hcls : ∀ (j : Nat) (oj : Oper), ops[j]? = some oj → clsR P oj.op ≤ 3) : ∀ (l : List Nat) (fuel : Nat) (listed : Array Bool) (E : Env) (st : Heap), orderOK P ops listed l = true → l.length ≤ fuel → IOrd P W0 ops Q Kp l E st → IAny P W0 ops Q Kp fuel listed E st
  | [], fuel, listed, E, st, hok, _, h => IAny_done (by simpa [orderOK] using hok) h fuel
  | i :: l, 0, listed, E, st, _, hl, _ => by simp at hl
  | i :: l, fuel + 1, listed, E, st, hok, hl, h => by
    unfold orderOK at hok
    rw [Bool.and_eq_true] at hok
    obtain ⟨hf, hok⟩ := hok
    have hl' : l.length ≤ fuel := by simpa using hl
    have h' : IOp P W0 ops Kp i (IAny P W0 ops Q Kp fuel (listed.setIfInBounds i true)) E st := IOp_mono (fun o ho => hcls i o ho) (fun E' st' h => IAny_order hcls l fuel _ E' st' hok hl' h) h
    unfold firstOK at hf
    split at hf
    · cases hf
    · rename_i oi hi
      simp only [Bool.and_eq_true, List.all_eq_true, List.mem_range, Bool.or_eq_true, beq_iff_eq, List.contains_iff_mem, Bool.not_eq_true', Nat.ble_eq] at hf
      obtain ⟨⟨⟨hready, hDl⟩, hci⟩, hall⟩ := hf
      have hsole : ∀ j ∈ Region.ready .any ops listed, j ∉ behind ops i ops.size := by
        intro j hj hb
        obtain ⟨hjun, oj, hoj, hal⟩ := mem_ready.1 hj
        obtain ⟨e, he, hbd, hon⟩ := behind_spec ops i ops.size j oj hoj hb
        have h1 := hal e he hbd
        rcases hon with hon | hon
        · have h0 := (mem_ready.1 hready).1
          rw [hon] at h1
          rcases Nat.lt_or_ge i listed.size with hx | hx
          · simp [hx] at h0 h1; rw [h0] at h1; cases h1
          · simp [Array.getElem?_eq_none hx] at h1
        · rw [hDl _ hon] at h1; cases h1
      by_cases hc1 : clsR P oi.op ≤ 1
      · obtain ⟨v, hy, hk⟩ := Yld.of_IOp hi hc1 h'
        refine IAny_first (D := fun j => (behind ops i ops.size).contains j) hi (clsR_select hci) hcls ?_ fuel listed E st ?_ ?_ hready hy hk
        · intro j oj hoj hd
          obtain ⟨e, h1, h2, h3⟩ := behind_spec ops i ops.size j oj hoj (by simpa using hd)
          exact ⟨e, h1, h2, h3.imp id (fun h => by simpa using h)⟩
        · intro j hd; exact hDl j (by simpa using hd)
        · intro j oj hoj hne hun hd
          have h1 := hall j (Array.getElem?_eq_some_iff.1 hoj).1
          simp only [hoj, hne, false_or, hun, Bool.false_eq_true] at h1
          rcases h1 with h1 | h1
          · simp [h1] at hd
          · exact h1
      · have honly : ∀ j ∈ Region.ready .any ops listed, j = i := by
          intro j hj
          obtain ⟨hjun, oj, hoj, hal⟩ := mem_ready.1 hj
          have h1 := hall j (Array.getElem?_eq_some_iff.1 hoj).1
          simp only [hoj, hjun, Bool.false_eq_true, or_false] at h1
          rcases h1 with (h1 | h1) | h1
          · exact h1
          · exact absurd h1 (hsole j hj)
          · exfalso
            unfold compat at h1
            simp only [Bool.and_eq_true, Bool.or_eq_true, beq_iff_eq] at h1
            omega
        refine ⟨fun h0 => (by rw [h0] at hready; cases hready), fun j hj => ?_⟩
        rw [honly j hj]
        exact h'
end
end Go.Proofs.YtadgciaclhjjkaaGreat
