/- Abstract heaps, what a world holds of one, and weakest conditions of the model's own operations over an abstract heap. Plain definitions and theorems, over any program. -/
import Derived.WalkKit
set_option linter.unusedVariables false
set_option linter.unusedSimpArgs false
namespace Go.Proofs.YtflbapmjdfnhhaaGreat
open Go.RowKit (Below)

/-! ### Abstract heaps -/
/-- A mark of who owns a block: no one (its type), or a part of something. -/
inductive Tg where
  | ty (t : Nat)
  | own (f x r : Nat)
instance : Coe Nat Tg := ⟨.ty⟩
inductive HObj where
  | cells (rw : Bool) (xs : List Value) (n : Nat) (e : Tg)
  | map (g : Tg) (es : List (Value × Value))
  | other (o : Obj)

abbrev Heap := Nat → Option HObj

structure MapAt (ents : Array MapEntry) (clock : Nat) (es : List (Value × Value)) : Prop where
  kv : ents.toList.map (fun x => (x.key, x.val)) = es
  inc : (ents.toList.map (fun x => x.born)).Pairwise (· < ·)
  lt : ∀ x ∈ ents.toList, x.born < clock

def HObj.at (n0 : Nat) (w : World) (b : Nat) : HObj → Prop
  | .cells rw xs n _ => ∃ cs e fr, w.heap[b]? = some (.cells cs e fr) ∧ cs.size = n ∧ xs <+: cs.toList ∧ (rw = true → n0 ≤ b ∧ (fr.1 = fr.2 ∨ n ≤ fr.1))
  | .map _ es => n0 ≤ b ∧ ∃ ents clock, w.heap[b]? = some (.map ents clock) ∧ MapAt ents clock es
  | .other o => n0 ≤ b ∧ w.heap[b]? = some o ∧ (∀ c e f, o ≠ .cells c e f)

structure Sim (W0 : World) (st : Heap) (w : World) : Prop where
  below : Below W0.heap.size W0 w
  objs : ∀ b o, st b = some o → o.at W0.heap.size w b

def upd (st : Heap) (b : Nat) (o : HObj) : Heap := fun k => if k = b then some o else st k

theorem upd_same (st : Heap) (b : Nat) (o : HObj) : upd st b o b = some o := by simp [upd]
theorem upd_ne (st : Heap) {b k : Nat} (o : HObj) (h : k ≠ b) : upd st b o k = st k := by simp [upd, h]
theorem HObj.at_block {n0 : Nat} {w w' : World} {b : Nat} {o : HObj} (hb : w'.heap[b]? = w.heap[b]?) (h : o.at n0 w b) : o.at n0 w' b := by
  cases o with
  | cells rw xs n e => obtain ⟨cs, ee, fr, h1, h2⟩ := h; exact ⟨cs, ee, fr, hb.trans h1, h2⟩
  | map g es => obtain ⟨h0, ents, clock, h1, h2⟩ := h; exact ⟨h0, ents, clock, hb.trans h1, h2⟩
  | other o => obtain ⟨h0, h1, h2⟩ := h; exact ⟨h0, hb.trans h1, h2⟩

theorem HObj.lt {n0 : Nat} {w : World} {b : Nat} {o : HObj} (h : o.at n0 w b) : b < w.heap.size := by
  rcases Nat.lt_or_ge b w.heap.size with h' | h'
  · exact h'
  · have hn : w.heap[b]? = none := Array.getElem?_eq_none h'
    cases o with
    | cells rw xs n e => obtain ⟨cs, ee, fr, h1, _⟩ := h; rw [hn] at h1; cases h1
    | map g es => obtain ⟨_, ents, clock, h1, _⟩ := h; rw [hn] at h1; cases h1
    | other o => obtain ⟨_, h1, _⟩ := h; rw [hn] at h1; cases h1

theorem Sim.lt {W0 w : World} {st : Heap} (h : Sim W0 st w) {b : Nat} {o : HObj} (hb : st b = some o) : b < w.heap.size := HObj.lt (h.objs b o hb)
theorem Sim.fresh {W0 w : World} {st : Heap} (h : Sim W0 st w) : st w.heap.size = none := by
  cases hb : st w.heap.size with
  | none => rfl
  | some o => exact absurd (h.lt hb) (Nat.lt_irrefl _)

/-- Objects known no better than 'o'. -/
inductive HObj.Le : HObj → HObj → Prop
  | refl (o : HObj) : HObj.Le o o
  | cells {rw rw' : Bool} {xs ys : List Value} {n : Nat} {e e' : Tg} (hp : xs <+: ys) (hr : rw = true → rw' = true) : HObj.Le (.cells rw xs n e) (.cells rw' ys n e')
  | map {g g' : Tg} (es : List (Value × Value)) : HObj.Le (.map g es) (.map g' es)
theorem HObj.Le.at {n0 : Nat} {w : World} {b : Nat} {o o' : HObj} (hle : HObj.Le o o') (h : o'.at n0 w b) : o.at n0 w b := by
  cases hle with
  | refl => exact h
  | map es => exact h
  | cells hp hr => obtain ⟨cs, ee, fr, h1, h2, h3, h4⟩ := h; exact ⟨cs, ee, fr, h1, h2, hp.trans h3, fun hrw => h4 (hr hrw)⟩
/-- Less is known. -/
def Heap.Le (st st' : Heap) : Prop := ∀ b o, st b = some o → ∃ o', st' b = some o' ∧ HObj.Le o o'
theorem Sim.weaken {W0 w : World} {st st' : Heap} (h : Sim W0 st' w) (hle : Heap.Le st st') : Sim W0 st w :=
  ⟨h.below, fun b o hb => by obtain ⟨o', h1, h2⟩ := hle b o hb; exact h2.at (h.objs b o' h1)⟩

/-! ### Cells -/
def lk (st : Heap) (a : Addr) : Option Value :=
  match a.spot with
  | some _ => none
  | none => match st a.block with
    | some (.cells _ xs _ _) => xs[a.off]?
    | _ => none

theorem Sim.cell {W0 w : World} {st : Heap} (h : Sim W0 st w) {a : Addr} {v : Value} (hl : lk st a = some v) : w.cell? a = some v := by
  unfold lk at hl
  split at hl
  · cases hl
  · rename_i hs
    split at hl
    · rename_i rw xs n e hb
      obtain ⟨cs, ee, fr, h1, h2, ⟨t, ht⟩, h4⟩ := h.objs _ _ hb
      simp only [World.cell?, h1, hs, Option.isSome_none, Bool.false_eq_true, if_false]
      rw [← Array.getElem?_toList, ← ht, List.getElem?_append_left]
      · exact hl
      · exact (List.getElem?_eq_some_iff.1 hl).1
    · cases hl

/-- The heap behind a store of one cell: inside what is known, or right behind it. -/
def putCell (xs : List Value) (i : Nat) (v : Value) : List Value := if i < xs.length then xs.set i v else xs ++ [v]

theorem putCell_prefix {xs l : List Value} {i : Nat} (v : Value) (hp : xs <+: l) (hi : i ≤ xs.length) (hl : i < l.length) : putCell xs i v <+: l.set i v := by
  obtain ⟨t, rfl⟩ := hp
  unfold putCell
  split
  · rename_i h
    rw [List.set_append_left _ _ h]
    exact List.prefix_append _ _
  · rename_i h
    have : i = xs.length := by omega
    subst this
    rw [List.set_append_right _ _ (Nat.le_refl _)]
    cases t with
    | nil => simp at hl
    | cons y t => exact ⟨t, by simp⟩

theorem Sim.setCell {W0 w : World} {st : Heap} (h : Sim W0 st w) {b i : Nat} {xs : List Value} {n : Nat} {e : Tg} (hb : st b = some (.cells true xs n e)) (hi : i ≤ xs.length) (hn : i < n) (v : Value) :
    Sim W0 (upd st b (.cells true (putCell xs i v) n e)) (w.setCell ⟨b, i, none⟩ v) ∧ (∃ u, w.cell? ⟨b, i, none⟩ = some u) ∧ w.frozen? ⟨b, i, none⟩ = false := by
  obtain ⟨cs, ee, fr, h1, h2, h3, h4⟩ := h.objs _ _ hb
  obtain ⟨h0, hf⟩ := h4 rfl
  have hic : i < cs.size := by omega
  refine ⟨⟨h.below.setCell h0 v, ?_⟩, ⟨cs[i], by simp [World.cell?, h1, hic]⟩, ?_⟩
  · intro k o hk
    unfold upd at hk
    split at hk
    · rename_i hkb
      subst hkb
      injection hk with hk
      subst hk
      refine ⟨cs.setIfInBounds i v, ee, fr, ?_, by simpa using h2, ?_, fun _ => ⟨h0, hf⟩⟩
      · simp [World.setCell, Array.getElem?_modify, h1]
      · have := putCell_prefix v h3 hi (by simpa using hic)
        simpa using this
    · rename_i hkb
      exact HObj.at_block (Below.heap_setCell _ _ _ _ hkb) (h.objs k o hk)
  · simp only [World.frozen?, h1]
    rcases hf with hf | hf
    · obtain ⟨lo, hi'⟩ := fr
      simp only at hf
      subst hf
      simp
    · obtain ⟨lo, hi'⟩ := fr
      simp only at hf
      have : ¬ lo ≤ i := by omega
      simp [this]

theorem Sim.alloc {W0 w : World} {st : Heap} (h : Sim W0 st w) {o : Obj} {x : HObj} (hx : x.at W0.heap.size (w.alloc o) w.heap.size) : Sim W0 (upd st w.heap.size x) (w.alloc o) := by
  refine ⟨h.below.alloc h.below.size o, ?_⟩
  intro k y hk
  unfold upd at hk
  split at hk
  · rename_i hkb
    subst hkb
    injection hk with hk
    subst hk
    exact hx
  · exact HObj.at_block (Below.heap_alloc _ _ _ (h.lt hk)) (h.objs k y hk)

theorem heap_new (w : World) (o : Obj) : (w.alloc o).heap[w.heap.size]? = some o := by
  show (w.heap.push o)[w.heap.size]? = some o
  simp
theorem Sim.alloc_cells {W0 w : World} {st : Heap} (h : Sim W0 st w) (c : Array Value) (e : TypeId) : Sim W0 (upd st w.heap.size (.cells true c.toList c.size e)) (w.alloc (.cells c e)) :=
  h.alloc ⟨c, e, (0, 0), heap_new _ _, rfl, List.prefix_rfl, fun _ => ⟨h.below.size, .inl rfl⟩⟩
theorem Sim.alloc_map {W0 w : World} {st : Heap} (h : Sim W0 st w) (clock : Nat) (g : Tg) : Sim W0 (upd st w.heap.size (.map g [])) (w.alloc (.map #[] clock)) :=
  h.alloc ⟨h.below.size, #[], clock, heap_new _ _, ⟨rfl, by simp, by simp⟩⟩
theorem Sim.alloc_other {W0 w : World} {st : Heap} (h : Sim W0 st w) (o : Obj) (ho : ∀ c e f, o ≠ .cells c e f) : Sim W0 (upd st w.heap.size (.other o)) (w.alloc o) :=
  h.alloc ⟨h.below.size, heap_new _ _, ho⟩
theorem Sim.drew {W0 w : World} {st : Heap} (h : Sim W0 st w) : Sim W0 st w.drew := ⟨h.below.drew, fun b o hb => HObj.at_block (w := w) rfl (h.objs b o hb)⟩

theorem Sim.setObj {W0 w : World} {st : Heap} (h : Sim W0 st w) {b : Nat} {x : HObj} {o : Obj} (hb : st b = some x) (hm : W0.heap.size ≤ b) (hx : ∀ w' : World, w'.heap[b]? = some o → x.at W0.heap.size w b → True)
    {y : HObj} (hy : ∀ w' : World, w'.heap[b]? = some o → y.at W0.heap.size w' b) : Sim W0 (upd st b y) { w with heap := w.heap.setIfInBounds b o } := by
  have hlt := h.lt hb
  refine ⟨⟨h.below.os, h.below.tape, h.below.output, by simpa using h.below.size, fun k hk => ?_⟩, ?_⟩
  · have : b ≠ k := by omega
    simp only [Array.getElem?_setIfInBounds, this, if_false]
    exact h.below.block k hk
  · intro k z hk
    unfold upd at hk
    split at hk
    · rename_i hkb
      subst hkb
      injection hk with hk
      subst hk
      exact hy _ (by simp [hlt])
    · rename_i hkb
      exact HObj.at_block (by simp [Array.getElem?_setIfInBounds, Ne.symm hkb]) (h.objs k z hk)

/-- Marks behind a row's cells (a text's bytes made into a slice). -/
theorem Sim.freeze {W0 w : World} {st : Heap} (h : Sim W0 st w) {b i m : Nat} {rw : Bool} {xs : List Value} {n : Nat} {e : Tg} (hb : st b = some (.cells rw xs n e)) (hr : rw = true) (hi : n ≤ i) (sp : Option Nat) : Sim W0 st (w.freeze ⟨b, i, sp⟩ m) := by
  subst hr
  unfold World.freeze
  split
  · exact h
  · obtain ⟨cs, ee, fr, h1, h2, h3, h4⟩ := h.objs _ _ hb
    obtain ⟨h0, hf⟩ := h4 rfl
    have hlt := h.lt hb
    refine ⟨⟨h.below.os, h.below.tape, h.below.output, by simpa using h.below.size, fun k hk => ?_⟩, ?_⟩
    · simp only [Array.getElem?_modify]
      rw [if_neg (by omega)]
      exact h.below.block k hk
    · intro k z hk
      by_cases hkb : b = k
      · subst hkb
        rw [hb] at hk
        injection hk with hk
        subst hk
        obtain ⟨lo, hi'⟩ := fr
        refine ⟨cs, ee, if lo == hi' then (i, i + m) else (min lo i, max hi' (i + m)), ?_, h2, h3, fun _ => ⟨h0, ?_⟩⟩
        · simp [Array.getElem?_modify, h1]
        · split
          · exact .inr hi
          · rename_i hne
            rcases hf with hf | hf
            · simp only at hf
              simp [hf] at hne
            · simp only at hf
              right
              simp only
              omega
      · exact HObj.at_block (by simp [Array.getElem?_modify, hkb]) (h.objs k z hk)

/-! ### The weakest condition of a run -/
def wpS (P : Program) {α : Type} : Sem α → (α → Heap → Prop) → (Value → Heap → Prop) → Heap → Prop
  | .pure a, K, _, st => K a st
  | .load _ a k, K, Kp, st => ∃ v, lk st a = some v ∧ wpS P (k v) K Kp st
  | .store _ a v k, K, Kp, st => v.oneCell' = true ∧ a.spot = none ∧ ∃ xs n e, st a.block = some (.cells true xs n e) ∧ a.off ≤ xs.length ∧ a.off < n ∧ wpS P k K Kp (upd st a.block (.cells true (putCell xs a.off v) n e))
  | .new (.cells c e fr) k, K, Kp, st => fr = (0, 0) ∧ ∀ b, st b = none → ∃ xs, ∃ g : Tg, xs <+: c.toList ∧ wpS P (k b) K Kp (upd st b (.cells true xs c.size g))
  | .new (.map es c) k, K, Kp, st => es = #[] ∧ ∀ b, st b = none → ∃ g : Tg, wpS P (k b) K Kp (upd st b (.map g []))
  | .new o k, K, Kp, st => ∀ b, st b = none → wpS P (k b) K Kp (upd st b (.other o))
  | .shape r k, K, Kp, st => (∃ rw xs n e, st r = some (.cells rw xs n e) ∧ ∀ t, wpS P (k (some (t, n))) K Kp st) ∨ (∃ g es, st r = some (.map g es) ∧ wpS P (k none) K Kp st)
  | .freeze a _ k, K, Kp, st => ∃ xs n e, st a.block = some (.cells true xs n e) ∧ n ≤ a.off ∧ wpS P k K Kp st
  | .frozen a k, K, Kp, st => ∃ xs n e, st a.block = some (.cells true xs n e) ∧ a.off < n ∧ wpS P (k false) K Kp st
  | .getObj r k, K, Kp, st => (∃ g es, st r = some (.map g es) ∧ ∀ ents clock, MapAt ents clock es → wpS P (k (.map ents clock)) K Kp st) ∨ (∃ o, st r = some (.other o) ∧ wpS P (k o) K Kp st)
  | .setObj r o k, K, Kp, st => (∃ g es es' ents clock, st r = some (.map g es) ∧ o = .map ents clock ∧ MapAt ents clock es' ∧ wpS P k K Kp (upd st r (.map g es')))
      ∨ (∃ o', st r = some (.other o') ∧ (∀ c e f, o ≠ .cells c e f) ∧ wpS P k K Kp (upd st r (.other o)))
  | .choose q k, K, Kp, st => if q.forced then wpS P (k 0) K Kp st else ∀ m, wpS P (k (q.cut m)) K Kp st
  | .sys _ _, _, _, _ => False
  | .program k, K, Kp, st => wpS P (k P) K Kp st
  | .mark _ k, K, Kp, st => wpS P k K Kp st
  | .halt (.panic v), _, Kp, st => Kp v st
  | .halt _, _, _, _ => False

/-- A run that ends as it may. -/
def Ran (W0 : World) {α : Type} (K : α → Heap → Prop) (Kp : Value → Heap → Prop) : Result α → Prop
  | .ok a w => ∃ st, Sim W0 st w ∧ K a st
  | .halt (.panic v) w => ∃ st, Sim W0 st w ∧ Kp v st
  | .halt _ _ => False

theorem wpS_sound {P : Program} {W0 : World} {α : Type} (s : Sem α) : ∀ {K : α → Heap → Prop} {Kp : Value → Heap → Prop} {st : Heap} {w : World}, wpS P s K Kp st → Sim W0 st w → Ran W0 K Kp (s.run P w) := by
  induction s with
  | pure a => exact fun h hs => ⟨_, hs, h⟩
  | load m a k ih =>
    intro K Kp st w h hs
    obtain ⟨v, hl, h⟩ := h
    simp only [Sem.run, hs.cell hl]
    exact ih v h hs
  | store m a v k ih =>
    intro K Kp st w h hs
    obtain ⟨h1, hsp, xs, n, e, hb, hi, hn, h⟩ := h
    obtain ⟨b, i, sp⟩ := a
    simp only at hsp hb hi hn
    subst hsp
    obtain ⟨hs', ⟨u, hu⟩, hf⟩ := hs.setCell hb hi hn v
    have hr : (Sem.store m ⟨b, i, none⟩ v k).run P w = k.run P (w.setCell ⟨b, i, none⟩ v) := by
      cases v <;> first
        | (simp [Value.oneCell'] at h1; done)
        | (simp only [Sem.run, hu, hf]; rfl)
    rw [hr]
    exact ih h hs'
  | new o k ih =>
    intro K Kp st w h hs
    show Ran W0 K Kp ((k w.heap.size).run P (w.alloc o))
    cases o with
    | cells c e fr =>
      obtain ⟨rfl, h⟩ := h
      obtain ⟨xs, g, hx, h⟩ := h _ hs.fresh
      refine ih _ h ((hs.alloc_cells c e).weaken ?_)
      intro b o hb
      unfold upd at hb ⊢
      split at hb
      · rename_i hbb; rw [if_pos hbb]; injection hb with hb; subst hb; exact ⟨_, rfl, .cells hx (fun h => h)⟩
      · rename_i hbb; rw [if_neg hbb]; exact ⟨o, hb, .refl o⟩
    | map es c =>
      obtain ⟨rfl, h⟩ := h
      obtain ⟨g, h⟩ := h _ hs.fresh
      exact ih _ h (hs.alloc_map c g)
    | _ => exact ih _ (h _ hs.fresh) (hs.alloc_other _ (by simp))
  | shape r k ih =>
    intro K Kp st w h hs
    rcases h with ⟨rw, xs, n, e, hb, h⟩ | ⟨g, es, hb, h⟩
    · obtain ⟨cs, ee, fr, h1, h2, h3, h4⟩ := hs.objs _ _ hb
      have : w.shape? r = some (ee, n) := by simp [World.shape?, h1, h2]
      simp only [Sem.run, this]
      exact ih _ (h _) hs
    · obtain ⟨h0, ents, clock, h1, h2⟩ := hs.objs _ _ hb
      have : w.shape? r = none := by simp [World.shape?, h1]
      simp only [Sem.run, this]
      exact ih _ h hs
  | freeze a m k ih =>
    intro K Kp st w h hs
    obtain ⟨xs, n, e, hb, hi, h⟩ := h
    obtain ⟨b, i, sp⟩ := a
    exact ih h (hs.freeze hb rfl hi sp)
  | frozen a k ih =>
    intro K Kp st w h hs
    obtain ⟨xs, n, e, hb, hi, h⟩ := h
    obtain ⟨b, i, sp⟩ := a
    obtain ⟨cs, ee, ⟨lo, hi'⟩, h1, h2, h3, h4⟩ := hs.objs _ _ hb
    obtain ⟨h0, hf⟩ := h4 rfl
    have : w.frozen? ⟨b, i, sp⟩ = false := by
      simp only at hb hi h1 hf
      simp only [World.frozen?, h1]
      rcases hf with hf | hf
      · subst hf; simp
      · have : ¬ lo ≤ i := by omega
        simp [this]
    simp only [Sem.run, this]
    exact ih _ h hs
  | getObj r k ih =>
    intro K Kp st w h hs
    rcases h with ⟨g, es, hb, h⟩ | ⟨o, hb, h⟩
    · obtain ⟨h0, ents, clock, h1, h2⟩ := hs.objs _ _ hb
      simp only [Sem.run, h1]
      exact ih _ (h _ _ h2) hs
    · obtain ⟨h0, h1, h2⟩ := hs.objs _ _ hb
      have : (Sem.getObj r k).run P w = (k o).run P w := by
        cases o with
        | cells c e f => exact absurd rfl (h2 c e f)
        | _ => simp only [Sem.run, h1]
      rw [this]
      exact ih _ h hs
  | setObj r o k ih =>
    intro K Kp st w h hs
    rcases h with ⟨g, es, es', ents, clock, hb, rfl, hm, h⟩ | ⟨o', hb, ho, h⟩
    · obtain ⟨h0, ents0, clock0, h1, h2⟩ := hs.objs _ _ hb
      simp only [Sem.run, h1]
      exact ih h (hs.setObj hb h0 (fun _ _ _ => trivial) (fun w' hw' => ⟨h0, ents, clock, hw', hm⟩))
    · obtain ⟨h0, h1, h2⟩ := hs.objs _ _ hb
      have : (Sem.setObj r o k).run P w = k.run P { w with heap := w.heap.setIfInBounds r o } := by
        cases o' with
        | cells c e f => exact absurd rfl (h2 c e f)
        | _ => simp only [Sem.run, h1]
      rw [this]
      exact ih h (hs.setObj hb h0 (fun _ _ _ => trivial) (fun w' hw' => ⟨h0, hw', ho⟩))
  | choose q k ih =>
    intro K Kp st w h hs
    unfold wpS at h
    simp only [Sem.run]
    split at h
    · rename_i hq
      rw [if_pos hq]
      exact ih _ h hs
    · rename_i hq
      rw [if_neg hq]
      exact ih _ (h _) hs.drew
  | sys c k ih => exact fun h _ => h.elim
  | program k ih => exact fun h hs => ih _ h hs
  | mark m k ih => exact fun h hs => ih h hs
  | halt x =>
    intro K Kp st w h hs
    cases x with
    | panic v => exact ⟨_, hs, h⟩
    | _ => exact h.elim

theorem wpS_mono {P : Program} {α : Type} (s : Sem α) : ∀ {K K' : α → Heap → Prop} {Kp Kp' : Value → Heap → Prop} {st : Heap}, (∀ a st, K a st → K' a st) → (∀ v st, Kp v st → Kp' v st) → wpS P s K Kp st → wpS P s K' Kp' st := by
  induction s with
  | pure a => exact fun hk _ h => hk _ _ h
  | load m a k ih => exact fun hk hp ⟨v, hl, h⟩ => ⟨v, hl, ih v hk hp h⟩
  | store m a v k ih => exact fun hk hp ⟨h1, h2, xs, n, e, hb, hi, hn, h⟩ => ⟨h1, h2, xs, n, e, hb, hi, hn, ih hk hp h⟩
  | new o k ih =>
    intro K K' Kp Kp' st hk hp h
    cases o with
    | cells c e fr => exact ⟨h.1, fun b hb => let ⟨xs, g, hx, h'⟩ := h.2 b hb; ⟨xs, g, hx, ih _ hk hp h'⟩⟩
    | map es c => exact ⟨h.1, fun b hb => let ⟨g, h'⟩ := h.2 b hb; ⟨g, ih _ hk hp h'⟩⟩
    | _ => exact fun b hb => ih _ hk hp (h b hb)
  | shape r k ih =>
    intro K K' Kp Kp' st hk hp h
    rcases h with ⟨rw, xs, n, e, hb, h⟩ | ⟨g, es, hb, h⟩
    · exact .inl ⟨rw, xs, n, e, hb, fun t => ih _ hk hp (h t)⟩
    · exact .inr ⟨g, es, hb, ih _ hk hp h⟩
  | freeze a m k ih => exact fun hk hp ⟨xs, n, e, hb, hi, h⟩ => ⟨xs, n, e, hb, hi, ih hk hp h⟩
  | frozen a k ih => exact fun hk hp ⟨xs, n, e, hb, hi, h⟩ => ⟨xs, n, e, hb, hi, ih _ hk hp h⟩
  | getObj r k ih =>
    intro K K' Kp Kp' st hk hp h
    rcases h with ⟨g, es, hb, h⟩ | ⟨o, hb, h⟩
    · exact .inl ⟨g, es, hb, fun _ _ hm => ih _ hk hp (h _ _ hm)⟩
    · exact .inr ⟨o, hb, ih _ hk hp h⟩
  | setObj r o k ih =>
    intro K K' Kp Kp' st hk hp h
    rcases h with ⟨g, es, es', ents, clock, hb, ho, hm, h⟩ | ⟨o', hb, ho, h⟩
    · exact .inl ⟨g, es, es', ents, clock, hb, ho, hm, ih hk hp h⟩
    · exact .inr ⟨o', hb, ho, ih hk hp h⟩
  | choose q k ih =>
    intro K K' Kp Kp' st hk hp h
    unfold wpS at h ⊢
    split at h
    · rename_i hq; rw [if_pos hq]; exact ih _ hk hp h
    · rename_i hq; rw [if_neg hq]; exact fun m => ih _ hk hp (h m)
  | sys c k ih => exact fun _ _ h => h.elim
  | program k ih => exact fun hk hp h => ih _ hk hp h
  | mark m k ih => exact fun hk hp h => ih hk hp h
  | halt x =>
    intro K K' Kp Kp' st hk hp h
    cases x with
    | panic v => exact hp _ _ h
    | _ => exact h.elim

/-! How it goes through binds: as equations. -/
theorem wpS_bind' {P : Program} {α β : Type} (x : Sem α) (f : α → Sem β) : ∀ (K : β → Heap → Prop) (Kp : Value → Heap → Prop) (st : Heap),
    wpS P (x.bind f) K Kp st = wpS P x (fun a st => wpS P (f a) K Kp st) Kp st := by
  induction x with
  | new o k ih =>
    intro K Kp st
    cases o <;> simp only [Sem.bind, wpS, ih]
  | halt h => intro K Kp st; cases h <;> simp only [Sem.bind, wpS]
  | _ => first
    | (rename_i ih; intro K Kp st; simp only [Sem.bind, wpS, ih])
    | (intro K Kp st; simp only [Sem.bind, wpS])
section
variable {P : Program} {α β : Type} (K : α → Heap → Prop) (Kp : Value → Heap → Prop) (st : Heap)
theorem wpS_bind (x : Sem β) (f : β → Sem α) : wpS P (x >>= f) K Kp st = wpS P x (fun a st => wpS P (f a) K Kp st) Kp st := wpS_bind' x f K Kp st
theorem wpS_map (x : Sem β) (f : β → α) : wpS P (f <$> x) K Kp st = wpS P x (fun a st => K (f a) st) Kp st := wpS_bind' x _ K Kp st
theorem wpS_pure (a : α) : wpS P (Pure.pure a : Sem α) K Kp st = K a st := rfl
theorem wpS_pure' (a : α) : wpS P (Sem.pure a : Sem α) K Kp st = K a st := rfl
theorem wpS_choose (q : Question) (K : Nat → Heap → Prop) : wpS P (choose q) K Kp st = (if q.forced then K 0 st else ∀ m, K (q.cut m) st) := rfl
end
end Go.Proofs.YtflbapmjdfnhhaaGreat
