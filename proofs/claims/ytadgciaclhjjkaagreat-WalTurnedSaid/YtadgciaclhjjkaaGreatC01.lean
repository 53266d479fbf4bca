/- Abstract heaps, what a world holds of one, and weakest conditions of the model's own operations over an abstract heap. Plain definitions and theorems, over any program. -/
import Derived.WalkKit
import Derived.Orders
import Derived.RangeFuncLeaves
import Derived.OrdersIn
import Derived.Laws.Append
set_option linter.unusedVariables false
set_option linter.unusedSimpArgs false
namespace Go.Proofs.YtadgciaclhjjkaaGreat
open Go.RowKit (Below)

/-! ### Abstract heaps -/
/-- A mark of who owns a block: no one (its type), or a part of something. -/
inductive Tg where
  | ty (t : Nat)
  | own (f x r : Nat)
instance : Coe Nat Tg := ⟨.ty⟩
inductive HObj where
  | cells (rw : Bool) (xs : List Value) (n : Nat) (e : Tg)
  | map (g : Tg) (es : List (Value × Value))
  | other (o : Obj)

abbrev Heap := Nat → Option HObj

structure MapAt (ents : Array MapEntry) (clock : Nat) (es : List (Value × Value)) : Prop where
  kv : ents.toList.map (fun x => (x.key, x.val)) = es
  inc : (ents.toList.map (fun x => x.born)).Pairwise (· < ·)
  lt : ∀ x ∈ ents.toList, x.born < clock

def HObj.at (n0 : Nat) (w : World) (b : Nat) : HObj → Prop
  | .cells rw xs n _ => ∃ cs e fr, w.heap[b]? = some (.cells cs e fr) ∧ cs.size = n ∧ xs <+: cs.toList ∧ (rw = true → n0 ≤ b ∧ (fr.1 = fr.2 ∨ n ≤ fr.1))
  | .map _ es => n0 ≤ b ∧ ∃ ents clock, w.heap[b]? = some (.map ents clock) ∧ MapAt ents clock es
  | .other o => n0 ≤ b ∧ w.heap[b]? = some o ∧ (∀ c e f, o ≠ .cells c e f)

structure Sim (W0 : World) (st : Heap) (w : World) : Prop where
  below : Below W0.heap.size W0 w
  objs : ∀ b o, st b = some o → o.at W0.heap.size w b

def upd (st : Heap) (b : Nat) (o : HObj) : Heap := fun k => if k = b then some o else st k

theorem upd_same (st : Heap) (b : Nat) (o : HObj) : upd st b o b = some o := by simp [upd]
theorem upd_ne (st : Heap) {b k : Nat} (o : HObj) (h : k ≠ b) : upd st b o k = st k := by simp [upd, h]
theorem HObj.at_block {n0 : Nat} {w w' : World} {b : Nat} {o : HObj} (hb : w'.heap[b]? = w.heap[b]?) (h : o.at n0 w b) : o.at n0 w' b := by
  cases o with
  | cells rw xs n e => obtain ⟨cs, ee, fr, h1, h2⟩ := h; exact ⟨cs, ee, fr, hb.trans h1, h2⟩
  | map g es => obtain ⟨h0, ents, clock, h1, h2⟩ := h; exact ⟨h0, ents, clock, hb.trans h1, h2⟩
  | other o => obtain ⟨h0, h1, h2⟩ := h; exact ⟨h0, hb.trans h1, h2⟩

theorem HObj.lt {n0 : Nat} {w : World} {b : Nat} {o : HObj} (h : o.at n0 w b) : b < w.heap.size := by
  rcases Nat.lt_or_ge b w.heap.size with h' | h'
  · exact h'
  · have hn : w.heap[b]? = none := Array.getElem?_eq_none h'
    cases o with
    | cells rw xs n e => obtain ⟨cs, ee, fr, h1, _⟩ := h; rw [hn] at h1; cases h1
    | map g es => obtain ⟨_, ents, clock, h1, _⟩ := h; rw [hn] at h1; cases h1
    | other o => obtain ⟨_, h1, _⟩ := h; rw [hn] at h1; cases h1

theorem Sim.lt {W0 w : World} {st : Heap} (h : Sim W0 st w) {b : Nat} {o : HObj} (hb : st b = some o) : b < w.heap.size := HObj.lt (h.objs b o hb)
theorem Sim.fresh {W0 w : World} {st : Heap} (h : Sim W0 st w) : st w.heap.size = none := by
  cases hb : st w.heap.size with
  | none => rfl
  | some o => exact absurd (h.lt hb) (Nat.lt_irrefl _)

/-- Objects known no better than 'o'. -/
inductive HObj.Le : HObj → HObj → Prop
  | refl (o : HObj) : HObj.Le o o
  | cells {rw rw' : Bool} {xs ys : List Value} {n : Nat} {e e' : Tg} (hp : xs <+: ys) (hr : rw = true → rw' = true) : HObj.Le (.cells rw xs n e) (.cells rw' ys n e')
  | map {g g' : Tg} (es : List (Value × Value)) : HObj.Le (.map g es) (.map g' es)
theorem HObj.Le.at {n0 : Nat} {w : World} {b : Nat} {o o' : HObj} (hle : HObj.Le o o') (h : o'.at n0 w b) : o.at n0 w b := by
  cases hle with
  | refl => exact h
  | map es => exact h
  | cells hp hr => obtain ⟨cs, ee, fr, h1, h2, h3, h4⟩ := h; exact ⟨cs, ee, fr, h1, h2, hp.trans h3, fun hrw => h4 (hr hrw)⟩
/-- Less is known. -/
def Heap.Le (st st' : Heap) : Prop := ∀ b o, st b = some o → ∃ o', st' b = some o' ∧ HObj.Le o o'
theorem Sim.weaken {W0 w : World} {st st' : Heap} (h : Sim W0 st' w) (hle : Heap.Le st st') : Sim W0 st w :=
  ⟨h.below, fun b o hb => by obtain ⟨o', h1, h2⟩ := hle b o hb; exact h2.at (h.objs b o' h1)⟩

/-! ### Cells -/
def lk (st : Heap) (a : Addr) : Option Value :=
  match a.spot with
  | some _ => none
  | none => match st a.block with
    | some (.cells _ xs _ _) => xs[a.off]?
    | _ => none

theorem Sim.cell {W0 w : World} {st : Heap} (h : Sim W0 st w) {a : Addr} {v : Value} (hl : lk st a = some v) : w.cell? a = some v := by
  unfold lk at hl
  split at hl
  · cases hl
  · rename_i hs
    split at hl
    · rename_i rw xs n e hb
      obtain ⟨cs, ee, fr, h1, h2, ⟨t, ht⟩, h4⟩ := h.objs _ _ hb
      simp only [World.cell?, h1, hs, Option.isSome_none, Bool.false_eq_true, if_false]
      rw [← Array.getElem?_toList, ← ht, List.getElem?_append_left]
      · exact hl
      · exact (List.getElem?_eq_some_iff.1 hl).1
    · cases hl

/-- The heap behind a store of one cell: inside what is known, or right behind it. -/
def putCell (xs : List Value) (i : Nat) (v : Value) : List Value := if i < xs.length then xs.set i v else xs ++ [v]

theorem putCell_prefix {xs l : List Value} {i : Nat} (v : Value) (hp : xs <+: l) (hi : i ≤ xs.length) (hl : i < l.length) : putCell xs i v <+: l.set i v := by
  obtain ⟨t, rfl⟩ := hp
  unfold putCell
  split
  · rename_i h
    rw [List.set_append_left _ _ h]
    exact List.prefix_append _ _
  · rename_i h
    have : i = xs.length := by omega
    subst this
    rw [List.set_append_right _ _ (Nat.le_refl _)]
    cases t with
    | nil => simp at hl
    | cons y t => exact ⟨t, by simp⟩

theorem Sim.setCell {W0 w : World} {st : Heap} (h : Sim W0 st w) {b i : Nat} {xs : List Value} {n : Nat} {e : Tg} (hb : st b = some (.cells true xs n e)) (hi : i ≤ xs.length) (hn : i < n) (v : Value) :
    Sim W0 (upd st b (.cells true (putCell xs i v) n e)) (w.setCell ⟨b, i, none⟩ v) ∧ (∃ u, w.cell? ⟨b, i, none⟩ = some u) ∧ w.frozen? ⟨b, i, none⟩ = false := by
  obtain ⟨cs, ee, fr, h1, h2, h3, h4⟩ := h.objs _ _ hb
  obtain ⟨h0, hf⟩ := h4 rfl
  have hic : i < cs.size := by omega
  refine ⟨⟨h.below.setCell h0 v, ?_⟩, ⟨cs[i], by simp [World.cell?, h1, hic]⟩, ?_⟩
  · intro k o hk
    unfold upd at hk
    split at hk
    · rename_i hkb
      subst hkb
      injection hk with hk
      subst hk
      refine ⟨cs.setIfInBounds i v, ee, fr, ?_, by simpa using h2, ?_, fun _ => ⟨h0, hf⟩⟩
      · simp [World.setCell, Array.getElem?_modify, h1]
      · have := putCell_prefix v h3 hi (by simpa using hic)
        simpa using this
    · rename_i hkb
      exact HObj.at_block (Below.heap_setCell _ _ _ _ hkb) (h.objs k o hk)
  · simp only [World.frozen?, h1]
    rcases hf with hf | hf
    · obtain ⟨lo, hi'⟩ := fr
      simp only at hf
      subst hf
      simp
    · obtain ⟨lo, hi'⟩ := fr
      simp only at hf
      have : ¬ lo ≤ i := by omega
      simp [this]

theorem Sim.alloc {W0 w : World} {st : Heap} (h : Sim W0 st w) {o : Obj} {x : HObj} (hx : x.at W0.heap.size (w.alloc o) w.heap.size) : Sim W0 (upd st w.heap.size x) (w.alloc o) := by
  refine ⟨h.below.alloc h.below.size o, ?_⟩
  intro k y hk
  unfold upd at hk
  split at hk
  · rename_i hkb
    subst hkb
    injection hk with hk
    subst hk
    exact hx
  · exact HObj.at_block (Below.heap_alloc _ _ _ (h.lt hk)) (h.objs k y hk)

theorem heap_new (w : World) (o : Obj) : (w.alloc o).heap[w.heap.size]? = some o := by
  show (w.heap.push o)[w.heap.size]? = some o
  simp
theorem Sim.alloc_cells {W0 w : World} {st : Heap} (h : Sim W0 st w) (c : Array Value) (e : TypeId) : Sim W0 (upd st w.heap.size (.cells true c.toList c.size e)) (w.alloc (.cells c e)) :=
  h.alloc ⟨c, e, (0, 0), heap_new _ _, rfl, List.prefix_rfl, fun _ => ⟨h.below.size, .inl rfl⟩⟩
theorem Sim.alloc_map {W0 w : World} {st : Heap} (h : Sim W0 st w) (clock : Nat) (g : Tg) : Sim W0 (upd st w.heap.size (.map g [])) (w.alloc (.map #[] clock)) :=
  h.alloc ⟨h.below.size, #[], clock, heap_new _ _, ⟨rfl, by simp, by simp⟩⟩
theorem Sim.alloc_other {W0 w : World} {st : Heap} (h : Sim W0 st w) (o : Obj) (ho : ∀ c e f, o ≠ .cells c e f) : Sim W0 (upd st w.heap.size (.other o)) (w.alloc o) :=
  h.alloc ⟨h.below.size, heap_new _ _, ho⟩
theorem Sim.drew {W0 w : World} {st : Heap} (h : Sim W0 st w) : Sim W0 st w.drew := ⟨h.below.drew, fun b o hb => HObj.at_block (w := w) rfl (h.objs b o hb)⟩

theorem Sim.setObj {W0 w : World} {st : Heap} (h : Sim W0 st w) {b : Nat} {x : HObj} {o : Obj} (hb : st b = some x) (hm : W0.heap.size ≤ b) (hx : ∀ w' : World, w'.heap[b]? = some o → x.at W0.heap.size w b → True)
    {y : HObj} (hy : ∀ w' : World, w'.heap[b]? = some o → y.at W0.heap.size w' b) : Sim W0 (upd st b y) { w with heap := w.heap.setIfInBounds b o } := by
  have hlt := h.lt hb
  refine ⟨⟨h.below.os, h.below.tape, h.below.output, by simpa using h.below.size, fun k hk => ?_⟩, ?_⟩
  · have : b ≠ k := by omega
    simp only [Array.getElem?_setIfInBounds, this, if_false]
    exact h.below.block k hk
  · intro k z hk
    unfold upd at hk
    split at hk
    · rename_i hkb
      subst hkb
      injection hk with hk
      subst hk
      exact hy _ (by simp [hlt])
    · rename_i hkb
      exact HObj.at_block (by simp [Array.getElem?_setIfInBounds, Ne.symm hkb]) (h.objs k z hk)

/-- Marks behind a row's cells (a text's bytes made into a slice). -/
theorem Sim.freeze {W0 w : World} {st : Heap} (h : Sim W0 st w) {b i m : Nat} {rw : Bool} {xs : List Value} {n : Nat} {e : Tg} (hb : st b = some (.cells rw xs n e)) (hr : rw = true) (hi : n ≤ i) (sp : Option Nat) : Sim W0 st (w.freeze ⟨b, i, sp⟩ m) := by
  subst hr
  unfold World.freeze
  split
  · exact h
  · obtain ⟨cs, ee, fr, h1, h2, h3, h4⟩ := h.objs _ _ hb
    obtain ⟨h0, hf⟩ := h4 rfl
    have hlt := h.lt hb
    refine ⟨⟨h.below.os, h.below.tape, h.below.output, by simpa using h.below.size, fun k hk => ?_⟩, ?_⟩
    · simp only [Array.getElem?_modify]
      rw [if_neg (by omega)]
      exact h.below.block k hk
    · intro k z hk
      by_cases hkb : b = k
      · subst hkb
        rw [hb] at hk
        injection hk with hk
        subst hk
        obtain ⟨lo, hi'⟩ := fr
        refine ⟨cs, ee, if lo == hi' then (i, i + m) else (min lo i, max hi' (i + m)), ?_, h2, h3, fun _ => ⟨h0, ?_⟩⟩
        · simp [Array.getElem?_modify, h1]
        · split
          · exact .inr hi
          · rename_i hne
            rcases hf with hf | hf
            · simp only at hf
              simp [hf] at hne
            · simp only at hf
              right
              simp only
              omega
      · exact HObj.at_block (by simp [Array.getElem?_modify, hkb]) (h.objs k z hk)

/-! ### The weakest condition of a run -/
def wpS (P : Program) {α : Type} : Sem α → (α → Heap → Prop) → (Value → Heap → Prop) → Heap → Prop
  | .pure a, K, _, st => K a st
  | .load _ a k, K, Kp, st => ∃ v, lk st a = some v ∧ wpS P (k v) K Kp st
  | .store _ a v k, K, Kp, st => v.oneCell' = true ∧ a.spot = none ∧ ∃ xs n e, st a.block = some (.cells true xs n e) ∧ a.off ≤ xs.length ∧ a.off < n ∧ wpS P k K Kp (upd st a.block (.cells true (putCell xs a.off v) n e))
  | .new (.cells c e fr) k, K, Kp, st => fr = (0, 0) ∧ ∀ b, st b = none → ∃ xs, ∃ g : Tg, xs <+: c.toList ∧ wpS P (k b) K Kp (upd st b (.cells true xs c.size g))
  | .new (.map es c) k, K, Kp, st => es = #[] ∧ ∀ b, st b = none → ∃ g : Tg, wpS P (k b) K Kp (upd st b (.map g []))
  | .new o k, K, Kp, st => ∀ b, st b = none → wpS P (k b) K Kp (upd st b (.other o))
  | .shape r k, K, Kp, st => (∃ rw xs n e, st r = some (.cells rw xs n e) ∧ ∀ t, wpS P (k (some (t, n))) K Kp st) ∨ (∃ g es, st r = some (.map g es) ∧ wpS P (k none) K Kp st)
  | .freeze a _ k, K, Kp, st => ∃ xs n e, st a.block = some (.cells true xs n e) ∧ n ≤ a.off ∧ wpS P k K Kp st
  | .frozen a k, K, Kp, st => ∃ xs n e, st a.block = some (.cells true xs n e) ∧ a.off < n ∧ wpS P (k false) K Kp st
  | .getObj r k, K, Kp, st => (∃ g es, st r = some (.map g es) ∧ ∀ ents clock, MapAt ents clock es → wpS P (k (.map ents clock)) K Kp st) ∨ (∃ o, st r = some (.other o) ∧ wpS P (k o) K Kp st)
  | .setObj r o k, K, Kp, st => (∃ g es es' ents clock, st r = some (.map g es) ∧ o = .map ents clock ∧ MapAt ents clock es' ∧ wpS P k K Kp (upd st r (.map g es')))
      ∨ (∃ o', st r = some (.other o') ∧ (∀ c e f, o ≠ .cells c e f) ∧ wpS P k K Kp (upd st r (.other o)))
  | .choose q k, K, Kp, st => if q.forced then wpS P (k 0) K Kp st else ∀ m, wpS P (k (q.cut m)) K Kp st
  | .sys _ _, _, _, _ => False
  | .program k, K, Kp, st => wpS P (k P) K Kp st
  | .mark _ k, K, Kp, st => wpS P k K Kp st
  | .halt (.panic v), _, Kp, st => Kp v st
  | .halt _, _, _, _ => False

/-- A run that ends as it may. -/
def Ran (W0 : World) {α : Type} (K : α → Heap → Prop) (Kp : Value → Heap → Prop) : Result α → Prop
  | .ok a w => ∃ st, Sim W0 st w ∧ K a st
  | .halt (.panic v) w => ∃ st, Sim W0 st w ∧ Kp v st
  | .halt _ _ => False

theorem wpS_sound {P : Program} {W0 : World} {α : Type} (s : Sem α) : ∀ {K : α → Heap → Prop} {Kp : Value → Heap → Prop} {st : Heap} {w : World}, wpS P s K Kp st → Sim W0 st w → Ran W0 K Kp (s.run P w) := by
  induction s with
  | pure a => exact fun h hs => ⟨_, hs, h⟩
  | load m a k ih =>
    intro K Kp st w h hs
    obtain ⟨v, hl, h⟩ := h
    simp only [Sem.run, hs.cell hl]
    exact ih v h hs
  | store m a v k ih =>
    intro K Kp st w h hs
    obtain ⟨h1, hsp, xs, n, e, hb, hi, hn, h⟩ := h
    obtain ⟨b, i, sp⟩ := a
    simp only at hsp hb hi hn
    subst hsp
    obtain ⟨hs', ⟨u, hu⟩, hf⟩ := hs.setCell hb hi hn v
    have hr : (Sem.store m ⟨b, i, none⟩ v k).run P w = k.run P (w.setCell ⟨b, i, none⟩ v) := by
      cases v <;> first
        | (simp [Value.oneCell'] at h1; done)
        | (simp only [Sem.run, hu, hf]; rfl)
    rw [hr]
    exact ih h hs'
  | new o k ih =>
    intro K Kp st w h hs
    show Ran W0 K Kp ((k w.heap.size).run P (w.alloc o))
    cases o with
    | cells c e fr =>
      obtain ⟨rfl, h⟩ := h
      obtain ⟨xs, g, hx, h⟩ := h _ hs.fresh
      refine ih _ h ((hs.alloc_cells c e).weaken ?_)
      intro b o hb
      unfold upd at hb ⊢
      split at hb
      · rename_i hbb; rw [if_pos hbb]; injection hb with hb; subst hb; exact ⟨_, rfl, .cells hx (fun h => h)⟩
      · rename_i hbb; rw [if_neg hbb]; exact ⟨o, hb, .refl o⟩
    | map es c =>
      obtain ⟨rfl, h⟩ := h
      obtain ⟨g, h⟩ := h _ hs.fresh
      exact ih _ h (hs.alloc_map c g)
    | _ => exact ih _ (h _ hs.fresh) (hs.alloc_other _ (by simp))
  | shape r k ih =>
    intro K Kp st w h hs
    rcases h with ⟨rw, xs, n, e, hb, h⟩ | ⟨g, es, hb, h⟩
    · obtain ⟨cs, ee, fr, h1, h2, h3, h4⟩ := hs.objs _ _ hb
      have : w.shape? r = some (ee, n) := by simp [World.shape?, h1, h2]
      simp only [Sem.run, this]
      exact ih _ (h _) hs
    · obtain ⟨h0, ents, clock, h1, h2⟩ := hs.objs _ _ hb
      have : w.shape? r = none := by simp [World.shape?, h1]
      simp only [Sem.run, this]
      exact ih _ h hs
  | freeze a m k ih =>
    intro K Kp st w h hs
    obtain ⟨xs, n, e, hb, hi, h⟩ := h
    obtain ⟨b, i, sp⟩ := a
    exact ih h (hs.freeze hb rfl hi sp)
  | frozen a k ih =>
    intro K Kp st w h hs
    obtain ⟨xs, n, e, hb, hi, h⟩ := h
    obtain ⟨b, i, sp⟩ := a
    obtain ⟨cs, ee, ⟨lo, hi'⟩, h1, h2, h3, h4⟩ := hs.objs _ _ hb
    obtain ⟨h0, hf⟩ := h4 rfl
    have : w.frozen? ⟨b, i, sp⟩ = false := by
      simp only at hb hi h1 hf
      simp only [World.frozen?, h1]
      rcases hf with hf | hf
      · subst hf; simp
      · have : ¬ lo ≤ i := by omega
        simp [this]
    simp only [Sem.run, this]
    exact ih _ h hs
  | getObj r k ih =>
    intro K Kp st w h hs
    rcases h with ⟨g, es, hb, h⟩ | ⟨o, hb, h⟩
    · obtain ⟨h0, ents, clock, h1, h2⟩ := hs.objs _ _ hb
      simp only [Sem.run, h1]
      exact ih _ (h _ _ h2) hs
    · obtain ⟨h0, h1, h2⟩ := hs.objs _ _ hb
      have : (Sem.getObj r k).run P w = (k o).run P w := by
        cases o with
        | cells c e f => exact absurd rfl (h2 c e f)
        | _ => simp only [Sem.run, h1]
      rw [this]
      exact ih _ h hs
  | setObj r o k ih =>
    intro K Kp st w h hs
    rcases h with ⟨g, es, es', ents, clock, hb, rfl, hm, h⟩ | ⟨o', hb, ho, h⟩
    · obtain ⟨h0, ents0, clock0, h1, h2⟩ := hs.objs _ _ hb
      simp only [Sem.run, h1]
      exact ih h (hs.setObj hb h0 (fun _ _ _ => trivial) (fun w' hw' => ⟨h0, ents, clock, hw', hm⟩))
    · obtain ⟨h0, h1, h2⟩ := hs.objs _ _ hb
      have : (Sem.setObj r o k).run P w = k.run P { w with heap := w.heap.setIfInBounds r o } := by
        cases o' with
        | cells c e f => exact absurd rfl (h2 c e f)
        | _ => simp only [Sem.run, h1]
      rw [this]
      exact ih h (hs.setObj hb h0 (fun _ _ _ => trivial) (fun w' hw' => ⟨h0, hw', ho⟩))
  | choose q k ih =>
    intro K Kp st w h hs
    unfold wpS at h
    simp only [Sem.run]
    split at h
    · rename_i hq
      rw [if_pos hq]
      exact ih _ h hs
    · rename_i hq
      rw [if_neg hq]
      exact ih _ (h _) hs.drew
  | sys c k ih => exact fun h _ => h.elim
  | program k ih => exact fun h hs => ih _ h hs
  | mark m k ih => exact fun h hs => ih h hs
  | halt x =>
    intro K Kp st w h hs
    cases x with
    | panic v => exact ⟨_, hs, h⟩
    | _ => exact h.elim

theorem wpS_mono {P : Program} {α : Type} (s : Sem α) : ∀ {K K' : α → Heap → Prop} {Kp Kp' : Value → Heap → Prop} {st : Heap}, (∀ a st, K a st → K' a st) → (∀ v st, Kp v st → Kp' v st) → wpS P s K Kp st → wpS P s K' Kp' st := by
  induction s with
  | pure a => exact fun hk _ h => hk _ _ h
  | load m a k ih => exact fun hk hp ⟨v, hl, h⟩ => ⟨v, hl, ih v hk hp h⟩
  | store m a v k ih => exact fun hk hp ⟨h1, h2, xs, n, e, hb, hi, hn, h⟩ => ⟨h1, h2, xs, n, e, hb, hi, hn, ih hk hp h⟩
  | new o k ih =>
    intro K K' Kp Kp' st hk hp h
    cases o with
    | cells c e fr => exact ⟨h.1, fun b hb => let ⟨xs, g, hx, h'⟩ := h.2 b hb; ⟨xs, g, hx, ih _ hk hp h'⟩⟩
    | map es c => exact ⟨h.1, fun b hb => let ⟨g, h'⟩ := h.2 b hb; ⟨g, ih _ hk hp h'⟩⟩
    | _ => exact fun b hb => ih _ hk hp (h b hb)
  | shape r k ih =>
    intro K K' Kp Kp' st hk hp h
    rcases h with ⟨rw, xs, n, e, hb, h⟩ | ⟨g, es, hb, h⟩
    · exact .inl ⟨rw, xs, n, e, hb, fun t => ih _ hk hp (h t)⟩
    · exact .inr ⟨g, es, hb, ih _ hk hp h⟩
  | freeze a m k ih => exact fun hk hp ⟨xs, n, e, hb, hi, h⟩ => ⟨xs, n, e, hb, hi, ih hk hp h⟩
  | frozen a k ih => exact fun hk hp ⟨xs, n, e, hb, hi, h⟩ => ⟨xs, n, e, hb, hi, ih _ hk hp h⟩
  | getObj r k ih =>
    intro K K' Kp Kp' st hk hp h
    rcases h with ⟨g, es, hb, h⟩ | ⟨o, hb, h⟩
    · exact .inl ⟨g, es, hb, fun _ _ hm => ih _ hk hp (h _ _ hm)⟩
    · exact .inr ⟨o, hb, ih _ hk hp h⟩
  | setObj r o k ih =>
    intro K K' Kp Kp' st hk hp h
    rcases h with ⟨g, es, es', ents, clock, hb, ho, hm, h⟩ | ⟨o', hb, ho, h⟩
    · exact .inl ⟨g, es, es', ents, clock, hb, ho, hm, ih hk hp h⟩
    · exact .inr ⟨o', hb, ho, ih hk hp h⟩
  | choose q k ih =>
    intro K K' Kp Kp' st hk hp h
    unfold wpS at h ⊢
    split at h
    · rename_i hq; rw [if_pos hq]; exact ih _ hk hp h
    · rename_i hq; rw [if_neg hq]; exact fun m => ih _ hk hp (h m)
  | sys c k ih => exact fun _ _ h => h.elim
  | program k ih => exact fun hk hp h => ih _ hk hp h
  | mark m k ih => exact fun hk hp h => ih hk hp h
  | halt x =>
    intro K K' Kp Kp' st hk hp h
    cases x with
    | panic v => exact hp _ _ h
    | _ => exact h.elim

/-! How it goes through binds: as equations. -/
theorem wpS_bind' {P : Program} {α β : Type} (x : Sem α) (f : α → Sem β) : ∀ (K : β → Heap → Prop) (Kp : Value → Heap → Prop) (st : Heap),
    wpS P (x.bind f) K Kp st = wpS P x (fun a st => wpS P (f a) K Kp st) Kp st := by
  induction x with
  | new o k ih =>
    intro K Kp st
    cases o <;> simp only [Sem.bind, wpS, ih]
  | halt h => intro K Kp st; cases h <;> simp only [Sem.bind, wpS]
  | _ => first
    | (rename_i ih; intro K Kp st; simp only [Sem.bind, wpS, ih])
    | (intro K Kp st; simp only [Sem.bind, wpS])
section
variable {P : Program} {α β : Type} (K : α → Heap → Prop) (Kp : Value → Heap → Prop) (st : Heap)
theorem wpS_bind (x : Sem β) (f : β → Sem α) : wpS P (x >>= f) K Kp st = wpS P x (fun a st => wpS P (f a) K Kp st) Kp st := wpS_bind' x f K Kp st
theorem wpS_map (x : Sem β) (f : β → α) : wpS P (f <$> x) K Kp st = wpS P x (fun a st => K (f a) st) Kp st := wpS_bind' x _ K Kp st
theorem wpS_pure (a : α) : wpS P (Pure.pure a : Sem α) K Kp st = K a st := rfl
theorem wpS_pure' (a : α) : wpS P (Sem.pure a : Sem α) K Kp st = K a st := rfl
theorem wpS_choose (q : Question) (K : Nat → Heap → Prop) : wpS P (choose q) K Kp st = (if q.forced then K 0 st else ∀ m, K (q.cut m) st) := rfl
end
end Go.Proofs.YtadgciaclhjjkaaGreat
set_option linter.unusedVariables false
set_option linter.unusedSimpArgs false
namespace Go.Proofs.YtadgciaclhjjkaaGreat
open Go.RowKit (Below)

abbrev Env := Nat → Value
def Env.set (E : Env) (d : Nat) (v : Value) : Env := fun t => if t = d then v else E t
def Env.put (E : Env) (d : Option Nat) (v : Value) : Env := match d with | some d => E.set d v | none => E
def Env.ev (E : Env) : Operand → Value
  | .tmp t => E t
  | .const v => v
  | .global g => .pointer (some ⟨g, 0, none⟩)
  | .func f => .func (.func f) #[] #[]
def Env.args (l : List Value) : Env := fun t => l.getD t undef

/-- A call, over abstract heaps. -/
def ICalls (P : Program) (W0 : World) (f : FuncId) (args : Array Value) (st : Heap) (R : Ending → Heap → Prop) : Prop :=
  ∀ w, Sim W0 st w → Calls P f args w fun e w' => ∃ st', Sim W0 st' w' ∧ R e st'
theorem ICalls.mono {P : Program} {W0 : World} {f : FuncId} {args : Array Value} {st : Heap} {R R' : Ending → Heap → Prop} (h : ICalls P W0 f args st R) (hr : ∀ e st, R e st → R' e st) : ICalls P W0 f args st R' :=
  fun w hs => (h w hs).mono fun e w' ⟨st', h1, h2⟩ => ⟨st', h1, hr _ _ h2⟩
/-- A round of a range over a function, over abstract heaps. -/
def RoundI (P : Program) (W0 : World) (l : Nat) (f : FuncId) (tmps : Array Value) (assign body : Code) (st : Heap) (R : Ending → Heap → Prop) : Prop :=
  ∀ w, Sim W0 st w → RoundIn Fence.wide 0 P l f tmps assign body w fun e w' => ∃ st', Sim W0 st' w' ∧ R e st'
theorem RoundI.mono {P : Program} {W0 : World} {l : Nat} {f : FuncId} {tmps : Array Value} {assign body : Code} {st : Heap} {R R' : Ending → Heap → Prop} (h : RoundI P W0 l f tmps assign body st R) (hr : ∀ e st, R e st → R' e st) : RoundI P W0 l f tmps assign body st R' :=
  fun w hs => (h w hs).mono fun e w' ⟨st', h1, h2⟩ => ⟨st', h1, hr _ _ h2⟩

def EndI (K : Value → Heap → Prop) (Kp : List PanicEntry → Heap → Prop) : Ending → Heap → Prop
  | .returned v, st => K v st
  | .panicked ch, st => Kp ch st
  | .outgrown, _ => False
def NextI (P : Program) (W0 : World) (K : Value → Heap → Prop) (Kp : List PanicEntry → Heap → Prop) : Next → Heap → Prop
  | .value v, st => K v st
  | .skip, st => K undef st
  | .enter f args, st => ICalls P W0 f args st (EndI K Kp)
  | .round l f tmps assign body, st => RoundI P W0 l f tmps assign body st (EndI K Kp)
  | _, _ => False
def one (v : Value) : List PanicEntry := [{ v, recovered := false }]
def opW (P : Program) (W0 : World) (o : Oper) (E : Env) (K : Value → Heap → Prop) (Kp : List PanicEntry → Heap → Prop) (st : Heap) : Prop :=
  wpS P (execOp E.ev o) (NextI P W0 K Kp) (fun v st => Kp (one v) st) st

/-! ### What is asked of the program's tables -/
def optK {α : Type} (o : Option α) (k : α → Prop) : Prop := match o with | some a => k a | none => False
theorem optK_iff {α : Type} {o : Option α} {k : α → Prop} : optK o k ↔ ∃ a, o = some a ∧ k a := by cases o <;> simp [optK]
def isAggD : TypeDesc → Bool
  | .struct _ | .array _ _ => true
  | _ => false
/-- Is it a struct or an array; how many cells. -/
def tyInfo (P : Program) (t : TypeId) : Option (Bool × Nat) := (P.underlying t).bind fun d => (P.info? t).map fun i => (isAggD d, i.size)
/-- A struct's field: its place, whether it is a struct or an array, its cells (at least one). -/
def fldInfo (P : Program) (t : TypeId) (f : Nat) : Option (Nat × Bool × Nat) :=
  match P.underlying t with
  | some (.struct fs) => match fs[f]? with
    | some x => match tyInfo P x.type with
      | some (a, n + 1) => some (x.offset, a, n + 1)
      | _ => none
    | none => none
  | _ => none
/-- A slice's element type: its number, cells, bytes, zero cells. -/
def slInfo (P : Program) (t : TypeId) : Option (TypeId × Nat × Nat × List Value) :=
  match P.underlying t with
  | some (.slice e) => match P.info? e with
    | some i => match i.zero with
      | some z => if z.cells.size = i.size ∧ 0 < i.size ∧ 0 < i.bytes then some (e, i.size, i.bytes, z.cells.toList) else none
      | none => none
    | none => none
  | _ => none
def zeroOf (P : Program) (t : TypeId) : Option Value := (P.info? t).bind (·.zero)
/-- To build a struct: its zero cells, each field's place and cells. -/
def bldInfo (P : Program) (t : TypeId) : Option (List Value × List (Nat × Nat)) :=
  match P.underlying t, P.info? t with
  | some (.struct fs), some i => match i.zero, fs.toList.mapM (fun x => (P.info? x.type).map (fun j => (x.offset, j.size))) with
    | some z, some ps => some (z.cells.toList, ps)
    | _, _ => none
  | some (.array n e), some i => match i.zero, P.info? e with
    | some z, some j => some (z.cells.toList, (List.range n).map fun k => (k * j.size, j.size))
    | _, _ => none
  | _, _ => none
def arrInfo (P : Program) (t : TypeId) : Option (Nat × Bool × Nat × List Value) :=
  match P.underlying t with
  | some (.array n e) => match tyInfo P e, (P.info? t).bind (·.zero) with
    | some (a, k), some z => some (n, a, k, z.cells.toList)
    | _, _ => none
  | _ => none
def callOK (P : Program) (f : FuncId) : Bool :=
  match P.funcs[f]? with
  | some fn => !(fn.name == "runtime.NumGoroutine") && fn.body.isSome
  | none => false

section
variable {P : Program} {α : Type} {K : α → Heap → Prop} {Kp : Value → Heap → Prop} {st : Heap}
theorem wpS_program (K : Program → Heap → Prop) : wpS P program K Kp st = K P st := rfl
theorem wpS_underlying {t : TypeId} {d : TypeDesc} (h : P.underlying t = some d) (K : TypeDesc → Heap → Prop) : wpS P (underlying t) K Kp st = K d st := by
  unfold underlying; rw [wpS_bind, wpS_program, h]; rfl
theorem wpS_typeInfo {t : TypeId} {d : TypeInfo} (h : P.info? t = some d) (K : TypeInfo → Heap → Prop) : wpS P (typeInfo t) K Kp st = K d st := by
  unfold typeInfo; rw [wpS_bind, wpS_program, h]; rfl
theorem wpS_sizeOf {t : TypeId} {d : TypeInfo} (h : P.info? t = some d) (K : Nat → Heap → Prop) : wpS P (sizeOf t) K Kp st = K d.size st := by
  unfold sizeOf; rw [wpS_bind, wpS_typeInfo h]; rfl
theorem wpS_zeroValue {t : TypeId} {z : Value} (h : zeroOf P t = some z) (K : Value → Heap → Prop) : wpS P (zeroValue t) K Kp st = K z st := by
  obtain ⟨i, hi, hz⟩ := Option.bind_eq_some_iff.1 h
  unfold zeroValue; rw [wpS_bind, wpS_typeInfo hi, hz]; rfl
theorem tyInfo_some {t : TypeId} {a : Bool} {n : Nat} (h : tyInfo P t = some (a, n)) : ∃ d i, P.underlying t = some d ∧ P.info? t = some i ∧ i.size = n ∧ isAggD d = a := by
  obtain ⟨d, hd, h⟩ := Option.bind_eq_some_iff.1 h
  obtain ⟨i, hi, h⟩ := Option.map_eq_some_iff.1 h
  injection h with h1 h2
  exact ⟨d, i, hd, hi, h2, h1⟩
theorem wpS_isAgg {t : TypeId} {a : Bool} {n : Nat} (h : tyInfo P t = some (a, n)) (K : Bool → Heap → Prop) : wpS P (isAgg t) K Kp st = K a st := by
  obtain ⟨d, i, hd, hi, _, rfl⟩ := tyInfo_some h
  unfold isAgg
  rw [wpS_bind, wpS_underlying hd]
  cases d <;> rfl
theorem wpS_size {t : TypeId} {a : Bool} {n : Nat} (h : tyInfo P t = some (a, n)) (K : Nat → Heap → Prop) : wpS P (sizeOf t) K Kp st = K n st := by
  obtain ⟨d, i, _, hi, hn, _⟩ := tyInfo_some h
  rw [wpS_sizeOf hi, hn]
theorem wpS_load (a : Addr) (m : Mode) (K : Value → Heap → Prop) : wpS P (load a m) K Kp st = ∃ v, lk st a = some v ∧ K v st := rfl
end

/-! ### Loads and stores -/
def cellsOf : Option HObj → List Value
  | some (.cells _ xs _ _) => xs
  | _ => []
theorem lk_mk (st : Heap) (b i : Nat) : lk st ⟨b, i, none⟩ = (cellsOf (st b))[i]? := by
  unfold lk cellsOf
  simp only
  cases st b with
  | none => rfl
  | some o => cases o <;> rfl
/-- n cells from an address on. -/
def lkN (st : Heap) (a : Addr) (n : Nat) : Option (List Value) :=
  match a.spot with
  | some _ => none
  | none => if a.off + n ≤ (cellsOf (st a.block)).length then some (((cellsOf (st a.block)).drop a.off).take n) else none
theorem lkN_mk (st : Heap) (b i n : Nat) : lkN st ⟨b, i, none⟩ n = if i + n ≤ (cellsOf (st b)).length then some (((cellsOf (st b)).drop i).take n) else none := rfl
theorem add_mk (b i n : Nat) : Addr.add ⟨b, i, none⟩ n = ⟨b, i + n, none⟩ := by unfold Addr.add; split <;> simp_all

theorem wpS_loadCellsFrom {P : Program} {Kp : Value → Heap → Prop} {st : Heap} (b : Nat) : ∀ (n o i : Nat) (acc : Array Value) (K : Array Value → Heap → Prop), o + i + n ≤ (cellsOf (st b)).length →
    K (acc ++ (((cellsOf (st b)).drop (o + i)).take n).toArray) st → wpS P (loadCellsFrom ⟨b, o, none⟩ i n acc) K Kp st
  | 0, o, i, acc, K, _, h => by simpa [loadCellsFrom, wpS_pure] using h
  | n + 1, o, i, acc, K, hl, h => by
    unfold loadCellsFrom
    rw [wpS_bind, wpS_load, add_mk, lk_mk]
    have hlt : o + i < (cellsOf (st b)).length := by omega
    refine ⟨(cellsOf (st b))[o + i], by simp [hlt], ?_⟩
    refine wpS_loadCellsFrom b n o (i + 1) _ K (by omega) ?_
    have : (((cellsOf (st b)).drop (o + i)).take (n + 1)) = (cellsOf (st b))[o + i] :: (((cellsOf (st b)).drop (o + (i + 1))).take n) := by
      rw [List.drop_eq_getElem_cons hlt, List.take_succ_cons]
      rfl
    rw [this] at h
    have e : acc.push (cellsOf (st b))[o + i] ++ (((cellsOf (st b)).drop (o + (i + 1))).take n).toArray = acc ++ ((cellsOf (st b))[o + i] :: (((cellsOf (st b)).drop (o + (i + 1))).take n)).toArray := by
      apply Array.ext'
      simp
    rw [e]
    exact h
theorem wpS_loadCells {P : Program} {Kp : Value → Heap → Prop} {st : Heap} {a : Addr} {n : Nat} {l : List Value} {K : Array Value → Heap → Prop} (h : lkN st a n = some l) (hk : K l.toArray st) : wpS P (loadCells a n) K Kp st := by
  unfold lkN at h
  split at h
  · cases h
  · rename_i hs
    split at h
    · rename_i hle
      injection h with h
      subst h
      obtain ⟨b, o, sp⟩ := a
      simp only at hs
      subst hs
      exact wpS_loadCellsFrom b n o 0 #[] K (by simpa using hle) (by simpa using hk)
    · cases h

def Value.addr? : Value → Option Addr
  | .pointer a => a
  | _ => none
def ldV (P : Program) (t : TypeId) (st : Heap) (a : Addr) : Option Value :=
  match tyInfo P t with
  | some (false, _) => lk st a
  | some (true, n) => (lkN st a n).map fun l => .agg l.toArray
  | none => none
theorem wpS_loadVar {P : Program} {Kp : Value → Heap → Prop} {st : Heap} {t : TypeId} {a : Addr} {v : Value} {K : Value → Heap → Prop} (h : ldV P t st a = some v) (hk : K v st) : wpS P (loadVar t a) K Kp st := by
  unfold ldV at h
  unfold loadVar
  rw [wpS_bind]
  split at h
  · rename_i n hi
    rw [wpS_isAgg hi]
    exact ⟨v, h, hk⟩
  · rename_i n hi
    rw [wpS_isAgg hi]
    obtain ⟨l, hl, hv⟩ := Option.map_eq_some_iff.1 h
    subst hv
    simp only [if_true]
    rw [wpS_bind, wpS_size hi, wpS_bind]
    exact wpS_loadCells hl hk
  · cases h

def stC (st : Heap) (a : Addr) (u : Value) : Option Heap :=
  match a.spot, st a.block with
  | none, some (.cells true xs n e) => if a.off ≤ xs.length ∧ a.off < n then some (upd st a.block (.cells true (putCell xs a.off u) n e)) else none
  | _, _ => none
def stN (st : Heap) (b o : Nat) : List Value → Option Heap
  | [] => some st
  | u :: us => if u.oneCell' then (stC st ⟨b, o, none⟩ u).bind fun st' => stN st' b (o + 1) us else none
def stV (P : Program) (t : TypeId) (st : Heap) (a : Addr) (v : Value) : Option Heap :=
  match tyInfo P t with
  | some (false, n) => if n = 1 ∧ v.oneCell' then stC st a v else none
  | some (true, n) => match v, a.spot with
    | .agg cs, none => if cs.size = n then stN st a.block a.off cs.toList else none
    | _, _ => none
  | none => none
theorem wpS_store {P : Program} {Kp : Value → Heap → Prop} {st st' : Heap} {a : Addr} {m : Mode} {v : Value} {K : Unit → Heap → Prop} (hv : v.oneCell' = true) (h : stC st a v = some st') (hk : K () st') : wpS P (store a v m) K Kp st := by
  unfold stC at h
  split at h
  · rename_i xs n e hs hb
    split at h
    · rename_i hc
      injection h with h
      subst h
      exact ⟨hv, hs, xs, n, e, hb, hc.1, hc.2, hk⟩
    · cases h
  · cases h
theorem wpS_storeCells {P : Program} {Kp : Value → Heap → Prop} (b : Nat) : ∀ (us : List Value) (o i : Nat) (st st' : Heap) (K : Unit → Heap → Prop), stN st b (o + i) us = some st' → K () st' → wpS P (storeCells ⟨b, o, none⟩ us i) K Kp st
  | [], o, i, st, st', K, h, hk => by
    injection h with h
    subst h
    exact hk
  | u :: us, o, i, st, st', K, h, hk => by
    unfold stN at h
    split at h
    · rename_i hu
      obtain ⟨s1, h1, h2⟩ := Option.bind_eq_some_iff.1 h
      unfold storeCells
      rw [wpS_bind, add_mk]
      exact wpS_store hu h1 (wpS_storeCells b us o (i + 1) s1 st' K h2 hk)
    · cases h
theorem wpS_storeVar {P : Program} {Kp : Value → Heap → Prop} {st st' : Heap} {t : TypeId} {a : Addr} {v : Value} {K : Unit → Heap → Prop} (h : stV P t st a v = some st') (hk : K () st') : wpS P (storeVar t a v) K Kp st := by
  unfold stV at h
  unfold storeVar
  rw [wpS_bind]
  split at h
  · rename_i n hi
    rw [wpS_size hi]
    split at h
    · rename_i hc
      obtain ⟨rfl, hv⟩ := hc
      have hcs : v.cells = #[v] := by cases v <;> simp_all [Value.cells, Value.oneCell']
      simp only [hcs, ne_eq, not_true_eq_false, if_false]
      obtain ⟨b, o, sp⟩ := a
      have hsp : sp = none := by
        unfold stC at h
        split at h
        · assumption
        · cases h
      subst hsp
      refine wpS_storeCells b [v] o 0 st st' K ?_ hk
      simp [stN, hv, h]
    · cases h
  · rename_i n hi
    rw [wpS_size hi]
    split at h
    · rename_i cs hsp
      split at h
      · rename_i hc
        subst hc
        simp only [Value.cells, ne_eq, not_true_eq_false, if_false]
        obtain ⟨b, o, sp⟩ := a
        simp only at hsp
        subst hsp
        exact wpS_storeCells b cs.toList o 0 st st' K h hk
      · cases h
    · cases h
  · cases h
def loadX (P : Program) (t : TypeId) (v : Value) (K : Value → Heap → Prop) (st : Heap) : Prop := optK (Value.addr? v) fun a => optK (ldV P t st a) fun u => K u st
def storeX (P : Program) (t : TypeId) (v u : Value) (K : Value → Heap → Prop) (st : Heap) : Prop := optK (Value.addr? v) fun a => optK (stV P t st a u) fun st' => K undef st'
def fieldAddrX (P : Program) (t : TypeId) (f : Nat) (v : Value) (K : Value → Heap → Prop) (st : Heap) : Prop := optK (Value.addr? v) fun a => optK (fldInfo P t f) fun i => K (.pointer (some (a.add i.1))) st
def fieldX (P : Program) (t : TypeId) (f : Nat) (v : Value) (K : Value → Heap → Prop) (st : Heap) : Prop :=
  match v with
  | .agg cs => optK (fldInfo P t f) fun i => if i.2.1 = true then K (.agg (cs.extract i.1 (i.1 + i.2.2))) st else optK cs[i.1]? fun u => K u st
  | _ => False
def nilX (v : Value) (K : Value → Heap → Prop) (st : Heap) : Prop :=
  match v with
  | .pointer (some _) => K v st
  | .func (.func _) _ _ => K v st
  | _ => False
def pickX (c x y : Value) (K : Value → Heap → Prop) (st : Heap) : Prop :=
  match c with
  | .bool t => K (if t = true then x else y) st
  | _ => False
def extractX (v : Value) (i : Nat) (K : Value → Heap → Prop) (st : Heap) : Prop :=
  match v with
  | .tuple vs => optK vs[i]? fun u => K u st
  | _ => False

theorem execOp_v {P : Program} {s : Sem Value} {K : Next → Heap → Prop} {Kp : Value → Heap → Prop} {st : Heap} (h : wpS P s (fun v st => K (.value v) st) Kp st) : wpS P (do pure (.value (← s)) : Sem Next) K Kp st := by
  rw [wpS_bind]
  exact h
section
variable {P : Program} {W0 : World} {E : Env} {K : Value → Heap → Prop} {Kp : List PanicEntry → Heap → Prop} {st : Heap} {d : Option Nat} {ty : TypeId} {pos : String} {af : Array Edge} {g : Option (Nat × Bool)}
theorem X_load {t : TypeId} {x : Operand} (h : loadX P t (E.ev x) K st) : opW P W0 ⟨d, .load t x, ty, pos, af, g⟩ E K Kp st := by
  obtain ⟨a, ha, h⟩ := optK_iff.1 h
  obtain ⟨u, hu, h⟩ := optK_iff.1 h
  have he : E.ev x = .pointer (some a) := by
    revert ha
    cases E.ev x <;> simp [Value.addr?]
  show wpS P _ _ _ _
  unfold execOp
  simp only [he]
  exact execOp_v (wpS_loadVar hu h)
theorem X_store {t : TypeId} {x y : Operand} (h : storeX P t (E.ev x) (E.ev y) K st) : opW P W0 ⟨d, .store t x y, ty, pos, af, g⟩ E K Kp st := by
  obtain ⟨a, ha, h⟩ := optK_iff.1 h
  obtain ⟨u, hu, h⟩ := optK_iff.1 h
  have he : E.ev x = .pointer (some a) := by
    revert ha
    cases E.ev x <;> simp [Value.addr?]
  show wpS P _ _ _ _
  unfold execOp
  simp only [he]
  rw [wpS_bind]
  exact wpS_storeVar hu h
theorem X_fieldAddr {t : TypeId} {x : Operand} {f : Nat} (h : fieldAddrX P t f (E.ev x) K st) : opW P W0 ⟨d, .fieldAddr t x f, ty, pos, af, g⟩ E K Kp st := by
  obtain ⟨a, ha, h⟩ := optK_iff.1 h
  obtain ⟨i, hi, h⟩ := optK_iff.1 h
  have he : E.ev x = .pointer (some a) := by
    revert ha
    cases E.ev x <;> simp [Value.addr?]
  show wpS P _ _ _ _
  unfold execOp
  simp only [he]
  refine execOp_v ?_
  unfold fldInfo at hi
  split at hi
  · rename_i fs hu
    split at hi
    · rename_i fd hf
      split at hi
      · rename_i ag n hti
        injection hi with hi
        subst hi
        unfold Instr.fieldAt
        rw [wpS_bind, wpS_underlying hu]
        simp only [hf, Instr.sureAddr]
        rw [wpS_bind, wpS_pure, wpS_bind]
        unfold fieldPlace
        rw [wpS_bind, wpS_size hti]
        exact h
      · cases hi
    · cases hi
  · cases hi
theorem part_get {t : TypeId} {cs : Array Value} {off : Nat} {ag : Bool} {n : Nat} (hti : tyInfo P t = some (ag, n)) {K : Value → Heap → Prop} {Kp : Value → Heap → Prop}
    (h : if ag = true then K (.agg (cs.extract off (off + n))) st else optK cs[off]? fun u => K u st) : wpS P (part t cs off) K Kp st := by
  unfold part
  rw [wpS_bind, wpS_isAgg hti]
  cases ag with
  | true =>
    simp only [if_true] at h ⊢
    rw [wpS_bind, wpS_size hti]
    exact h
  | false =>
    simp only [Bool.false_eq_true, if_false] at h ⊢
    obtain ⟨u, hu, h⟩ := optK_iff.1 h
    rw [hu]
    exact h
theorem X_field {t : TypeId} {x : Operand} {f : Nat} (h : fieldX P t f (E.ev x) K st) : opW P W0 ⟨d, .field t x f, ty, pos, af, g⟩ E K Kp st := by
  show wpS P _ _ _ _
  unfold execOp
  refine execOp_v ?_
  unfold fieldX at h
  split at h
  · rename_i cs he
    obtain ⟨i, hi, h⟩ := optK_iff.1 h
    unfold fldInfo at hi
    split at hi
    · rename_i fs hu
      split at hi
      · rename_i fd hf
        split at hi
        · rename_i ag n hti
          injection hi with hi
          subst hi
          unfold Instr.field
          rw [wpS_bind, wpS_underlying hu]
          simp only [hf, he, asAgg]
          rw [wpS_bind, wpS_pure]
          exact part_get hti h
        · cases hi
      · cases hi
    · cases hi
  · exact h.elim
theorem X_nil {x : Operand} (h : nilX (E.ev x) K st) : opW P W0 ⟨d, .nilCheck x, ty, pos, af, g⟩ E K Kp st := by
  show wpS P _ _ _ _
  unfold execOp
  unfold nilX at h
  split at h
  · rename_i a he; simp only [he]; exact he ▸ h
  · rename_i f l c he; simp only [he]; exact he ▸ h
  · exact h.elim
theorem X_pick {c x y : Operand} (h : pickX (E.ev c) (E.ev x) (E.ev y) K st) : opW P W0 ⟨d, .pick c x y, ty, pos, af, g⟩ E K Kp st := by
  show wpS P _ _ _ _
  unfold execOp
  unfold pickX at h
  split at h
  · rename_i t he
    simp only [he, asBool]
    rw [wpS_bind, wpS_pure]
    exact h
  · exact h.elim
theorem X_extract {x : Operand} {i : Nat} (h : extractX (E.ev x) i K st) : opW P W0 ⟨d, .extract x i, ty, pos, af, g⟩ E K Kp st := by
  show wpS P _ _ _ _
  unfold execOp
  refine execOp_v ?_
  unfold extractX at h
  split at h
  · rename_i vs he
    obtain ⟨u, hu, h⟩ := optK_iff.1 h
    simp only [he, Instr.extract, hu]
    exact h
  · exact h.elim
end

/-! ### Numbers, texts, comparisons -/
def intBin (op : BinOp) (k : IntKind) (a b : Int) : Option Value :=
  match op with
  | .add => some (.int k (k.wrap (a + b)))
  | .sub => some (.int k (k.wrap (a - b)))
  | .mul => some (.int k (k.wrap (a * b)))
  | .quo => if b = 0 then none else some (.int k (k.wrap (a.tdiv b)))
  | .rem => if b = 0 then none else some (.int k (a.tmod b))
  | .and => some (.int k (bits .and k a b))
  | .or => some (.int k (bits .or k a b))
  | .xor => some (.int k (bits .xor k a b))
  | .andNot => some (.int k (bits .andNot k a b))
  | .eql => some (.bool (a == b))
  | .neq => some (.bool (a != b))
  | .lss => some (.bool (decide (a < b)))
  | .leq => some (.bool (decide (a ≤ b)))
  | .gtr => some (.bool (decide (b < a)))
  | .geq => some (.bool (decide (b ≤ a)))
  | _ => none
def shiftBin (op : BinOp) (k : IntKind) (a b : Int) : Option Value :=
  match op with
  | .shl => if b < 0 then none else some (.int k (k.wrap (a * 2 ^ (min b.toNat k.bits))))
  | .shr => if b < 0 then none else some (.int k (a.fdiv (2 ^ (min b.toNat k.bits))))
  | _ => none
def strEq (a b : ByteArray) : Bool := a.data.toList == b.data.toList
def strBin (op : BinOp) (a b : ByteArray) : Option Value :=
  match op with
  | .add => if a.size + b.size ≤ 9223372036854775807 then some (.string (a ++ b)) else none
  | .eql => some (.bool (strEq a b))
  | .neq => some (.bool (!strEq a b))
  | .lss => some (.bool (Op.bytesLess a.data.toList b.data.toList))
  | .leq => some (.bool (Op.bytesLess a.data.toList b.data.toList || strEq a b))
  | .gtr => some (.bool (!(Op.bytesLess a.data.toList b.data.toList || strEq a b)))
  | .geq => some (.bool (!Op.bytesLess a.data.toList b.data.toList))
  | _ => none
/-- A comparison with nil, or of bools. -/
def eqB (u : Option TypeDesc) (x y : Value) : Option Bool :=
  match u, x, y with
  | some .bool, .bool a, .bool b => some (a == b)
  | some (.pointer _), .pointer none, .pointer b => some b.isNone
  | some (.pointer _), .pointer (some _), .pointer none => some false
  | some (.interface _), .nilIface, .iface _ _ => some false
  | some (.interface _), .iface _ _, .nilIface => some false
  | some (.interface ms), .nilIface, .nilIface => if ms.isEmpty = true then some true else none
  | some (.slice _), .slice none _ _, .slice b _ _ => some b.isNone
  | some (.slice _), .slice (some _) _ _, .slice none _ _ => some false
  | some (.map _ _), .map none, .map b => some b.isNone
  | some (.map _ _), .map (some _), .map none => some false
  | some (.func _ _ _), .nilFunc, .nilFunc => some true
  | some (.func _ _ _), .func _ _ _, .nilFunc => some false
  | some (.func _ _ _), .nilFunc, .func _ _ _ => some false
  | _, _, _ => none
def fieldsEq (P : Program) (xs ys : Array Value) : List Field → Option Bool
  | [] => some true
  | f :: fs => match P.underlying f.type, xs[f.offset]?, ys[f.offset]? with
    | some (.int _), some (.int k a), some (.int k' b) => if f.name ≠ "_" ∧ k = k' then (if (a == b) = true then fieldsEq P xs ys fs else some false) else none
    | some .string, some (.string a), some (.string b) => if f.name ≠ "_" then (if strEq a b = true then fieldsEq P xs ys fs else some false) else none
    | some .bool, some (.bool a), some (.bool b) => if f.name ≠ "_" then (if (a == b) = true then fieldsEq P xs ys fs else some false) else none
    | _, _, _ => none
def aggEqB (P : Program) (t : TypeId) (xs ys : Array Value) : Option Bool :=
  match P.underlying t with
  | some (.struct fs) => if P.stoodInHeld t = false ∧ P.eqGuardType P.depth t = false then fieldsEq P xs ys fs.toList else none
  | _ => none
def eqBin (P : Program) (t : TypeId) (x y : Value) : Option Bool :=
  match x, y with
  | .agg xs, .agg ys => aggEqB P t xs ys
  | x, y => eqB (P.underlying t) x y
def isShift : BinOp → Bool | .shl | .shr => true | _ => false
def floatBin (op : BinOp) (k : FloatKind) (a b : Nat) : Option Value :=
  match op with
  | .eql => some (.bool (k.format.order a b == some .eq))
  | .neq => some (.bool (k.format.order a b != some .eq))
  | .lss => some (.bool (k.format.order a b == some .lt))
  | .leq => some (.bool (k.format.order a b == some .lt || k.format.order a b == some .eq))
  | .gtr => some (.bool (k.format.order a b == some .gt))
  | .geq => some (.bool (k.format.order a b == some .gt || k.format.order a b == some .eq))
  | _ => none
def binV (P : Program) (op : BinOp) (t : TypeId) (x y : Value) : Option Value :=
  match x, y with
  | .int k a, .int k' b => if isShift op then shiftBin op k a b else if k = k' then intBin op k a b else none
  | .string a, .string b => strBin op a b
  | .float k a, .float k' b => if k = k' then floatBin op k a b else none
  | x, y => match op with
    | .eql => (eqBin P t x y).map fun b => .bool b
    | .neq => (eqBin P t x y).map fun b => .bool (!b)
    | _ => none
def unV (op : UnOp) (x : Value) : Option Value :=
  match op, x with
  | .not, .bool b => some (.bool (!b))
  | .neg, .int k n => some (.int k (k.wrap (0 - n)))
  | .xor, .int k n => some (.int k (bits .xor k (if k.signed then -1 else k.max) n))
  | _, _ => none
section
variable {P : Program} {W0 : World} {E : Env} {K : Value → Heap → Prop} {Kp : List PanicEntry → Heap → Prop} {st : Heap} {d : Option Nat} {ty : TypeId} {pos : String} {af : Array Edge} {g : Option (Nat × Bool)}
theorem intBin_spec {op : BinOp} {t : TypeId} {k : IntKind} {a b : Int} {v : Value} {K : Value → Heap → Prop} {Kp : Value → Heap → Prop} (h : (if isShift op then shiftBin op k a b else intBin op k a b) = some v) (hk : K v st) : wpS P (binOp op t (.int k a) (.int k b)) K Kp st := by
  unfold binOp
  cases op <;> simp only [isShift, if_true, if_false, Bool.false_eq_true, intBin, shiftBin] at h <;> first
    | (cases h; done)
    | (injection h with h; subst h; simp only [ne_eq, not_true_eq_false, if_false]; exact hk)
    | (split at h
       · cases h
       · rename_i hb; injection h with h; subst h
         simp only [ne_eq, not_true_eq_false, if_false, Op.shift, Op.intDiv, hb]
         exact hk)
theorem floatBin_spec {op : BinOp} {t : TypeId} {k : FloatKind} {a b : Nat} {v : Value} {K : Value → Heap → Prop} {Kp : Value → Heap → Prop} (h : floatBin op k a b = some v) (hk : K v st) : wpS P (binOp op t (.float k a) (.float k b)) K Kp st := by
  unfold binOp
  cases op <;> simp only [floatBin] at h <;> first
    | (cases h; done)
    | (injection h with h; subst h; simp only [ne_eq, not_true_eq_false, if_false, Op.floatCmp]; exact hk)
theorem shiftBin_spec {op : BinOp} {t : TypeId} {k k' : IntKind} {a b : Int} {v : Value} {K : Value → Heap → Prop} {Kp : Value → Heap → Prop} (ho : isShift op = true) (h : shiftBin op k a b = some v) (hk : K v st) : wpS P (binOp op t (.int k a) (.int k' b)) K Kp st := by
  unfold binOp
  cases op <;> simp only [isShift, Bool.false_eq_true] at ho
  all_goals
    simp only [shiftBin] at h
    split at h
    · cases h
    · rename_i hb; injection h with h; subst h
      simp only [Op.shift, hb, if_false]
      exact hk
theorem strEq_spec (a b : ByteArray) : (a.toList == b.toList) = strEq a b := by simp [strEq, ByteArray.toList_eq]
end
end Go.Proofs.YtadgciaclhjjkaaGreat
