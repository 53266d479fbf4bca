/- The model's operations in plain forms over an abstract heap, each at least as strong as the weakest condition of the model's own run. -/
import Derived.Test.YtflbapmjdfnhhaaGreatC01
import Derived.Orders
import Derived.RangeFuncLeaves
import Derived.OrdersIn
import Derived.Laws.Append
set_option linter.unusedVariables false
set_option linter.unusedSimpArgs false
namespace Go.Proofs.YtflbapmjdfnhhaaGreat
open Go.RowKit (Below)

abbrev Env := Nat → Value
def Env.set (E : Env) (d : Nat) (v : Value) : Env := fun t => if t = d then v else E t
def Env.put (E : Env) (d : Option Nat) (v : Value) : Env := match d with | some d => E.set d v | none => E
def Env.ev (E : Env) : Operand → Value
  | .tmp t => E t
  | .const v => v
  | .global g => .pointer (some ⟨g, 0, none⟩)
  | .func f => .func (.func f) #[] #[]
def Env.args (l : List Value) : Env := fun t => l.getD t undef

/-- A call, over abstract heaps. -/
def ICalls (P : Program) (W0 : World) (f : FuncId) (args : Array Value) (st : Heap) (R : Ending → Heap → Prop) : Prop :=
  ∀ w, Sim W0 st w → Calls P f args w fun e w' => ∃ st', Sim W0 st' w' ∧ R e st'
theorem ICalls.mono {P : Program} {W0 : World} {f : FuncId} {args : Array Value} {st : Heap} {R R' : Ending → Heap → Prop} (h : ICalls P W0 f args st R) (hr : ∀ e st, R e st → R' e st) : ICalls P W0 f args st R' :=
  fun w hs => (h w hs).mono fun e w' ⟨st', h1, h2⟩ => ⟨st', h1, hr _ _ h2⟩
theorem ICalls.weaken {P : Program} {W0 : World} {f : FuncId} {args : Array Value} {st st' : Heap} {R : Ending → Heap → Prop} (h : ICalls P W0 f args st R) (hle : Heap.Le st st') : ICalls P W0 f args st' R :=
  fun w hs => h w (hs.weaken hle)

/-- A round of a range over a function, over abstract heaps. -/
def RoundI (P : Program) (W0 : World) (l : Nat) (f : FuncId) (tmps : Array Value) (assign body : Code) (st : Heap) (R : Ending → Heap → Prop) : Prop :=
  ∀ w, Sim W0 st w → RoundIn Fence.wide 0 P l f tmps assign body w fun e w' => ∃ st', Sim W0 st' w' ∧ R e st'
theorem RoundI.mono {P : Program} {W0 : World} {l : Nat} {f : FuncId} {tmps : Array Value} {assign body : Code} {st : Heap} {R R' : Ending → Heap → Prop} (h : RoundI P W0 l f tmps assign body st R) (hr : ∀ e st, R e st → R' e st) : RoundI P W0 l f tmps assign body st R' :=
  fun w hs => (h w hs).mono fun e w' ⟨st', h1, h2⟩ => ⟨st', h1, hr _ _ h2⟩

def EndI (K : Value → Heap → Prop) (Kp : List PanicEntry → Heap → Prop) : Ending → Heap → Prop
  | .returned v, st => K v st
  | .panicked ch, st => Kp ch st
  | .outgrown, _ => False
def NextI (P : Program) (W0 : World) (K : Value → Heap → Prop) (Kp : List PanicEntry → Heap → Prop) : Next → Heap → Prop
  | .value v, st => K v st
  | .skip, st => K undef st
  | .enter f args, st => ICalls P W0 f args st (EndI K Kp)
  | .round l f tmps assign body, st => RoundI P W0 l f tmps assign body st (EndI K Kp)
  | _, _ => False
def one (v : Value) : List PanicEntry := [{ v, recovered := false }]
def opW (P : Program) (W0 : World) (o : Oper) (E : Env) (K : Value → Heap → Prop) (Kp : List PanicEntry → Heap → Prop) (st : Heap) : Prop :=
  wpS P (execOp E.ev o) (NextI P W0 K Kp) (fun v st => Kp (one v) st) st

/-! ### What is asked of the program's tables -/
def optK {α : Type} (o : Option α) (k : α → Prop) : Prop := match o with | some a => k a | none => False
theorem optK_iff {α : Type} {o : Option α} {k : α → Prop} : optK o k ↔ ∃ a, o = some a ∧ k a := by cases o <;> simp [optK]
def isAggD : TypeDesc → Bool
  | .struct _ | .array _ _ => true
  | _ => false
/-- Is it a struct or an array; how many cells. -/
def tyInfo (P : Program) (t : TypeId) : Option (Bool × Nat) := (P.underlying t).bind fun d => (P.info? t).map fun i => (isAggD d, i.size)
/-- A struct's field: its place, whether it is a struct or an array, its cells (at least one). -/
def fldInfo (P : Program) (t : TypeId) (f : Nat) : Option (Nat × Bool × Nat) :=
  match P.underlying t with
  | some (.struct fs) => match fs[f]? with
    | some x => match tyInfo P x.type with
      | some (a, n + 1) => some (x.offset, a, n + 1)
      | _ => none
    | none => none
  | _ => none
/-- A slice's element type: its number, cells, bytes, zero cells. -/
def slInfo (P : Program) (t : TypeId) : Option (TypeId × Nat × Nat × List Value) :=
  match P.underlying t with
  | some (.slice e) => match P.info? e with
    | some i => match i.zero with
      | some z => if z.cells.size = i.size ∧ 0 < i.size ∧ 0 < i.bytes then some (e, i.size, i.bytes, z.cells.toList) else none
      | none => none
    | none => none
  | _ => none
def zeroOf (P : Program) (t : TypeId) : Option Value := (P.info? t).bind (·.zero)
/-- To build a struct: its zero cells, each field's place and cells. -/
def bldInfo (P : Program) (t : TypeId) : Option (List Value × List (Nat × Nat)) :=
  match P.underlying t, P.info? t with
  | some (.struct fs), some i => match i.zero, fs.toList.mapM (fun x => (P.info? x.type).map (fun j => (x.offset, j.size))) with
    | some z, some ps => some (z.cells.toList, ps)
    | _, _ => none
  | some (.array n e), some i => match i.zero, P.info? e with
    | some z, some j => some (z.cells.toList, (List.range n).map fun k => (k * j.size, j.size))
    | _, _ => none
  | _, _ => none
def arrInfo (P : Program) (t : TypeId) : Option (Nat × Bool × Nat × List Value) :=
  match P.underlying t with
  | some (.array n e) => match tyInfo P e, (P.info? t).bind (·.zero) with
    | some (a, k), some z => some (n, a, k, z.cells.toList)
    | _, _ => none
  | _ => none
def callOK (P : Program) (f : FuncId) : Bool :=
  match P.funcs[f]? with
  | some fn => !(fn.name == "runtime.NumGoroutine") && fn.body.isSome
  | none => false

section
variable {P : Program} {α : Type} {K : α → Heap → Prop} {Kp : Value → Heap → Prop} {st : Heap}
theorem wpS_program (K : Program → Heap → Prop) : wpS P program K Kp st = K P st := rfl
theorem wpS_underlying {t : TypeId} {d : TypeDesc} (h : P.underlying t = some d) (K : TypeDesc → Heap → Prop) : wpS P (underlying t) K Kp st = K d st := by
  unfold underlying; rw [wpS_bind, wpS_program, h]; rfl
theorem wpS_typeInfo {t : TypeId} {d : TypeInfo} (h : P.info? t = some d) (K : TypeInfo → Heap → Prop) : wpS P (typeInfo t) K Kp st = K d st := by
  unfold typeInfo; rw [wpS_bind, wpS_program, h]; rfl
theorem wpS_sizeOf {t : TypeId} {d : TypeInfo} (h : P.info? t = some d) (K : Nat → Heap → Prop) : wpS P (sizeOf t) K Kp st = K d.size st := by
  unfold sizeOf; rw [wpS_bind, wpS_typeInfo h]; rfl
theorem wpS_zeroValue {t : TypeId} {z : Value} (h : zeroOf P t = some z) (K : Value → Heap → Prop) : wpS P (zeroValue t) K Kp st = K z st := by
  obtain ⟨i, hi, hz⟩ := Option.bind_eq_some_iff.1 h
  unfold zeroValue; rw [wpS_bind, wpS_typeInfo hi, hz]; rfl
theorem tyInfo_some {t : TypeId} {a : Bool} {n : Nat} (h : tyInfo P t = some (a, n)) : ∃ d i, P.underlying t = some d ∧ P.info? t = some i ∧ i.size = n ∧ isAggD d = a := by
  obtain ⟨d, hd, h⟩ := Option.bind_eq_some_iff.1 h
  obtain ⟨i, hi, h⟩ := Option.map_eq_some_iff.1 h
  injection h with h1 h2
  exact ⟨d, i, hd, hi, h2, h1⟩
theorem wpS_isAgg {t : TypeId} {a : Bool} {n : Nat} (h : tyInfo P t = some (a, n)) (K : Bool → Heap → Prop) : wpS P (isAgg t) K Kp st = K a st := by
  obtain ⟨d, i, hd, hi, _, rfl⟩ := tyInfo_some h
  unfold isAgg
  rw [wpS_bind, wpS_underlying hd]
  cases d <;> rfl
theorem wpS_size {t : TypeId} {a : Bool} {n : Nat} (h : tyInfo P t = some (a, n)) (K : Nat → Heap → Prop) : wpS P (sizeOf t) K Kp st = K n st := by
  obtain ⟨d, i, _, hi, hn, _⟩ := tyInfo_some h
  rw [wpS_sizeOf hi, hn]
theorem wpS_load (a : Addr) (m : Mode) (K : Value → Heap → Prop) : wpS P (load a m) K Kp st = ∃ v, lk st a = some v ∧ K v st := rfl
end

/-! ### Loads and stores -/
def cellsOf : Option HObj → List Value
  | some (.cells _ xs _ _) => xs
  | _ => []
theorem lk_mk (st : Heap) (b i : Nat) : lk st ⟨b, i, none⟩ = (cellsOf (st b))[i]? := by
  unfold lk cellsOf
  simp only
  cases st b with
  | none => rfl
  | some o => cases o <;> rfl
/-- n cells from an address on. -/
def lkN (st : Heap) (a : Addr) (n : Nat) : Option (List Value) :=
  match a.spot with
  | some _ => none
  | none => if a.off + n ≤ (cellsOf (st a.block)).length then some (((cellsOf (st a.block)).drop a.off).take n) else none
theorem lkN_mk (st : Heap) (b i n : Nat) : lkN st ⟨b, i, none⟩ n = if i + n ≤ (cellsOf (st b)).length then some (((cellsOf (st b)).drop i).take n) else none := rfl
theorem add_mk (b i n : Nat) : Addr.add ⟨b, i, none⟩ n = ⟨b, i + n, none⟩ := by unfold Addr.add; split <;> simp_all

theorem wpS_loadCellsFrom {P : Program} {Kp : Value → Heap → Prop} {st : Heap} (b : Nat) : ∀ (n o i : Nat) (acc : Array Value) (K : Array Value → Heap → Prop), o + i + n ≤ (cellsOf (st b)).length →
    K (acc ++ (((cellsOf (st b)).drop (o + i)).take n).toArray) st → wpS P (loadCellsFrom ⟨b, o, none⟩ i n acc) K Kp st
  | 0, o, i, acc, K, _, h => by simpa [loadCellsFrom, wpS_pure] using h
  | n + 1, o, i, acc, K, hl, h => by
    unfold loadCellsFrom
    rw [wpS_bind, wpS_load, add_mk, lk_mk]
    have hlt : o + i < (cellsOf (st b)).length := by omega
    refine ⟨(cellsOf (st b))[o + i], by simp [hlt], ?_⟩
    refine wpS_loadCellsFrom b n o (i + 1) _ K (by omega) ?_
    have : (((cellsOf (st b)).drop (o + i)).take (n + 1)) = (cellsOf (st b))[o + i] :: (((cellsOf (st b)).drop (o + (i + 1))).take n) := by
      rw [List.drop_eq_getElem_cons hlt, List.take_succ_cons]
      rfl
    rw [this] at h
    have e : acc.push (cellsOf (st b))[o + i] ++ (((cellsOf (st b)).drop (o + (i + 1))).take n).toArray = acc ++ ((cellsOf (st b))[o + i] :: (((cellsOf (st b)).drop (o + (i + 1))).take n)).toArray := by
      apply Array.ext'
      simp
    rw [e]
    exact h
theorem wpS_loadCells {P : Program} {Kp : Value → Heap → Prop} {st : Heap} {a : Addr} {n : Nat} {l : List Value} {K : Array Value → Heap → Prop} (h : lkN st a n = some l) (hk : K l.toArray st) : wpS P (loadCells a n) K Kp st := by
  unfold lkN at h
  split at h
  · cases h
  · rename_i hs
    split at h
    · rename_i hle
      injection h with h
      subst h
      obtain ⟨b, o, sp⟩ := a
      simp only at hs
      subst hs
      exact wpS_loadCellsFrom b n o 0 #[] K (by simpa using hle) (by simpa using hk)
    · cases h

def Value.addr? : Value → Option Addr
  | .pointer a => a
  | _ => none
def ldV (P : Program) (t : TypeId) (st : Heap) (a : Addr) : Option Value :=
  match tyInfo P t with
  | some (false, _) => lk st a
  | some (true, n) => (lkN st a n).map fun l => .agg l.toArray
  | none => none
theorem wpS_loadVar {P : Program} {Kp : Value → Heap → Prop} {st : Heap} {t : TypeId} {a : Addr} {v : Value} {K : Value → Heap → Prop} (h : ldV P t st a = some v) (hk : K v st) : wpS P (loadVar t a) K Kp st := by
  unfold ldV at h
  unfold loadVar
  rw [wpS_bind]
  split at h
  · rename_i n hi
    rw [wpS_isAgg hi]
    exact ⟨v, h, hk⟩
  · rename_i n hi
    rw [wpS_isAgg hi]
    obtain ⟨l, hl, hv⟩ := Option.map_eq_some_iff.1 h
    subst hv
    simp only [if_true]
    rw [wpS_bind, wpS_size hi, wpS_bind]
    exact wpS_loadCells hl hk
  · cases h

def stC (st : Heap) (a : Addr) (u : Value) : Option Heap :=
  match a.spot, st a.block with
  | none, some (.cells true xs n e) => if a.off ≤ xs.length ∧ a.off < n then some (upd st a.block (.cells true (putCell xs a.off u) n e)) else none
  | _, _ => none
def stN (st : Heap) (b o : Nat) : List Value → Option Heap
  | [] => some st
  | u :: us => if u.oneCell' then (stC st ⟨b, o, none⟩ u).bind fun st' => stN st' b (o + 1) us else none
def stV (P : Program) (t : TypeId) (st : Heap) (a : Addr) (v : Value) : Option Heap :=
  match tyInfo P t with
  | some (false, n) => if n = 1 ∧ v.oneCell' then stC st a v else none
  | some (true, n) => match v, a.spot with
    | .agg cs, none => if cs.size = n then stN st a.block a.off cs.toList else none
    | _, _ => none
  | none => none
theorem wpS_store {P : Program} {Kp : Value → Heap → Prop} {st st' : Heap} {a : Addr} {m : Mode} {v : Value} {K : Unit → Heap → Prop} (hv : v.oneCell' = true) (h : stC st a v = some st') (hk : K () st') : wpS P (store a v m) K Kp st := by
  unfold stC at h
  split at h
  · rename_i xs n e hs hb
    split at h
    · rename_i hc
      injection h with h
      subst h
      exact ⟨hv, hs, xs, n, e, hb, hc.1, hc.2, hk⟩
    · cases h
  · cases h
theorem wpS_storeCells {P : Program} {Kp : Value → Heap → Prop} (b : Nat) : ∀ (us : List Value) (o i : Nat) (st st' : Heap) (K : Unit → Heap → Prop), stN st b (o + i) us = some st' → K () st' → wpS P (storeCells ⟨b, o, none⟩ us i) K Kp st
  | [], o, i, st, st', K, h, hk => by
    injection h with h
    subst h
    exact hk
  | u :: us, o, i, st, st', K, h, hk => by
    unfold stN at h
    split at h
    · rename_i hu
      obtain ⟨s1, h1, h2⟩ := Option.bind_eq_some_iff.1 h
      unfold storeCells
      rw [wpS_bind, add_mk]
      exact wpS_store hu h1 (wpS_storeCells b us o (i + 1) s1 st' K h2 hk)
    · cases h
theorem wpS_storeVar {P : Program} {Kp : Value → Heap → Prop} {st st' : Heap} {t : TypeId} {a : Addr} {v : Value} {K : Unit → Heap → Prop} (h : stV P t st a v = some st') (hk : K () st') : wpS P (storeVar t a v) K Kp st := by
  unfold stV at h
  unfold storeVar
  rw [wpS_bind]
  split at h
  · rename_i n hi
    rw [wpS_size hi]
    split at h
    · rename_i hc
      obtain ⟨rfl, hv⟩ := hc
      have hcs : v.cells = #[v] := by cases v <;> simp_all [Value.cells, Value.oneCell']
      simp only [hcs, ne_eq, not_true_eq_false, if_false]
      obtain ⟨b, o, sp⟩ := a
      have hsp : sp = none := by
        unfold stC at h
        split at h
        · assumption
        · cases h
      subst hsp
      refine wpS_storeCells b [v] o 0 st st' K ?_ hk
      simp [stN, hv, h]
    · cases h
  · rename_i n hi
    rw [wpS_size hi]
    split at h
    · rename_i cs hsp
      split at h
      · rename_i hc
        subst hc
        simp only [Value.cells, ne_eq, not_true_eq_false, if_false]
        obtain ⟨b, o, sp⟩ := a
        simp only at hsp
        subst hsp
        exact wpS_storeCells b cs.toList o 0 st st' K h hk
      · cases h
    · cases h
  · cases h
def loadX (P : Program) (t : TypeId) (v : Value) (K : Value → Heap → Prop) (st : Heap) : Prop := optK (Value.addr? v) fun a => optK (ldV P t st a) fun u => K u st
def storeX (P : Program) (t : TypeId) (v u : Value) (K : Value → Heap → Prop) (st : Heap) : Prop := optK (Value.addr? v) fun a => optK (stV P t st a u) fun st' => K undef st'
def fieldAddrX (P : Program) (t : TypeId) (f : Nat) (v : Value) (K : Value → Heap → Prop) (st : Heap) : Prop := optK (Value.addr? v) fun a => optK (fldInfo P t f) fun i => K (.pointer (some (a.add i.1))) st
def fieldX (P : Program) (t : TypeId) (f : Nat) (v : Value) (K : Value → Heap → Prop) (st : Heap) : Prop :=
  match v with
  | .agg cs => optK (fldInfo P t f) fun i => if i.2.1 = true then K (.agg (cs.extract i.1 (i.1 + i.2.2))) st else optK cs[i.1]? fun u => K u st
  | _ => False
def nilX (v : Value) (K : Value → Heap → Prop) (st : Heap) : Prop :=
  match v with
  | .pointer (some _) => K v st
  | .func (.func _) _ _ => K v st
  | _ => False
def pickX (c x y : Value) (K : Value → Heap → Prop) (st : Heap) : Prop :=
  match c with
  | .bool t => K (if t = true then x else y) st
  | _ => False
def extractX (v : Value) (i : Nat) (K : Value → Heap → Prop) (st : Heap) : Prop :=
  match v with
  | .tuple vs => optK vs[i]? fun u => K u st
  | _ => False

theorem execOp_v {P : Program} {s : Sem Value} {K : Next → Heap → Prop} {Kp : Value → Heap → Prop} {st : Heap} (h : wpS P s (fun v st => K (.value v) st) Kp st) : wpS P (do pure (.value (← s)) : Sem Next) K Kp st := by
  rw [wpS_bind]
  exact h
section
variable {P : Program} {W0 : World} {E : Env} {K : Value → Heap → Prop} {Kp : List PanicEntry → Heap → Prop} {st : Heap} {d : Option Nat} {ty : TypeId} {pos : String} {af : Array Edge} {g : Option (Nat × Bool)}
theorem X_load {t : TypeId} {x : Operand} (h : loadX P t (E.ev x) K st) : opW P W0 ⟨d, .load t x, ty, pos, af, g⟩ E K Kp st := by
  obtain ⟨a, ha, h⟩ := optK_iff.1 h
  obtain ⟨u, hu, h⟩ := optK_iff.1 h
  have he : E.ev x = .pointer (some a) := by
    revert ha
    cases E.ev x <;> simp [Value.addr?]
  show wpS P _ _ _ _
  unfold execOp
  simp only [he]
  exact execOp_v (wpS_loadVar hu h)
theorem X_store {t : TypeId} {x y : Operand} (h : storeX P t (E.ev x) (E.ev y) K st) : opW P W0 ⟨d, .store t x y, ty, pos, af, g⟩ E K Kp st := by
  obtain ⟨a, ha, h⟩ := optK_iff.1 h
  obtain ⟨u, hu, h⟩ := optK_iff.1 h
  have he : E.ev x = .pointer (some a) := by
    revert ha
    cases E.ev x <;> simp [Value.addr?]
  show wpS P _ _ _ _
  unfold execOp
  simp only [he]
  rw [wpS_bind]
  exact wpS_storeVar hu h
theorem X_fieldAddr {t : TypeId} {x : Operand} {f : Nat} (h : fieldAddrX P t f (E.ev x) K st) : opW P W0 ⟨d, .fieldAddr t x f, ty, pos, af, g⟩ E K Kp st := by
  obtain ⟨a, ha, h⟩ := optK_iff.1 h
  obtain ⟨i, hi, h⟩ := optK_iff.1 h
  have he : E.ev x = .pointer (some a) := by
    revert ha
    cases E.ev x <;> simp [Value.addr?]
  show wpS P _ _ _ _
  unfold execOp
  simp only [he]
  refine execOp_v ?_
  unfold fldInfo at hi
  split at hi
  · rename_i fs hu
    split at hi
    · rename_i fd hf
      split at hi
      · rename_i ag n hti
        injection hi with hi
        subst hi
        unfold Instr.fieldAt
        rw [wpS_bind, wpS_underlying hu]
        simp only [hf, Instr.sureAddr]
        rw [wpS_bind, wpS_pure, wpS_bind]
        unfold fieldPlace
        rw [wpS_bind, wpS_size hti]
        exact h
      · cases hi
    · cases hi
  · cases hi
theorem part_get {t : TypeId} {cs : Array Value} {off : Nat} {ag : Bool} {n : Nat} (hti : tyInfo P t = some (ag, n)) {K : Value → Heap → Prop} {Kp : Value → Heap → Prop}
    (h : if ag = true then K (.agg (cs.extract off (off + n))) st else optK cs[off]? fun u => K u st) : wpS P (part t cs off) K Kp st := by
  unfold part
  rw [wpS_bind, wpS_isAgg hti]
  cases ag with
  | true =>
    simp only [if_true] at h ⊢
    rw [wpS_bind, wpS_size hti]
    exact h
  | false =>
    simp only [Bool.false_eq_true, if_false] at h ⊢
    obtain ⟨u, hu, h⟩ := optK_iff.1 h
    rw [hu]
    exact h
theorem X_field {t : TypeId} {x : Operand} {f : Nat} (h : fieldX P t f (E.ev x) K st) : opW P W0 ⟨d, .field t x f, ty, pos, af, g⟩ E K Kp st := by
  show wpS P _ _ _ _
  unfold execOp
  refine execOp_v ?_
  unfold fieldX at h
  split at h
  · rename_i cs he
    obtain ⟨i, hi, h⟩ := optK_iff.1 h
    unfold fldInfo at hi
    split at hi
    · rename_i fs hu
      split at hi
      · rename_i fd hf
        split at hi
        · rename_i ag n hti
          injection hi with hi
          subst hi
          unfold Instr.field
          rw [wpS_bind, wpS_underlying hu]
          simp only [hf, he, asAgg]
          rw [wpS_bind, wpS_pure]
          exact part_get hti h
        · cases hi
      · cases hi
    · cases hi
  · exact h.elim
theorem X_nil {x : Operand} (h : nilX (E.ev x) K st) : opW P W0 ⟨d, .nilCheck x, ty, pos, af, g⟩ E K Kp st := by
  show wpS P _ _ _ _
  unfold execOp
  unfold nilX at h
  split at h
  · rename_i a he; simp only [he]; exact he ▸ h
  · rename_i f l c he; simp only [he]; exact he ▸ h
  · exact h.elim
theorem X_pick {c x y : Operand} (h : pickX (E.ev c) (E.ev x) (E.ev y) K st) : opW P W0 ⟨d, .pick c x y, ty, pos, af, g⟩ E K Kp st := by
  show wpS P _ _ _ _
  unfold execOp
  unfold pickX at h
  split at h
  · rename_i t he
    simp only [he, asBool]
    rw [wpS_bind, wpS_pure]
    exact h
  · exact h.elim
theorem X_extract {x : Operand} {i : Nat} (h : extractX (E.ev x) i K st) : opW P W0 ⟨d, .extract x i, ty, pos, af, g⟩ E K Kp st := by
  show wpS P _ _ _ _
  unfold execOp
  refine execOp_v ?_
  unfold extractX at h
  split at h
  · rename_i vs he
    obtain ⟨u, hu, h⟩ := optK_iff.1 h
    simp only [he, Instr.extract, hu]
    exact h
  · exact h.elim
end

/-! ### Numbers, texts, comparisons -/
def intBin (op : BinOp) (k : IntKind) (a b : Int) : Option Value :=
  match op with
  | .add => some (.int k (k.wrap (a + b)))
  | .sub => some (.int k (k.wrap (a - b)))
  | .mul => some (.int k (k.wrap (a * b)))
  | .quo => if b = 0 then none else some (.int k (k.wrap (a.tdiv b)))
  | .rem => if b = 0 then none else some (.int k (a.tmod b))
  | .and => some (.int k (bits .and k a b))
  | .or => some (.int k (bits .or k a b))
  | .xor => some (.int k (bits .xor k a b))
  | .andNot => some (.int k (bits .andNot k a b))
  | .eql => some (.bool (a == b))
  | .neq => some (.bool (a != b))
  | .lss => some (.bool (decide (a < b)))
  | .leq => some (.bool (decide (a ≤ b)))
  | .gtr => some (.bool (decide (b < a)))
  | .geq => some (.bool (decide (b ≤ a)))
  | _ => none
def shiftBin (op : BinOp) (k : IntKind) (a b : Int) : Option Value :=
  match op with
  | .shl => if b < 0 then none else some (.int k (k.wrap (a * 2 ^ (min b.toNat k.bits))))
  | .shr => if b < 0 then none else some (.int k (a.fdiv (2 ^ (min b.toNat k.bits))))
  | _ => none
def strEq (a b : ByteArray) : Bool := a.data.toList == b.data.toList
def strBin (op : BinOp) (a b : ByteArray) : Option Value :=
  match op with
  | .add => if a.size + b.size ≤ 9223372036854775807 then some (.string (a ++ b)) else none
  | .eql => some (.bool (strEq a b))
  | .neq => some (.bool (!strEq a b))
  | .lss => some (.bool (Op.bytesLess a.data.toList b.data.toList))
  | .leq => some (.bool (Op.bytesLess a.data.toList b.data.toList || strEq a b))
  | .gtr => some (.bool (!(Op.bytesLess a.data.toList b.data.toList || strEq a b)))
  | .geq => some (.bool (!Op.bytesLess a.data.toList b.data.toList))
  | _ => none
/-- A comparison with nil, or of bools. -/
def eqB (u : Option TypeDesc) (x y : Value) : Option Bool :=
  match u, x, y with
  | some .bool, .bool a, .bool b => some (a == b)
  | some (.pointer _), .pointer none, .pointer b => some b.isNone
  | some (.pointer _), .pointer (some _), .pointer none => some false
  | some (.interface _), .nilIface, .iface _ _ => some false
  | some (.interface _), .iface _ _, .nilIface => some false
  | some (.interface ms), .nilIface, .nilIface => if ms.isEmpty = true then some true else none
  | some (.slice _), .slice none _ _, .slice b _ _ => some b.isNone
  | some (.slice _), .slice (some _) _ _, .slice none _ _ => some false
  | some (.map _ _), .map none, .map b => some b.isNone
  | some (.map _ _), .map (some _), .map none => some false
  | some (.func _ _ _), .nilFunc, .nilFunc => some true
  | some (.func _ _ _), .func _ _ _, .nilFunc => some false
  | some (.func _ _ _), .nilFunc, .func _ _ _ => some false
  | _, _, _ => none
def fieldsEq (P : Program) (xs ys : Array Value) : List Field → Option Bool
  | [] => some true
  | f :: fs => match P.underlying f.type, xs[f.offset]?, ys[f.offset]? with
    | some (.int _), some (.int k a), some (.int k' b) => if f.name ≠ "_" ∧ k = k' then (if (a == b) = true then fieldsEq P xs ys fs else some false) else none
    | some .string, some (.string a), some (.string b) => if f.name ≠ "_" then (if strEq a b = true then fieldsEq P xs ys fs else some false) else none
    | some .bool, some (.bool a), some (.bool b) => if f.name ≠ "_" then (if (a == b) = true then fieldsEq P xs ys fs else some false) else none
    | _, _, _ => none
def aggEqB (P : Program) (t : TypeId) (xs ys : Array Value) : Option Bool :=
  match P.underlying t with
  | some (.struct fs) => if P.stoodInHeld t = false ∧ P.eqGuardType P.depth t = false then fieldsEq P xs ys fs.toList else none
  | _ => none
def eqBin (P : Program) (t : TypeId) (x y : Value) : Option Bool :=
  match x, y with
  | .agg xs, .agg ys => aggEqB P t xs ys
  | x, y => eqB (P.underlying t) x y
def isShift : BinOp → Bool | .shl | .shr => true | _ => false
def floatBin (op : BinOp) (k : FloatKind) (a b : Nat) : Option Value :=
  match op with
  | .eql => some (.bool (k.format.order a b == some .eq))
  | .neq => some (.bool (k.format.order a b != some .eq))
  | .lss => some (.bool (k.format.order a b == some .lt))
  | .leq => some (.bool (k.format.order a b == some .lt || k.format.order a b == some .eq))
  | .gtr => some (.bool (k.format.order a b == some .gt))
  | .geq => some (.bool (k.format.order a b == some .gt || k.format.order a b == some .eq))
  | _ => none
def binV (P : Program) (op : BinOp) (t : TypeId) (x y : Value) : Option Value :=
  match x, y with
  | .int k a, .int k' b => if isShift op then shiftBin op k a b else if k = k' then intBin op k a b else none
  | .string a, .string b => strBin op a b
  | .float k a, .float k' b => if k = k' then floatBin op k a b else none
  | x, y => match op with
    | .eql => (eqBin P t x y).map fun b => .bool b
    | .neq => (eqBin P t x y).map fun b => .bool (!b)
    | _ => none
def unV (op : UnOp) (x : Value) : Option Value :=
  match op, x with
  | .not, .bool b => some (.bool (!b))
  | .neg, .int k n => some (.int k (k.wrap (0 - n)))
  | .xor, .int k n => some (.int k (bits .xor k (if k.signed then -1 else k.max) n))
  | _, _ => none
section
variable {P : Program} {W0 : World} {E : Env} {K : Value → Heap → Prop} {Kp : List PanicEntry → Heap → Prop} {st : Heap} {d : Option Nat} {ty : TypeId} {pos : String} {af : Array Edge} {g : Option (Nat × Bool)}
theorem intBin_spec {op : BinOp} {t : TypeId} {k : IntKind} {a b : Int} {v : Value} {K : Value → Heap → Prop} {Kp : Value → Heap → Prop} (h : (if isShift op then shiftBin op k a b else intBin op k a b) = some v) (hk : K v st) : wpS P (binOp op t (.int k a) (.int k b)) K Kp st := by
  unfold binOp
  cases op <;> simp only [isShift, if_true, if_false, Bool.false_eq_true, intBin, shiftBin] at h <;> first
    | (cases h; done)
    | (injection h with h; subst h; simp only [ne_eq, not_true_eq_false, if_false]; exact hk)
    | (split at h
       · cases h
       · rename_i hb; injection h with h; subst h
         simp only [ne_eq, not_true_eq_false, if_false, Op.shift, Op.intDiv, hb]
         exact hk)
theorem floatBin_spec {op : BinOp} {t : TypeId} {k : FloatKind} {a b : Nat} {v : Value} {K : Value → Heap → Prop} {Kp : Value → Heap → Prop} (h : floatBin op k a b = some v) (hk : K v st) : wpS P (binOp op t (.float k a) (.float k b)) K Kp st := by
  unfold binOp
  cases op <;> simp only [floatBin] at h <;> first
    | (cases h; done)
    | (injection h with h; subst h; simp only [ne_eq, not_true_eq_false, if_false, Op.floatCmp]; exact hk)
theorem shiftBin_spec {op : BinOp} {t : TypeId} {k k' : IntKind} {a b : Int} {v : Value} {K : Value → Heap → Prop} {Kp : Value → Heap → Prop} (ho : isShift op = true) (h : shiftBin op k a b = some v) (hk : K v st) : wpS P (binOp op t (.int k a) (.int k' b)) K Kp st := by
  unfold binOp
  cases op <;> simp only [isShift, Bool.false_eq_true] at ho
  all_goals
    simp only [shiftBin] at h
    split at h
    · cases h
    · rename_i hb; injection h with h; subst h
      simp only [Op.shift, hb, if_false]
      exact hk
theorem strEq_spec (a b : ByteArray) : (a.toList == b.toList) = strEq a b := by simp [strEq, ByteArray.toList_eq]
end
end Go.Proofs.YtflbapmjdfnhhaaGreat
