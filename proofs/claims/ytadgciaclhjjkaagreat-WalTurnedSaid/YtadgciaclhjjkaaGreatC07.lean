/- The rewriting rules of a symbolic run. -/
import Derived.Test.YtadgciaclhjjkaaGreatC06
set_option linter.unusedVariables false
set_option linter.unusedSimpArgs false
namespace Go.Proofs.YtadgciaclhjjkaaGreat
open Go.RowKit (Below)

section
variable {P : Program} {W0 : World} {Q : IPost} {Kp : PPost} {E : Env} {st : Heap}
/-- What stands behind an operation. -/
def KL (P : Program) (W0 : World) (ops : Array Oper) (Q : IPost) (Kp : PPost) (rest : List Oper) (E : Env) (d : Option Nat) : Value → Heap → Prop := fun v st => IL P W0 ops Q Kp rest (E.put d v) st
@[go_sem ↓] theorem KL_some (ops : Array Oper) (rest : List Oper) (d : Nat) (v : Value) : KL P W0 ops Q Kp rest E (some d) v st = IL P W0 ops Q Kp rest (E.set d v) st := (rfl)
@[go_sem ↓] theorem KL_none (ops : Array Oper) (rest : List Oper) (v : Value) : KL P W0 ops Q Kp rest E none v st = IL P W0 ops Q Kp rest E st := (rfl)
@[go_sem ↓] theorem IL_nil (ops : Array Oper) : IL P W0 ops Q Kp [] E st = Q .normal E st := (rfl)
@[go_sem ↓] theorem IL_plain (ops : Array Oper) (rest : List Oper) (d : Option Nat) (op : Op) (ty : TypeId) (pos : String) (af : Array Edge) :
    IL P W0 ops Q Kp (⟨d, op, ty, pos, af, none⟩ :: rest) E st = opX P W0 ⟨d, op, ty, pos, af, none⟩ E (KL P W0 ops Q Kp rest E d) Kp st := (rfl)
/-- A guarded operation: the guard's slot. -/
def GuardI (v : Value) (want : Bool) (yes no : Prop) : Prop := match v with | .bool b => (if b = want then yes else no) | _ => no
def gl : List Oper → Nat → Option Nat
  | [], _ => none
  | o :: _, 0 => o.dst
  | _ :: l, j + 1 => gl l j
def gv (E : Env) : Option Nat → Value
  | some k => E k
  | none => undef
@[go_sem ↓] theorem gl_zero (o : Oper) (l : List Oper) : gl (o :: l) 0 = o.dst := (rfl)
@[go_sem ↓] theorem gl_succ (o : Oper) (l : List Oper) (j : Nat) : gl (o :: l) (j + 1) = gl l j := (rfl)
@[go_sem] theorem gv_some (k : Nat) : gv E (some k) = E k := (rfl)
theorem gl_eq : ∀ (l : List Oper) (j : Nat), (l[j]?).bind (·.dst) = gl l j
  | [], _ => rfl
  | o :: l, 0 => rfl
  | o :: l, j + 1 => by
    show _ = gl l j
    rw [List.getElem?_cons_succ]
    exact gl_eq l j
@[go_sem ↓] theorem IL_guard (l : List Oper) (rest : List Oper) (d : Option Nat) (op : Op) (ty : TypeId) (pos : String) (af : Array Edge) (j : Nat) (want : Bool) :
    IL P W0 l.toArray Q Kp (⟨d, op, ty, pos, af, some (j, want)⟩ :: rest) E st = GuardI (gv E (gl l j)) want (opX P W0 ⟨d, op, ty, pos, af, none⟩ E (KL P W0 l.toArray Q Kp rest E d) Kp st) (IL P W0 l.toArray Q Kp rest (E.put d undef) st) := by
  have hop : opX P W0 ⟨d, op, ty, pos, af, some (j, want)⟩ E (KL P W0 l.toArray Q Kp rest E d) Kp st = opX P W0 ⟨d, op, ty, pos, af, none⟩ E (KL P W0 l.toArray Q Kp rest E d) Kp st := by
    unfold opX
    simp only
    split <;> first | rfl
  show (bif wantedE l.toArray ⟨d, op, ty, pos, af, some (j, want)⟩ E then opX P W0 ⟨d, op, ty, pos, af, some (j, want)⟩ E (KL P W0 l.toArray Q Kp rest E d) Kp st else IL P W0 l.toArray Q Kp rest (E.put d undef) st) = _
  rw [hop]
  simp only [wantedE, List.getElem?_toArray, gl_eq, GuardI]
  cases gl l j with
  | none => rfl
  | some k =>
    simp only [gv]
    generalize E k = v
    cases v <;> first
      | rfl
      | (rename_i b; cases b <;> cases want <;> rfl)
@[go_sem ↓] theorem IW_seq (x y : Code) : IW P W0 (.seq x y) Q Kp E st = IW P W0 x (ThenI (IW P W0 y Q Kp) Q) Kp E st := (rfl)
@[go_sem ↓] theorem IW_region (id : Nat) (l : List Oper) : IW P W0 (.region id l.toArray false) Q Kp E st = IL P W0 l.toArray Q Kp l E st := (rfl)
@[go_sem ↓] theorem IW_draw (id : Nat) (l : List Oper) : IW P W0 (.region id l.toArray true) Q Kp E st = DrawI P W0 l Q Kp E st := (rfl)
@[go_sem ↓] theorem pk_nil (l : List Oper) : pk l [] = [] := (rfl)
@[go_sem ↓] theorem pk_cons (l : List Oper) (i : Nat) (r : List Nat) : pk l (i :: r) = match l[i]? with | some o => o :: pk l r | none => pk l r := (rfl)
def CondI (v : Value) (x y : Prop) : Prop := match v with | .bool t => (if t = true then x else y) | _ => False
@[go_sem ↓] theorem IW_cond (c : Operand) (x y : Code) : IW P W0 (.cond c x y) Q Kp E st = CondI (E.ev c) (IW P W0 x Q Kp E st) (IW P W0 y Q Kp E st) := (rfl)
@[go_sem ↓] theorem IW_block (id : Nat) (c : Code) : IW P W0 (.block id c) Q Kp E st = IW P W0 c (BlockI id Q) Kp E st := (rfl)
@[go_sem ↓] theorem IW_loop (c : Code) : IW P W0 (.loop c) Q Kp E st = LoopI (fun Q' => IW P W0 c Q' Kp) Q E st := (rfl)
@[go_sem ↓] theorem IW_exit (id : Nat) : IW P W0 (.exit id) Q Kp E st = Q (.exit id) E st := (rfl)
@[go_sem ↓] theorem IW_ret : IW P W0 .ret Q Kp E st = Q .ret E st := (rfl)
@[go_sem ↓] theorem IW_skip : IW P W0 .skip Q Kp E st = Q .normal E st := (rfl)
@[go_sem ↓] theorem IW_label (l : Nat) : IW P W0 (.label l) Q Kp E st = Q .normal E st := (rfl)
@[go_sem ↓] theorem IW_goto (l : Nat) : IW P W0 (.goto l) Q Kp E st = Q (.goto l) E st := (rfl)
@[go_sem ↓] theorem IW_scope (c : Code) : IW P W0 (.scope c) Q Kp E st = IW P W0 c (NoGotoI Q) Kp E st := (rfl)
variable {K : Env → Heap → Prop}
@[go_sem ↓] theorem ThenI_normal : ThenI K Q .normal E st = K E st := (rfl)
@[go_sem ↓] theorem ThenI_ret : ThenI K Q .ret E st = Q .ret E st := (rfl)
@[go_sem ↓] theorem ThenI_exit (i : Nat) : ThenI K Q (.exit i) E st = Q (.exit i) E st := (rfl)
@[go_sem ↓] theorem ThenI_goto (i : Nat) : ThenI K Q (.goto i) E st = Q (.goto i) E st := (rfl)
@[go_sem ↓] theorem BlockI_normal (i : Nat) : BlockI i Q .normal E st = Q .normal E st := (rfl)
@[go_sem ↓] theorem BlockI_ret (i : Nat) : BlockI i Q .ret E st = Q .ret E st := (rfl)
@[go_sem ↓] theorem BlockI_exit (i j : Nat) : BlockI i Q (.exit j) E st = if j = i then Q .normal E st else Q (.exit j) E st := (rfl)
@[go_sem ↓] theorem BlockI_goto (i l : Nat) : BlockI i Q (.goto l) E st = Q (.goto l) E st := (rfl)
@[go_sem ↓] theorem NoGotoI_normal : NoGotoI Q .normal E st = Q .normal E st := (rfl)
@[go_sem ↓] theorem NoGotoI_ret : NoGotoI Q .ret E st = Q .ret E st := (rfl)
@[go_sem ↓] theorem NoGotoI_exit (i : Nat) : NoGotoI Q (.exit i) E st = Q (.exit i) E st := (rfl)
end

/-! The frame. -/
section
variable (E : Env) (d t : Nat) (v : Value)
@[go_sem ↓] theorem ev_tmp : E.ev (.tmp t) = E t := (rfl)
@[go_sem ↓] theorem ev_const : E.ev (.const v) = v := (rfl)
@[go_sem ↓] theorem ev_func (f : FuncId) : E.ev (.func f) = .func (.func f) #[] #[] := (rfl)
@[go_sem ↓] theorem put_some : E.put (some d) v = E.set d v := (rfl)
@[go_sem ↓] theorem put_none : E.put none v = E := (rfl)
@[go_sem ↓] theorem set_get : E.set d v t = if t = d then v else E t := (rfl)
@[go_sem ↓] theorem args_zero (x : Value) (l : List Value) : Env.args (x :: l) 0 = x := (rfl)
@[go_sem ↓] theorem args_succ (x : Value) (l : List Value) (i : Nat) : Env.args (x :: l) (i + 1) = Env.args l i := (rfl)
end

/-! Operations. -/
section
variable {P : Program} {W0 : World} {E : Env} {K : Value → Heap → Prop} {Kp : List PanicEntry → Heap → Prop} {st : Heap} {d : Option Nat} {ty : TypeId} {pos : String} {af : Array Edge} {g : Option (Nat × Bool)}
@[go_sem ↓] theorem o_move (x : Operand) : opX P W0 ⟨d, .move x, ty, pos, af, g⟩ E K Kp st = K (E.ev x) st := (rfl)
@[go_sem ↓] theorem o_assign (x : Operand) : opX P W0 ⟨d, .assign x, ty, pos, af, g⟩ E K Kp st = K (E.ev x) st := (rfl)
@[go_sem ↓] theorem o_pick (c a b : Operand) : opX P W0 ⟨d, .pick c a b, ty, pos, af, g⟩ E K Kp st = pickX (E.ev c) (E.ev a) (E.ev b) K st := (rfl)
@[go_sem ↓] theorem o_extract (x : Operand) (i : Nat) : opX P W0 ⟨d, .extract x i, ty, pos, af, g⟩ E K Kp st = extractY (E.ev x) i K st := (rfl)
@[go_sem ↓] theorem o_nil (x : Operand) : opX P W0 ⟨d, .nilCheck x, ty, pos, af, g⟩ E K Kp st = nilX (E.ev x) K st := (rfl)
@[go_sem ↓] theorem o_fieldAddr (t : TypeId) (x : Operand) (f : Nat) : opX P W0 ⟨d, .fieldAddr t x f, ty, pos, af, g⟩ E K Kp st = fieldAddrY (fldInfo P t f) (E.ev x) K st := (rfl)
@[go_sem ↓] theorem o_field (t : TypeId) (x : Operand) (f : Nat) : opX P W0 ⟨d, .field t x f, ty, pos, af, g⟩ E K Kp st = fieldY (fldInfo P t f) (E.ev x) K st := (rfl)
@[go_sem ↓] theorem o_load (t : TypeId) (x : Operand) : opX P W0 ⟨d, .load t x, ty, pos, af, g⟩ E K Kp st = loadY (tyInfo P t) (E.ev x) K st := (rfl)
@[go_sem ↓] theorem o_store (t : TypeId) (x y : Operand) : opX P W0 ⟨d, .store t x y, ty, pos, af, g⟩ E K Kp st = storeY (tyInfo P t) (E.ev x) (E.ev y) K st := (rfl)
@[go_sem ↓] theorem o_bin (op : BinOp) (t u : TypeId) (x y : Operand) : opX P W0 ⟨d, .binOp op t x y u, ty, pos, af, g⟩ E K Kp st = optS (binV P op t (E.ev x) (E.ev y)) K st := (rfl)
@[go_sem ↓] theorem o_un (op : UnOp) (t : TypeId) (x : Operand) : opX P W0 ⟨d, .unOp op t x, ty, pos, af, g⟩ E K Kp st = optS (unV op (E.ev x)) K st := (rfl)
@[go_sem ↓] theorem o_box (e : TypeId) (x : Operand) : opX P W0 ⟨d, .box e x, ty, pos, af, g⟩ E K Kp st = NewP e (E.ev x).cells.toList K st := (rfl)
@[go_sem ↓] theorem o_alloc (e : TypeId) : opX P W0 ⟨d, .alloc e, ty, pos, af, g⟩ E K Kp st = allocY (zeroOf P e) e K st := (rfl)
/-- A struct's or a slice's parts, read off the frame. -/
def evParts (E : Env) (l : List (Nat × Operand)) : List (Nat × Value) := l.map fun p => (p.1, E.ev p.2)
@[go_sem ↓] theorem evParts_nil (E : Env) : evParts E [] = [] := (rfl)
@[go_sem ↓] theorem evParts_cons (E : Env) (i : Nat) (x : Operand) (l : List (Nat × Operand)) : evParts E ((i, x) :: l) = (i, E.ev x) :: evParts E l := (rfl)
def evList (E : Env) (l : List Operand) : List Value := l.map E.ev
@[go_sem ↓] theorem evList_nil (E : Env) : evList E [] = [] := (rfl)
@[go_sem ↓] theorem evList_cons (E : Env) (x : Operand) (l : List Operand) : evList E (x :: l) = E.ev x :: evList E l := (rfl)
@[go_sem ↓] theorem o_build (t : TypeId) (ps : List (Nat × Operand)) : opX P W0 ⟨d, .build t ps.toArray, ty, pos, af, g⟩ E K Kp st = buildY (bldInfo P t) (evParts E ps) K st := (rfl)
@[go_sem ↓] theorem o_buildSlice (t : TypeId) (n : Nat) (ps : List (Nat × Operand)) : opX P W0 ⟨d, .buildSlice t n ps.toArray, ty, pos, af, g⟩ E K Kp st = buildSliceY (slInfo P t) n (evParts E ps) K st := (rfl)
@[go_sem ↓] theorem o_conv (src dst : TypeId) (x : Operand) : opX P W0 ⟨d, .convert src dst x, ty, pos, af, g⟩ E K Kp st = convY P src dst (P.underlying src) (P.underlying dst) (E.ev x) K st := (rfl)
@[go_sem ↓] theorem o_indexAddr (t : TypeId) (x i : Operand) : opX P W0 ⟨d, .indexAddr t x i, ty, pos, af, g⟩ E K Kp st = indexAddrY (P.underlying t) (slInfo P t) (arrInfo P t) (E.ev x) (E.ev i) K st := (rfl)
@[go_sem ↓] theorem o_index (t : TypeId) (x i : Operand) : opX P W0 ⟨d, .index t x i, ty, pos, af, g⟩ E K Kp st = indexY (P.underlying t) (arrInfo P t) (E.ev x) (E.ev i) K st := (rfl)
@[go_sem ↓] theorem o_slice (t : TypeId) (x : Operand) (lo hi mx : Option Operand) : opX P W0 ⟨d, .slice t x lo hi mx, ty, pos, af, g⟩ E K Kp st = sliceY (P.underlying t) (slInfo P t) (arrInfo P t) (E.ev x) (lo.map E.ev) (hi.map E.ev) (mx.map E.ev) K st := (rfl)
@[go_sem ↓] theorem o_makeSlice (t : TypeId) (x y : Operand) : opX P W0 ⟨d, .makeSlice t x y, ty, pos, af, g⟩ E K Kp st = makeSliceY (slInfo P t) (E.ev x) (E.ev y) K st := (rfl)
@[go_sem ↓] theorem o_makeMap (t : TypeId) : opX P W0 ⟨d, .makeMap t none, ty, pos, af, g⟩ E K Kp st = NewM K st := (rfl)
@[go_sem ↓] theorem o_makeFunc (fn : Fn) (a b : List Operand) : opX P W0 ⟨d, .makeFunc fn a.toArray b.toArray, ty, pos, af, g⟩ E K Kp st = K (.func fn (evList E a).toArray (evList E b).toArray) st := by simp [opX, evList]
@[go_sem ↓] theorem o_makeInterface (t : TypeId) (x : Operand) : opX P W0 ⟨d, .makeInterface t x, ty, pos, af, g⟩ E K Kp st = (notIface P t = true ∧ K (.iface t (E.ev x)) st) := (rfl)
@[go_sem ↓] theorem o_lookup (t : TypeId) (x k : Operand) (ok : Bool) : opX P W0 ⟨d, .lookup t x k ok, ty, pos, af, g⟩ E K Kp st = lookupY (mapInfo P t) (mapOf st (E.ev x)) (E.ev k) ok K st := (rfl)
@[go_sem ↓] theorem o_mapUpdate (t : TypeId) (x k v : Operand) : opX P W0 ⟨d, .mapUpdate t x k v, ty, pos, af, g⟩ E K Kp st = mapUpdY (mapInfo P t) (E.ev x) (mapOf st (E.ev x)) (E.ev k) (E.ev v) K st := (rfl)
@[go_sem ↓] theorem o_mapEntry (t : TypeId) (x k : Operand) : opX P W0 ⟨d, .mapEntry t x k, ty, pos, af, g⟩ E K Kp st = MapEntryI P t (E.ev x) (E.ev k) K st := (rfl)
@[go_sem ↓] theorem o_entryStore (t : TypeId) (x n v : Operand) : opX P W0 ⟨d, .entryStore t x n v, ty, pos, af, g⟩ E K Kp st = EntryStoreI (E.ev x) (E.ev n) (E.ev v) K st := (rfl)
@[go_sem ↓] theorem o_range (t : TypeId) (x : Operand) : opX P W0 ⟨d, .range t x, ty, pos, af, g⟩ E K Kp st = (isMapT P t = true ∧ RangeI (E.ev x) K st) := (rfl)
@[go_sem ↓] theorem o_next (x : Operand) : opX P W0 ⟨d, .next x false, ty, pos, af, g⟩ E K Kp st = NextI' (E.ev x) K st := (rfl)
@[go_sem ↓] theorem o_entry (x : Operand) : opX P W0 ⟨d, .entry x, ty, pos, af, g⟩ E K Kp st = EntryI (E.ev x) K st := (rfl)
/-- A call: the run stops at 'ICalls'. -/
def callY (P : Program) (W0 : World) (f : Value) (args : List Value) (K : Value → Heap → Prop) (Kp : List PanicEntry → Heap → Prop) (st : Heap) : Prop := callX P W0 f args.toArray K Kp st
@[go_sem ↓] theorem o_call (f : Operand) (args : List Operand) (ts : Array TypeId) : opX P W0 ⟨d, .call ⟨.value f, args.toArray, ts⟩, ty, pos, af, g⟩ E K Kp st = callY P W0 (E.ev f) (evList E args) K Kp st := by
  simp [opX, callY, evList]
@[go_sem ↓] theorem o_builtin (b : Builtin) (args : List Operand) (ts : List TypeId) : opX P W0 ⟨d, .call ⟨.builtin b, args.toArray, ts.toArray⟩, ty, pos, af, g⟩ E K Kp st = builtinY P b (evList E args) ts K st := (rfl)
theorem callX_func {f : FuncId} {a b args : Array Value} (h : callOK P f = true) : callX P W0 (.func (.func f) a b) args K Kp st = ICalls P W0 f (a ++ args ++ b) st (EndI K Kp) := by
  refine propext ⟨fun hc => ?_, fun hc => .inl ⟨h, hc⟩⟩
  rcases hc with hc | ⟨e, he, _⟩
  · exact hc.2
  · rw [he.not_ok] at h; cases h
@[go_sem] theorem callY_func (f : FuncId) (args : List Value) (h : callOK P f = true) : callY P W0 (.func (.func f) #[] #[]) args K Kp st = ICalls P W0 f args.toArray st (EndI K Kp) := by
  unfold callY
  rw [callX_func h]
  simp
@[go_sem] theorem callY_clos (f : FuncId) (a b args : List Value) (h : callOK P f = true) : callY P W0 (.func (.func f) a.toArray b.toArray) args K Kp st = ICalls P W0 f (a ++ args ++ b).toArray st (EndI K Kp) := by
  unfold callY
  rw [callX_func h]
  simp
theorem callY_ext (f : FuncId) (args : List Value) {e : Array Value → Sem Value} (h : ExtF P f e) : callY P W0 (.func (.func f) #[] #[]) args K Kp st = wpS P (e args.toArray) K (fun v st => Kp (one v) st) st := by
  refine propext ⟨fun hc => ?_, fun hc => .inr ⟨e, h, by simpa using hc⟩⟩
  rcases hc with hc | ⟨e', he, hc⟩
  · have := hc.1; rw [h.not_ok] at this; cases this
  · rw [h.same he]; simpa using hc
/-- A call of yield: the run stops here. -/
def YieldI (P : Program) (W0 : World) (l : Nat) (args : List Value) (K : Value → Heap → Prop) (Kp : List PanicEntry → Heap → Prop) (st : Heap) : Prop := callX P W0 (.func (.yield l) #[] #[]) args.toArray K Kp st
@[go_sem] theorem callY_yield (l : Nat) (args : List Value) : callY P W0 (.func (.yield l) #[] #[]) args K Kp st = YieldI P W0 l args K Kp st := (rfl)
@[go_sem] theorem optS_some (v : Value) : optS (some v) K st = K v st := (rfl)
@[go_sem] theorem optT_some (v : ByteArray) : optT (some v) K st = K (.string v) st := (rfl)
@[go_sem] theorem optB_some (b : Nat) (x : HObj) : optB (some x) b K st = K undef (upd st b x) := (rfl)
@[go_sem] theorem optM_some (g : Tg) (r : Nat) (v : Value) (x : KV) : optM (some x) g r v K st = K v (upd st r (.map g x)) := (rfl)
@[go_sem] theorem pick_bool (t : Bool) (x y : Value) : pickX (.bool t) x y K st = K (if t = true then x else y) st := (rfl)
@[go_sem] theorem extract_tuple (l : List Value) (i : Nat) : extractY (.tuple l.toArray) i K st = optS l[i]? K st := by simp [extractY]
@[go_sem] theorem nil_ptr (a : Addr) : nilX (.pointer (some a)) K st = K (.pointer (some a)) st := (rfl)
@[go_sem] theorem nil_func (f : FuncId) (a b : Array Value) : nilX (.func (.func f) a b) K st = K (.func (.func f) a b) st := (rfl)
@[go_sem] theorem fieldAddr_mk (i : Nat × Bool × Nat) (b o : Nat) : fieldAddrY (some i) (.pointer (some ⟨b, o, none⟩)) K st = K (.pointer (some ⟨b, o + i.1, none⟩)) st := by
  simp only [fieldAddrY, add_mk]
@[go_sem] theorem field_one (off n : Nat) (l : List Value) : fieldY (some (off, false, n)) (.agg l.toArray) K st = optS l[off]? K st := by simp [fieldY]
@[go_sem] theorem field_agg (off n : Nat) (l : List Value) : fieldY (some (off, true, n)) (.agg l.toArray) K st = K (.agg ((l.drop off).take n).toArray) st := by
  simp only [fieldY, List.extract_toArray, List.extract_eq_take_drop]
  congr 4
  omega
@[go_sem] theorem load_one (n b o : Nat) : loadY (some (false, n)) (.pointer (some ⟨b, o, none⟩)) K st = optS (cellsOf (st b))[o]? K st := by
  simp only [loadY, lk_mk]
@[go_sem] theorem load_agg (n b o : Nat) : loadY (some (true, n)) (.pointer (some ⟨b, o, none⟩)) K st = optS (if o + n ≤ (cellsOf (st b)).length then some (.agg (((cellsOf (st b)).drop o).take n).toArray) else none) K st := by
  simp only [loadY, lkN_mk]
  split <;> rfl
@[go_sem] theorem cellsOf_some (rw : Bool) (xs : List Value) (n : Nat) (e : Tg) : cellsOf (some (.cells rw xs n e)) = xs := (rfl)
@[go_sem] theorem store_one (b o : Nat) (u : Value) : storeY (some (false, 1)) (.pointer (some ⟨b, o, none⟩)) u K st = if u.oneCell' = true then optB (stB (st b) o u) b K st else False := (rfl)
@[go_sem] theorem store_agg (n b o : Nat) (l : List Value) : storeY (some (true, n)) (.pointer (some ⟨b, o, none⟩)) (.agg l.toArray) K st = if l.length = n then optB (stA (st b) o l) b K st else False := (rfl)
@[go_sem] theorem stB_mk (xs : List Value) (n : Nat) (e : Tg) (i : Nat) (u : Value) : stB (some (.cells true xs n e)) i u = if i ≤ xs.length ∧ i < n then some (.cells true (putCell xs i u) n e) else none := (rfl)
@[go_sem] theorem stA_mk (xs : List Value) (n : Nat) (e : Tg) (i : Nat) (us : List Value) : stA (some (.cells true xs n e)) i us = if i + us.length ≤ xs.length ∧ xs.length ≤ n ∧ us.all Value.oneCell' = true then some (.cells true (splice xs i us) n e) else none := (rfl)
attribute [go_sem] putCell splice Value.oneCell'
@[go_sem] theorem alloc_some (z : Value) (e : TypeId) : allocY (some z) e K st = NewP e z.cells.toList K st := (rfl)
@[go_sem] theorem build_some (z : List Value) (ps : List (Nat × Nat)) (parts : List (Nat × Value)) : buildY (some (z, ps)) parts K st = optS ((fillY ps z parts).map fun l => .agg l.toArray) K st := (rfl)
@[go_sem] theorem fillY_nil (ps : List (Nat × Nat)) (z : List Value) : fillY ps z [] = some z := (rfl)
def fillY1 (p : Option (Nat × Nat)) (ps : List (Nat × Nat)) (z : List Value) (v : Value) (rest : List (Nat × Value)) : Option (List Value) :=
  match p with
  | some (off, size) => if v.oneCell' = true then (if size = 1 ∧ off < z.length then fillY ps (z.set off v) rest else none)
      else if v.cells.size = size ∧ off + size ≤ z.length then fillY ps (splice z off v.cells.toList) rest else none
  | none => none
@[go_sem] theorem fillY_cons (ps : List (Nat × Nat)) (z : List Value) (i : Nat) (v : Value) (rest : List (Nat × Value)) : fillY ps z ((i, v) :: rest) = fillY1 ps[i]? ps z v rest := by
  simp only [fillY, fillY1]
  cases ps[i]? <;> rfl
@[go_sem] theorem fillY1_some (off size : Nat) (ps : List (Nat × Nat)) (z : List Value) (v : Value) (rest : List (Nat × Value)) : fillY1 (some (off, size)) ps z v rest = if v.oneCell' = true then (if size = 1 ∧ off < z.length then fillY ps (z.set off v) rest else none)
      else if v.cells.size = size ∧ off + size ≤ z.length then fillY ps (splice z off v.cells.toList) rest else none := (rfl)
@[go_sem] theorem buildSlice_some (e size bytes : Nat) (z : List Value) (len : Nat) (parts : List (Nat × Value)) : buildSliceY (some (e, size, bytes, z)) len parts K st = if len * size ≤ 16777216 then newSO (fillS size (zerosL z len) parts) e len K st else False := (rfl)
@[go_sem] theorem newSO_some (xs : List Value) (e len : Nat) : newSO (some xs) e len K st = NewS e xs len len K st := (rfl)
@[go_sem] theorem fillS_nil (size : Nat) (z : List Value) : fillS size z [] = some z := (rfl)
@[go_sem] theorem fillS_cons (size : Nat) (z : List Value) (i : Nat) (v : Value) (rest : List (Nat × Value)) : fillS size z ((i, v) :: rest) = if v.oneCell' = true then (if size = 1 ∧ i < z.length then fillS size (z.set i v) rest else none)
      else if v.cells.size = size ∧ i * size + size ≤ z.length then fillS size (splice z (i * size) v.cells.toList) rest else none := (rfl)
@[go_sem] theorem zerosL_zero (z : List Value) : zerosL z 0 = [] := (rfl)
@[go_sem] theorem zerosL_succ (z : List Value) (n : Nat) : zerosL z (n + 1) = z ++ zerosL z n := (rfl)
@[go_sem] theorem cells_agg (a : Array Value) : (Value.agg a).cells = a := (rfl)
@[go_sem] theorem conv_int (src dst : TypeId) (t : TypeDesc) (k kk : IntKind) (n : Int) : convY P src dst (some t) (some (.int k)) (.int kk n) K st = K (.int k (k.wrap n)) st := by cases t <;> rfl
@[go_sem] theorem conv_text (src dst : TypeId) (s : ByteArray) : convY P src dst (some .string) (some .string) (.string s) K st = K (.string s) st := (rfl)
@[go_sem] theorem conv_bytes (src dst e : TypeId) (s : ByteArray) : convY P src dst (some .string) (some (.slice e)) (.string s) K st = (P.underlying e = some (.int .u8) ∧ NewB e s K st) := (rfl)
@[go_sem] theorem conv_totext (src dst e : TypeId) (a : Option Addr) (n c : Nat) : convY P src dst (some (.slice e)) (some .string) (.slice a n c) K st = (P.underlying e = some (.int .u8) ∧ optT (textOf st (.slice a n c)) K st) := (rfl)
@[go_sem] theorem conv_same (src dst e e' : TypeId) (a : Addr) (n c : Nat) : convY P src dst (some (.slice e)) (some (.slice e')) (.slice (some a) n c) K st = (src = dst ∧ P.underlying e = some (.int .u8) ∧ (∃ xs n e, st a.block = some (.cells true xs n e)) ∧ K (.slice (some a) n c) st) := (rfl)
@[go_sem] theorem indexAddr_row (u : Option TypeDesc) (r : Option (Nat × Bool × Nat × List Value)) (b o len cap : Nat) (k : IntKind) (n : Int) (e size by_ : Nat) (z : List Value) : indexAddrY u (some (e, size, by_, z)) r (.slice (some ⟨b, o, none⟩) len cap) (.int k n) K st = (0 ≤ n ∧ n < len ∧ K (.pointer (some ⟨b, o + n.toNat * size, none⟩)) st) := by
  simp only [indexAddrY, add_mk]
@[go_sem] theorem indexAddr_arr (u : Option TypeDesc) (s : Option (TypeId × Nat × Nat × List Value)) (b o len size : Nat) (ag : Bool) (k : IntKind) (n : Int) (z : List Value) : indexAddrY u s (some (len, ag, size, z)) (.pointer (some ⟨b, o, none⟩)) (.int k n) K st = (0 ≤ n ∧ n < len ∧ K (.pointer (some ⟨b, o + n.toNat * size, none⟩)) st) := by
  simp only [indexAddrY, add_mk]
@[go_sem] theorem index_text (r : Option (Nat × Bool × Nat × List Value)) (s : ByteArray) (k : IntKind) (n : Int) : indexY (some .string) r (.string s) (.int k n) K st = (0 ≤ n ∧ n < s.size ∧ K (.int .u8 (btOf s n)) st) := (rfl)
@[go_sem] theorem index_arr (u : Option TypeDesc) (len size : Nat) (z l : List Value) (k : IntKind) (n : Int) : indexY u (some (len, false, size, z)) (.agg l.toArray) (.int k n) K st = (0 ≤ n ∧ n < len ∧ optS l[n.toNat * size]? K st) := by
  simp [indexY]
@[go_sem] theorem slice_text (s : Option (TypeId × Nat × Nat × List Value)) (r : Option (Nat × Bool × Nat × List Value)) (t : ByteArray) (lo hi : Option Value) : sliceY (some .string) s r (.string t) lo hi none K st = sliceTextY t (bnd hi t.size) (bnd lo 0) K st := by
  simp [sliceY]
@[go_sem] theorem slice_row (u : Option TypeDesc) (e size by_ : Nat) (z : List Value) (r : Option (Nat × Bool × Nat × List Value)) (a : Option Addr) (len cap : Nat) (lo hi mx : Option Value) : sliceY u (some (e, size, by_, z)) r (.slice a len cap) lo hi mx K st = ((mx = none ∨ hi ≠ none) ∧ sliceRowY a cap size hi.isNone (bnd mx cap) (bnd hi len) (bnd lo 0) K st) := (rfl)
@[go_sem] theorem slice_arr (u : Option TypeDesc) (s : Option (TypeId × Nat × Nat × List Value)) (n : Nat) (ag : Bool) (size : Nat) (z : List Value) (a : Addr) (lo hi mx : Option Value) : sliceY u s (some (n, ag, size, z)) (.pointer (some a)) lo hi mx K st = ((mx = none ∨ hi ≠ none) ∧ sliceRowY (some a) n size hi.isNone (bnd mx n) (bnd hi n) (bnd lo 0) K st) := by
  unfold sliceY
  split <;> simp_all
@[go_sem] theorem sliceText_mk (t : ByteArray) (h l : Nat) : sliceTextY t (some h) (some l) K st = (h ≤ t.size ∧ l ≤ h ∧ K (.string (t.extract l h)) st) := (rfl)
@[go_sem] theorem sliceRow_mk (a : Option Addr) (cap size : Nat) (bare : Bool) (m h l : Nat) : sliceRowY a cap size bare (some m) (some h) (some l) K st = (m ≤ cap ∧ (h ≤ m ∨ bare = true) ∧ l ≤ h ∧ K (.slice (if m = l then a else a.map (·.add (l * size))) (h - l) (m - l)) st) := (rfl)
@[go_sem] theorem bnd_none (n : Nat) : bnd none n = some n := (rfl)
@[go_sem] theorem bnd_int (k : IntKind) (i : Int) (n : Nat) : bnd (some (.int k i)) n = if 0 ≤ i then some i.toNat else none := (rfl)
@[go_sem] theorem makeSlice_mk (e size by_ : Nat) (z : List Value) (n m : Int) : makeSliceY (some (e, size, by_, z)) (.int .i64 n) (.int .i64 m) K st = (0 ≤ n ∧ n ≤ m ∧ m * by_ ≤ 281474976710656 ∧ NewS e (zerosL z m.toNat) n.toNat m.toNat K st) := (rfl)
@[go_sem] theorem lookup_mk (key : TypeId) (kd : TypeDesc) (z : Value) (es : KV) (k : Value) (ok : Bool) : lookupY (some (key, kd, z)) (some es) k ok K st = lookupR (mfind kd k es 0) z ok K st := (rfl)
@[go_sem] theorem lookupR_1 (j : Nat) (v z : Value) : lookupR (some (some (j, v))) z false K st = K v st := (rfl)
@[go_sem] theorem lookupR_2 (z : Value) : lookupR (some none) z false K st = K z st := (rfl)
@[go_sem] theorem lookupR_3 (j : Nat) (v z : Value) : lookupR (some (some (j, v))) z true K st = K (.tuple #[v, .bool true]) st := (rfl)
@[go_sem] theorem lookupR_4 (z : Value) : lookupR (some none) z true K st = K (.tuple #[z, .bool false]) st := (rfl)
@[go_sem] theorem mapUpd_mk (key : TypeId) (kd : TypeDesc) (z : Value) (r : Nat) (es : KV) (k v : Value) : mapUpdY (some (key, kd, z)) (.map (some r)) (some es) k v K st = optM (mset kd k v es) (mapTag (st r)) r undef K st := (rfl)
@[go_sem] theorem del_mk (key : TypeId) (kd : TypeDesc) (z : Value) (r : Nat) (es : KV) (k : Value) : delY (some (key, kd, z)) (.map (some r)) (some es) k K st = optM (mdel kd k es) (mapTag (st r)) r (.tuple #[]) K st := (rfl)
@[go_sem] theorem mapTag_map (g : Tg) (es : KV) : mapTag (some (.map g es)) = g := (rfl)
def mapIs (o : Option HObj) : Option KV := match o with | some (.map _ es) => some es | _ => none
@[go_sem] theorem mapOf_mk (r : Nat) : mapOf st (.map (some r)) = mapIs (st r) := by
  unfold mapOf mapIs
  rfl
@[go_sem] theorem mapIs_map (g : Tg) (es : KV) : mapIs (some (.map g es)) = some es := (rfl)
@[go_sem] theorem b_len (x : Value) (t : TypeId) : builtinY P .len [x] [t] K st = optS (lenV P st t x) K st := (rfl)
@[go_sem] theorem b_append (x y : Value) (t : TypeId) : builtinY P .append [x, y] [t, t] K st = AppI (slInfo P t) P t x y K st := by simp [builtinY]
theorem b_append2 (x : Value) (s : ByteArray) (t u : TypeId) (htu : t ≠ u) (hu : P.underlying u = some .string) : builtinY P .append [x, .string s] [t, u] K st = AppI (slInfo P t) P t x (.string s) K st := by
  simp [builtinY, app2Y, htu, hu]
theorem b_append3 (x : Value) (n : Int) (t u e : TypeId) (k k' : IntKind) (htu : t ≠ u) (hu : P.underlying u = some (.int k)) (hi : slInfo P t = some (e, 1, 1, [.int .u8 0])) : builtinY P .append [x, .int k' n] [t, u] K st = (0 ≤ n ∧ n ≤ 140737488355328 ∧ AppI (slInfo P t) P t x (.string (zerosT n.toNat)) K st) := by
  simp [builtinY, app2Y, htu, hu, hi]
@[go_sem] theorem b_copy (x y : Value) (t u : TypeId) : builtinY P .copy [x, y] [t, u] K st = CopyI P t x y K st := (rfl)
@[go_sem] theorem b_clear (x : Value) (t : TypeId) : builtinY P .clear [x] [t] K st = ClearI P t x K st := (rfl)
@[go_sem] theorem b_delete (x y : Value) (t u : TypeId) : builtinY P .delete [x, y] [t, u] K st = delY (mapInfo P t) x (mapOf st x) y K st := (rfl)
@[go_sem] theorem b_min (x y : Value) (ts : List TypeId) : builtinY P .min [x, y] ts K st = optS (minV false x y) K st := (rfl)
@[go_sem] theorem b_max (x y : Value) (ts : List TypeId) : builtinY P .max [x, y] ts K st = optS (minV true x y) K st := (rfl)
def lenY (u : Option TypeDesc) (x : Value) (st : Heap) : Option Value :=
  match u, x with
  | some .string, .string s => some (.int .i64 s.size)
  | some (.slice _), .slice _ n _ => some (.int .i64 n)
  | some (.map _ _), .map none => some (.int .i64 0)
  | some (.map _ _), .map (some r) => (mapIs (st r)).map fun es => .int .i64 es.length
  | _, _ => none
@[go_sem] theorem lenV_eq (t : TypeId) (x : Value) : lenV P st t x = lenY (P.underlying t) x st := by
  unfold lenV lenY mapIs
  cases hu : P.underlying t with
  | none => rfl
  | some u =>
    cases u <;> first
      | rfl
      | (cases x <;> first
          | rfl
          | (rename_i r; cases r with
              | none => rfl
              | some r =>
                dsimp only
                cases hr : st r with
                | none => rfl
                | some o => cases o <;> rfl))
@[go_sem] theorem len_text (s : ByteArray) : lenY (some .string) (.string s) st = some (.int .i64 s.size) := (rfl)
@[go_sem] theorem len_row (e : TypeId) (a : Option Addr) (n c : Nat) : lenY (some (.slice e)) (.slice a n c) st = some (.int .i64 n) := (rfl)
@[go_sem] theorem len_map (k e : TypeId) (r : Nat) : lenY (some (.map k e)) (.map (some r)) st = (mapIs (st r)).map fun es => .int .i64 es.length := (rfl)
@[go_sem] theorem min_int (k k' : IntKind) (x y : Int) : minV false (.int k x) (.int k' y) = some (.int k (if y < x then y else x)) := (rfl)
@[go_sem] theorem max_int (k k' : IntKind) (x y : Int) : minV true (.int k x) (.int k' y) = some (.int k (if x < y then y else x)) := (rfl)
@[go_sem] theorem bin_int (op : BinOp) (t : TypeId) (k : IntKind) (a b : Int) : binV P op t (.int k a) (.int k b) = if isShift op then shiftBin op k a b else intBin op k a b := by simp [binV]
@[go_sem] theorem bin_text (op : BinOp) (t : TypeId) (a b : ByteArray) : binV P op t (.string a) (.string b) = strBin op a b := (rfl)
@[go_sem] theorem bin_float (op : BinOp) (t : TypeId) (k : FloatKind) (a b : Nat) : binV P op t (.float k a) (.float k b) = floatBin op k a b := by simp [binV]
@[go_sem] theorem float_eql (k : FloatKind) (a b : Nat) : floatBin .eql k a b = some (.bool (k.format.order a b == some .eq)) := (rfl)
@[go_sem] theorem float_neq (k : FloatKind) (a b : Nat) : floatBin .neq k a b = some (.bool (k.format.order a b != some .eq)) := (rfl)
@[go_sem] theorem float_lss (k : FloatKind) (a b : Nat) : floatBin .lss k a b = some (.bool (k.format.order a b == some .lt)) := (rfl)
@[go_sem] theorem float_gtr (k : FloatKind) (a b : Nat) : floatBin .gtr k a b = some (.bool (k.format.order a b == some .gt)) := (rfl)
@[go_sem] theorem bin_bool (t : TypeId) (a b : Bool) : binV P .eql t (.bool a) (.bool b) = (eqB (P.underlying t) (.bool a) (.bool b)).map fun b => .bool b := (rfl)
@[go_sem] theorem bin_bool' (t : TypeId) (a b : Bool) : binV P .neq t (.bool a) (.bool b) = (eqB (P.underlying t) (.bool a) (.bool b)).map fun b => .bool (!b) := (rfl)
@[go_sem] theorem bin_ptr (t : TypeId) (a : Option Addr) (y : Value) : binV P .eql t (.pointer a) y = (eqB (P.underlying t) (.pointer a) y).map fun b => .bool b := (rfl)
@[go_sem] theorem bin_ptr' (t : TypeId) (a : Option Addr) (y : Value) : binV P .neq t (.pointer a) y = (eqB (P.underlying t) (.pointer a) y).map fun b => .bool (!b) := (rfl)
@[go_sem] theorem bin_slice (t : TypeId) (a : Option Addr) (n c : Nat) (y : Value) : binV P .eql t (.slice a n c) y = (eqB (P.underlying t) (.slice a n c) y).map fun b => .bool b := (rfl)
@[go_sem] theorem bin_slice' (t : TypeId) (a : Option Addr) (n c : Nat) (y : Value) : binV P .neq t (.slice a n c) y = (eqB (P.underlying t) (.slice a n c) y).map fun b => .bool (!b) := (rfl)
@[go_sem] theorem bin_nil (t : TypeId) (y : Value) : binV P .eql t .nilIface y = (eqB (P.underlying t) .nilIface y).map fun b => .bool b := (rfl)
@[go_sem] theorem bin_nil' (t : TypeId) (y : Value) : binV P .neq t .nilIface y = (eqB (P.underlying t) .nilIface y).map fun b => .bool (!b) := (rfl)
@[go_sem] theorem bin_iface (t u : TypeId) (x y : Value) : binV P .eql t (.iface u x) y = (eqB (P.underlying t) (.iface u x) y).map fun b => .bool b := (rfl)
@[go_sem] theorem bin_iface' (t u : TypeId) (x y : Value) : binV P .neq t (.iface u x) y = (eqB (P.underlying t) (.iface u x) y).map fun b => .bool (!b) := (rfl)
@[go_sem] theorem bin_func (t : TypeId) (f : Fn) (a c : Array Value) : binV P .eql t (.func f a c) .nilFunc = (eqB (P.underlying t) (.func f a c) .nilFunc).map fun b => .bool b := (rfl)
@[go_sem] theorem eqB_bool (a b : Bool) : eqB (some .bool) (.bool a) (.bool b) = some (a == b) := (rfl)
@[go_sem] theorem eqB_ptr1 (e : TypeId) (b : Option Addr) : eqB (some (.pointer e)) (.pointer none) (.pointer b) = some b.isNone := (rfl)
@[go_sem] theorem eqB_ptr2 (e : TypeId) (a : Addr) : eqB (some (.pointer e)) (.pointer (some a)) (.pointer none) = some false := (rfl)
@[go_sem] theorem eqB_sl1 (e : TypeId) (n c n' c' : Nat) (b : Option Addr) : eqB (some (.slice e)) (.slice none n c) (.slice b n' c') = some b.isNone := (rfl)
@[go_sem] theorem eqB_sl2 (e : TypeId) (a : Addr) (n c n' c' : Nat) : eqB (some (.slice e)) (.slice (some a) n c) (.slice none n' c') = some false := (rfl)
@[go_sem] theorem i_add (k : IntKind) (a b : Int) : intBin .add k a b = some (.int k (k.wrap (a + b))) := (rfl)
@[go_sem] theorem i_sub (k : IntKind) (a b : Int) : intBin .sub k a b = some (.int k (k.wrap (a - b))) := (rfl)
@[go_sem] theorem i_mul (k : IntKind) (a b : Int) : intBin .mul k a b = some (.int k (k.wrap (a * b))) := (rfl)
@[go_sem] theorem i_quo (k : IntKind) (a b : Int) : intBin .quo k a b = if b = 0 then none else some (.int k (k.wrap (a.tdiv b))) := (rfl)
@[go_sem] theorem i_rem (k : IntKind) (a b : Int) : intBin .rem k a b = if b = 0 then none else some (.int k (a.tmod b)) := (rfl)
@[go_sem] theorem i_and (k : IntKind) (a b : Int) : intBin .and k a b = some (.int k (bits .and k a b)) := (rfl)
@[go_sem] theorem i_or (k : IntKind) (a b : Int) : intBin .or k a b = some (.int k (bits .or k a b)) := (rfl)
@[go_sem] theorem i_xor (k : IntKind) (a b : Int) : intBin .xor k a b = some (.int k (bits .xor k a b)) := (rfl)
@[go_sem] theorem i_eql (k : IntKind) (a b : Int) : intBin .eql k a b = some (.bool (decide (a = b))) := (rfl)
@[go_sem] theorem i_neq (k : IntKind) (a b : Int) : intBin .neq k a b = some (.bool (!decide (a = b))) := (rfl)
@[go_sem] theorem i_lss (k : IntKind) (a b : Int) : intBin .lss k a b = some (.bool (decide (a < b))) := (rfl)
@[go_sem] theorem i_leq (k : IntKind) (a b : Int) : intBin .leq k a b = some (.bool (decide (a ≤ b))) := (rfl)
@[go_sem] theorem i_gtr (k : IntKind) (a b : Int) : intBin .gtr k a b = some (.bool (decide (b < a))) := (rfl)
@[go_sem] theorem i_geq (k : IntKind) (a b : Int) : intBin .geq k a b = some (.bool (decide (b ≤ a))) := (rfl)
@[go_sem] theorem s_shl (k : IntKind) (a b : Int) : shiftBin .shl k a b = if b < 0 then none else some (.int k (k.wrap (a * 2 ^ (min b.toNat k.bits)))) := (rfl)
@[go_sem] theorem s_shr (k : IntKind) (a b : Int) : shiftBin .shr k a b = if b < 0 then none else some (.int k (a.fdiv (2 ^ (min b.toNat k.bits)))) := (rfl)
attribute [go_sem] isShift
@[go_sem] theorem t_add (a b : ByteArray) : strBin .add a b = if a.size + b.size ≤ 9223372036854775807 then some (.string (a ++ b)) else none := (rfl)
@[go_sem] theorem t_eql (a b : ByteArray) : strBin .eql a b = some (.bool (decide (a = b))) := by
  simp only [strBin, strEq]; congr 2; rw [Bool.eq_iff_iff]; simp
  constructor
  · intro h; cases a; cases b; simp at h; rw [h]
  · intro h; rw [h]
@[go_sem] theorem t_neq (a b : ByteArray) : strBin .neq a b = some (.bool (!decide (a = b))) := by
  have := t_eql a b
  simp only [strBin] at this ⊢
  injection this with h; injection h with h
  rw [h]
@[go_sem] theorem t_lss (a b : ByteArray) : strBin .lss a b = some (.bool (Op.bytesLess a.data.toList b.data.toList)) := (rfl)
@[go_sem] theorem t_leq (a b : ByteArray) : strBin .leq a b = some (.bool (Op.bytesLess a.data.toList b.data.toList || strEq a b)) := (rfl)
@[go_sem] theorem t_gtr (a b : ByteArray) : strBin .gtr a b = some (.bool (!(Op.bytesLess a.data.toList b.data.toList || strEq a b))) := (rfl)
@[go_sem] theorem t_geq (a b : ByteArray) : strBin .geq a b = some (.bool (!Op.bytesLess a.data.toList b.data.toList)) := (rfl)
@[go_sem] theorem u_not (b : Bool) : unV .not (.bool b) = some (.bool (!b)) := (rfl)
@[go_sem] theorem u_neg (k : IntKind) (n : Int) : unV .neg (.int k n) = some (.int k (k.wrap (0 - n))) := (rfl)
@[go_sem] theorem u_xor (k : IntKind) (n : Int) : unV .xor (.int k n) = some (.int k (bits .xor k (if k.signed then -1 else k.max) n)) := (rfl)
@[go_sem] theorem cond_bool (t : Bool) (x y : Prop) : CondI (.bool t) x y = if t = true then x else y := (rfl)
@[go_sem] theorem guard_bool (t want : Bool) (x y : Prop) : GuardI (.bool t) want x y = if t = want then x else y := (rfl)
end
/-! What simp looks into: what is looked at, not what comes behind. -/
section
variable {P : Program} {W0 : World} {K : Value → Heap → Prop} {Kp : List PanicEntry → Heap → Prop} {st : Heap}
@[congr] theorem GuardI_congr {v v' : Value} {want : Bool} {x y : Prop} (h : v = v') : GuardI v want x y = GuardI v' want x y := by rw [h]
@[congr] theorem CondI_congr {v v' : Value} {x y : Prop} (h : v = v') : CondI v x y = CondI v' x y := by rw [h]
@[congr] theorem optS_congr {o o' : Option Value} (h : o = o') : optS o K st = optS o' K st := by rw [h]
@[congr] theorem optT_congr {o o' : Option ByteArray} (h : o = o') : optT o K st = optT o' K st := by rw [h]
@[congr] theorem optB_congr {o o' : Option HObj} {b : Nat} (h : o = o') : optB o b K st = optB o' b K st := by rw [h]
@[congr] theorem optM_congr {o o' : Option KV} {g g' : Tg} {r : Nat} {v v' : Value} (h : o = o') (hg : g = g') (hv : v = v') : optM o g r v K st = optM o' g' r v' K st := by rw [h, hg, hv]
@[congr] theorem loadY_congr {ti ti' : Option (Bool × Nat)} {v v' : Value} (h : ti = ti') (hv : v = v') : loadY ti v K st = loadY ti' v' K st := by rw [h, hv]
@[congr] theorem storeY_congr {ti ti' : Option (Bool × Nat)} {v v' u u' : Value} (h : ti = ti') (hv : v = v') (hu : u = u') : storeY ti v u K st = storeY ti' v' u' K st := by rw [h, hv, hu]
@[congr] theorem fieldAddrY_congr {ti ti' : Option (Nat × Bool × Nat)} {v v' : Value} (h : ti = ti') (hv : v = v') : fieldAddrY ti v K st = fieldAddrY ti' v' K st := by rw [h, hv]
@[congr] theorem fieldY_congr {ti ti' : Option (Nat × Bool × Nat)} {v v' : Value} (h : ti = ti') (hv : v = v') : fieldY ti v K st = fieldY ti' v' K st := by rw [h, hv]
@[congr] theorem extractY_congr {v v' : Value} {i : Nat} (hv : v = v') : extractY v i K st = extractY v' i K st := by rw [hv]
@[congr] theorem buildY_congr {i i' : Option (List Value × List (Nat × Nat))} {p p' : List (Nat × Value)} (h : i = i') (hp : p = p') : buildY i p K st = buildY i' p' K st := by rw [h, hp]
@[congr] theorem buildSliceY_congr {i i' : Option (TypeId × Nat × Nat × List Value)} {n : Nat} {p p' : List (Nat × Value)} (h : i = i') (hp : p = p') : buildSliceY i n p K st = buildSliceY i' n p' K st := by rw [h, hp]
@[congr] theorem newSO_congr {o o' : Option (List Value)} {e n : Nat} (h : o = o') : newSO o e n K st = newSO o' e n K st := by rw [h]
@[congr] theorem allocY_congr {o o' : Option Value} {e : Nat} (h : o = o') : allocY o e K st = allocY o' e K st := by rw [h]
@[congr] theorem convY_congr {s d : TypeId} {us us' ud ud' : Option TypeDesc} {x x' : Value} (h1 : us = us') (h2 : ud = ud') (h3 : x = x') : convY P s d us ud x K st = convY P s d us' ud' x' K st := by rw [h1, h2, h3]
@[congr] theorem indexAddrY_congr {u u' : Option TypeDesc} {s s' : Option (TypeId × Nat × Nat × List Value)} {r r' : Option (Nat × Bool × Nat × List Value)} {x x' i i' : Value} (h1 : u = u') (h2 : s = s') (h3 : r = r') (h4 : x = x') (h5 : i = i') : indexAddrY u s r x i K st = indexAddrY u' s' r' x' i' K st := by rw [h1, h2, h3, h4, h5]
@[congr] theorem indexY_congr {u u' : Option TypeDesc} {r r' : Option (Nat × Bool × Nat × List Value)} {x x' i i' : Value} (h1 : u = u') (h3 : r = r') (h4 : x = x') (h5 : i = i') : indexY u r x i K st = indexY u' r' x' i' K st := by rw [h1, h3, h4, h5]
@[congr] theorem sliceTextY_congr {s s' : ByteArray} {a a' b b' : Option Nat} (h1 : s = s') (h2 : a = a') (h3 : b = b') : sliceTextY s a b K st = sliceTextY s' a' b' K st := by rw [h1, h2, h3]
@[congr] theorem sliceRowY_congr {a a' : Option Addr} {c c' n n' : Nat} {b b' : Bool} {m m' h h' l l' : Option Nat} (h0 : a = a') (h1 : c = c') (h2 : n = n') (h3 : b = b') (h4 : m = m') (h5 : h = h') (h6 : l = l') : sliceRowY a c n b m h l K st = sliceRowY a' c' n' b' m' h' l' K st := by rw [h0, h1, h2, h3, h4, h5, h6]
@[congr] theorem sliceY_congr {u u' : Option TypeDesc} {s s' : Option (TypeId × Nat × Nat × List Value)} {r r' : Option (Nat × Bool × Nat × List Value)} {x x' : Value} {a a' b b' c c' : Option Value} (h1 : u = u') (h2 : s = s') (h3 : x = x') (h4 : a = a') (h5 : b = b') (h6 : c = c') (h7 : r = r') : sliceY u s r x a b c K st = sliceY u' s' r' x' a' b' c' K st := by rw [h1, h2, h3, h4, h5, h6, h7]
@[congr] theorem makeSliceY_congr {s s' : Option (TypeId × Nat × Nat × List Value)} {a a' b b' : Value} (h1 : s = s') (h2 : a = a') (h3 : b = b') : makeSliceY s a b K st = makeSliceY s' a' b' K st := by rw [h1, h2, h3]
@[congr] theorem lookupR_congr {r r' : Option (Option (Nat × Value))} {z z' : Value} {ok : Bool} (h1 : r = r') (h2 : z = z') : lookupR r z ok K st = lookupR r' z' ok K st := by rw [h1, h2]
@[congr] theorem lookupY_congr {i i' : Option (TypeId × TypeDesc × Value)} {e e' : Option KV} {k k' : Value} {ok : Bool} (h1 : i = i') (h2 : e = e') (h3 : k = k') : lookupY i e k ok K st = lookupY i' e' k' ok K st := by rw [h1, h2, h3]
@[congr] theorem mapUpdY_congr {i i' : Option (TypeId × TypeDesc × Value)} {x x' : Value} {e e' : Option KV} {k k' v v' : Value} (h1 : i = i') (h0 : x = x') (h2 : e = e') (h3 : k = k') (h4 : v = v') : mapUpdY i x e k v K st = mapUpdY i' x' e' k' v' K st := by rw [h1, h0, h2, h3, h4]
@[congr] theorem delY_congr {i i' : Option (TypeId × TypeDesc × Value)} {x x' : Value} {e e' : Option KV} {k k' : Value} (h1 : i = i') (h0 : x = x') (h2 : e = e') (h3 : k = k') : delY i x e k K st = delY i' x' e' k' K st := by rw [h1, h0, h2, h3]
@[congr] theorem builtinY_congr {b : Builtin} {xs xs' : List Value} {ts : List TypeId} (h : xs = xs') : builtinY P b xs ts K st = builtinY P b xs' ts K st := by rw [h]
@[congr] theorem pickX_congr {a a' b b' c c' : Value} (h1 : a = a') (h2 : b = b') (h3 : c = c') : pickX a b c K st = pickX a' b' c' K st := by rw [h1, h2, h3]
@[congr] theorem nilX_congr {a a' : Value} (h1 : a = a') : nilX a K st = nilX a' K st := by rw [h1]
@[congr] theorem callY_congr {f f' : Value} {args args' : List Value} (h1 : f = f') (h2 : args = args') : callY P W0 f args K Kp st = callY P W0 f' args' K Kp st := by rw [h1, h2]
@[congr] theorem ICalls_congr {f : FuncId} {args args' : Array Value} {st st' : Heap} {R : Ending → Heap → Prop} (h1 : args = args') (h2 : st = st') : ICalls P W0 f args st R = ICalls P W0 f args' st' R := by rw [h1, h2]
@[congr] theorem AppI_congr {i i' : Option (TypeId × Nat × Nat × List Value)} {t : TypeId} {v v' x x' : Value} {st st' : Heap} (h0 : i = i') (h1 : v = v') (h2 : x = x') (h3 : st = st') : AppI i P t v x K st = AppI i' P t v' x' K st' := by rw [h0, h1, h2, h3]
@[congr] theorem CopyI_congr {t : TypeId} {v v' x x' : Value} {st st' : Heap} (h1 : v = v') (h2 : x = x') (h3 : st = st') : CopyI P t v x K st = CopyI P t v' x' K st' := by rw [h1, h2, h3]
@[congr] theorem ClearI_congr {t : TypeId} {x x' : Value} {st st' : Heap} (h2 : x = x') (h3 : st = st') : ClearI P t x K st = ClearI P t x' K st' := by rw [h2, h3]
@[congr] theorem NewP_congr {e : TypeId} {xs xs' : List Value} {st st' : Heap} (h1 : xs = xs') (h3 : st = st') : NewP e xs K st = NewP e xs' K st' := by rw [h1, h3]
@[congr] theorem NewS_congr {e : TypeId} {xs xs' : List Value} {n n' c c' : Nat} {st st' : Heap} (h1 : xs = xs') (hn : n = n') (hc : c = c') (h3 : st = st') : NewS e xs n c K st = NewS e xs' n' c' K st' := by rw [h1, hn, hc, h3]
end
/-! The heap. -/
attribute [go_sem] upd_same upd_upd
@[go_sem] theorem upd_get_ne {st : Heap} {b k : Nat} (o : HObj) (h : k ≠ b) : upd st b o k = st k := by simp [upd, h]
@[go_sem] theorem upd_get_new {st : Heap} {b k : Nat} (o : HObj) (hb : st b = none) (hk : (st k).isSome = true) : upd st b o k = st k := by
  unfold upd
  rw [if_neg]
  rintro rfl
  rw [hb] at hk
  cases hk
@[go_sem] theorem upd_get_eq {st : Heap} {b : Nat} (o : HObj) : upd st b o b = some o := upd_same _ _ _

/-! Results. -/
section
variable {P : Program} {R : Ending → Heap → Prop} {E : Env} {st : Heap}
@[go_sem ↓] theorem RetI_ret_one (t : Nat) : RetI P #[.tmp t] R .ret E st = R (.returned (E t)) st := by
  simp [RetI, resS, wpS_bind, wpS_pure, wpS]
@[go_sem ↓] theorem RetI_ret_none : RetI P #[] R .ret E st = R (.returned (.tuple #[])) st := by
  simp [RetI, resS, wpS_bind, wpS_pure, wpS]
@[go_sem ↓] theorem RetI_normal_none : RetI P #[] R .normal E st = R (.returned (.tuple #[])) st := by
  simp [RetI, resS, wpS_bind, wpS_pure, wpS]
@[go_sem ↓] theorem RetI_ret_two (t u : Nat) : RetI P #[.tmp t, .tmp u] R .ret E st = R (.returned (.tuple #[E t, E u])) st := by
  simp [RetI, resS, wpS_bind, wpS_pure, wpS]
@[go_sem ↓] theorem RetI_ret_three (t u v : Nat) : RetI P #[.tmp t, .tmp u, .tmp v] R .ret E st = R (.returned (.tuple #[E t, E u, E v])) st := by
  simp [RetI, resS, wpS_bind, wpS_pure, wpS]
end
end Go.Proofs.YtadgciaclhjjkaaGreat
