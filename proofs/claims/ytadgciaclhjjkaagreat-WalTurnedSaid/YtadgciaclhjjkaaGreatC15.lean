/- A panic of one's own. Plain theorems, over any program. -/
import Derived.Test.YtadgciaclhjjkaaGreatC10
import Derived.Test.YtadgciaclhjjkaaGreatC14
set_option linter.unusedVariables false
set_option linter.unusedSimpArgs false
namespace Go.Proofs.YtadgciaclhjjkaaGreat
open Go.RowKit (Below)
section
variable {P : Program} {W0 : World} {E : Env} {K : Value → Heap → Prop} {Kp : List PanicEntry → Heap → Prop} {st : Heap} {d : Option Nat} {ty : TypeId} {pos : String} {af : Array Edge} {g : Option (Nat × Bool)}
theorem panic_iface {x : Operand} {t : TypeId} {v : Value} (hx : E.ev x = .iface t v) (h : Kp (one (.iface t v)) st) : opX P W0 ⟨d, .panic x, ty, pos, af, g⟩ E K Kp st := by
  show opW P W0 ⟨d, .panic x, ty, pos, af, g⟩ E K Kp st
  unfold opW execOp
  simp only [hx]
  unfold Instr.panic
  simp
  exact h
/-- The same, left alone by a run. -/
def opQ (P : Program) (W0 : World) (o : Oper) (E : Env) (K : Value → Heap → Prop) (Kp : List PanicEntry → Heap → Prop) (st : Heap) : Prop := opX P W0 o E K Kp st
def panicY (y : Value) (r : Prop) (Kp : List PanicEntry → Heap → Prop) (st : Heap) : Prop := match y with
  | .iface t v => Kp (one (.iface t v)) st
  | _ => r
@[go_sem] theorem panicY_iface {r : Prop} {t : TypeId} {v : Value} : panicY (.iface t v) r Kp st = Kp (one (.iface t v)) st := (rfl)
@[go_sem ↓] theorem o_panic (x : Operand) : opX P W0 ⟨d, .panic x, ty, pos, af, g⟩ E K Kp st = panicY (E.ev x) (opQ P W0 ⟨d, .panic x, ty, pos, af, g⟩ E K Kp st) Kp st := by
  cases hx : E.ev x with
  | iface t v =>
    rw [panicY_iface]
    apply propext
    constructor
    · intro h
      have h : opW P W0 ⟨d, .panic x, ty, pos, af, g⟩ E K Kp st := h
      unfold opW execOp at h
      simp only [hx] at h
      unfold Instr.panic at h
      simp at h
      exact h
    · exact panic_iface hx
  | _ => rfl
/-- A type assertion that holds. -/
theorem assert_hit {x : Operand} {xt a : TypeId} {v : Value} {ds : TypeDesc} (hx : E.ev x = .iface a v) (hu : P.underlying a = some ds) (hn : (match ds with | .interface _ => true | _ => false) = false) (h : K (.tuple #[v, .bool true]) st) : opX P W0 ⟨d, .typeAssert x xt a true, ty, pos, af, g⟩ E K Kp st := by
  show opW P W0 ⟨d, .typeAssert x xt a true, ty, pos, af, g⟩ E K Kp st
  show wpS P _ _ _ _
  unfold execOp
  refine execOp_v ?_
  simp only [hx]
  unfold Instr.typeAssert
  rw [wpS_bind, wpS_underlying hu]
  cases ds <;> simp at hn <;> simp [wpS_pure] <;> exact h
end
end Go.Proofs.YtadgciaclhjjkaaGreat
set_option linter.unusedVariables false
set_option linter.unusedSimpArgs false
set_option maxRecDepth 100000
set_option maxHeartbeats 2000000
namespace Go.Proofs.YtadgciaclhjjkaaGreat
open Go.RowKit (Below)
/-- A reader: its row, where it stands, how many matchers it may still read. -/
def readC (bv : Value) (at_ left : Int) (r : Nat) : HObj := .cells true [bv, Val.i at_, Val.i left] 3 (.own r 0 61)
def badV : Value := .iface 308 (.agg #[])
/-- What reading one thing leaves: the thing and the place behind it, or a panic. -/
def ReadR (st : Heap) (r : Nat) (bv : Value) (left : Int) (R : Option (Value × Int)) (e : Ending) (st' : Heap) : Prop := But1 r st st' ∧ match R with
  | some (v, n) => e = .returned v ∧ st' r = some (readC bv n left r)
  | none => e = .panicked (one badV) ∧ ∃ n, st' r = some (readC bv n left r)
section
variable {W0 : World} {st : Heap}
theorem readNumber_spec {r : Nat} {bv : Value} {b : Bs} {g0 : Tg} {at_ left : Int} {most : Nat} (hr : st r = some (readC bv at_ left r)) (hb : Reg st g0 1 bv (bytesV b) b.length) (hl : b.length < 2 ^ 60) (hm : most < 2 ^ 40) :
    ICalls Tryz.prog W0 229 #[ptr r, Val.u most] st (ReadR st r bv left (match vgetM b at_ with | some (n, a) => if n ≤ most then some (Val.i n, a) else none | none => none)) := by
  refine enter (args := [_, _]) Tryz.func229 rfl ?_
  simp [Tryz.f229, go_sem]
  refine draw [0, 1, 2, 4, 5, 6, 3, 7, 8, 9, 10, 11, 12, 13, 14, 15] (by kernel_rfl) ?_
  have hr' := hr
  unfold readC at hr'
  simp [go_sem, hr']
  refine (vGet_spec hb hl).mono ?_
  rintro e st2 ⟨rfl, rfl⟩
  cases hg : vgetM b at_ with
  | none =>
    simp [go_sem, vgetV]
    exact ⟨But1.refl _ _, rfl, _, hr⟩
  | some p =>
    obtain ⟨n, a⟩ := p
    by_cases hn : n ≤ most
    · have q1 : ((most : Int) < n) = False := eq_false (by omega)
      have hw : IntKind.i64.wrap (n : Int) = n := wrap_id (by omega) (by omega)
      simp [go_sem, vgetV, q1, hn, hr', hw]
      exact ⟨(But1.refl _ _).put, rfl, by rw [upd_same]; rfl⟩
    · have q1 : ((most : Int) < n) = True := eq_true (by omega)
      simp [go_sem, vgetV, q1, hn]
      exact ⟨But1.refl _ _, rfl, _, hr⟩
theorem readText_spec {r : Nat} {bv : Value} {b : Bs} {g0 : Tg} {at_ left most : Int} (hr : st r = some (readC bv at_ left r)) (hb : Reg st g0 1 bv (bytesV b) b.length) (hl : b.length < 2 ^ 60) (hm : most < 2 ^ 63) :
    ICalls Tryz.prog W0 230 #[ptr r, Val.i most] st (ReadR st r bv left ((vgetTextM b at_ most).map fun p => (.string ⟨p.1.toArray⟩, (p.2 : Int)))) := by
  refine enter (args := [_, _]) Tryz.func230 rfl ?_
  simp [Tryz.f230, go_sem]
  refine draw [0, 1, 2, 4, 5, 6, 8, 3, 7, 9, 10, 11, 12, 13, 14, 15, 16] (by kernel_rfl) ?_
  have hr' := hr
  unfold readC at hr'
  simp [go_sem, hr']
  refine (vGetText_spec hb hl hm).mono ?_
  rintro e st2 ⟨rfl, rfl⟩
  cases hg : vgetTextM b at_ most with
  | none =>
    simp [go_sem, vgetTextV]
    exact ⟨But1.refl _ _, rfl, _, hr⟩
  | some p =>
    obtain ⟨n, a⟩ := p
    simp [go_sem, vgetTextV, hr']
    exact ⟨(But1.refl _ _).put, rfl, by rw [upd_same]; rfl⟩
end
end Go.Proofs.YtadgciaclhjjkaaGreat
