/- A function that defers one closure. Plain definitions and theorems, over any program. -/
import Derived.Test.YtadgciaclhjjkaaGreatC07
import Derived.Test.YtadgciaclhjjkaaGreatC15
import Derived.Recover
import Derived.Test.YtadgciaclhjjkaaGreatC18
set_option linter.unusedVariables false
set_option linter.unusedSimpArgs false
namespace Go.Proofs.YtadgciaclhjjkaaGreat
open Go.RowKit (Below)
/-- A deferred call. -/
def ICallsD (P : Program) (W0 : World) (g : FuncId) (args : Array Value) (u : FrameMode) (st : Heap) (R : Ending → FrameMode → Heap → Prop) : Prop :=
  ∀ w, Sim W0 st w → CallsD P g args u w fun e u' w' => ∃ st', Sim W0 st' w' ∧ R e u' st'
theorem ICallsD.mono {P : Program} {W0 : World} {g : FuncId} {args : Array Value} {u : FrameMode} {st : Heap} {R R' : Ending → FrameMode → Heap → Prop} (h : ICallsD P W0 g args u st R) (hr : ∀ e u' st', R e u' st' → R' e u' st') : ICallsD P W0 g args u st R' :=
  fun w hs => (h w hs).mono fun e u' w' ⟨st', h1, h2⟩ => ⟨st', h1, hr _ _ _ h2⟩
/-- What is asked behind the body: the deferred call, and then the results. -/
def DoorQ (P : Program) (W0 : World) (fn : Func) (g : FuncId) (cap : Array Value) (R : Ending → Heap → Prop) : IPost
  | .normal, E, st => ICallsD P W0 g cap .returning st fun e u st' => (∃ v, e = .returned v) ∧ settle u = .returning ∧ RetI P fn.results R .ret E st'
  | .ret, E, st => ICallsD P W0 g cap .returning st fun e u st' => (∃ v, e = .returned v) ∧ settle u = .returning ∧ RetI P fn.results R .ret E st'
  | _, _, _ => False
def DoorP (P : Program) (W0 : World) (fn : Func) (g : FuncId) (cap : Array Value) (R : Ending → Heap → Prop) (Z : List Nat) (E0 : Env) : PPost :=
  fun ch st => ICallsD P W0 g cap (.panicking ch) st fun e u st' => (∃ v, e = .returned v) ∧ settle u = .returning ∧ ∀ E : Env, (∀ t ∈ Z, E t = E0 t) → RetI P fn.results R .ret E st'
theorem invoke_enter {P : Program} {g : FuncId} {cap : Array Value} (hok : callOK P g = true) (w : World) : (invoke (.fn (.func g) cap) #[]).run P w = .ok (.enter g cap) w := by
  unfold invoke callFunc
  unfold callOK at hok
  split at hok
  · rename_i fn hf
    simp only [Bool.and_eq_true, Bool.not_eq_true'] at hok
    have hb : fn.body.isNone = false := by
      cases hfb : fn.body with
      | none => rw [hfb] at hok; simp at hok
      | some c => rfl
    have n1 : fn.name ≠ "runtime.NumGoroutine" := by simpa using hok.1
    have n2 : fn.body ≠ none := by intro h; rw [h] at hb; cases hb
    simp [run_program, hf, n1, n2]
  · cases hok
theorem ICalls_door {P : Program} {W0 : World} {f g : FuncId} {fn : Func} {x z : Code} {id : Nat} {o1 o2 : Oper} {caps : Array Operand} {args : List Value} {st : Heap} {R : Ending → Heap → Prop} (Z : List Nat) (hm : P.follows .mixedOrders = true) (ha : fitAll P = true)
    (hf : P.funcs[f]? = some fn) (hb : fn.body = some (.seq x (.seq (.region id #[o1, o2] false) z))) {d : Nat} {ts : Array TypeId} (h1 : o1.dst = some d) (h1o : o1.op = .makeFunc (.func g) #[] caps) (h1g : o1.guard = none) (h2 : o2.op = .defer ⟨.value (.tmp d), #[], ts⟩) (h2d : o2.dst = none) (h2g : o2.guard = none)
    (hok : callOK P g = true) (hz : Code.fit fn.ntmps (fun t => !Z.contains t) z = true)
    (h : IW P W0 x (fun e E st' => match e with
      | .normal => IW P W0 z (DoorQ P W0 fn g (caps.map E.ev) R) (DoorP P W0 fn g (caps.map E.ev) R Z (E.set d (.func (.func g) #[] (caps.map E.ev)))) (E.set d (.func (.func g) #[] (caps.map E.ev))) st'
      | _ => False) (fun _ _ => False) (Env.args args) st) : ICalls P W0 f args.toArray st R := by
  have hfit0 : Code.fit fn.ntmps (fun _ => true) (.seq x (.seq (.region id #[o1, o2] false) z)) = true := by
    unfold fitAll at ha
    have := Array.all_eq_true_iff_forall_mem.1 ha fn (Array.mem_of_getElem? hf)
    simpa [hb] using this
  have hle : fn.ntmps ≤ max args.toArray.size fn.ntmps := Nat.le_max_right _ _
  have hfit := fit_mono hle _ hfit0
  have hz' := fit_mono hle _ hz
  generalize hN : max args.toArray.size fn.ntmps = N at *
  have hfx : Code.fit N (fun _ => true) x = true := by simp only [Code.fit, Bool.and_eq_true] at hfit; exact hfit.1
  have hfo : opsFit N (fun _ => true) #[o1, o2] = true := by simp only [Code.fit, Bool.and_eq_true] at hfit; exact hfit.2.1
  intro w hs
  refine calls_of_wp_defers hf hb ?_
  have henv : envOf { tmps := args.toArray ++ Array.replicate (fn.ntmps - args.toArray.size) undef, defers := [] } = Env.args args := by
    funext t
    simp only [envOf, Env.args]
    rw [Array.getD_eq_getD_getElem?, List.getD_eq_getElem?_getD, Array.getElem?_append]
    split
    · simp
    · rename_i ht
      rw [List.getElem?_eq_none (by simpa using ht)]
      simp only [Array.getElem?_replicate]
      split <;> rfl
  refine wp_seq (wp_mono (IW_sound (N := N) (G := fun a => a.defers = []) stays_nil hm x hfx rfl (by simp; rw [← hN]; simp; omega) hs (henv ▸ h)) ?_)
  intro e a w1 hq
  cases e with
  | normal =>
    obtain ⟨hd, hNs, st1, hs1, hx⟩ := hq
    simp only at hx
    refine wp_seq (wp_region_list ?_)
    show wpList P #[o1, o2] _ [o1, o2] a w1
    unfold wpList
    rw [wanted_eq, show wantedE #[o1, o2] o1 (envOf a) = true by unfold wantedE; rw [h1g]]
    refine .inl ?_
    have hd1 := (opsFit_spec hfo (o := o1) (by simp) d h1).1
    have e1 : (execOp a.eval o1).run P w1 = .ok (.value (.func (.func g) #[] (caps.map (envOf a).ev))) w1 := by
      rw [eval_env]
      unfold execOp
      rw [h1o]
      show Sem.run P (do pure (Next.value (← Instr.makeFunc (.func g) (#[].map (envOf a).ev) (caps.map (envOf a).ev)))) w1 = _
      simp [Instr.makeFunc]
    unfold Oper.wp
    rw [e1, Oper.upon_value, h1]
    generalize hv : Value.func (.func g) #[] (caps.map (envOf a).ev) = v at *
    unfold wpList
    rw [wanted_eq, show wantedE #[o1, o2] o2 (envOf (a.put (some d) v)) = true by unfold wantedE; rw [h2g]]
    refine .inl ?_
    have he : envOf (a.put (some d) v) = (envOf a).set d v := envOf_put _ _ _ (fun k hk => by injection hk with hk; subst hk; rw [hNs]; exact hd1)
    have e2 : (execOp (a.put (some d) v).eval o2).run P w1 = .ok (.defer { target := .fn (.func g) (caps.map (envOf a).ev), args := #[] }) w1 := by
      rw [eval_env, he]
      unfold execOp
      rw [h2]
      have : (Env.set (envOf a) d v).ev (.tmp d) = .func (.func g) #[] (caps.map (envOf a).ev) := by show (Env.set (envOf a) d v) d = _; rw [hv]; simp [Env.set]
      simp [resolve, this, Deferred.ofValue]
    unfold Oper.wp
    rw [e2, Oper.upon_defer, h2d]
    unfold wpList
    let D : List Deferred := [{ target := .fn (.func g) (caps.map (envOf a).ev), args := #[] }]
    have hst : Stays (fun t => !Z.contains t) (fun b => b.defers = D ∧ ∀ t ∈ Z, envOf b t = (envOf a).set d v t) := by
      rintro b k u ⟨g1, g2⟩ hk
      refine ⟨by rw [defers_put]; exact g1, fun t ht => ?_⟩
      rw [← g2 t ht]
      cases k with
      | none => rfl
      | some k =>
        have hkz := hk k rfl
        have hne : t ≠ k := by
          rintro rfl
          simp [ht] at hkz
        show envOf (b.put (some k) u) t = envOf b t
        simp only [envOf, Act.put]
        rw [Array.getD_eq_getD_getElem?, Array.getD_eq_getD_getElem?, Array.getElem?_setIfInBounds_ne (Ne.symm hne)]
    have hd0 : (a.put (some d) v).defers = [] := by rw [defers_put]; exact hd
    have hfin : ∀ (tmps : Array Value) (u : FrameMode) (w' : World) (st' : Heap) (hu : u ≠ .run) (hs' : Sim W0 st' w'), (∀ st'' w'', Sim W0 st'' w'' → ∀ P1 : Prop, P1 → P1) → ICallsD P W0 g (caps.map (envOf a).ev) u st' (fun e u st' => (∃ v, e = .returned v) ∧ settle u = .returning ∧ RetI P fn.results R .ret (fun t => tmps.getD t undef) st') →
        Leaves P fn tmps (fun e w' => ∃ st', Sim W0 st' w' ∧ R e st') D u w' := by
      intro tmps u w' st' hu hs' _ hc
      refine leaves_cons (f := g) (args := caps.map (envOf a).ev) hu (invoke_enter hok w') ?_
      refine (hc w' hs').mono ?_
      rintro e u' w'' ⟨st'', hs'', ⟨v', rfl⟩, hset, hr⟩
      simp only
      rw [hset]
      unfold Leaves
      obtain ⟨r, h5, h6⟩ := res_sound hs'' hr
      exact ⟨r, h5, st'', hs'', h6⟩
    have hgood : (fun b : Act => b.defers = D ∧ ∀ t ∈ Z, envOf b t = (envOf a).set d v t) ({ a.put (some d) v with defers := { target := .fn (.func g) (caps.map (envOf a).ev), args := #[] } :: (a.put (some d) v).defers }.put none undef) := by
      refine ⟨?_, fun t _ => ?_⟩
      · show _ :: (a.put (some d) v).defers = D
        rw [hd0]
      · show envOf (a.put (some d) v) t = _
        rw [he]
    refine wp_mono (IW_sound (N := N) hst hm z hz' hgood ?_ hs1 (Q := DoorQ P W0 fn g (caps.map (envOf a).ev) R) (Kp := DoorP P W0 fn g (caps.map (envOf a).ev) R Z ((envOf a).set d v)) ?_) ?_
    · show (a.put (some d) v).tmps.size = N
      rw [size_put, hNs]
    · show IW P W0 z _ _ (envOf (a.put (some d) v)) st1
      rw [he]
      exact hx
    intro e b w2 hq2
    cases e with
    | normal =>
      obtain ⟨⟨g1, g2⟩, _, st2, hs2, hc⟩ := hq2
      show Leaves P fn b.tmps _ b.defers .returning w2
      rw [g1]
      exact hfin b.tmps _ w2 st2 (by simp) hs2 (fun _ _ _ _ h => h) hc
    | ret =>
      obtain ⟨⟨g1, g2⟩, _, st2, hs2, hc⟩ := hq2
      show Leaves P fn b.tmps _ b.defers .returning w2
      rw [g1]
      exact hfin b.tmps _ w2 st2 (by simp) hs2 (fun _ _ _ _ h => h) hc
    | panic ch =>
      obtain ⟨⟨g1, g2⟩, st2, hs2, hc⟩ := hq2
      show Leaves P fn b.tmps _ b.defers (.panicking ch) w2
      rw [g1]
      exact hfin b.tmps _ w2 st2 (by simp) hs2 (fun _ _ _ _ h => h) (hc.mono fun e u st' ⟨c1, c2, c3⟩ => ⟨c1, c2, c3 _ g2⟩)
    | outgrown => exact hq2.elim
    | exit id => obtain ⟨_, _, _, _, hc⟩ := hq2; exact hc.elim
    | goto l => obtain ⟨_, _, _, _, hc⟩ := hq2; exact hc.elim
  | outgrown => exact hq.elim
  | panic ch => obtain ⟨_, _, _, h4⟩ := hq; exact h4.elim
  | ret => obtain ⟨_, _, _, _, h4⟩ := hq; exact h4.elim
  | exit id => obtain ⟨_, _, _, _, h4⟩ := hq; exact h4.elim
  | goto l => obtain ⟨_, _, _, _, h4⟩ := hq; exact h4.elim
/-- The mode of the frame below, behind a recover; what it hands back. -/
def recM : FrameMode → FrameMode × Value
  | .panicking ({ v, recovered := false, goexit := false } :: older) => (.panicking ({ v, recovered := true } :: older), v)
  | u => (u, .nilIface)
theorem recoverD_mode (c0 : Frame) (cs : List Frame) : (match recoverD (c0 :: cs) with | some (v, cs') => (cs', v) | none => (c0 :: cs, .nilIface)) = ({ c0 with mode := (recM c0.mode).1 } :: cs, (recM c0.mode).2) := by
  obtain ⟨q1, q2, q3, q4, mode, q5, q6⟩ := c0
  cases mode with
  | panicking l =>
    cases l with
    | nil => rfl
    | cons p older =>
      obtain ⟨v, r, ge⟩ := p
      cases r <;> cases ge <;> rfl
  | _ => rfl
/-- A deferred call of what recovers first. -/
theorem ICallsD_recover {P : Program} {W0 : World} {g : FuncId} {fn : Func} {y : Code} {id d d2 : Nat} {o1 o2 : Oper} {args : List Value} {u : FrameMode} {st : Heap} {R : Ending → Heap → Prop} (hm : P.follows .mixedOrders = true) (ha : fitAll P = true) (hf : P.funcs[g]? = some fn) (hb : fn.body = some (.seq (.region id #[o1, o2] false) y))
    (h1 : o1.op = .call ⟨.builtin .recover, #[], #[]⟩) (h1d : o1.dst = some d) (h1g : o1.guard = none) (h2 : o2.op = .assign (.tmp d)) (h2d : o2.dst = some d2) (h2g : o2.guard = none)
    (h : IW P W0 y (RetI P fn.results R) (fun ch st => R (.panicked ch) st) (((Env.args args).set d (recM u).2).set d2 (recM u).2) st) : ICallsD P W0 g args.toArray u st fun e u' st' => u' = (recM u).1 ∧ R e st' := by
  have hfit0 : Code.fit fn.ntmps (fun _ => true) (.seq (.region id #[o1, o2] false) y) = true := by
    unfold fitAll at ha
    have := Array.all_eq_true_iff_forall_mem.1 ha fn (Array.mem_of_getElem? hf)
    simpa [hb] using this
  have hfit := fit_mono (Nat.le_max_right args.toArray.size fn.ntmps) _ hfit0
  generalize hN : max args.toArray.size fn.ntmps = N at *
  have hfy : Code.fit N (fun _ => true) y = true := by simp only [Code.fit, Bool.and_eq_true] at hfit; exact hfit.2
  have hfo : opsFit N (fun _ => true) #[o1, o2] = true := by simp only [Code.fit, Bool.and_eq_true] at hfit; exact hfit.1
  intro w hs
  have henv : envOf { tmps := args.toArray ++ Array.replicate (fn.ntmps - args.toArray.size) undef, defers := [] } = Env.args args := by
    funext t
    simp only [envOf, Env.args]
    rw [Array.getD_eq_getD_getElem?, List.getD_eq_getElem?_getD, Array.getElem?_append]
    split
    · simp
    · rename_i ht
      rw [List.getElem?_eq_none (by simpa using ht)]
      simp only [Array.getElem?_replicate]
      split <;> rfl
  refine callsD_of_wpS hf hb fun c0 cs hu => ?_
  refine wpS_seq (wpS_region ?_)
  generalize ha0 : ({ tmps := args.toArray ++ Array.replicate (fn.ntmps - args.toArray.size) undef, defers := [] } : Act) = a at *
  have had : a.defers = [] := by rw [← ha0]
  have haN : a.tmps.size = N := by rw [← ha0, ← hN]; simp; omega
  show wpOpsS P #[o1, o2] _ [0, 1] a (c0 :: cs) w
  have hd1 := (opsFit_spec hfo (o := o1) (by simp) d h1d).1
  have hd2 := (opsFit_spec hfo (o := o2) (by simp) d2 h2d).1
  have e1 : (execOp a.eval o1).run P w = .ok .recover w := by
    unfold execOp
    rw [h1]
    rfl
  have hrec := recoverD_mode c0 cs
  rw [hu] at hrec
  have hy : ∀ (a2 : Act), a2.defers = [] → a2.tmps.size = N → envOf a2 = ((Env.args args).set d (recM u).2).set d2 (recM u).2 → y.wpS P (bodyPostS P fn c0 cs (fun e u' w' => ∃ st', Sim W0 st' w' ∧ u' = (recM u).1 ∧ R e st')) a2 ({ c0 with mode := (recM u).1 } :: cs) w := by
    intro a2 g1 g2 g3
    refine wpS_of_wp (wp_mono (IW_sound (N := N) (G := fun a => a.defers = []) stays_nil hm y hfy g1 g2 hs (g3 ▸ h)) ?_)
    intro e b w' hq
    cases e with
    | normal =>
      obtain ⟨h1, h2, st', h3, h4⟩ := hq
      obtain ⟨v, h5, h6⟩ := res_sound h3 h4
      exact ⟨h1, _, rfl, v, h5, st', h3, rfl, h6⟩
    | ret =>
      obtain ⟨h1, h2, st', h3, h4⟩ := hq
      obtain ⟨v, h5, h6⟩ := res_sound h3 h4
      exact ⟨h1, _, rfl, v, h5, st', h3, rfl, h6⟩
    | panic ch =>
      obtain ⟨h1, st', h3, h4⟩ := hq
      exact ⟨h1, _, rfl, st', h3, rfl, h4⟩
    | outgrown => exact hq.elim
    | exit id => obtain ⟨_, _, _, _, h4⟩ := hq; exact h4.elim
    | goto l => obtain ⟨_, _, _, _, h4⟩ := hq; exact h4.elim
  have hput : ∀ v, envOf (a.put (some d) v) = (Env.args args).set d v := fun v => by
    rw [envOf_put _ _ _ (fun k hk => by injection hk with hk; subst hk; rw [haN]; exact hd1), henv]
    rfl
  have hlast : ∀ v (cs' : List Frame), v = (recM u).2 → cs' = { c0 with mode := (recM u).1 } :: cs → wpOpsS P #[o1, o2] (Exit.thenS (y.wpS P (bodyPostS P fn c0 cs (fun e u' w' => ∃ st', Sim W0 st' w' ∧ u' = (recM u).1 ∧ R e st'))) (bodyPostS P fn c0 cs (fun e u' w' => ∃ st', Sim W0 st' w' ∧ u' = (recM u).1 ∧ R e st'))) [1] (a.put (some d) v) cs' w := by
    rintro v cs' rfl rfl
    unfold wpOpsS
    simp only [List.getElem?_toArray, List.getElem?_cons_succ, List.getElem?_cons_zero]
    rw [wanted_eq, show wantedE #[o1, o2] o2 (envOf (a.put (some d) (recM u).2)) = true by unfold wantedE; rw [h2g]]
    rw [if_pos rfl]
    have e2 : (execOp (a.put (some d) (recM u).2).eval o2).run P w = .ok (.value (recM u).2) w := by
      rw [eval_env, hput]
      unfold execOp
      rw [h2]
      have : (Env.set (Env.args args) d (recM u).2).ev (.tmp d) = (recM u).2 := by show (Env.set (Env.args args) d (recM u).2) d = _; simp [Env.set]
      simp [this]
    rw [e2]
    simp only [Oper.upon_value, h2d]
    unfold wpOpsS
    refine hy _ (by rw [defers_put, defers_put]; exact had) (by rw [size_put, size_put]; exact haN) ?_
    rw [envOf_put _ _ _ (fun k hk => by injection hk with hk; subst hk; rw [size_put, haN]; exact hd2), hput]
    rfl
  unfold wpOpsS
  simp only [List.getElem?_toArray, List.getElem?_cons_zero]
  rw [wanted_eq, show wantedE #[o1, o2] o1 (envOf a) = true by unfold wantedE; rw [h1g]]
  rw [if_pos rfl, e1]
  simp only [h1d]
  split
  · rename_i v cs' hr
    rw [hr] at hrec
    injection hrec with r1 r2
    exact hlast v cs' r2 r1
  · rename_i hr
    rw [hr] at hrec
    injection hrec with r1 r2
    exact hlast _ _ r2 r1
end Go.Proofs.YtadgciaclhjjkaaGreat
set_option linter.unusedVariables false
set_option linter.unusedSimpArgs false
set_option maxRecDepth 100000
set_option maxHeartbeats 8000000
namespace Go.Proofs.YtadgciaclhjjkaaGreat
open Go.RowKit (Below)
def getMatM (b : Bs) (at_ : Int) : Option (Mat × Int) := (readM b 8 at_ 64).bind fun p => if checkM p.1 = true then some (p.1, p.2.1) else none
section
variable {W0 : World}
theorem get1_spec {bv : Value} {b : Bs} {g0 : Tg} (hl : b.length < 2 ^ 60) {st : Heap} {r c : Nat} {at_ : Int} (hc : st c = some (.cells true [ptr r] 1 (.ty 0))) (hr : st r = some (readC bv at_ 64 r)) (hb : Reg st g0 1 bv (bytesV b) b.length) (hg : Free g0) :
    ICalls Tryz.prog W0 184 #[ptr c] st (ReadMR st r bv (readM b 8 at_ 64)) := by
  refine enter (args := [_]) Tryz.func184 rfl ?_
  simp [Tryz.f184, go_sem]
  unfold NewP
  intro tb htb
  refine ⟨.own tb 0 77, ?_⟩
  have hN := (New.refl st).add (b := tb) (o := .cells true [Val.i 0, .string ⟨#[]⟩, .string ⟨#[]⟩, .slice none 0 0, .slice none 0 0] 5 (.own tb 0 77)) htb
  have hcr : c ≠ r := by rintro rfl; rw [hr] at hc; injection hc with hc; unfold readC at hc; injection hc with _ h2; injection h2 with _ h2; cases h2
  have hc1 := hN _ _ hc
  have hr1 := hN _ _ hr
  have htr : tb ≠ r := Ne.symm (ne_of_new hr htb)
  simp [go_sem, hc1]
  refine (readMatcher_spec (deep := 1) hl 8 (by omega) hr1 (hb.new hN) hg (by omega) (by omega)).mono ?_
  rintro e st2 ⟨hk2, hR⟩
  cases hrm : readM b 8 at_ 64 with
  | none =>
    rw [hrm] at hR
    obtain ⟨rfl, n, l, hr2⟩ := hR
    simp [go_sem]
    exact ⟨(hN.but r).trans hk2, rfl, _, _, hr2⟩
  | some p =>
    obtain ⟨m, a, l⟩ := p
    rw [hrm] at hR
    obtain ⟨cs, rfl, hm, hr2⟩ := hR
    have htb2 := hk2 _ _ htr (upd_same st tb (.cells true [Val.i 0, .string ⟨#[]⟩, .string ⟨#[]⟩, .slice none 0 0, .slice none 0 0] 5 (.own tb 0 77)))
    obtain ⟨op, name, value, vb, vl, vc, kb, kl, kc, rfl⟩ := mat_cells' hm
    simp [go_sem, htb2]
    refine RetI_cell ?_
    simp [go_sem]
    have hB := But1.put (o := .cells true [Val.i op, .string name, .string value, .slice vb vl vc, .slice kb kl kc] 5 (.own tb 0 77)) (But1.refl tb st2)
    exact ⟨((hN.but r).trans hk2).putNew htb, _, rfl, MatAt.mono (fun _ _ _ _ hx => hx.but hB htb2) _ _ hm, by rw [upd_ne _ _ (Ne.symm htr)]; exact hr2⟩
theorem door_ret {cm ck : Nat} {st : Heap} : ICallsD Tryz.prog W0 228 #[ptr cm, ptr ck] .returning st fun e u st' => u = .returning ∧ (∃ v, e = .returned v) ∧ st' = st := by
  refine ICallsD.mono (ICallsD_recover (args := [ptr cm, ptr ck]) (R := fun e st' => (∃ v, e = .returned v) ∧ st' = st) mixed allFit Tryz.func228 rfl rfl rfl rfl rfl rfl rfl ?_) ?_
  · simp [Tryz.f228, go_sem, recM, eqB]
  · rintro e u' st' ⟨h1, h2, h3⟩
    exact ⟨h1, h2, h3⟩
/-- The two named results. -/
def zeroMat : List Value := [Val.i 0, .string ⟨#[]⟩, .string ⟨#[]⟩, .slice none 0 0, .slice none 0 0]
theorem door_panic {cm ck : Nat} {st : Heap} {xs ys : List Value} {g1 g2 : Tg} (hm : st cm = some (.cells true xs 5 g1)) (hx : xs.length = 5) (hk : st ck = some (.cells true ys 1 g2)) (hy : ys.length = 1) (hne : cm ≠ ck) :
    ICallsD Tryz.prog W0 228 #[ptr cm, ptr ck] (.panicking (one badV)) st fun e u st' => settle u = .returning ∧ (∃ v, e = .returned v) ∧ (∀ k o, k ≠ cm → k ≠ ck → st k = some o → st' k = some o) ∧ st' cm = some (.cells true zeroMat 5 g1) ∧ st' ck = some (.cells true [.bool false] 1 g2) := by
  refine ICallsD.mono (ICallsD_recover (args := [ptr cm, ptr ck]) (R := fun e st' => (∃ v, e = .returned v) ∧ (∀ k o, k ≠ cm → k ≠ ck → st k = some o → st' k = some o) ∧ st' cm = some (.cells true zeroMat 5 g1) ∧ st' ck = some (.cells true [.bool false] 1 g2)) mixed allFit Tryz.func228 rfl rfl rfl rfl rfl rfl rfl ?_) ?_
  · have hrm : (recM (.panicking (one badV))).2 = badV := rfl
    rw [hrm]
    unfold badV
    simp [Tryz.f228, go_sem, eqB]
    refine assert_hit (v := .agg #[]) (by simp [go_sem]) Tryz.underlying308 rfl ?_
    simp [go_sem]
    unfold NewP
    intro tz htz
    refine ⟨.ty 0, ?_⟩
    have n1 : cm ≠ tz := ne_of_new hm htz
    have n2 : ck ≠ tz := ne_of_new hk htz
    have n1' := Ne.symm n1
    have n2' := Ne.symm n2
    have hne' := Ne.symm hne
    have hx0 : xs.drop 5 = [] := by rw [List.drop_eq_nil_iff]; omega
    have hy0 : ys.drop 1 = [] := by rw [List.drop_eq_nil_iff]; omega
    simp [go_sem, hm, hk, n1, n2, n1', n2', hne, hne', hx, hy, hx0, hy0]
    refine ⟨fun k o h1 h2 h3 => ?_, rfl, ?_⟩
    · rw [upd_ne _ _ h2, upd_ne _ _ h1, upd_ne _ _ (ne_of_new h3 htz)]
      exact h3
    · match ys, hy with
      | [y], _ => rfl
  · rintro e u' st' ⟨rfl, h2, h3, h4, h5⟩
    exact ⟨rfl, h2, h3, h4, h5⟩
def chkM (R : Option (Mat × Int × Int)) : Option (Mat × Int) := R.bind fun p => if checkM p.1 = true then some (p.1, p.2.1) else none
theorem reads_spec {bv : Value} {b : Bs} {g0 : Tg} (hl : b.length < 2 ^ 60) {st : Heap} {r c : Nat} {at_ : Int} (hc : st c = some (.cells true [ptr r] 1 (.ty 0))) (hr : st r = some (readC bv at_ 64 r)) (hb : Reg st g0 1 bv (bytesV b) b.length) (hg : Free g0) :
    ICalls Tryz.prog W0 183 #[.func (.func 184) #[] #[ptr c]] st fun e st' => But1 r st st' ∧ match chkM (readM b 8 at_ 64) with
      | some (m, a) => ∃ cs l, e = .returned (.tuple #[.agg cs.toArray, .bool true]) ∧ MatAt st' cs m ∧ st' r = some (readC bv a l r)
      | none => e = .returned (.tuple #[.agg zeroMat.toArray, .bool false]) := by
  generalize hRES : chkM (readM b 8 at_ 64) = RES
  refine ICalls_door (args := [_]) [2, 3] mixed allFit Tryz.func183 rfl rfl rfl rfl rfl rfl rfl (by kernel_rfl) (by kernel_rfl) ?_
  simp [go_sem]
  unfold NewP
  intro cm hcm
  refine ⟨.own cm 0 83, ?_⟩
  simp [go_sem]
  unfold NewP
  intro ck hck
  refine ⟨.own ck 0 84, ?_⟩
  have hne : cm ≠ ck := by
    rintro rfl
    rw [upd_same] at hck
    cases hck
  have hne' := Ne.symm hne
  simp [go_sem, hne, hne']
  generalize hst2 : upd (upd st cm _) ck _ = st2
  have hN2 : New st st2 := by rw [← hst2]; exact ((New.refl _).add hcm).add hck
  have hcm2 : st2 cm = some (.cells true zeroMat 5 (.own cm 0 83)) := by rw [← hst2, upd_ne _ _ hne, upd_same]; rfl
  have hck2 : st2 ck = some (.cells true [.bool false] 1 (.own ck 0 84)) := by rw [← hst2, upd_same]
  have hckn : st ck = none := ((New.refl _).add hcm).none hck
  have hmr : cm ≠ r := Ne.symm (ne_of_new hr hcm)
  have hkr : ck ≠ r := Ne.symm (ne_of_new hr hckn)
  refine (get1_spec hl (hN2 _ _ hc) (hN2 _ _ hr) (hb.new hN2) hg).mono ?_
  rintro e st3 ⟨hk3, hR⟩
  have hcm3 := hk3 _ _ hmr hcm2
  have hck3 := hk3 _ _ hkr hck2
  cases hrm : readM b 8 at_ 64 with
  | none =>
    rw [hrm] at hR hRES
    obtain ⟨rfl, n, l, hr3⟩ := hR
    simp [chkM] at hRES
    subst hRES
    simp [go_sem]
    unfold DoorP
    refine (door_panic hcm3 rfl hck3 rfl hne).mono ?_
    rintro e u st4 ⟨hset, hv, hk4, hcm4, hck4⟩
    refine ⟨hv, hset, fun E hE => ?_⟩
    have e2 : E 2 = ptr cm := (hE 2 (by simp)).trans (by simp [go_sem])
    have e3 : E 3 = ptr ck := (hE 3 (by simp)).trans (by simp [go_sem])
    refine RetI_cells ?_
    unfold zeroMat at hcm4
    simp [go_sem, e2, e3, hcm4, hck4]
    refine ⟨fun k o hk ho => hk4 k o (ne_of_new ho hcm) (ne_of_new ho hckn) (hk3 k o hk (hN2 _ _ ho)), ?_⟩
    rfl
  | some p =>
    obtain ⟨m, a, l⟩ := p
    rw [hrm] at hR hRES
    obtain ⟨cs, rfl, hm, hr3⟩ := hR
    obtain ⟨op, name, value, vb, vl, vc, kb, kl, kc, rfl⟩ := mat_cells' hm
    simp [go_sem, hcm3, zeroMat]
    generalize hst4 : upd st3 cm _ = st4
    have hB4 : But1 cm st3 st4 := by rw [← hst4]; exact (But1.refl _ _).put
    have hcm4 : st4 cm = some (.cells true [Val.i op, .string name, .string value, .slice vb vl vc, .slice kb kl kc] 5 (.own cm 0 83)) := by rw [← hst4, upd_same]
    have hck4 := hB4 _ _ hne' hck3
    have hm4 := MatAt.mono (fun _ _ _ _ hx => hx.but hB4 hcm3) _ _ hm
    have hr4 := hB4 _ _ (Ne.symm hmr) hr3
    have hk4 : But1 r st st4 := by
      intro k o hk ho
      rw [← hst4, upd_ne _ _ (ne_of_new ho hcm)]
      exact hk3 k o hk (hN2 _ _ ho)
    refine (matCheck_spec m hm4).mono ?_
    rintro e st5 ⟨rfl, hk5⟩
    have hcm5 := hk5 _ _ hcm4
    have hck5 := hk5 _ _ hck4
    have hm5 := hm4.new hk5
    have hr5 := hk5 _ _ hr4
    have hkk5 := hk4.trans (hk5.but r)
    cases hc : checkM m with
    | false =>
      simp [chkM, hc] at hRES
      subst hRES
      simp [go_sem, hcm5, hck5, hne, hne']
      unfold DoorQ
      refine door_ret.mono ?_
      rintro e u st6 ⟨rfl, hv, rfl⟩
      refine ⟨hv, rfl, ?_⟩
      refine RetI_cells ?_
      simp [go_sem, hne, hne', hck5]
      first
      | exact (hkk5.putNew hcm).putNew hckn
      | exact ⟨(hkk5.putNew hcm).putNew hckn, rfl⟩
    | true =>
      simp [chkM, hc] at hRES
      subst hRES
      simp [go_sem, hcm5, hck5, hne, hne']
      unfold DoorQ
      refine door_ret.mono ?_
      rintro e u st6 ⟨rfl, hv, rfl⟩
      refine ⟨hv, rfl, ?_⟩
      refine RetI_cells ?_
      simp [go_sem, hne, hne', hck5]
      have hB6 := But1.put (o := .cells true [Val.i op, .string name, .string value, .slice vb vl vc, .slice kb kl kc] 5 (.own cm 0 83)) (But1.refl cm st5)
      have hck6 := hB6 _ _ hne' hck5
      have hB7 := But1.put (o := .cells true [.bool true] 1 (.own ck 0 84)) (But1.refl ck (upd st5 cm (.cells true [Val.i op, .string name, .string value, .slice vb vl vc, .slice kb kl kc] 5 (.own cm 0 83))))
      exact ⟨(hkk5.putNew hcm).putNew hckn, MatAt.mono (fun _ _ _ _ hx => (hx.but hB6 hcm5).but hB7 hck6) _ _ hm5, l, by rw [upd_ne _ _ (Ne.symm hkr), upd_ne _ _ (Ne.symm hmr)]; exact hr5⟩
theorem chkM_get (b : Bs) (at_ : Int) : chkM (readM b 8 at_ 64) = getMatM b at_ := rfl
theorem matGet_spec {bv : Value} {b : Bs} {g0 : Tg} (hl : b.length < 2 ^ 60) {st : Heap} {at_ : Int} (hb : Reg st g0 1 bv (bytesV b) b.length) (hg : Free g0) :
    ICalls Tryz.prog W0 129 #[bv, Val.i at_] st fun e st' => New st st' ∧ match getMatM b at_ with
      | some (m, a) => ∃ cs, e = .returned (.tuple #[.agg cs.toArray, Val.i a, .bool true]) ∧ MatAt st' cs m
      | none => e = .returned (.tuple #[.agg zeroMat.toArray, Val.i 0, .bool false]) := by
  obtain ⟨bb, bc, rfl⟩ := hb.slice
  refine enter (args := [_, _]) Tryz.func129 rfl ?_
  generalize hRES : getMatM b at_ = RES
  rw [← chkM_get] at hRES
  simp [Tryz.f129, go_sem]
  unfold NewP
  intro to hto
  refine ⟨.own to 0 85, ?_⟩
  simp [go_sem]
  unfold NewP
  intro r hr
  refine ⟨.own r 0 61, ?_⟩
  simp [go_sem]
  unfold NewP
  intro c hc
  refine ⟨.ty 0, ?_⟩
  simp [go_sem]
  have n_or : to ≠ r := by rintro rfl; rw [upd_same] at hr; cases hr
  have hrn : st r = none := ((New.refl _).add hto).none hr
  have n_oc : to ≠ c := by
    rintro rfl
    rw [upd_ne _ _ n_or, upd_same] at hc
    cases hc
  have n_rc : r ≠ c := by rintro rfl; rw [upd_same] at hc; cases hc
  generalize hst2 : upd (upd (upd st to _) r _) c _ = st2
  have hN2 : New st st2 := by rw [← hst2]; exact (((New.refl _).add hto).add hr).add hc
  have hto2 : st2 to = some (.cells true zeroMat 5 (.own to 0 85)) := by rw [← hst2, upd_ne _ _ n_oc, upd_ne _ _ n_or, upd_same]; rfl
  have hr2 : st2 r = some (readC (.slice bb b.length bc) at_ 64 r) := by rw [← hst2, upd_ne _ _ n_rc, upd_same]; rfl
  have hc2 : st2 c = some (.cells true [ptr r] 1 (.ty 0)) := by rw [← hst2, upd_same]
  refine (reads_spec hl hc2 hr2 (hb.new hN2) hg).mono ?_
  rintro e st3 ⟨hk3, hR⟩
  have hto3 := hk3 _ _ n_or hto2
  have hc3 := hk3 _ _ (Ne.symm n_rc) hc2
  have hN3 : New st st3 := fun k o ho => hk3 k o (ne_of_new ho hrn) (hN2 k o ho)
  rw [hRES] at hR
  cases hres : RES with
  | none =>
    rw [hres] at hR
    simp only at hR
    subst hR
    unfold zeroMat at hto3 ⊢
    simp [go_sem]
    unfold NewP
    intro t8 ht8
    refine ⟨.ty 0, ?_⟩
    have n8 : to ≠ t8 := ne_of_new hto3 ht8
    have n8' := Ne.symm n8
    simp [go_sem, hto3, n8, n8']
    refine RetI_cell_two ?_
    simp [go_sem]
    exact (hN3.add ht8).put hto
  | some p =>
    obtain ⟨m, a⟩ := p
    rw [hres] at hR
    obtain ⟨cs, l, rfl, hm, hr3⟩ := hR
    obtain ⟨op, name, value, vb, vl, vc, kb, kl, kc, rfl⟩ := mat_cells' hm
    unfold zeroMat at hto3
    simp [go_sem]
    unfold NewP
    intro t8 ht8
    refine ⟨.ty 0, ?_⟩
    have n8 : to ≠ t8 := ne_of_new hto3 ht8
    have n8' := Ne.symm n8
    simp [go_sem]
    have h8 : st3 t8 = none := ht8
    have nr8 : r ≠ t8 := ne_of_new hr3 ht8
    have nc8 : c ≠ t8 := ne_of_new hc3 ht8
    generalize hst4 : upd st3 t8 _ = st4
    have hk4 : New st3 st4 := by rw [← hst4]; exact (New.refl _).add ht8
    have ht84 : st4 t8 = some (.cells true [Val.i op, .string name, .string value, .slice vb vl vc, .slice kb kl kc] 5 (.ty 0)) := by rw [← hst4, upd_same]
    have hto4 := hk4 _ _ hto3
    have hc4 := hk4 _ _ hc3
    have hr4 := hk4 _ _ hr3
    refine drawK2 [0, 1, 2, 3, 4] [5] [6, 7] (fun i => match i with | 0 => .agg #[Val.i op, .string name, .string value, .slice vb vl vc, .slice kb kl kc] | 1 => ptr r | 2 => ptr r | 3 => .pointer (some ⟨r, 1, none⟩) | _ => Val.i a) (fun st' => st' t8 = some (.cells true [Val.i op, .string name, .string value, .slice vb vl vc, .slice kb kl kc] 5 (.ty 0)) ∧ st' c = some (.cells true [ptr r] 1 (.ty 0)) ∧ st' r = some (readC (.slice bb b.length bc) a l r)) (by kernel_rfl) (by kernel_rfl) (by kernel_rfl) (by kernel_rfl) (by kernel_rfl) (by kernel_rfl) (by kernel_rfl) (by kernel_rfl) (by kernel_rfl) ⟨ht84, hc4, hr4⟩ ?_ ?_
    · simp [knownW, go_sem]
      refine ⟨?_, ?_, ?_⟩
      · intro st' h1 h2 h3
        simp [go_sem, h1]
      · intro st' h1 h2 h3
        simp [go_sem, h2]
      · intro st' h1 h2 h3
        unfold readC at h3
        simp [go_sem, h3]
    · simp [chainW, knownE, go_sem, hto4, n8, n8']
      refine ⟨⟨ht84, by rw [upd_ne _ _ (Ne.symm n_oc)]; exact hc4, by rw [upd_ne _ _ (Ne.symm n_or)]; exact hr4⟩, ?_⟩
      refine RetI_cell_two ?_
      simp [go_sem]
      have hB := But1.put (o := .cells true [Val.i op, .string name, .string value, .slice vb vl vc, .slice kb kl kc] 5 (.own to 0 85)) (But1.refl to st4)
      refine ⟨(hN3.trans hk4).put hto, ?_⟩
      exact MatAt.mono (fun _ _ _ _ hx => hx.but hB hto4) _ _ (hm.new hk4)
end
end Go.Proofs.YtadgciaclhjjkaaGreat
