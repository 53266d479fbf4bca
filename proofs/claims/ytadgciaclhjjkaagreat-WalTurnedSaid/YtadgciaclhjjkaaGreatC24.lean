/- A range over a function: its rounds, the statement, a function that holds one. Plain definitions and theorems, over any program. -/
import Derived.Test.YtadgciaclhjjkaaGreatC15
import Derived.RangeFuncRecord
import Derived.Test.YtadgciaclhjjkaaGreatC23
import Derived.Test.YtadgciaclhjjkaaGreatC16
set_option linter.unusedVariables false
set_option linter.unusedSimpArgs false
namespace Go.Proofs.YtadgciaclhjjkaaGreat
open Go.RowKit (Below)
theorem Sim.put_other {W0 w : World} {st : Heap} (h : Sim W0 st w) {b : Nat} {o o' : Obj} (hb : st b = some (.other o)) (ho : ∀ c e f, o' ≠ .cells c e f) : Sim W0 (upd st b (.other o')) (w.putObj b o') := by
  obtain ⟨h0, h1, h2⟩ := h.objs _ _ hb
  exact h.setObj hb h0 (fun _ _ _ => trivial) (fun w' hw' => ⟨h0, hw', ho⟩)
theorem Sim.other {W0 w : World} {st : Heap} (h : Sim W0 st w) {b : Nat} {o : Obj} (hb : st b = some (.other o)) : w.heap[b]? = some o := (h.objs _ _ hb).2.1

/-! ### A round -/
def RoundQ (l : Nat) (R : Ending → Heap → Prop) : IPost
  | .normal, _, st => ∃ r : Loop, st l = some (.other (.loop r)) ∧ R (.returned (.bool true)) (upd st l (.other (.loop { r with state := .ready, pending := none })))
  | .ret, _, st => ∃ r : Loop, st l = some (.other (.loop r)) ∧ R (.returned (.bool false)) (upd st l (.other (.loop { r with state := .done, pending := some .ret })))
  | .exit id, _, st => ∃ r : Loop, st l = some (.other (.loop r)) ∧ R (.returned (.bool false)) (upd st l (.other (.loop { r with state := .done, pending := some (.exit id) })))
  | _, _, _ => False
theorem RoundI_of {P : Program} {W0 : World} {l f : Nat} {T : Array Value} {assign body : Code} {st : Heap} {R : Ending → Heap → Prop} (hm : P.follows .mixedOrders = true) (hf1 : Code.fit T.size (fun _ => true) assign = true) (hf2 : Code.fit T.size (fun _ => true) body = true) (hc1 : Code.calm assign = true) (hc2 : Code.calm body = true)
    (h : IW P W0 assign (fun e E1 st1 => e = .normal ∧ ∃ r1 : Loop, st1 l = some (.other (.loop r1)) ∧ r1.state = .ready ∧ IW P W0 body (RoundQ l R) (fun _ _ => False) E1 (upd st1 l (.other (.loop { r1 with state := .busy })))) (fun _ _ => False) (fun t => T.getD t undef) st) :
    RoundI P W0 l f T assign body st R := by
  intro w hs
  have h0 := IW_soundIn (P := P) (W0 := W0) (N := T.size) (ok := fun _ => true) (G := fun a => a.defers = []) (ro := some l) (n := 0) stays_nil hm assign hf1 (.inr hc1) (a := { tmps := T, defers := [] }) rfl rfl hs h
  refine roundIn_of_wpIn (F := Fence.wide) trivial (wpIn_mono h0 ?_)
  intro e a w1 hq
  cases e with
  | normal =>
    obtain ⟨h1, h2, st1, h3, -, r1, h4, h5, h6⟩ := hq
    refine ⟨_, run_beginRound (h3.other h4) h5, ?_⟩
    have hs2 := h3.put_other (o' := .loop { r1 with state := .busy }) h4 (by simp)
    have h7 := IW_soundIn (P := P) (W0 := W0) (N := T.size) (ok := fun _ => true) (G := fun a => a.defers = []) (ro := some l) (n := 0) stays_nil hm body hf2 (.inr hc2) h1 h2 hs2 h6
    refine wpIn_mono h7 ?_
    intro e a' w2 hq
    cases e with
    | normal =>
      obtain ⟨_, _, st2, k3, r, k4, k5⟩ := hq
      exact ⟨_, _, run_endRound none (k3.other k4), _, k3.put_other k4 (by simp), k5⟩
    | ret =>
      obtain ⟨_, _, st2, k3, r, k4, k5⟩ := hq
      exact ⟨_, _, run_endRound (some .ret) (k3.other k4), _, k3.put_other k4 (by simp), k5⟩
    | exit id =>
      obtain ⟨_, _, st2, k3, r, k4, k5⟩ := hq
      exact ⟨_, _, run_endRound (some (.exit id)) (k3.other k4), _, k3.put_other k4 (by simp), k5⟩
    | goto t => obtain ⟨_, _, _, _, k⟩ := hq; exact k.elim
    | panic ch => obtain ⟨_, _, _, k⟩ := hq; exact k.elim
    | outgrown => exact hq.elim
  | exit id => obtain ⟨_, _, _, _, k, _⟩ := hq; cases k
  | goto id => obtain ⟨_, _, _, _, k, _⟩ := hq; cases k
  | ret => obtain ⟨_, _, _, _, k, _⟩ := hq; cases k
  | panic ch => obtain ⟨_, _, _, k⟩ := hq; exact k.elim
  | outgrown => exact hq.elim

/-! ### Code that holds ranges over functions: the marks of the activation stand beside -/
abbrev MPost := Exit → Env → List Nat → Heap → Prop
def Code.fitR (N : Nat) : Code → Bool
  | .seq x y => Code.fitR N x && Code.fitR N y
  | .cond _ x y => Code.fitR N x && Code.fitR N y
  | .block _ c => Code.fitR N c
  | .loop c => Code.fitR N c
  | .scope c => Code.fitR N c
  | .rangeFunc _ ps assign body => Code.fit N (fun _ => true) assign && Code.fit N (fun _ => true) body && Code.calm assign && Code.calm body && ps.all (fun t => Nat.blt t N)
  | c => Code.fit N (fun _ => true) c
/-- What holds of a loop's record as long as it goes on. -/
def RecOK (N : Nat) (ps : Array Tmp) (assign body : Code) (T : Array Value) : Prop := T.size = N ∧ Code.fit N (fun _ => true) assign = true ∧ Code.fit N (fun _ => true) body = true ∧ Code.calm assign = true ∧ Code.calm body = true ∧ ∀ t ∈ ps, t < N
def RangeR (P : Program) (W0 : World) (N : Nat) (g : Operand) (ps : Array Tmp) (assign body : Code) (Q : MPost) (E : Env) (M : List Nat) (st : Heap) : Prop :=
  ∃ (f : FuncId) (lb : Array Value), E.ev g = .func (.func f) #[] lb ∧ callOK P f = true ∧ ∀ (D l : Nat) (T : Array Value) (fn : FuncId), st D = none → D ≠ l → st l = none → RecOK N ps assign body T → (∀ t, T.getD t undef = E t) →
    ICalls P W0 f (#[.func (.yield l) #[] #[]] ++ lb) (upd (upd st D (.other (.deferred (some [])))) l (.other (.loop { state := .ready, pending := none, fn := fn, tmps := T, params := ps, assign := assign, body := body, defers := D }))) fun e st' => match e with
      | .returned _ => ∃ r : Loop, st' l = some (.other (.loop r)) ∧ r.state ≠ .busy ∧ (match r.pending with
          | none => Q .normal E (D :: M) (upd st' l (.other (.loop { r with state := .exhausted })))
          | some .ret => Q .ret E (D :: M) (upd st' l (.other (.loop { r with state := .exhausted })))
          | some (.exit id) => Q (.exit id) E (D :: M) (upd st' l (.other (.loop { r with state := .exhausted })))
          | _ => False)
      | _ => False
def IWR (P : Program) (W0 : World) (N : Nat) : Code → MPost → Env → List Nat → Heap → Prop
  | .seq x y, Q, E, M, st => IWR P W0 N x (fun e E' M' st' => match e with | .normal => IWR P W0 N y Q E' M' st' | e => Q e E' M' st') E M st
  | .cond c x y, Q, E, M, st => match E.ev c with
    | .bool t => if t = true then IWR P W0 N x Q E M st else IWR P W0 N y Q E M st
    | _ => False
  | .block id c, Q, E, M, st => IWR P W0 N c (fun e E' M' st' => match e with | .exit id' => if id' = id then Q .normal E' M' st' else Q (.exit id') E' M' st' | e => Q e E' M' st') E M st
  | .loop c, Q, E, M, st => ∃ (I : Env → List Nat → Heap → Prop) (μ : Env → List Nat → Heap → Nat), (∃ st0, Heap.Le st0 st ∧ I E M st0) ∧ ∀ E M st, I E M st → IWR P W0 N c (fun e E' M' st' => match e with | .normal => ∃ st0, Heap.Le st0 st' ∧ I E' M' st0 ∧ μ E' M' st0 < μ E M st | e => Q e E' M' st') E M st
  | .scope c, Q, E, M, st => IWR P W0 N c (fun e E' M' st' => match e with | .goto _ => False | e => Q e E' M' st') E M st
  | .rangeFunc g ps assign body, Q, E, M, st => RangeR P W0 N g ps assign body Q E M st
  | c, Q, E, M, st => IW P W0 c (fun e E' st' => Q e E' M st') (fun _ _ => False) E st
def markD (D : Nat) : Deferred := { target := .collected D, args := #[] }
def LiftM (W0 : World) (N : Nat) (Q : MPost) : Exit → Act → World → Prop
  | .panic _, _, _ => False
  | .outgrown, _, _ => False
  | e, a, w => ∃ M, a.defers = M.map markD ∧ a.tmps.size = N ∧ ∃ st, Sim W0 st w ∧ Q e (envOf a) M st
theorem stays_list (L : List Deferred) : Stays (fun _ => true) (fun a => a.defers = L) := fun a d v h _ => by show (a.put d v).defers = L; rw [defers_put]; exact h
theorem Lift_M {W0 : World} {N : Nat} {Q : MPost} {M : List Nat} {e : Exit} {a : Act} {w : World} (h : Lift W0 N (fun a => a.defers = M.map markD) (fun e E' st' => Q e E' M st') (fun _ _ => False) e a w) : LiftM W0 N Q e a w := by
  cases e with
  | panic ch => obtain ⟨_, _, _, h⟩ := h; exact h.elim
  | outgrown => exact h
  | normal => obtain ⟨h1, h2, h3⟩ := h; exact ⟨M, h1, h2, h3⟩
  | ret => obtain ⟨h1, h2, h3⟩ := h; exact ⟨M, h1, h2, h3⟩
  | exit id => obtain ⟨h1, h2, h3⟩ := h; exact ⟨M, h1, h2, h3⟩
  | goto id => obtain ⟨h1, h2, h3⟩ := h; exact ⟨M, h1, h2, h3⟩
theorem run_enter {P : Program} {g : FuncId} (hok : callOK P g = true) (w : World) (args cap : Array Value) : (invoke (.fn (.func g) cap) args).run P w = .ok (.enter g (args ++ cap)) w := by
  unfold invoke callFunc
  unfold callOK at hok
  split at hok
  · rename_i fn hf
    simp only [Bool.and_eq_true, Bool.not_eq_true'] at hok
    have hb : fn.body.isNone = false := by
      cases hfb : fn.body with
      | none => rw [hfb] at hok; simp at hok
      | some c => rfl
    have n1 : fn.name ≠ "runtime.NumGoroutine" := by simpa using hok.1
    have n2 : fn.body ≠ none := by intro h; rw [h] at hb; cases hb
    simp [run_program, hf, n1, n2]
  · cases hok
theorem IWR_sound {P : Program} {W0 : World} {N : Nat} (hm : P.follows .mixedOrders = true) (c : Code) : Code.fitR N c = true → ∀ {Q : MPost} {M : List Nat} {a : Act} {w : World} {st : Heap}, a.defers = M.map markD → a.tmps.size = N → Sim W0 st w →
    IWR P W0 N c Q (envOf a) M st → c.wpIn Fence.wide 0 P (LiftM W0 N Q) a w := by
  have leaf : ∀ (c : Code), Code.fit N (fun _ => true) c = true → ∀ {Q : MPost} {M : List Nat} {a : Act} {w : World} {st : Heap}, a.defers = M.map markD → a.tmps.size = N → Sim W0 st w → IW P W0 c (fun e E' st' => Q e E' M st') (fun _ _ => False) (envOf a) st → c.wpIn Fence.wide 0 P (LiftM W0 N Q) a w :=
    fun c hf Q M a w st hd hN hs h => wpIn_mono (IW_soundIn (ro := none) (n := 0) (G := fun a => a.defers = M.map markD) (stays_list _) hm c hf (.inl rfl) hd hN hs h) fun e a w => Lift_M
  induction c with
  | skip => exact fun hf Q M a w st hd hN hs h => leaf _ hf hd hN hs h
  | region id ops draw => exact fun hf Q M a w st hd hN hs h => leaf _ hf hd hN hs h
  | exit id => exact fun hf Q M a w st hd hN hs h => leaf _ hf hd hN hs h
  | ret => exact fun hf Q M a w st hd hN hs h => leaf _ hf hd hN hs h
  | label l => exact fun hf Q M a w st hd hN hs h => leaf _ hf hd hN hs h
  | goto l => exact fun hf Q M a w st hd hN hs h => leaf _ hf hd hN hs h
  | refuse why => exact fun hf Q M a w st hd hN hs h => leaf _ hf hd hN hs h
  | seq x y ihx ihy =>
    intro hf Q M a w st hd hN hs h
    simp only [Code.fitR, Bool.and_eq_true] at hf
    refine wpIn_seq (wpIn_mono (ihx hf.1 hd hN hs h) ?_)
    intro e a' w' hq
    cases e with
    | normal => obtain ⟨M', h1, h2, st', h3, h4⟩ := hq; exact ihy hf.2 h1 h2 h3 h4
    | _ => exact hq
  | cond c x y ihx ihy =>
    intro hf Q M a w st hd hN hs h
    simp only [Code.fitR, Bool.and_eq_true] at hf
    unfold IWR at h
    split at h
    · rename_i t ht
      have he : a.eval c = .bool t := by rw [eval_env]; exact ht
      cases t with
      | true => exact wpIn_cond_true he (ihx hf.1 hd hN hs (by simpa using h))
      | false => exact wpIn_cond_false he (ihy hf.2 hd hN hs (by simpa using h))
    · exact h.elim
  | block id c ih =>
    intro hf Q M a w st hd hN hs h
    refine wpIn_block (wpIn_mono (ih hf hd hN hs h) ?_)
    intro e a' w' hq
    cases e with
    | exit id' =>
      obtain ⟨M', h1, h2, st', h3, h4⟩ := hq
      simp only [Exit.inBlock]
      simp only at h4
      split
      · rename_i he; rw [if_pos he] at h4; exact ⟨M', h1, h2, st', h3, h4⟩
      · rename_i he; rw [if_neg he] at h4; exact ⟨M', h1, h2, st', h3, h4⟩
    | _ => exact hq
  | loop c ih =>
    intro hf Q M a w st hd hN hs h
    obtain ⟨I, μ, ⟨st0, hle0, h0⟩, hr⟩ := h
    suffices hmain : ∀ j (M : List Nat) (a : Act) (w : World) (st : Heap), a.defers = M.map markD → a.tmps.size = N → Sim W0 st w → I (envOf a) M st → μ (envOf a) M st = j →
        ∀ (b : Frame) (k : List Item) (cs : List Frame), b.roundOf = Fence.wide.round → ∃ e a' w', LiftM W0 N Q e a' w' ∧ ArrivesIn (Machine.fenced P Fence.wide) P (lone (b.atR a (.code c :: .inLoop c :: k)) cs w) b k cs e a' w' by
      intro b k cs hro hb hr
      obtain ⟨e, a', w', hq, harr⟩ := hmain _ M a w st0 hd hN (hs.weaken hle0) h0 rfl b k cs hro
      exact ⟨e, a', w', hq, .of_steps (.one (fenced_calm hb hr rfl) stepR_loop) harr⟩
    intro j
    induction j using Nat.strongRecOn with
    | _ j ihn =>
      intro M a w st hd hN hs hI hn b k cs hro
      obtain ⟨e, a1, w1, hq, harr⟩ := ih hf hd hN hs (hr _ _ _ hI) b (.inLoop c :: k) cs hro trivial (room_wide _)
      cases e with
      | normal =>
        obtain ⟨M1, h1, h2, st1, h3, st0, hle, hI1, hlt⟩ := hq
        obtain ⟨e2, a2, w2, hq2, harr2⟩ := ihn _ (hn ▸ hlt) M1 a1 w1 st0 h1 h2 (h3.weaken hle) hI1 rfl b k cs hro
        exact ⟨e2, a2, w2, hq2, .of_steps (StepsIn.trans harr (.one (fenced_calm (F := Fence.wide) (n := 0) trivial (room_wide _) rfl) stepR_inLoop)) harr2⟩
      | exit id => exact ⟨.exit id, a1, w1, hq, .pass (x := .inLoop c) rfl (fun _ _ => .inl (by simp)) harr⟩
      | goto l => exact ⟨.goto l, a1, w1, hq, .pass (x := .inLoop c) rfl (fun _ _ => .inl (by simp)) harr⟩
      | ret => exact ⟨.ret, a1, w1, hq, .pass (x := .inLoop c) rfl (fun _ _ => .inl (by simp)) harr⟩
      | panic ch => exact hq.elim
      | outgrown => exact hq.elim
  | scope c ih =>
    intro hf Q M a w st hd hN hs h
    refine wpIn_scope_straight (wpIn_mono (ih hf hd hN hs h) ?_)
    intro e a' w' hq
    cases e with
    | goto l => obtain ⟨_, _, _, _, _, h4⟩ := hq; exact h4.elim
    | _ => exact hq
  | rangeFunc g ps assign body _ _ =>
    intro hf Q M a w st hd hN hs h
    simp only [Code.fitR, Bool.and_eq_true, Array.all_eq_true_iff_forall_mem] at hf
    obtain ⟨⟨⟨⟨f1, f2⟩, f3⟩, f4⟩, f5⟩ := hf
    obtain ⟨f, lb, he, hok, h⟩ := h
    refine wpIn_rangeFunc fun fn _ => ?_
    have hs1 := hs.alloc_other (.deferred (some [])) (by simp)
    have hs2 := hs1.alloc_other (.loop { state := .ready, pending := none, fn := fn, tmps := a.tmps, params := ps, assign := assign, body := body, defers := w.heap.size }) (by simp)
    have hsz : (w.alloc (.deferred (some []))).heap.size = w.heap.size + 1 := by simp
    rw [hsz] at hs2
    have hn1 : st (w.heap.size) = none := hs.fresh
    have hn2 : st (w.heap.size + 1) = none := by
      have := hs1.fresh
      rw [hsz] at this
      rw [upd_ne _ _ (by omega)] at this
      exact this
    have hev : a.eval g = .func (.func f) #[] lb := by rw [eval_env]; exact he
    have hcall := h w.heap.size (w.heap.size + 1) a.tmps fn hn1 (by omega) hn2 ⟨hN, f1, f2, f3, f4, fun t ht => by have := f5 t ht; simpa using this⟩ (fun t => rfl) _ hs2
    have hent := run_enterLoop_outer (P := P) (w := w) fn a.tmps ps assign body
    generalize (w.alloc (.deferred (some []))).alloc (.loop { state := .ready, pending := none, fn := fn, tmps := a.tmps, params := ps, assign := assign, body := body, defers := w.heap.size }) = w1 at *
    have hres : (resolve a.eval (rangeCall g (w.heap.size + 1)) 0).run P w1 = .ok { target := .fn (.func f) lb, args := #[.func (.yield (w.heap.size + 1)) #[] #[]] } w1 := by
      unfold resolve
      have hm1 : (#[Operand.const (.func (.yield (w.heap.size + 1)) #[] #[])] : Array Operand).map a.eval = #[.func (.yield (w.heap.size + 1)) #[] #[]] := by simp; rfl
      simp only [hm1, hev, Deferred.ofValue]
      rfl
    refine ⟨w.heap.size + 1, [markD w.heap.size], w1, _, w1, f, #[.func (.yield (w.heap.size + 1)) #[] #[]] ++ lb, w1, hent, hres, fun _ _ => trivial, run_enter hok w1 #[.func (.yield (w.heap.size + 1)) #[] #[]] lb, fun h => by simp [Fence.wide] at h, ?_⟩
    refine WF_calls (ro := none) (Calls.mono hcall ?_)
    · rintro e w3 ⟨st3, hs3, hR⟩
      cases e with
      | panicked ch => exact hR.elim
      | outgrown => exact hR.elim
      | returned v =>
        obtain ⟨r, h1, h2, h3⟩ := hR
        refine ⟨r.pending, _, run_endLoop (hs3.other h1) h2, ?_⟩
        have hs4 := hs3.put_other (o' := .loop { r with state := .exhausted }) h1 (by simp)
        have hde : ([markD w.heap.size] : List Deferred) ++ a.defers = (w.heap.size :: M).map markD := by rw [hd]; rfl
        cases hp : r.pending with
        | none =>
          rw [hp] at h3 hs4
          exact ⟨_, hde, hN, _, hs4, h3⟩
        | some c =>
          rw [hp] at h3 hs4
          cases c with
          | ret => exact wpIn_ret ⟨_, hde, hN, _, hs4, h3⟩
          | exit id => exact wpIn_exit ⟨_, hde, hN, _, hs4, h3⟩
          | _ => exact h3.elim
/-- The blocks of the marks, shut. -/
def shutM : List Nat → Heap → Heap
  | [], st => st
  | D :: M, st => shutM M (upd st D (.other (.deferred none)))
def RetM (P : Program) (rs : Array ResultVar) (R : Ending → Heap → Prop) : MPost
  | .normal, E, M, st => M.Nodup ∧ (∀ D ∈ M, st D = some (.other (.deferred (some [])))) ∧ RetI P rs R .ret E (shutM M st)
  | .ret, E, M, st => M.Nodup ∧ (∀ D ∈ M, st D = some (.other (.deferred (some [])))) ∧ RetI P rs R .ret E (shutM M st)
  | _, _, _, _ => False
theorem leaves_marks {P : Program} {W0 : World} {fn : Func} {tmps : Array Value} {R : Ending → Heap → Prop} : ∀ (M : List Nat) {w : World} {st : Heap}, Sim W0 st w → M.Nodup → (∀ D ∈ M, st D = some (.other (.deferred (some [])))) → RetI P fn.results R .ret (fun t => tmps.getD t undef) (shutM M st) →
    LeavesInM Fence.wide 0 P fn tmps (fun e w' => ∃ st', Sim W0 st' w' ∧ R e st') (M.map markD) .returning w
  | [], w, st, hs, _, _, h => by
    obtain ⟨v, h5, h6⟩ := res_sound hs h
    exact ⟨v, h5, st, hs, h6⟩
  | D :: M, w, st, hs, hnd, hD, h => by
    have hd := hD D (by simp)
    refine ⟨by simp, .inl ⟨D, _, rfl, run_takeDeferred (hs.other hd), ?_⟩⟩
    refine leaves_marks M (hs.put_other hd (by simp)) (List.nodup_cons.1 hnd).2 (fun k hk => ?_) h
    have : k ≠ D := by rintro rfl; exact (List.nodup_cons.1 hnd).1 hk
    rw [upd_ne _ _ this]
    exact hD k (by simp [hk])
theorem ICalls_range {P : Program} {W0 : World} {f : FuncId} {fn : Func} {c : Code} {args : List Value} {st : Heap} {R : Ending → Heap → Prop} (hm : P.follows .mixedOrders = true)
    (hf : P.funcs[f]? = some fn) (hb : fn.body = some c) (hN : args.length ≤ fn.ntmps) (hfit : Code.fitR fn.ntmps c = true)
    (h : IWR P W0 fn.ntmps c (RetM P fn.results R) (Env.args args) [] st) : ICalls P W0 f args.toArray st R := by
  intro w hs
  refine (callsIn_wide (n := 0)).1 (callsIn_of_wp_marks hf hb trivial ?_)
  have henv : envOf { tmps := args.toArray ++ Array.replicate (fn.ntmps - args.toArray.size) undef, defers := [] } = Env.args args := by
    funext t
    simp only [envOf, Env.args]
    rw [Array.getD_eq_getD_getElem?, List.getD_eq_getElem?_getD, Array.getElem?_append]
    split
    · simp
    · rename_i ht
      rw [List.getElem?_eq_none (by simpa using ht)]
      simp only [Array.getElem?_replicate]
      split <;> rfl
  refine wpIn_mono (IWR_sound (N := fn.ntmps) hm c hfit (M := []) rfl (by simp; omega) hs (henv ▸ h)) ?_
  intro e a w' hq
  cases e with
  | normal =>
    obtain ⟨M, h1, h2, st', h3, h4, h5, h6⟩ := hq
    show LeavesInM _ _ _ _ _ _ a.defers _ _
    rw [h1]
    exact leaves_marks M h3 h4 h5 h6
  | ret =>
    obtain ⟨M, h1, h2, st', h3, h4, h5, h6⟩ := hq
    show LeavesInM _ _ _ _ _ _ a.defers _ _
    rw [h1]
    exact leaves_marks M h3 h4 h5 h6
  | panic ch => exact hq.elim
  | outgrown => exact hq.elim
  | exit id => obtain ⟨_, _, _, _, _, h4⟩ := hq; exact h4.elim
  | goto l => obtain ⟨_, _, _, _, _, h4⟩ := hq; exact h4.elim
end Go.Proofs.YtadgciaclhjjkaaGreat
set_option linter.unusedVariables false
set_option linter.unusedSimpArgs false
set_option maxRecDepth 100000
set_option maxHeartbeats 2000000
namespace Go.Proofs.YtadgciaclhjjkaaGreat
open Go.RowKit (Below)
theorem frameGetM_next {b body : Bs} {a : Int} {e : Nat} (h : frameGetM b a = .ok (body, e)) : 0 ≤ a ∧ a < e ∧ e ≤ b.length := by
  obtain ⟨hs, h1, _⟩ := frame_canon h
  have hl := hs.len
  obtain ⟨s1, s2, s3, _⟩ := hs
  unfold frameM at hl
  simp only [List.length_append] at hl
  omega
section
variable {W0 : World} {st : Heap}
theorem all1_gen {l bx : Nat} {bv : Value} {b : Bs} {I : Int → Heap → Prop} {D : Heap → Prop} (hlen : b.length < 2 ^ 40)
    (hcell : ∀ a s, I a s → (∃ n g, s bx = some (.cells true [bv] n g)) ∧ ∃ g0, Reg s g0 1 bv (bytesV b) b.length) (hst : ∀ a s s', New s s' → I a s → I a s') (h0 : I 0 st)
    (hy : ∀ a s body e v, 0 ≤ a → frameGetM b a = .ok (body, e) → I a s → Vec s (.ty 1) 1 v (bytesV body) body.length → ∀ K Kp, (∀ s'', I e s'' → K (.bool true) s'') → (∀ s'', D s'' → K (.bool false) s'') → YieldI Tryz.prog W0 l [Val.i a, v] K Kp s) :
    ICalls Tryz.prog W0 147 #[.func (.yield l) #[] #[], ptr bx] st fun e st' => e = .returned (.tuple #[]) ∧ ((∃ a k, frameGetM b a = .error k ∧ I a st') ∨ D st') := by
  refine enter (args := [_, _]) Tryz.func147 rfl ?_
  simp [Tryz.f147, go_sem]
  refine ⟨fun E st' => E 0 = .func (.yield l) #[] #[] ∧ E 1 = ptr bx ∧ ∃ a : Int, E 3 = Val.i a ∧ 0 ≤ a ∧ a ≤ b.length ∧ I a st', fun E _ => match E 3 with | .int _ z => b.length - z.toNat | _ => 0, ⟨st, .rfl' _, by simp [go_sem], by simp [go_sem], 0, by simp [go_sem], by omega, by omega, h0⟩, ?_⟩
  rintro E st' ⟨e0, e1, a, e3, ha, ha2, hI⟩
  obtain ⟨⟨n, g, hc⟩, g0, hR⟩ := hcell _ _ hI
  simp [go_sem, e0, e1, e3, hc]
  refine (frameGet_spec (.ty 1) hR hlen).mono ?_
  rintro e s2 ⟨hN, hm⟩
  have hI2 := hst _ _ _ hN hI
  cases hfg : frameGetM b a with
  | error k =>
    rw [hfg] at hm
    simp only at hm
    subst hm
    have hk := frameGetM_err hfg
    simp [go_sem, hk]
    exact .inl ⟨a, ⟨k, hfg⟩, hI2⟩
  | ok p =>
    obtain ⟨body, q⟩ := p
    rw [hfg] at hm
    obtain ⟨v, rfl, hV⟩ := hm
    obtain ⟨n1, n2, n3⟩ := frameGetM_next hfg
    simp [go_sem, e0, e3]
    refine hy a _ body q v ha hfg hI2 hV _ _ ?_ ?_
    · intro s3 h3
      simp [go_sem, e0, e1]
      exact ⟨s3, .rfl' _, ⟨by omega, h3⟩, by omega⟩
    · intro s3 h3
      simp [go_sem]
      exact .inr h3
end
end Go.Proofs.YtadgciaclhjjkaaGreat
set_option linter.unusedVariables false
set_option linter.unusedSimpArgs false
namespace Go.Proofs.YtadgciaclhjjkaaGreat
open Go.RowKit (Below)
section
variable {P : Program} {W0 : World} {N : Nat} {Q : MPost} {E : Env} {M : List Nat} {st : Heap}
@[go_sem ↓] theorem IWR_seq (x y : Code) : IWR P W0 N (.seq x y) Q E M st = IWR P W0 N x (fun e E' M' st' => match e with | .normal => IWR P W0 N y Q E' M' st' | e => Q e E' M' st') E M st := (rfl)
@[go_sem ↓] theorem IWR_block (id : Nat) (c : Code) : IWR P W0 N (.block id c) Q E M st = IWR P W0 N c (fun e E' M' st' => match e with | .exit id' => if id' = id then Q .normal E' M' st' else Q (.exit id') E' M' st' | e => Q e E' M' st') E M st := (rfl)
@[go_sem ↓] theorem IWR_scope (c : Code) : IWR P W0 N (.scope c) Q E M st = IWR P W0 N c (fun e E' M' st' => match e with | .goto _ => False | e => Q e E' M' st') E M st := (rfl)
@[go_sem ↓] theorem IWR_region (id : Nat) (l : List Oper) : IWR P W0 N (.region id l.toArray false) Q E M st = IL P W0 l.toArray (fun e E' st' => Q e E' M st') (fun _ _ => False) l E st := (rfl)
@[go_sem ↓] theorem IWR_label (l : Nat) : IWR P W0 N (.label l) Q E M st = Q .normal E M st := (rfl)
@[go_sem ↓] theorem IWR_ret : IWR P W0 N .ret Q E M st = Q .ret E M st := (rfl)
@[go_sem ↓] theorem IWR_skip : IWR P W0 N .skip Q E M st = Q .normal E M st := (rfl)
@[go_sem ↓] theorem IWR_exit (id : Nat) : IWR P W0 N (.exit id) Q E M st = Q (.exit id) E M st := (rfl)
@[go_sem ↓] theorem IWR_range (g : Operand) (ps : Array Tmp) (a b : Code) : IWR P W0 N (.rangeFunc g ps a b) Q E M st = RangeR P W0 N g ps a b Q E M st := (rfl)
@[go_sem ↓] theorem IWR_cond (c : Operand) (x y : Code) : IWR P W0 N (.cond c x y) Q E M st = (match E.ev c with
    | .bool t => if t = true then IWR P W0 N x Q E M st else IWR P W0 N y Q E M st
    | _ => False) := (rfl)
@[go_sem ↓] theorem IWR_loop (c : Code) : IWR P W0 N (.loop c) Q E M st = (∃ (I : Env → List Nat → Heap → Prop) (μ : Env → List Nat → Heap → Nat), (∃ st0, Heap.Le st0 st ∧ I E M st0) ∧ ∀ E M st, I E M st → IWR P W0 N c (fun e E' M' st' => match e with | .normal => ∃ st0, Heap.Le st0 st' ∧ I E' M' st0 ∧ μ E' M' st0 < μ E M st | e => Q e E' M' st') E M st) := (rfl)
theorem IWR_draw (id : Nat) (l : Array Oper) : IWR P W0 N (.region id l true) Q E M st = IW P W0 (.region id l true) (fun e E' st' => Q e E' M st') (fun _ _ => False) E st := (rfl)
end
end Go.Proofs.YtadgciaclhjjkaaGreat
