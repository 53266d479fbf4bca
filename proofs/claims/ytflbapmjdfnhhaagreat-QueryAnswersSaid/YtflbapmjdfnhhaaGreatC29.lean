/- A range over a function: its rounds, the statement, a function that holds one. Plain definitions and theorems, over any program. -/
import Derived.Test.YtflbapmjdfnhhaaGreatC11
import Derived.RangeFuncRecord
import Derived.Test.YtflbapmjdfnhhaaGreatC27
import Derived.Test.YtflbapmjdfnhhaaGreatC28
import Derived.Test.YtflbapmjdfnhhaaGreatC21
import Derived.Test.YtflbapmjdfnhhaaGreatC14
set_option linter.unusedVariables false
set_option linter.unusedSimpArgs false
namespace Go.Proofs.YtflbapmjdfnhhaaGreat
open Go.RowKit (Below)
theorem Sim.put_other {W0 w : World} {st : Heap} (h : Sim W0 st w) {b : Nat} {o o' : Obj} (hb : st b = some (.other o)) (ho : ∀ c e f, o' ≠ .cells c e f) : Sim W0 (upd st b (.other o')) (w.putObj b o') := by
  obtain ⟨h0, h1, h2⟩ := h.objs _ _ hb
  exact h.setObj hb h0 (fun _ _ _ => trivial) (fun w' hw' => ⟨h0, hw', ho⟩)
theorem Sim.other {W0 w : World} {st : Heap} (h : Sim W0 st w) {b : Nat} {o : Obj} (hb : st b = some (.other o)) : w.heap[b]? = some o := (h.objs _ _ hb).2.1

/-! ### A round -/
def RoundQ (l : Nat) (R : Ending → Heap → Prop) : IPost
  | .normal, _, st => ∃ r : Loop, st l = some (.other (.loop r)) ∧ R (.returned (.bool true)) (upd st l (.other (.loop { r with state := .ready, pending := none })))
  | .ret, _, st => ∃ r : Loop, st l = some (.other (.loop r)) ∧ R (.returned (.bool false)) (upd st l (.other (.loop { r with state := .done, pending := some .ret })))
  | .exit id, _, st => ∃ r : Loop, st l = some (.other (.loop r)) ∧ R (.returned (.bool false)) (upd st l (.other (.loop { r with state := .done, pending := some (.exit id) })))
  | _, _, _ => False
theorem RoundI_of {P : Program} {W0 : World} {l f : Nat} {T : Array Value} {assign body : Code} {st : Heap} {R : Ending → Heap → Prop} (hm : P.follows .mixedOrders = true) (hf1 : Code.fit T.size (fun _ => true) assign = true) (hf2 : Code.fit T.size (fun _ => true) body = true) (hc1 : Code.calm assign = true) (hc2 : Code.calm body = true)
    (h : IW P W0 assign (fun e E1 st1 => e = .normal ∧ ∃ r1 : Loop, st1 l = some (.other (.loop r1)) ∧ r1.state = .ready ∧ IW P W0 body (RoundQ l R) (fun _ _ => False) E1 (upd st1 l (.other (.loop { r1 with state := .busy })))) (fun _ _ => False) (fun t => T.getD t undef) st) :
    RoundI P W0 l f T assign body st R := by
  intro w hs
  have h0 := IW_soundIn (P := P) (W0 := W0) (N := T.size) (ok := fun _ => true) (G := fun a => a.defers = []) (ro := some l) (n := 0) stays_nil hm assign hf1 (.inr hc1) (a := { tmps := T, defers := [] }) rfl rfl hs h
  refine roundIn_of_wpIn (F := Fence.wide) trivial (wpIn_mono h0 ?_)
  intro e a w1 hq
  cases e with
  | normal =>
    obtain ⟨h1, h2, st1, h3, -, r1, h4, h5, h6⟩ := hq
    refine ⟨_, run_beginRound (h3.other h4) h5, ?_⟩
    have hs2 := h3.put_other (o' := .loop { r1 with state := .busy }) h4 (by simp)
    have h7 := IW_soundIn (P := P) (W0 := W0) (N := T.size) (ok := fun _ => true) (G := fun a => a.defers = []) (ro := some l) (n := 0) stays_nil hm body hf2 (.inr hc2) h1 h2 hs2 h6
    refine wpIn_mono h7 ?_
    intro e a' w2 hq
    cases e with
    | normal =>
      obtain ⟨_, _, st2, k3, r, k4, k5⟩ := hq
      exact ⟨_, _, run_endRound none (k3.other k4), _, k3.put_other k4 (by simp), k5⟩
    | ret =>
      obtain ⟨_, _, st2, k3, r, k4, k5⟩ := hq
      exact ⟨_, _, run_endRound (some .ret) (k3.other k4), _, k3.put_other k4 (by simp), k5⟩
    | exit id =>
      obtain ⟨_, _, st2, k3, r, k4, k5⟩ := hq
      exact ⟨_, _, run_endRound (some (.exit id)) (k3.other k4), _, k3.put_other k4 (by simp), k5⟩
    | goto t => obtain ⟨_, _, _, _, k⟩ := hq; exact k.elim
    | panic ch => obtain ⟨_, _, _, k⟩ := hq; exact k.elim
    | outgrown => exact hq.elim
  | exit id => obtain ⟨_, _, _, _, k, _⟩ := hq; cases k
  | goto id => obtain ⟨_, _, _, _, k, _⟩ := hq; cases k
  | ret => obtain ⟨_, _, _, _, k, _⟩ := hq; cases k
  | panic ch => obtain ⟨_, _, _, k⟩ := hq; exact k.elim
  | outgrown => exact hq.elim

/-! ### Code that holds ranges over functions: the marks of the activation stand beside -/
abbrev MPost := Exit → Env → List Nat → Heap → Prop
def Code.fitR (N : Nat) : Code → Bool
  | .seq x y => Code.fitR N x && Code.fitR N y
  | .cond _ x y => Code.fitR N x && Code.fitR N y
  | .block _ c => Code.fitR N c
  | .loop c => Code.fitR N c
  | .scope c => Code.fitR N c
  | .rangeFunc _ ps assign body => Code.fit N (fun _ => true) assign && Code.fit N (fun _ => true) body && Code.calm assign && Code.calm body && ps.all (fun t => Nat.blt t N)
  | c => Code.fit N (fun _ => true) c
/-- What holds of a loop's record as long as it goes on. -/
def RecOK (N : Nat) (ps : Array Tmp) (assign body : Code) (T : Array Value) : Prop := T.size = N ∧ Code.fit N (fun _ => true) assign = true ∧ Code.fit N (fun _ => true) body = true ∧ Code.calm assign = true ∧ Code.calm body = true ∧ ∀ t ∈ ps, t < N
def RangeR (P : Program) (W0 : World) (N : Nat) (g : Operand) (ps : Array Tmp) (assign body : Code) (Q : MPost) (E : Env) (M : List Nat) (st : Heap) : Prop :=
  ∃ (f : FuncId) (lb : Array Value), E.ev g = .func (.func f) #[] lb ∧ callOK P f = true ∧ ∀ (D l : Nat) (T : Array Value) (fn : FuncId), st D = none → D ≠ l → st l = none → RecOK N ps assign body T → (∀ t, T.getD t undef = E t) →
    ICalls P W0 f (#[.func (.yield l) #[] #[]] ++ lb) (upd (upd st D (.other (.deferred (some [])))) l (.other (.loop { state := .ready, pending := none, fn := fn, tmps := T, params := ps, assign := assign, body := body, defers := D }))) fun e st' => match e with
      | .returned _ => ∃ r : Loop, st' l = some (.other (.loop r)) ∧ r.state ≠ .busy ∧ (match r.pending with
          | none => Q .normal E (D :: M) (upd st' l (.other (.loop { r with state := .exhausted })))
          | some .ret => Q .ret E (D :: M) (upd st' l (.other (.loop { r with state := .exhausted })))
          | some (.exit id) => Q (.exit id) E (D :: M) (upd st' l (.other (.loop { r with state := .exhausted })))
          | _ => False)
      | _ => False
def IWR (P : Program) (W0 : World) (N : Nat) : Code → MPost → Env → List Nat → Heap → Prop
  | .seq x y, Q, E, M, st => IWR P W0 N x (fun e E' M' st' => match e with | .normal => IWR P W0 N y Q E' M' st' | e => Q e E' M' st') E M st
  | .cond c x y, Q, E, M, st => match E.ev c with
    | .bool t => if t = true then IWR P W0 N x Q E M st else IWR P W0 N y Q E M st
    | _ => False
  | .block id c, Q, E, M, st => IWR P W0 N c (fun e E' M' st' => match e with | .exit id' => if id' = id then Q .normal E' M' st' else Q (.exit id') E' M' st' | e => Q e E' M' st') E M st
  | .loop c, Q, E, M, st => ∃ (I : Env → List Nat → Heap → Prop) (μ : Env → List Nat → Heap → Nat), (∃ st0, Heap.Le st0 st ∧ I E M st0) ∧ ∀ E M st, I E M st → IWR P W0 N c (fun e E' M' st' => match e with | .normal => ∃ st0, Heap.Le st0 st' ∧ I E' M' st0 ∧ μ E' M' st0 < μ E M st | e => Q e E' M' st') E M st
  | .scope c, Q, E, M, st => IWR P W0 N c (fun e E' M' st' => match e with | .goto _ => False | e => Q e E' M' st') E M st
  | .rangeFunc g ps assign body, Q, E, M, st => RangeR P W0 N g ps assign body Q E M st
  | c, Q, E, M, st => IW P W0 c (fun e E' st' => Q e E' M st') (fun _ _ => False) E st
def markD (D : Nat) : Deferred := { target := .collected D, args := #[] }
def LiftM (W0 : World) (N : Nat) (Q : MPost) : Exit → Act → World → Prop
  | .panic _, _, _ => False
  | .outgrown, _, _ => False
  | e, a, w => ∃ M, a.defers = M.map markD ∧ a.tmps.size = N ∧ ∃ st, Sim W0 st w ∧ Q e (envOf a) M st
theorem stays_list (L : List Deferred) : Stays (fun _ => true) (fun a => a.defers = L) := fun a d v h _ => by show (a.put d v).defers = L; rw [defers_put]; exact h
theorem Lift_M {W0 : World} {N : Nat} {Q : MPost} {M : List Nat} {e : Exit} {a : Act} {w : World} (h : Lift W0 N (fun a => a.defers = M.map markD) (fun e E' st' => Q e E' M st') (fun _ _ => False) e a w) : LiftM W0 N Q e a w := by
  cases e with
  | panic ch => obtain ⟨_, _, _, h⟩ := h; exact h.elim
  | outgrown => exact h
  | normal => obtain ⟨h1, h2, h3⟩ := h; exact ⟨M, h1, h2, h3⟩
  | ret => obtain ⟨h1, h2, h3⟩ := h; exact ⟨M, h1, h2, h3⟩
  | exit id => obtain ⟨h1, h2, h3⟩ := h; exact ⟨M, h1, h2, h3⟩
  | goto id => obtain ⟨h1, h2, h3⟩ := h; exact ⟨M, h1, h2, h3⟩
theorem run_enter {P : Program} {g : FuncId} (hok : callOK P g = true) (w : World) (args cap : Array Value) : (invoke (.fn (.func g) cap) args).run P w = .ok (.enter g (args ++ cap)) w := by
  unfold invoke callFunc
  unfold callOK at hok
  split at hok
  · rename_i fn hf
    simp only [Bool.and_eq_true, Bool.not_eq_true'] at hok
    have hb : fn.body.isNone = false := by
      cases hfb : fn.body with
      | none => rw [hfb] at hok; simp at hok
      | some c => rfl
    have n1 : fn.name ≠ "runtime.NumGoroutine" := by simpa using hok.1
    have n2 : fn.body ≠ none := by intro h; rw [h] at hb; cases hb
    simp [run_program, hf, n1, n2]
  · cases hok
theorem IWR_sound {P : Program} {W0 : World} {N : Nat} (hm : P.follows .mixedOrders = true) (c : Code) : Code.fitR N c = true → ∀ {Q : MPost} {M : List Nat} {a : Act} {w : World} {st : Heap}, a.defers = M.map markD → a.tmps.size = N → Sim W0 st w →
    IWR P W0 N c Q (envOf a) M st → c.wpIn Fence.wide 0 P (LiftM W0 N Q) a w := by
  have leaf : ∀ (c : Code), Code.fit N (fun _ => true) c = true → ∀ {Q : MPost} {M : List Nat} {a : Act} {w : World} {st : Heap}, a.defers = M.map markD → a.tmps.size = N → Sim W0 st w → IW P W0 c (fun e E' st' => Q e E' M st') (fun _ _ => False) (envOf a) st → c.wpIn Fence.wide 0 P (LiftM W0 N Q) a w :=
    fun c hf Q M a w st hd hN hs h => wpIn_mono (IW_soundIn (ro := none) (n := 0) (G := fun a => a.defers = M.map markD) (stays_list _) hm c hf (.inl rfl) hd hN hs h) fun e a w => Lift_M
  induction c with
  | skip => exact fun hf Q M a w st hd hN hs h => leaf _ hf hd hN hs h
  | region id ops draw => exact fun hf Q M a w st hd hN hs h => leaf _ hf hd hN hs h
  | exit id => exact fun hf Q M a w st hd hN hs h => leaf _ hf hd hN hs h
  | ret => exact fun hf Q M a w st hd hN hs h => leaf _ hf hd hN hs h
  | label l => exact fun hf Q M a w st hd hN hs h => leaf _ hf hd hN hs h
  | goto l => exact fun hf Q M a w st hd hN hs h => leaf _ hf hd hN hs h
  | refuse why => exact fun hf Q M a w st hd hN hs h => leaf _ hf hd hN hs h
  | seq x y ihx ihy =>
    intro hf Q M a w st hd hN hs h
    simp only [Code.fitR, Bool.and_eq_true] at hf
    refine wpIn_seq (wpIn_mono (ihx hf.1 hd hN hs h) ?_)
    intro e a' w' hq
    cases e with
    | normal => obtain ⟨M', h1, h2, st', h3, h4⟩ := hq; exact ihy hf.2 h1 h2 h3 h4
    | _ => exact hq
  | cond c x y ihx ihy =>
    intro hf Q M a w st hd hN hs h
    simp only [Code.fitR, Bool.and_eq_true] at hf
    unfold IWR at h
    split at h
    · rename_i t ht
      have he : a.eval c = .bool t := by rw [eval_env]; exact ht
      cases t with
      | true => exact wpIn_cond_true he (ihx hf.1 hd hN hs (by simpa using h))
      | false => exact wpIn_cond_false he (ihy hf.2 hd hN hs (by simpa using h))
    · exact h.elim
  | block id c ih =>
    intro hf Q M a w st hd hN hs h
    refine wpIn_block (wpIn_mono (ih hf hd hN hs h) ?_)
    intro e a' w' hq
    cases e with
    | exit id' =>
      obtain ⟨M', h1, h2, st', h3, h4⟩ := hq
      simp only [Exit.inBlock]
      simp only at h4
      split
      · rename_i he; rw [if_pos he] at h4; exact ⟨M', h1, h2, st', h3, h4⟩
      · rename_i he; rw [if_neg he] at h4; exact ⟨M', h1, h2, st', h3, h4⟩
    | _ => exact hq
  | loop c ih =>
    intro hf Q M a w st hd hN hs h
    obtain ⟨I, μ, ⟨st0, hle0, h0⟩, hr⟩ := h
    suffices hmain : ∀ j (M : List Nat) (a : Act) (w : World) (st : Heap), a.defers = M.map markD → a.tmps.size = N → Sim W0 st w → I (envOf a) M st → μ (envOf a) M st = j →
        ∀ (b : Frame) (k : List Item) (cs : List Frame), b.roundOf = Fence.wide.round → ∃ e a' w', LiftM W0 N Q e a' w' ∧ ArrivesIn (Machine.fenced P Fence.wide) P (lone (b.atR a (.code c :: .inLoop c :: k)) cs w) b k cs e a' w' by
      intro b k cs hro hb hr
      obtain ⟨e, a', w', hq, harr⟩ := hmain _ M a w st0 hd hN (hs.weaken hle0) h0 rfl b k cs hro
      exact ⟨e, a', w', hq, .of_steps (.one (fenced_calm hb hr rfl) stepR_loop) harr⟩
    intro j
    induction j using Nat.strongRecOn with
    | _ j ihn =>
      intro M a w st hd hN hs hI hn b k cs hro
      obtain ⟨e, a1, w1, hq, harr⟩ := ih hf hd hN hs (hr _ _ _ hI) b (.inLoop c :: k) cs hro trivial (room_wide _)
      cases e with
      | normal =>
        obtain ⟨M1, h1, h2, st1, h3, st0, hle, hI1, hlt⟩ := hq
        obtain ⟨e2, a2, w2, hq2, harr2⟩ := ihn _ (hn ▸ hlt) M1 a1 w1 st0 h1 h2 (h3.weaken hle) hI1 rfl b k cs hro
        exact ⟨e2, a2, w2, hq2, .of_steps (StepsIn.trans harr (.one (fenced_calm (F := Fence.wide) (n := 0) trivial (room_wide _) rfl) stepR_inLoop)) harr2⟩
      | exit id => exact ⟨.exit id, a1, w1, hq, .pass (x := .inLoop c) rfl (fun _ _ => .inl (by simp)) harr⟩
      | goto l => exact ⟨.goto l, a1, w1, hq, .pass (x := .inLoop c) rfl (fun _ _ => .inl (by simp)) harr⟩
      | ret => exact ⟨.ret, a1, w1, hq, .pass (x := .inLoop c) rfl (fun _ _ => .inl (by simp)) harr⟩
      | panic ch => exact hq.elim
      | outgrown => exact hq.elim
  | scope c ih =>
    intro hf Q M a w st hd hN hs h
    refine wpIn_scope_straight (wpIn_mono (ih hf hd hN hs h) ?_)
    intro e a' w' hq
    cases e with
    | goto l => obtain ⟨_, _, _, _, _, h4⟩ := hq; exact h4.elim
    | _ => exact hq
  | rangeFunc g ps assign body _ _ =>
    intro hf Q M a w st hd hN hs h
    simp only [Code.fitR, Bool.and_eq_true, Array.all_eq_true_iff_forall_mem] at hf
    obtain ⟨⟨⟨⟨f1, f2⟩, f3⟩, f4⟩, f5⟩ := hf
    obtain ⟨f, lb, he, hok, h⟩ := h
    refine wpIn_rangeFunc fun fn _ => ?_
    have hs1 := hs.alloc_other (.deferred (some [])) (by simp)
    have hs2 := hs1.alloc_other (.loop { state := .ready, pending := none, fn := fn, tmps := a.tmps, params := ps, assign := assign, body := body, defers := w.heap.size }) (by simp)
    have hsz : (w.alloc (.deferred (some []))).heap.size = w.heap.size + 1 := by simp
    rw [hsz] at hs2
    have hn1 : st (w.heap.size) = none := hs.fresh
    have hn2 : st (w.heap.size + 1) = none := by
      have := hs1.fresh
      rw [hsz] at this
      rw [upd_ne _ _ (by omega)] at this
      exact this
    have hev : a.eval g = .func (.func f) #[] lb := by rw [eval_env]; exact he
    have hcall := h w.heap.size (w.heap.size + 1) a.tmps fn hn1 (by omega) hn2 ⟨hN, f1, f2, f3, f4, fun t ht => by have := f5 t ht; simpa using this⟩ (fun t => rfl) _ hs2
    have hent := run_enterLoop_outer (P := P) (w := w) fn a.tmps ps assign body
    generalize (w.alloc (.deferred (some []))).alloc (.loop { state := .ready, pending := none, fn := fn, tmps := a.tmps, params := ps, assign := assign, body := body, defers := w.heap.size }) = w1 at *
    have hres : (resolve a.eval (rangeCall g (w.heap.size + 1)) 0).run P w1 = .ok { target := .fn (.func f) lb, args := #[.func (.yield (w.heap.size + 1)) #[] #[]] } w1 := by
      unfold resolve
      have hm1 : (#[Operand.const (.func (.yield (w.heap.size + 1)) #[] #[])] : Array Operand).map a.eval = #[.func (.yield (w.heap.size + 1)) #[] #[]] := by simp; rfl
      simp only [hm1, hev, Deferred.ofValue]
      rfl
    refine ⟨w.heap.size + 1, [markD w.heap.size], w1, _, w1, f, #[.func (.yield (w.heap.size + 1)) #[] #[]] ++ lb, w1, hent, hres, fun _ _ => trivial, run_enter hok w1 #[.func (.yield (w.heap.size + 1)) #[] #[]] lb, fun h => by simp [Fence.wide] at h, ?_⟩
    refine WF_calls (ro := none) (Calls.mono hcall ?_)
    · rintro e w3 ⟨st3, hs3, hR⟩
      cases e with
      | panicked ch => exact hR.elim
      | outgrown => exact hR.elim
      | returned v =>
        obtain ⟨r, h1, h2, h3⟩ := hR
        refine ⟨r.pending, _, run_endLoop (hs3.other h1) h2, ?_⟩
        have hs4 := hs3.put_other (o' := .loop { r with state := .exhausted }) h1 (by simp)
        have hde : ([markD w.heap.size] : List Deferred) ++ a.defers = (w.heap.size :: M).map markD := by rw [hd]; rfl
        cases hp : r.pending with
        | none =>
          rw [hp] at h3 hs4
          exact ⟨_, hde, hN, _, hs4, h3⟩
        | some c =>
          rw [hp] at h3 hs4
          cases c with
          | ret => exact wpIn_ret ⟨_, hde, hN, _, hs4, h3⟩
          | exit id => exact wpIn_exit ⟨_, hde, hN, _, hs4, h3⟩
          | _ => exact h3.elim
/-- The blocks of the marks, shut. -/
def shutM : List Nat → Heap → Heap
  | [], st => st
  | D :: M, st => shutM M (upd st D (.other (.deferred none)))
def RetM (P : Program) (rs : Array ResultVar) (R : Ending → Heap → Prop) : MPost
  | .normal, E, M, st => M.Nodup ∧ (∀ D ∈ M, st D = some (.other (.deferred (some [])))) ∧ RetI P rs R .ret E (shutM M st)
  | .ret, E, M, st => M.Nodup ∧ (∀ D ∈ M, st D = some (.other (.deferred (some [])))) ∧ RetI P rs R .ret E (shutM M st)
  | _, _, _, _ => False
theorem leaves_marks {P : Program} {W0 : World} {fn : Func} {tmps : Array Value} {R : Ending → Heap → Prop} : ∀ (M : List Nat) {w : World} {st : Heap}, Sim W0 st w → M.Nodup → (∀ D ∈ M, st D = some (.other (.deferred (some [])))) → RetI P fn.results R .ret (fun t => tmps.getD t undef) (shutM M st) →
    LeavesInM Fence.wide 0 P fn tmps (fun e w' => ∃ st', Sim W0 st' w' ∧ R e st') (M.map markD) .returning w
  | [], w, st, hs, _, _, h => by
    obtain ⟨v, h5, h6⟩ := res_sound hs h
    exact ⟨v, h5, st, hs, h6⟩
  | D :: M, w, st, hs, hnd, hD, h => by
    have hd := hD D (by simp)
    refine ⟨by simp, .inl ⟨D, _, rfl, run_takeDeferred (hs.other hd), ?_⟩⟩
    refine leaves_marks M (hs.put_other hd (by simp)) (List.nodup_cons.1 hnd).2 (fun k hk => ?_) h
    have : k ≠ D := by rintro rfl; exact (List.nodup_cons.1 hnd).1 hk
    rw [upd_ne _ _ this]
    exact hD k (by simp [hk])
theorem ICalls_range {P : Program} {W0 : World} {f : FuncId} {fn : Func} {c : Code} {args : List Value} {st : Heap} {R : Ending → Heap → Prop} (hm : P.follows .mixedOrders = true)
    (hf : P.funcs[f]? = some fn) (hb : fn.body = some c) (hN : args.length ≤ fn.ntmps) (hfit : Code.fitR fn.ntmps c = true)
    (h : IWR P W0 fn.ntmps c (RetM P fn.results R) (Env.args args) [] st) : ICalls P W0 f args.toArray st R := by
  intro w hs
  refine (callsIn_wide (n := 0)).1 (callsIn_of_wp_marks hf hb trivial ?_)
  have henv : envOf { tmps := args.toArray ++ Array.replicate (fn.ntmps - args.toArray.size) undef, defers := [] } = Env.args args := by
    funext t
    simp only [envOf, Env.args]
    rw [Array.getD_eq_getD_getElem?, List.getD_eq_getElem?_getD, Array.getElem?_append]
    split
    · simp
    · rename_i ht
      rw [List.getElem?_eq_none (by simpa using ht)]
      simp only [Array.getElem?_replicate]
      split <;> rfl
  refine wpIn_mono (IWR_sound (N := fn.ntmps) hm c hfit (M := []) rfl (by simp; omega) hs (henv ▸ h)) ?_
  intro e a w' hq
  cases e with
  | normal =>
    obtain ⟨M, h1, h2, st', h3, h4, h5, h6⟩ := hq
    show LeavesInM _ _ _ _ _ _ a.defers _ _
    rw [h1]
    exact leaves_marks M h3 h4 h5 h6
  | ret =>
    obtain ⟨M, h1, h2, st', h3, h4, h5, h6⟩ := hq
    show LeavesInM _ _ _ _ _ _ a.defers _ _
    rw [h1]
    exact leaves_marks M h3 h4 h5 h6
  | panic ch => exact hq.elim
  | outgrown => exact hq.elim
  | exit id => obtain ⟨_, _, _, _, _, h4⟩ := hq; exact h4.elim
  | goto l => obtain ⟨_, _, _, _, _, h4⟩ := hq; exact h4.elim
end Go.Proofs.YtflbapmjdfnhhaaGreat
set_option linter.unusedVariables false
set_option linter.unusedSimpArgs false
set_option maxRecDepth 100000
set_option maxHeartbeats 400000
namespace Go.Proofs.YtflbapmjdfnhhaaGreat
open Go.RowKit (Below)
section
variable {W0 : World} {st : Heap}
end
end Go.Proofs.YtflbapmjdfnhhaaGreat
set_option linter.unusedVariables false
set_option linter.unusedSimpArgs false
set_option maxRecDepth 100000
set_option maxHeartbeats 800000
namespace Go.Proofs.YtflbapmjdfnhhaaGreat
open Go.RowKit (Below)
/-- What was known at first is as it is, but for one block. -/
def Same1 (st0 : Heap) (r : Nat) (st st' : Heap) : Prop := ∀ k, k ≠ r → st0 k ≠ none → st' k = st k
/-- Nothing is lost. -/
def Dom (st0 st : Heap) : Prop := ∀ k, st k = none → st0 k = none
theorem Dom.refl (st : Heap) : Dom st st := fun _ h => h
theorem Dom.new {st0 st st' : Heap} (h : Dom st0 st) (hk : New st st') : Dom st0 st' := fun k hk' => h k (hk.none hk')
theorem Dom.upd {st0 st : Heap} {b : Nat} {o : HObj} (h : Dom st0 st) : Dom st0 (upd st b o) := fun k hk => by
  by_cases hkb : k = b
  · subst hkb; rw [upd_same] at hk; cases hk
  · rw [upd_ne _ _ hkb] at hk; exact h k hk
theorem Dom.trans {a b c : Heap} (h : Dom a b) (h' : Dom b c) : Dom a c := fun k hk => h k (h' k hk)
theorem New.dom {st st' : Heap} (h : New st st') : Dom st st' := fun k hk => h.none hk
theorem Same1.refl {st0 st : Heap} {r : Nat} : Same1 st0 r st st := fun _ _ _ => rfl
theorem Same1.trans {st0 a b c : Heap} {r : Nat} (h : Same1 st0 r a b) (h' : Same1 st0 r b c) : Same1 st0 r a c := fun k h1 h2 => (h' k h1 h2).trans (h k h1 h2)
theorem Same1.new {st0 st st' : Heap} {r : Nat} (hd : Dom st0 st) (hk : New st st') : Same1 st0 r st st' := fun k _ h2 => by
  cases h : st k with
  | none => exact absurd (hd k h) h2
  | some o => exact hk k o h
theorem Same1.put {st0 st : Heap} {r : Nat} {o : HObj} : Same1 st0 r st (upd st r o) := fun k h1 _ => upd_ne _ _ h1
theorem Same1.off {st0 st : Heap} {r b : Nat} {o : HObj} (hb : st0 b = none) : Same1 st0 r st (upd st b o) := fun k _ h2 => upd_ne _ _ (by rintro rfl; exact h2 hb)
/-- Something is appended to a row that was not there at first. -/
theorem AppI_same {P : Program} {t e size bytes : Nat} {z : List Value} {K : Value → Heap → Prop} {st0 st : Heap} {g : Tg} {v x : Value} {xs ys : List Value} {len m : Nat} (hi : slInfo P t = some (e, size, bytes, z)) (hv : Vec st g size v xs len) (hf : Fresh st0 v) (hd : Dom st0 st) (hs : srcCells size st x = some (m, ys)) (h1 : ∀ y ∈ ys, y.oneCell' = true)
    (hmax : (len + m) * bytes ≤ 140737488355328) (hk : ∀ base cap st', Vec st' g size (.slice base (len + m) cap) (xs ++ ys) (len + m) → Fresh st0 (.slice base (len + m) cap) → (∀ k, st0 k ≠ none → st' k = st k) → Dom st st' → Ext g st st' → K (.slice base (len + m) cap) st') : AppI (some (e, size, bytes, z)) P t v x K st := by
  have hvs := hv.src
  have hv0 := hv
  obtain ⟨hl, base, cap, rfl, hc, h⟩ := hv
  have hyl : ys.length = m * size := src_length hs
  unfold AppI appX
  refine optK_iff.2 ⟨_, hi, ?_⟩
  simp only
  refine optK_iff.2 ⟨_, hs, ?_⟩
  simp only
  by_cases h0 : m = 0 ∧ len ≤ cap
  · rw [if_pos h0]
    obtain ⟨rfl, _⟩ := h0
    have : ys = [] := List.eq_nil_of_length_eq_zero (by simpa using hyl)
    subst this
    exact hk _ _ _ (by simpa using hv0) (by simpa using hf) (fun _ _ => rfl) (Dom.refl _) .rfl'
  · rw [if_neg h0]
    refine ⟨hmax, fun hle => ?_, fun hlt => ?_⟩
    · rcases h with ⟨b, n, rfl, hb, hn⟩ | ⟨rfl, h0'⟩
      · simp only
        refine ⟨by trivial, xs, n, g, hb, by simp only [Nat.zero_add]; omega, by simp only [Nat.zero_add]; omega, h1, hk _ _ _ ⟨by simp [hl, hyl, Nat.add_mul], _, cap, rfl, hle, .inl ⟨b, n, rfl, upd_same _ _ _, hn⟩⟩ (Fresh.some hf.at) ?_ (Dom.refl _).upd (.old hb)⟩
        exact fun k h2 => upd_ne _ _ (by rintro rfl; exact h2 hf.at)
      · exact absurd ⟨by omega, by omega⟩ h0
    · refine optK_iff.2 ⟨_, hvs, fun b c hb hcc => ⟨g, ?_⟩⟩
      exact hk _ _ _ ⟨by simp [hl, hyl, Nat.add_mul], _, c, rfl, hcc, .inl ⟨b, c * size, rfl, upd_same _ _ _, Nat.le_refl _⟩⟩ (Fresh.some (hd b hb)) (fun k h2 => upd_ne _ _ (by rintro rfl; exact h2 (hd k hb))) (Dom.refl _).upd (.new hb)
theorem Vec.off {st st' : Heap} {g : Tg} {size len : Nat} {v : Value} {xs : List Value} (h : Vec st g size v xs len) (hk : ∀ b off n c, v = .slice (some ⟨b, off, none⟩) n c → st' b = st b) : Vec st' g size v xs len := by
  obtain ⟨w1, wb, wc, w2, w3, w4⟩ := h
  refine ⟨w1, wb, wc, w2, w3, ?_⟩
  rcases w4 with ⟨b, n, rfl, hb, hn⟩ | h0
  · exact .inl ⟨b, n, rfl, by rw [hk _ _ _ _ w2]; exact hb, hn⟩
  · exact .inr h0
section
variable {W0 : World} {st : Heap}
/-- What the ear holds: a row that was not there at first. -/
def Ear (st0 : Heap) (lc : Nat) (xs : List Value) (len : Nat) (st : Heap) : Prop := ∃ v g, st lc = some (.cells true [v] 1 g) ∧ Vec st (.ty 1) 4 v xs len ∧ Fresh st0 v
theorem told1_gen {st0 : Heap} {lc mc len : Nat} {x0 x1 x2 x3 : Value} {most : Int} {g' : Tg} {xs : List Value} (hne : mc ≠ lc) (ho : x0.oneCell' = true ∧ x1.oneCell' = true ∧ x2.oneCell' = true ∧ x3.oneCell' = true) (hE : Ear st0 lc xs len st) (hlc : st0 lc ≠ none) (hmc : st0 mc ≠ none) (hm : st mc = some (.cells true [Val.i most] 1 g')) (hd : Dom st0 st) (hlen : len < 2 ^ 30) :
    ICalls Tryz.prog W0 30 #[.agg #[x0, x1, x2, x3], ptr lc, ptr mc] st fun e st' => e = .returned (.bool (decide ((len : Int) + 1 < most))) ∧ Same1 st0 lc st st' ∧ Dom st st' ∧ Ear st0 lc (xs ++ [x0, x1, x2, x3]) (len + 1) st' := by
  obtain ⟨v, g, hl, hV, hF⟩ := hE
  refine enter (args := [_, _, _]) Tryz.func30 rfl ?_
  simp [Tryz.f30, go_sem]
  unfold NewP
  intro a ha
  refine ⟨.ty 1, ?_⟩
  have h1 := (New.refl st).add (b := a) (o := .cells true [x0, x1, x2, x3] 4 (.ty 1)) ha
  have ga := upd_same st a (.cells true [x0, x1, x2, x3] 4 (.ty 1))
  have hl1 := h1 _ _ hl
  have hm1 := h1 _ _ hm
  simp [go_sem, hl1]
  generalize upd st a (.cells true [x0, x1, x2, x3] 4 (.ty 1)) = st1 at *
  unfold NewS
  intro nb hnb
  refine ⟨.ty 1, ?_⟩
  have h2 := (New.refl st1).add (b := nb) (o := .cells true [x0, x1, x2, x3] 4 (.ty 1)) hnb
  simp [go_sem]
  have hk2 := h1.trans h2
  have hd2 := hd.new hk2
  obtain ⟨hxl, -⟩ := id hV
  refine AppI_same (st0 := st0) (m := 1) (ys := [x0, x1, x2, x3]) si39 (hV.new' hk2) hF hd2 ?_ (by simpa using ho) (by omega) ?_
  · simp [srcCells, lkN_mk, upd_same, cellsOf]
  intro base cap st3 hV3 hF3 hs3 hd3 hx3
  have hl3 : st3 lc = some (.cells true [v] 1 g) := (hs3 lc hlc).trans (h2 _ _ hl1)
  have hm3 : st3 mc = some (.cells true [Val.i most] 1 g') := (hs3 mc hmc).trans (h2 _ _ hm1)
  have hV4 : Vec (upd st3 lc (.cells true [.slice base (len + 1) cap] 1 g)) (.ty 1) 4 (.slice base (len + 1) cap) (xs ++ [x0, x1, x2, x3]) (len + 1) := hV3.off fun b off n c he => upd_ne _ _ (by rintro rfl; exact hlc (hF3 _ _ _ _ he))
  have hm4 : upd st3 lc (.cells true [.slice base (len + 1) cap] 1 g) mc = some (.cells true [Val.i most] 1 g') := by rw [upd_ne _ _ hne]; exact hm3
  have hl4 := upd_same st3 lc (.cells true [.slice base (len + 1) cap] 1 g)
  have hS : Same1 st0 lc st (upd st3 lc (.cells true [.slice base (len + 1) cap] 1 g)) := ((Same1.new hd hk2).trans fun k _ h => hs3 k h).trans Same1.put
  have hD : Dom st (upd st3 lc (.cells true [.slice base (len + 1) cap] 1 g)) := (hk2.dom.trans hd3).upd
  simp [go_sem, hl3]
  generalize upd st3 lc (.cells true [.slice base (len + 1) cap] 1 g) = st4 at *
  simp [go_sem, hl4, hm4]
  exact ⟨hS, hD, _, _, hl4, hV4, hF3⟩
/-- How many windows there are. -/
def windowsN (start step n : Int) : Nat := if step < 1 ∨ n < 1 ∨ start < 0 ∨ 1099511627776 < start ∨ (1099511627776 - start) / step < n then 0 else n.toNat
theorem windowsN_le {start step n : Int} (h : windowsN start step n ≠ 0) : 1 ≤ step ∧ 1 ≤ n ∧ 0 ≤ start ∧ start ≤ 1099511627776 ∧ windowsN start step n = n.toNat ∧ ∀ i : Nat, i < n.toNat → start + i * step + step ≤ 1099511627776 := by
  unfold windowsN at h ⊢
  split at h
  · exact absurd rfl h
  · rename_i hc
    rw [if_neg hc]
    refine ⟨by omega, by omega, by omega, by omega, rfl, fun i hi => ?_⟩
    have h1 : n ≤ (1099511627776 - start) / step := by omega
    have h2 : n * step ≤ 1099511627776 - start := by
      have := Int.mul_le_mul_of_nonneg_right h1 (by omega : 0 ≤ step)
      have h3 := Int.ediv_mul_le (1099511627776 - start) (by omega : step ≠ 0)
      omega
    have h3 : ((i : Int) + 1) * step ≤ n * step := Int.mul_le_mul_of_nonneg_right (by omega) (by omega)
    have h4 : ((i : Int) + 1) * step = i * step + step := by rw [Int.add_mul, Int.one_mul]
    omega
/-- The windows, one by one, are told to a round, till it wants no more. -/
theorem windows1_gen {l a b c : Nat} {start step n : Int} {I : Nat → Heap → Prop} {D : Heap → Prop} (hbn : -2 ^ 63 ≤ n ∧ n < 2 ^ 63) (hbs : -2 ^ 63 ≤ start ∧ start < 2 ^ 63) (hcell : ∀ k st', I k st' → (∃ g, st' a = some (.cells true [Val.i start] 1 g)) ∧ (∃ g, st' b = some (.cells true [Val.i step] 1 g)) ∧ (∃ g, st' c = some (.cells true [Val.i n] 1 g)))
    (h0 : I 0 st) (hy : ∀ k st', k < windowsN start step n → I k st' → ∀ K Kp, (∀ st'', I (k + 1) st'' → K (.bool true) st'') → (∀ st'', D st'' → K (.bool false) st'') → YieldI Tryz.prog W0 l [Val.i (start + k * step), Val.i (start + k * step + step)] K Kp st') :
    ICalls Tryz.prog W0 49 #[.func (.yield l) #[] #[], ptr b, ptr c, ptr a] st fun e st' => e = .returned (.tuple #[]) ∧ (I (windowsN start step n) st' ∨ D st') := by
  obtain ⟨⟨ga, ha⟩, ⟨gb, hb⟩, ⟨gc, hc⟩⟩ := hcell _ _ h0
  refine enter (args := [_, _, _, _]) Tryz.func49 rfl ?_
  simp [Tryz.f49, go_sem]
  refine draw [0, 1, 2, 3, 4, 5, 6, 7, 8, 9, 10, 11, 12, 13, 14, 15, 16, 17, 18, 19, 20, 21] (by kernel_rfl) ?_
  obtain ⟨m, hm⟩ : ∃ m, windowsN start step n = m := ⟨_, rfl⟩
  rw [hm] at hy ⊢
  have none : step < 1 ∨ n < 1 ∨ start < 0 ∨ 1099511627776 < start ∨ (1099511627776 - start) / step < n → m = 0 := fun h => by rw [← hm]; unfold windowsN; rw [if_pos h]
  by_cases c1 : step < 1
  · have := none (.inl c1)
    subst this
    simp [go_sem, ha, hb, hc, c1]
    exact .inl h0
  by_cases c2 : n < 1
  · have := none (.inr (.inl c2))
    subst this
    simp [go_sem, ha, hb, hc, c1, c2]
    exact .inl h0
  by_cases c3 : start < 0
  · have := none (.inr (.inr (.inl c3)))
    subst this
    simp [go_sem, ha, hb, hc, c1, c2, c3]
    exact .inl h0
  by_cases c4 : 1099511627776 < start
  · have := none (.inr (.inr (.inr (.inl c4))))
    subst this
    simp [go_sem, ha, hb, hc, c1, c2, c3, c4]
    exact .inl h0
  have hw : IntKind.i64.wrap (1099511627776 - start) = 1099511627776 - start := wrap_id (by omega) (by omega)
  have hq : (1099511627776 - start).tdiv step = (1099511627776 - start) / step := Int.tdiv_eq_ediv_of_nonneg (by omega)
  have hq0 : 0 ≤ (1099511627776 - start) / step := Int.ediv_nonneg (by omega) (by omega)
  have hq1 : (1099511627776 - start) / step ≤ 1099511627776 - start := Int.ediv_le_self _ (by omega)
  have hw2 : IntKind.i64.wrap ((1099511627776 - start) / step) = (1099511627776 - start) / step := wrap_id (by omega) (by omega)
  have hs0 : step ≠ 0 := by omega
  by_cases c5 : (1099511627776 - start) / step < n
  · have := none (.inr (.inr (.inr (.inr c5))))
    subst this
    simp [go_sem, ha, hb, hc, c1, c2, c3, c4, hw, hs0, hq, hw2, c5]
    exact .inl h0
  have hmn : m = n.toNat := by rw [← hm]; unfold windowsN; rw [if_neg (by omega)]
  have hm0 : windowsN start step n ≠ 0 := by omega
  obtain ⟨_, _, _, _, _, hle⟩ := windowsN_le hm0
  simp [go_sem, ha, hb, hc, c1, c2, c3, c4, hw, hs0, hq, hw2, c5]
  refine ⟨fun E st' => E 0 = .func (.yield l) #[] #[] ∧ E 1 = ptr b ∧ E 3 = ptr a ∧ E 29 = Val.i n ∧ ∃ k : Nat, E 30 = Val.i k ∧ k ≤ m ∧ I k st', fun E _ => match E 30 with | .int _ z => m - z.toNat | _ => 0, ⟨st, .rfl' _, by simp [go_sem], by simp [go_sem], by simp [go_sem], by simp [go_sem], 0, by simp [go_sem], by omega, h0⟩, ?_⟩
  rintro E st' ⟨e0, e1, e3, e29, k, e30, hk, hI⟩
  by_cases hlt : k < m
  · obtain ⟨⟨ga', ha'⟩, ⟨gb', hb'⟩, ⟨gc', hc'⟩⟩ := hcell _ _ hI
    have q1 : ((k : Int) < n) = True := eq_true (by omega)
    have hle' := hle k (by omega)
    have hks : 0 ≤ (k : Int) * step := Int.mul_nonneg (by omega) (by omega)
    have w1 : IntKind.i64.wrap ((k : Int) * step) = k * step := wrap_id (by omega) (by omega)
    have w2 : IntKind.i64.wrap (start + (k : Int) * step) = start + k * step := wrap_id (by omega) (by omega)
    have w3 : IntKind.i64.wrap (start + (k : Int) * step + step) = start + k * step + step := wrap_id (by omega) (by omega)
    have w4 : IntKind.i64.wrap ((k : Int) + 1) = (k : Int) + 1 := wrap_id (by omega) (by omega)
    simp [go_sem, e0, e1, e3, e29, e30, q1, ha', hb', w1, w2, w3]
    refine hy k _ hlt hI _ _ ?_ ?_
    · intro st2 h2
      simp [go_sem, e0, e1, e3, e29, e30, w4]
      exact ⟨st2, .rfl' _, ⟨k + 1, by simp, by omega, h2⟩, by omega⟩
    · intro st2 h2
      simp [go_sem]
      exact .inr h2
  · have hkm : k = m := by omega
    subst hkm
    have q1 : ((k : Int) < n) = False := eq_false (by omega)
    simp [go_sem, e0, e1, e3, e29, e30, q1]
    exact .inl hI
end
end Go.Proofs.YtflbapmjdfnhhaaGreat
