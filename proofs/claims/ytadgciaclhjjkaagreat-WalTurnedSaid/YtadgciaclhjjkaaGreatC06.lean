/- Weakest conditions of operations and of code over an abstract heap; that they are sound for the model's own runs. Plain definitions and theorems, over any program. -/
import Derived.Test.YtadgciaclhjjkaaGreatC05
set_option linter.unusedVariables false
set_option linter.unusedSimpArgs false
namespace Go.Proofs.YtadgciaclhjjkaaGreat
open Go.RowKit (Below)

def envOf (a : Act) : Env := fun t => a.tmps.getD t undef
theorem eval_env (a : Act) : a.eval = (envOf a).ev := by funext x; cases x <;> rfl
theorem envOf_put (a : Act) (d : Option Nat) (v : Value) (h : ∀ k, d = some k → k < a.tmps.size) : envOf (a.put d v) = (envOf a).put d v := by
  cases d with
  | none => rfl
  | some d =>
    have hd := h d rfl
    funext t
    simp only [envOf, Act.put, Env.put, Env.set]
    by_cases ht : t = d
    · subst ht; simp [hd]
    · simp [ht, Array.getElem?_setIfInBounds_ne (Ne.symm ht)]
theorem size_put (a : Act) (d : Option Nat) (v : Value) : (a.put d v).tmps.size = a.tmps.size := by cases d <;> simp [Act.put]
theorem defers_put (a : Act) (d : Option Nat) (v : Value) : (a.put d v).defers = a.defers := by cases d <;> rfl

theorem NextI.mono {P : Program} {W0 : World} {K K' : Value → Heap → Prop} {Kp Kp' : List PanicEntry → Heap → Prop} (hk : ∀ v st, K v st → K' v st) (hp : ∀ v st, Kp v st → Kp' v st) (n : Next) (st : Heap) (h : NextI P W0 K Kp n st) : NextI P W0 K' Kp' n st := by
  cases n with
  | value v => exact hk _ _ h
  | skip => exact hk _ _ h
  | enter f args => exact ICalls.mono h fun e st he => by cases e <;> first | exact hk _ _ he | exact hp _ _ he | exact he
  | round l f tmps assign body => exact RoundI.mono h fun e st he => by cases e <;> first | exact hk _ _ he | exact hp _ _ he | exact he
  | _ => exact h
theorem opW_mono {P : Program} {W0 : World} {o : Oper} {E : Env} {K K' : Value → Heap → Prop} {Kp Kp' : List PanicEntry → Heap → Prop} {st : Heap} (hk : ∀ v st, K v st → K' v st) (hp : ∀ v st, Kp v st → Kp' v st) (h : opW P W0 o E K Kp st) : opW P W0 o E K' Kp' st :=
  wpS_mono _ (fun n st => NextI.mono hk hp n st) (fun v st => hp _ st) h

theorem wanted_eq (ops : Array Oper) (o : Oper) (a : Act) : Region.wanted o (yielded ops a.tmps) = wantedE ops o (envOf a) := by
  unfold Region.wanted wantedE
  cases hg : o.guard with
  | none => rfl
  | some p =>
    obtain ⟨j, want⟩ := p
    simp only [yielded, envOf]
    cases hd : (ops[j]?).bind (·.dst) with
    | none => simp
    | some d =>
      simp only [Option.bind_some]
      rw [show a.tmps.getD d undef = (a.tmps[d]?).getD undef from by simp [Array.getD_eq_getD_getElem?]]
      cases ht : a.tmps[d]? with
      | none => simp [undef]
      | some v => cases v <;> simp <;> rfl

def ThenI (K : Env → Heap → Prop) (Q : IPost) : IPost
  | .normal, E, st => K E st
  | e, E, st => Q e E st
def BlockI (id : Nat) (Q : IPost) : IPost
  | .exit id', E, st => if id' = id then Q .normal E st else Q (.exit id') E st
  | e, E, st => Q e E st
def NoGotoI (Q : IPost) : IPost
  | .goto _, _, _ => False
  | e, E, st => Q e E st
def LoopI (body : IPost → Env → Heap → Prop) (Q : IPost) (E : Env) (st : Heap) : Prop :=
  ∃ (I : Env → Heap → Prop) (μ : Env → Heap → Nat), (∃ st0, Heap.Le st0 st ∧ I E st0) ∧ ∀ E st, I E st → body (ThenI (fun E' st' => ∃ st0, Heap.Le st0 st' ∧ I E' st0 ∧ μ E' st0 < μ E st) Q) E st

def IW (P : Program) (W0 : World) : Code → IPost → PPost → Env → Heap → Prop
  | .skip, Q, _, E, st => Q .normal E st
  | .region _ ops true, Q, Kp, E, st => IAny P W0 ops Q Kp ops.size (Array.replicate ops.size false) E st
  | .region _ ops false, Q, Kp, E, st => IL P W0 ops Q Kp ops.toList E st
  | .seq x y, Q, Kp, E, st => IW P W0 x (ThenI (IW P W0 y Q Kp) Q) Kp E st
  | .cond c x y, Q, Kp, E, st => match E.ev c with
    | .bool t => if t = true then IW P W0 x Q Kp E st else IW P W0 y Q Kp E st
    | _ => False
  | .block id c, Q, Kp, E, st => IW P W0 c (BlockI id Q) Kp E st
  | .loop c, Q, Kp, E, st => LoopI (fun Q' => IW P W0 c Q' Kp) Q E st
  | .exit id, Q, _, E, st => Q (.exit id) E st
  | .ret, Q, _, E, st => Q .ret E st
  | .label _, Q, _, E, st => Q .normal E st
  | .goto l, Q, _, E, st => Q (.goto l) E st
  | .scope c, Q, Kp, E, st => IW P W0 c (NoGotoI Q) Kp E st
  | _, _, _, _, _ => False

/-! ### Soundness -/
def opsFit (N : Nat) (ok : Nat → Bool) (ops : Array Oper) : Bool := ops.all fun o => match o.dst with | some d => d < N && ok d | none => true
def Code.fit (N : Nat) (ok : Nat → Bool) : Code → Bool
  | .region _ ops _ => opsFit N ok ops
  | .seq x y => Code.fit N ok x && Code.fit N ok y
  | .cond _ x y => Code.fit N ok x && Code.fit N ok y
  | .block _ c => Code.fit N ok c
  | .loop c => Code.fit N ok c
  | .scope c => Code.fit N ok c
  | _ => true
/-- What stays true of a frame, whatever slot is written that may be. -/
def Stays (ok : Nat → Bool) (G : Act → Prop) : Prop := ∀ (a : Act) (d : Option Nat) (v : Value), G a → (∀ k, d = some k → ok k = true) → G (a.put d v)

def Lift (W0 : World) (N : Nat) (G : Act → Prop) (Q : IPost) (Kp : PPost) : Exit → Act → World → Prop
  | .panic ch, a, w => G a ∧ ∃ st, Sim W0 st w ∧ Kp ch st
  | .outgrown, _, _ => False
  | e, a, w => G a ∧ a.tmps.size = N ∧ ∃ st, Sim W0 st w ∧ Q e (envOf a) st

def LiftK (W0 : World) (N : Nat) (G : Act → Prop) (K : Env → Heap → Prop) (a : Act) (w : World) : Prop := G a ∧ a.tmps.size = N ∧ ∃ st, Sim W0 st w ∧ K (envOf a) st

/-- The widest fence: of a plain frame, or of a round's. -/
def WF (ro : Option Nat) : Fence := { Fence.wide with round := ro }
theorem WF_fn (ro : Option Nat) (f : FuncId) : (WF ro).fn f := trivial
theorem WF_room (ro : Option Nat) (n : Nat) : (WF ro).room n := fun d h => by cases h
theorem WF_depth (ro : Option Nat) (n : Nat) : (WF ro).depth.isSome = true → 1 ≤ n := fun h => by cases h
theorem WF_calls {ro : Option Nat} {n : Nat} {P : Program} {f : FuncId} {args : Array Value} {w : World} {R : Ending → World → Prop} (h : Calls P f args w R) : CallsIn (WF ro) n P f args w R := (callsIn_wide (n := n)).2 h
theorem WF_round {ro : Option Nat} {n : Nat} {P : Program} {l : Nat} {f : FuncId} {tmps : Array Value} {assign body : Code} {w : World} {R : Ending → World → Prop} (h : RoundIn Fence.wide 0 P l f tmps assign body w R) : RoundIn (WF ro) n P l f tmps assign body w R :=
  ⟨trivial, fun c cs _ => h.2 c cs (room_wide _)⟩
def calmOps (ops : Array Oper) : Bool := ops.all fun o => match o.op with | .defer _ => false | _ => true
/-- No statement of it defers a call. -/
def Code.calm : Code → Bool
  | .region _ ops _ => calmOps ops
  | .seq x y => Code.calm x && Code.calm y
  | .cond _ x y => Code.calm x && Code.calm y
  | .block _ c => Code.calm c
  | .loop c => Code.calm c
  | .scope c => Code.calm c
  | _ => true
theorem op_sound {P : Program} {W0 : World} {N : Nat} {ok : Nat → Bool} {G : Act → Prop} {ro : Option Nat} {n : Nat} (hG : Stays ok G) {Q : IPost} {Kp : PPost} {o : Oper} {a : Act} {w : World} {st : Heap} {K : Env → Heap → Prop} {next : Act → World → Prop} (hn : ∀ a w, LiftK W0 N G K a w → next a w)
    (hro : ro = none ∨ ∀ c, o.op ≠ .defer c) (hd : G a) (hN : a.tmps.size = N) (hf : ∀ d, o.dst = some d → d < N ∧ ok d = true) (hs : Sim W0 st w)
    (h : opX P W0 o (envOf a) (fun v st' => K ((envOf a).put o.dst v) st') Kp st) : o.wpIn (WF ro) n P a w next (Lift W0 N G Q Kp) := by
  have hsem : o.semAt (WF ro).round a.eval = execOp (envOf a).ev o := by
    rw [← eval_env]
    rcases hro with rfl | hro
    · rfl
    · exact Oper.semAt_eq _ _ _ hro
  refine ⟨fun f _ => WF_fn ro f, ?_⟩
  rw [hsem]
  have hr := opX_sound h w hs
  generalize (execOp (envOf a).ev o).run P w = r at hr
  have hput : ∀ v w' st', Sim W0 st' w' → K ((envOf a).put o.dst v) st' → next (a.put o.dst v) w' := fun v w' st' h1 h2 =>
    hn _ _ ⟨hG _ _ _ hd (fun k hk => (hf k hk).2), by rw [size_put]; exact hN, st', h1, by rw [envOf_put _ _ _ (fun k hk => hN ▸ (hf k hk).1)]; exact h2⟩
  cases r with
  | ok x w' =>
    obtain ⟨st', hs', hk⟩ := hr
    cases x with
    | value v => exact hput _ _ _ hs' hk
    | skip => exact hput _ _ _ hs' hk
    | enter f args =>
      refine ⟨WF_depth ro n, WF_calls ((hk w' hs').mono ?_)⟩
      rintro e w'' ⟨st'', hs'', hk'⟩
      cases e with
      | returned v => exact hput _ _ _ hs'' hk'
      | panicked ch => exact ⟨hd, st'', hs'', hk'⟩
      | outgrown => exact hk'.elim
    | round l f tmps assign body =>
      refine ⟨WF_depth ro n, WF_round ((hk w' hs').mono ?_)⟩
      rintro e w'' ⟨st'', hs'', hk'⟩
      cases e with
      | returned v => exact hput _ _ _ hs'' hk'
      | panicked ch => exact ⟨hd, st'', hs'', hk'⟩
      | outgrown => exact hk'.elim
    | _ => exact hk.elim
  | halt x w' =>
    cases x with
    | panic v =>
      obtain ⟨st', hs', hk⟩ := hr
      exact ⟨hd, st', hs', hk⟩
    | _ => exact hr.elim

theorem IL_sound {P : Program} {W0 : World} {N : Nat} {ok : Nat → Bool} {G : Act → Prop} {ro : Option Nat} {n : Nat} (hG : Stays ok G) {ops : Array Oper} {Q : IPost} {Kp : PPost} : ∀ (l : List Oper), (∀ o ∈ l, ∀ d, o.dst = some d → d < N ∧ ok d = true) → (∀ o ∈ l, ro = none ∨ ∀ c, o.op ≠ .defer c) → ∀ (a : Act) (w : World) (st : Heap), G a → a.tmps.size = N → Sim W0 st w →
    IL P W0 ops Q Kp l (envOf a) st → wpListIn (WF ro) n P ops (Lift W0 N G Q Kp) l a w
  | [], _, _, a, w, st, hd, hN, hs, h => ⟨hd, hN, st, hs, h⟩
  | o :: rest, hf, hc, a, w, st, hd, hN, hs, h => by
    unfold wpListIn
    rw [wanted_eq]
    unfold IL at h
    have hfo := hf o (by simp)
    cases hw : wantedE ops o (envOf a) with
    | true =>
      rw [hw] at h
      rw [if_pos rfl]
      exact op_sound hG (K := fun E st' => IL P W0 ops Q Kp rest E st') (fun a' w' ⟨h1, h2, st', h3, h4⟩ => IL_sound hG rest (fun o ho => hf o (by simp [ho])) (fun o ho => hc o (by simp [ho])) a' w' st' h1 h2 h3 h4) (hc o (by simp)) hd hN hfo hs h
    | false =>
      rw [hw] at h
      rw [if_neg (by simp)]
      exact ⟨fun f _ => WF_fn ro f, IL_sound hG rest (fun o ho => hf o (by simp [ho])) (fun o ho => hc o (by simp [ho])) _ w st (hG _ _ _ hd (fun k hk => (hfo k hk).2)) (by rw [size_put]; exact hN) hs (by rw [envOf_put _ _ _ (fun k hk => hN ▸ (hfo k hk).1)]; exact h)⟩

theorem IAny_sound {P : Program} {W0 : World} {N : Nat} {ok : Nat → Bool} {G : Act → Prop} {ro : Option Nat} {n : Nat} (hG : Stays ok G) {ops : Array Oper} {Q : IPost} {Kp : PPost} (hf : ∀ (i : Nat) (o : Oper), ops[i]? = some o → ∀ d, o.dst = some d → d < N ∧ ok d = true) (hc : ∀ (i : Nat) (o : Oper), ops[i]? = some o → ro = none ∨ ∀ c, o.op ≠ .defer c) : ∀ (fuel : Nat) (listed : Array Bool) (a : Act) (w : World) (st : Heap), G a → a.tmps.size = N → Sim W0 st w →
    IAny P W0 ops Q Kp fuel listed (envOf a) st → wpAnyIn (WF ro) n P .any ops (Lift W0 N G Q Kp) fuel listed a w
  | 0, listed, a, w, st, hd, hN, hs, h => ⟨h.1, hd, hN, st, hs, h.2⟩
  | fuel + 1, listed, a, w, st, hd, hN, hs, h => by
    refine ⟨fun he => ⟨hd, hN, st, hs, h.1 he⟩, fun i hi => ?_⟩
    have h := h.2 i hi
    unfold IOp at h
    unfold wpOpIn
    cases ho : ops[i]? with
    | none => rw [ho] at h; exact IAny_sound hG hf hc fuel _ a w st hd hN hs h
    | some o =>
      rw [ho] at h
      simp only at h ⊢
      rw [wanted_eq]
      have hfo := hf i o ho
      cases hw : wantedE ops o (envOf a) with
      | true =>
        rw [hw] at h
        rw [if_pos rfl]
        exact op_sound hG (K := fun E st' => IAny P W0 ops Q Kp fuel (listed.setIfInBounds i true) E st') (fun a' w' ⟨h1, h2, st', h3, h4⟩ => IAny_sound hG hf hc fuel _ a' w' st' h1 h2 h3 h4) (hc i o ho) hd hN hfo hs h
      | false =>
        rw [hw] at h
        rw [if_neg (by simp)]
        exact ⟨fun f _ => WF_fn ro f, IAny_sound hG hf hc fuel _ _ w st (hG _ _ _ hd (fun k hk => (hfo k hk).2)) (by rw [size_put]; exact hN) hs (by rw [envOf_put _ _ _ (fun k hk => hN ▸ (hfo k hk).1)]; exact h)⟩

theorem opsFit_spec {N : Nat} {ok : Nat → Bool} {ops : Array Oper} (h : opsFit N ok ops = true) {o : Oper} (ho : o ∈ ops) : ∀ d, o.dst = some d → d < N ∧ ok d = true := by
  intro d hd
  unfold opsFit at h
  have := Array.all_eq_true_iff_forall_mem.1 h o ho
  simpa [hd] using this

theorem calmOps_spec {ro : Option Nat} {ops : Array Oper} (h : ro = none ∨ calmOps ops = true) {o : Oper} (ho : o ∈ ops) : ro = none ∨ ∀ c, o.op ≠ .defer c := by
  rcases h with h | h
  · exact .inl h
  · right
    intro c hc
    unfold calmOps at h
    have := Array.all_eq_true_iff_forall_mem.1 h o ho
    rw [hc] at this
    cases this
theorem calm_two {ro : Option Nat} {x y : Bool} (h : ro = none ∨ (x && y) = true) : (ro = none ∨ x = true) ∧ (ro = none ∨ y = true) := by
  rcases h with h | h
  · exact ⟨.inl h, .inl h⟩
  · simp only [Bool.and_eq_true] at h
    exact ⟨.inr h.1, .inr h.2⟩
/-- What a scope asks, when it is left. -/
theorem wpIn_scope_straight {F : Fence} {n : Nat} {P : Program} {Q : Exit → Act → World → Prop} {a : Act} {w : World} {c : Code} (h : c.wpIn F n P (Exit.noGoto Q) a w) : (Code.scope c).wpIn F n P Q a w := by
  intro b k cs hro hb hr
  have s1 : step P (lone (b.atR a (.code (.scope c) :: k)) cs w) = .next (lone (b.atR a (.code c :: .inScope c :: k)) cs w) := step_lone_go (by simp [stepG, stepG.exec, Frame.atR])
  have s2 : ∀ a w, step P (lone (b.atR a (.inScope c :: k)) cs w) = .next (lone (b.atR a k) cs w) := fun a w => step_lone_go (by simp [stepG, stepG.exec, Frame.atR])
  have h0 : (lone (b.atR a (.code (.scope c) :: k)) cs w).fenced P F := fenced_calm hb hr rfl
  obtain ⟨e, a₁, w₁, hq, harr⟩ := h b (.inScope c :: k) cs hro hb hr
  cases e with
  | normal => exact ⟨.normal, a₁, w₁, hq, .head h0 s1 (StepsIn.trans harr (.one (fenced_calm hb hr rfl) (s2 _ _)))⟩
  | exit id =>
    have hx : exitTo id (.inScope c :: k) = exitTo id k := by simp [exitTo]
    exact ⟨.exit id, a₁, w₁, hq, fun k' hk => .head h0 s1 (harr.1 k' (by rw [hx]; exact hk)), fun hr' hk => let ⟨k₁, h1, h2⟩ := harr.2 hr' (by rw [hx]; exact hk); ⟨k₁, h1, .head h0 s1 h2⟩⟩
  | goto l => exact hq.elim
  | ret => exact ⟨_, a₁, w₁, hq, .of_steps (.one h0 s1) harr⟩
  | panic ch => exact ⟨_, a₁, w₁, hq, .of_steps (.one h0 s1) harr⟩
  | outgrown => exact ⟨_, a₁, w₁, hq, .of_steps (.one h0 s1) harr⟩
theorem IW_soundIn {P : Program} {W0 : World} {N : Nat} {ok : Nat → Bool} {G : Act → Prop} {ro : Option Nat} {n : Nat} (hG : Stays ok G) (hm : P.follows .mixedOrders = true) (c : Code) : Code.fit N ok c = true → (ro = none ∨ Code.calm c = true) → ∀ {Q : IPost} {Kp : PPost} {a : Act} {w : World} {st : Heap}, G a → a.tmps.size = N → Sim W0 st w →
    IW P W0 c Q Kp (envOf a) st → c.wpIn (WF ro) n P (Lift W0 N G Q Kp) a w := by
  induction c with
  | skip => exact fun _ _ Q Kp a w st hd hN hs h => wpIn_skip ⟨hd, hN, st, hs, h⟩
  | region id ops draw =>
    intro hf hc Q Kp a w st hd hN hs h
    cases draw with
    | true =>
      refine wpIn_region_any hm (IAny_sound hG (fun i o ho => opsFit_spec hf (Array.mem_of_getElem? ho)) (fun i o ho => calmOps_spec hc (Array.mem_of_getElem? ho)) _ _ a _ st hd hN (show Sim W0 st w.drew from hs.drew) h)
    | false => exact wpIn_region_list (IL_sound hG _ (fun o ho => opsFit_spec hf (by simpa using ho)) (fun o ho => calmOps_spec hc (by simpa using ho)) a w st hd hN hs h)
  | seq x y ihx ihy =>
    intro hf hc Q Kp a w st hd hN hs h
    simp only [Code.fit, Bool.and_eq_true] at hf
    obtain ⟨hc1, hc2⟩ := calm_two hc
    refine wpIn_seq (wpIn_mono (ihx hf.1 hc1 hd hN hs h) ?_)
    intro e a' w' hq
    cases e with
    | normal => obtain ⟨h1, h2, st', h3, h4⟩ := hq; exact ihy hf.2 hc2 h1 h2 h3 h4
    | _ => exact hq
  | cond c x y ihx ihy =>
    intro hf hc Q Kp a w st hd hN hs h
    simp only [Code.fit, Bool.and_eq_true] at hf
    obtain ⟨hc1, hc2⟩ := calm_two hc
    unfold IW at h
    split at h
    · rename_i t ht
      have he : a.eval c = .bool t := by rw [eval_env]; exact ht
      cases t with
      | true => exact wpIn_cond_true he (ihx hf.1 hc1 hd hN hs (by simpa using h))
      | false => exact wpIn_cond_false he (ihy hf.2 hc2 hd hN hs (by simpa using h))
    · exact h.elim
  | block id c ih =>
    intro hf hc Q Kp a w st hd hN hs h
    refine wpIn_block (wpIn_mono (ih hf hc hd hN hs h) ?_)
    intro e a' w' hq
    cases e with
    | exit id' =>
      obtain ⟨h1, h2, st', h3, h4⟩ := hq
      simp only [Exit.inBlock]
      simp only [BlockI] at h4
      split
      · rename_i he; rw [if_pos he] at h4; exact ⟨h1, h2, st', h3, h4⟩
      · rename_i he; rw [if_neg he] at h4; exact ⟨h1, h2, st', h3, h4⟩
    | _ => exact hq
  | loop c ih =>
    intro hf hc Q Kp a w st hd hN hs h
    obtain ⟨I, μ, ⟨st0, hle0, h0⟩, hr⟩ := h
    suffices hmain : ∀ j (a : Act) (w : World) (st : Heap), G a → a.tmps.size = N → Sim W0 st w → I (envOf a) st → μ (envOf a) st = j →
        ∀ (b : Frame) (k : List Item) (cs : List Frame), b.roundOf = (WF ro).round → ∃ e a' w', Lift W0 N G Q Kp e a' w' ∧ ArrivesIn (Machine.fenced P (WF ro)) P (lone (b.atR a (.code c :: .inLoop c :: k)) cs w) b k cs e a' w' by
      intro b k cs hro hb hr
      obtain ⟨e, a', w', hq, harr⟩ := hmain _ a w st0 hd hN (hs.weaken hle0) h0 rfl b k cs hro
      exact ⟨e, a', w', hq, .of_steps (.one (fenced_calm hb hr rfl) stepR_loop) harr⟩
    intro j
    induction j using Nat.strongRecOn with
    | _ j ihn =>
      intro a w st hd hN hs hI hn b k cs hro
      obtain ⟨e, a1, w1, hq, harr⟩ := ih hf hc hd hN hs (hr _ _ hI) b (.inLoop c :: k) cs hro trivial (WF_room ro _)
      cases e with
      | normal =>
        obtain ⟨h1, h2, st1, h3, st0, hle, hI1, hlt⟩ := hq
        obtain ⟨e2, a2, w2, hq2, harr2⟩ := ihn _ (hn ▸ hlt) a1 w1 st0 h1 h2 (h3.weaken hle) hI1 rfl b k cs hro
        exact ⟨e2, a2, w2, hq2, .of_steps (StepsIn.trans harr (.one (fenced_calm (F := WF ro) (n := n) trivial (WF_room ro _) rfl) stepR_inLoop)) harr2⟩
      | exit id => exact ⟨.exit id, a1, w1, hq, .pass (x := .inLoop c) rfl (fun _ _ => .inl (by simp)) harr⟩
      | goto l => exact ⟨.goto l, a1, w1, hq, .pass (x := .inLoop c) rfl (fun _ _ => .inl (by simp)) harr⟩
      | ret => exact ⟨.ret, a1, w1, hq, .pass (x := .inLoop c) rfl (fun _ _ => .inl (by simp)) harr⟩
      | panic ch => exact ⟨.panic ch, a1, w1, hq, .pass (x := .inLoop c) rfl (fun _ _ => .inl (by simp)) harr⟩
      | outgrown => exact hq.elim
  | exit id => exact fun _ _ Q Kp a w st hd hN hs h => wpIn_exit ⟨hd, hN, st, hs, h⟩
  | ret => exact fun _ _ Q Kp a w st hd hN hs h => wpIn_ret ⟨hd, hN, st, hs, h⟩
  | label l => exact fun _ _ Q Kp a w st hd hN hs h => wpIn_label ⟨hd, hN, st, hs, h⟩
  | goto l => exact fun _ _ Q Kp a w st hd hN hs h => wpIn_goto ⟨hd, hN, st, hs, h⟩
  | scope c ih =>
    intro hf hc Q Kp a w st hd hN hs h
    refine wpIn_scope_straight (wpIn_mono (ih hf hc hd hN hs h) ?_)
    intro e a' w' hq
    cases e with
    | goto l => obtain ⟨_, _, _, _, h4⟩ := hq; exact h4.elim
    | _ => exact hq
  | rangeFunc f params assign body _ _ => exact fun _ _ Q Kp a w st hd hN hs h => h.elim
  | refuse why => exact fun _ _ Q Kp a w st hd hN hs h => h.elim
theorem IW_sound {P : Program} {W0 : World} {N : Nat} {ok : Nat → Bool} {G : Act → Prop} (hG : Stays ok G) (hm : P.follows .mixedOrders = true) (c : Code) (hf : Code.fit N ok c = true) {Q : IPost} {Kp : PPost} {a : Act} {w : World} {st : Heap} (hd : G a) (hN : a.tmps.size = N) (hs : Sim W0 st w)
    (h : IW P W0 c Q Kp (envOf a) st) : c.wp P (Lift W0 N G Q Kp) a w :=
  (wpIn_wide (n := 0)).1 (IW_soundIn (ro := none) (n := 0) hG hm c hf (.inl rfl) hd hN hs h)

/-- The results, read off the frame. -/
def resS (rs : Array ResultVar) (E : Env) : Sem Value := do
  let vs ← rs.mapM fun
    | .tmp t => pure (E t)
    | .cell a t => do loadVar t (← asAddr (E a))
  pure (if h : vs.size = 1 then vs[0] else .tuple vs)
def RetI (P : Program) (rs : Array ResultVar) (R : Ending → Heap → Prop) : IPost
  | .normal, E, st => wpS P (resS rs E) (fun v st' => st' = st ∧ R (.returned v) st) (fun _ _ => False) st
  | .ret, E, st => wpS P (resS rs E) (fun v st' => st' = st ∧ R (.returned v) st) (fun _ _ => False) st
  | _, _, _ => False
/-- No row is made, nothing is drawn: the world stays. -/
def Reads {α : Type} : Sem α → Prop
  | .pure _ => True
  | .load _ _ k => ∀ v, Reads (k v)
  | .shape _ k => ∀ s, Reads (k s)
  | .program k => ∀ P, Reads (k P)
  | .halt _ => True
  | _ => False
theorem Reads.run {P : Program} {α : Type} (s : Sem α) : ∀ {w w' : World} {a : α}, Reads s → s.run P w = .ok a w' → w' = w := by
  induction s with
  | pure a => intro w w' a _ h; cases h; rfl
  | load m a k ih =>
    intro w w' x hr h
    simp only [Sem.run] at h
    split at h
    · exact ih _ (hr _) h
    · split at h
      · exact ih _ (hr _) h
      · cases h
  | shape r k ih => intro w w' x hr h; exact ih _ (hr _) h
  | program k ih => intro w w' x hr h; exact ih _ (hr _) h
  | halt x => intro w w' a _ h; cases h
  | _ => intro w w' a hr h; exact hr.elim
theorem Reads.bind {α β : Type} (x : Sem α) (f : α → Sem β) (hx : Reads x) (hf : ∀ a, Reads (f a)) : Reads (x >>= f) := by
  show Reads (x.bind f)
  induction x with
  | pure a => exact hf a
  | load m a k ih => exact fun v => ih v (hx v)
  | shape r k ih => exact fun v => ih v (hx v)
  | program k ih => exact fun v => ih v (hx v)
  | halt h => trivial
  | _ => exact hx.elim
theorem reads_loadCellsFrom (a : Addr) : ∀ (n i : Nat) (acc : Array Value), Reads (loadCellsFrom a i n acc)
  | 0, _, _ => trivial
  | n + 1, i, acc => Reads.bind _ _ (fun _ => trivial) (fun v => reads_loadCellsFrom a n (i + 1) (acc.push v))
theorem reads_typeInfo (t : TypeId) : Reads (typeInfo t) := fun P => by
  show Reads ((fun p : Program => match p.info? t with | some i => (Pure.pure i : Sem TypeInfo) | none => stuck "no such type") P)
  dsimp only
  split
  · trivial
  · trivial
theorem reads_underlying (t : TypeId) : Reads (underlying t) := fun P => by
  show Reads ((fun p : Program => match p.underlying t with | some i => (Pure.pure i : Sem TypeDesc) | none => stuck "no such type") P)
  dsimp only
  split
  · trivial
  · trivial
theorem reads_loadVar (t : TypeId) (a : Addr) : Reads (loadVar t a) := by
  unfold loadVar
  refine Reads.bind _ _ ?_ fun b => ?_
  · unfold isAgg
    refine Reads.bind _ _ (reads_underlying t) fun d => ?_
    split <;> trivial
  · split
    · refine Reads.bind _ _ ?_ fun n => Reads.bind _ _ (reads_loadCellsFrom a n 0 #[]) fun _ => trivial
      unfold sizeOf
      exact Reads.bind _ _ (reads_typeInfo t) fun _ => trivial
    · exact fun _ => trivial
theorem reads_panic (e : RuntimeError) (h : e = .nilDeref) {α : Type} : Reads (runtimePanic e : Sem α) := by
  subst h
  exact fun _ => trivial
theorem reads_asAddr (v : Value) : Reads (asAddr v) := by
  unfold asAddr
  split
  · trivial
  · exact reads_panic _ rfl
  · trivial
theorem reads_mapM {α β : Type} (f : α → Sem β) (hf : ∀ a, Reads (f a)) : ∀ (l : List α), Reads (l.mapM f)
  | [] => by simp only [List.mapM_nil]; exact trivial
  | a :: l => by
    simp only [List.mapM_cons]
    exact Reads.bind _ _ (hf a) fun b => Reads.bind _ _ (reads_mapM f hf l) fun _ => trivial
theorem reads_resS (rs : Array ResultVar) (E : Env) : Reads (resS rs E) := by
  unfold resS
  refine Reads.bind _ _ ?_ fun vs => ?_
  · rw [Array.mapM_eq_mapM_toList]
    show Reads (List.toArray <$> _)
    refine Reads.bind _ _ (reads_mapM _ (fun r => ?_) _) fun _ => trivial
    cases r with
    | tmp t => trivial
    | cell a t => exact Reads.bind _ _ (reads_asAddr _) fun _ => reads_loadVar _ _
  · trivial

theorem res_sound {P : Program} {W0 : World} {rs : Array ResultVar} {R : Ending → Heap → Prop} {E : Env} {st : Heap} {w : World} (hs : Sim W0 st w) (h : wpS P (resS rs E) (fun v st' => st' = st ∧ R (.returned v) st) (fun _ _ => False) st) :
    ∃ v, (resS rs E).run P w = .ok v w ∧ R (.returned v) st := by
  have hr := wpS_sound _ h hs
  have hw := @Reads.run P _ (resS rs E) w
  generalize hres : (resS rs E).run P w = r at *
  cases r with
  | ok v w' =>
    obtain ⟨st', hs', rfl, hR⟩ := hr
    have := hw (reads_resS _ _) rfl
    subst this
    exact ⟨v, rfl, hR⟩
  | halt x w' => cases x <;> first | exact hr.elim | (obtain ⟨_, _, h⟩ := hr; exact h.elim)

theorem stays_nil : Stays (fun _ => true) (fun a => a.defers = []) := fun a d v h _ => by show (a.put d v).defers = []; rw [defers_put]; exact h
theorem ICalls_of {P : Program} {W0 : World} {f : FuncId} {fn : Func} {c : Code} {args : Array Value} {st : Heap} {R : Ending → Heap → Prop} (hm : P.follows .mixedOrders = true)
    (hf : P.funcs[f]? = some fn) (hb : fn.body = some c) (hfit : Code.fit (max args.size fn.ntmps) (fun _ => true) c = true)
    (h : IW P W0 c (RetI P fn.results R) (fun ch st => R (.panicked ch) st) (Env.args args.toList) st) : ICalls P W0 f args st R := by
  intro w hs
  refine calls_of_wp hf hb ?_
  have henv : envOf { tmps := args ++ Array.replicate (fn.ntmps - args.size) undef, defers := [] } = Env.args args.toList := by
    funext t
    simp only [envOf, Env.args]
    rw [Array.getD_eq_getD_getElem?, List.getD_eq_getElem?_getD, Array.getElem?_append]
    split
    · simp
    · rename_i ht
      rw [List.getElem?_eq_none (by simpa using ht)]
      simp only [Array.getElem?_replicate]
      split <;> rfl
  refine wp_mono (IW_sound (N := max args.size fn.ntmps) (G := fun a => a.defers = []) stays_nil hm c hfit rfl (by simp; omega) hs (henv ▸ h)) ?_
  intro e a w' hq
  cases e with
  | normal =>
    obtain ⟨h1, h2, st', h3, h4⟩ := hq
    obtain ⟨v, h5, h6⟩ := res_sound h3 h4
    exact ⟨h1, v, h5, st', h3, h6⟩
  | ret =>
    obtain ⟨h1, h2, st', h3, h4⟩ := hq
    obtain ⟨v, h5, h6⟩ := res_sound h3 h4
    exact ⟨h1, v, h5, st', h3, h6⟩
  | panic ch =>
    obtain ⟨h1, st', h3, h4⟩ := hq
    exact ⟨h1, st', h3, h4⟩
  | outgrown => exact hq.elim
  | exit id => obtain ⟨_, _, _, _, h4⟩ := hq; exact h4.elim
  | goto l => obtain ⟨_, _, _, _, h4⟩ := hq; exact h4.elim
theorem fit_mono {N M : Nat} {ok : Nat → Bool} (h : N ≤ M) (c : Code) : Code.fit N ok c = true → Code.fit M ok c = true := by
  induction c with
  | region id ops draw =>
    intro hf
    unfold Code.fit opsFit at hf ⊢
    rw [Array.all_eq_true_iff_forall_mem] at hf ⊢
    intro o ho
    have := hf o ho
    cases hd : o.dst with
    | none => rfl
    | some d =>
      rw [hd] at this
      simp only [Bool.and_eq_true, decide_eq_true_eq] at this ⊢
      exact ⟨Nat.lt_of_lt_of_le this.1 h, this.2⟩
  | seq x y ihx ihy => intro hf; simp only [Code.fit, Bool.and_eq_true] at hf ⊢; exact ⟨ihx hf.1, ihy hf.2⟩
  | cond c x y ihx ihy => intro hf; simp only [Code.fit, Bool.and_eq_true] at hf ⊢; exact ⟨ihx hf.1, ihy hf.2⟩
  | block id c ih => exact ih
  | loop c ih => exact ih
  | scope c ih => exact ih
  | _ => exact fun _ => rfl
def fitAll (P : Program) : Bool := P.funcs.all fun fn => match fn.body with | some c => Code.fit fn.ntmps (fun _ => true) c | none => true
theorem ICalls_of' {P : Program} {W0 : World} {f : FuncId} {fn : Func} {c : Code} {args : List Value} {st : Heap} {R : Ending → Heap → Prop} (hm : P.follows .mixedOrders = true) (ha : fitAll P = true)
    (hf : P.funcs[f]? = some fn) (hb : fn.body = some c)
    (h : IW P W0 c (RetI P fn.results R) (fun ch st => R (.panicked ch) st) (Env.args args) st) : ICalls P W0 f args.toArray st R := by
  refine ICalls_of hm hf hb (fit_mono (Nat.le_max_right _ _) c ?_) h
  unfold fitAll at ha
  have := Array.all_eq_true_iff_forall_mem.1 ha fn (Array.mem_of_getElem? hf)
  simpa [hb] using this

/-! ### A region of any order, in an order that is told -/
def DrawI (P : Program) (W0 : World) (ops : List Oper) (Q : IPost) (Kp : PPost) (E : Env) (st : Heap) : Prop := IAny P W0 ops.toArray Q Kp ops.toArray.size (Array.replicate ops.toArray.size false) E st
def pk (ops : List Oper) : List Nat → List Oper
  | [] => []
  | i :: r => match ops[i]? with
    | some o => o :: pk ops r
    | none => pk ops r
theorem IOrd_of_IL {P : Program} {W0 : World} {ops : List Oper} {Q : IPost} {Kp : PPost} (hcls : ∀ (j : Nat) (oj : Oper), ops.toArray[j]? = some oj → clsR P oj.op ≤ 3) : ∀ (l : List Nat) (E : Env) (st : Heap), IL P W0 ops.toArray Q Kp (pk ops l) E st → IOrd P W0 ops.toArray Q Kp l E st
  | [], E, st, h => h
  | i :: r, E, st, h => by
    unfold pk at h
    unfold IOrd IOp
    rw [List.getElem?_toArray]
    split at h
    · rename_i o ho
      rw [ho]
      simp only
      unfold IL at h
      cases hw : wantedE ops.toArray o E with
      | true =>
        rw [hw] at h
        simp only [cond_true] at h ⊢
        exact opX_mono (hcls i o (by rw [List.getElem?_toArray]; exact ho)) (fun v st' _ hk => IOrd_of_IL hcls r _ st' hk) (fun _ _ => id) h
      | false => rw [hw] at h; simp only [cond_false] at h ⊢; exact IOrd_of_IL hcls r _ st h
    · rename_i ho
      rw [ho]
      exact IOrd_of_IL hcls r E st h
def drawOK (P : Program) (ops : List Oper) (l : List Nat) : Bool := ops.all (fun o => Nat.ble (clsR P o.op) 3) && orderOK P ops.toArray (Array.replicate ops.length false) l && Nat.ble l.length ops.length
theorem draw {P : Program} {W0 : World} {ops : List Oper} {Q : IPost} {Kp : PPost} {E : Env} {st : Heap} (l : List Nat) (hok : drawOK P ops l = true) (h : IL P W0 ops.toArray Q Kp (pk ops l) E st) : DrawI P W0 ops Q Kp E st := by
  unfold drawOK at hok
  simp only [Bool.and_eq_true, List.all_eq_true, Nat.ble_eq] at hok
  have hcls : ∀ (j : Nat) (oj : Oper), ops.toArray[j]? = some oj → clsR P oj.op ≤ 3 := fun j oj ho => hok.1.1 oj (by rw [List.getElem?_toArray] at ho; exact List.mem_of_getElem? ho)
  exact IAny_order hcls l _ _ E st (by simpa using hok.1.2) (by simpa using hok.2) (IOrd_of_IL hcls l E st h)
end Go.Proofs.YtadgciaclhjjkaaGreat
