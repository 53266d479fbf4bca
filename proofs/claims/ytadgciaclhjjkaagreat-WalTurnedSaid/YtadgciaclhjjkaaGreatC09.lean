/- What is shown of a part of code serves all that comes behind: cuts. Plain theorems, over any program. -/
import Derived.Test.YtadgciaclhjjkaaGreatC08
set_option linter.unusedVariables false
set_option linter.unusedSimpArgs false
namespace Go.Proofs.YtadgciaclhjjkaaGreat
open Go.RowKit (Below)

section
variable {P : Program} {W0 : World} {E : Env} {K K' : Value → Heap → Prop} {Kp : List PanicEntry → Heap → Prop} {st : Heap}
theorem rangeX_mono {x : Value} (hk : ∀ v st, K v st → K' v st) (h : rangeX x K st) : rangeX x K' st := by
  unfold rangeX at *
  split at h
  · obtain ⟨g, es, h1, h2⟩ := h
    exact ⟨g, es, h1, fun a b c d e => hk _ _ (h2 a b c d e)⟩
  · exact h.elim
theorem nextX_mono {x : Value} (hk : ∀ v st, K v st → K' v st) (h : nextX x K st) : nextX x K' st := by
  unfold nextX at *
  split at h
  · obtain ⟨m, ents, clock, seen, g, es, h1, h2, h3, h4, h5⟩ := h
    exact ⟨m, ents, clock, seen, g, es, h1, h2, h3, fun a => hk _ _ (h4 a), fun a b c => hk _ _ (h5 a b c)⟩
  · exact h.elim
theorem entryX_mono {x : Value} (hk : ∀ v st, K v st → K' v st) (h : entryX x K st) : entryX x K' st := by
  unfold entryX at *
  split at h
  · obtain ⟨m, ents, clock, since, seen, e, h1, h2, h3, h4, h5⟩ := h
    exact ⟨m, ents, clock, since, seen, e, h1, h2, h3, h4, hk _ _ h5⟩
  · exact h.elim
theorem opX_imp {o : Oper} (hk : ∀ v st, K v st → K' v st) (h : opX P W0 o E K Kp st) : opX P W0 o E K' Kp st := by
  by_cases hc : clsR P o.op ≤ 3
  · exact opX_mono hc (fun v st' _ => hk v st') (fun _ _ => id) h
  · obtain ⟨dst, op, type, pos, after, guard⟩ := o
    cases op
    case range t x => exact ⟨h.1, rangeX_mono hk h.2⟩
    case next x b =>
      cases b
      · exact nextX_mono hk h
      · exact opW_mono hk (fun _ _ => id) h
    case entry x => exact entryX_mono hk h
    case call c =>
      obtain ⟨callee, args, ts⟩ := c
      cases callee with
      | value f => exact absurd (by simp [clsR]) hc
      | invoke => exact opW_mono hk (fun _ _ => id) h
      | builtin b =>
        cases b <;> first | (exfalso; refine hc ?_; simp [clsR]; done) | (simp only [opX] at h; unfold builtinY at h; split at h <;> first | exact h.elim | contradiction)
    case makeMap t n =>
      cases n
      · exact absurd (by simp [clsR]) hc
      · exact opW_mono hk (fun _ _ => id) h
    all_goals first
      | (exfalso; refine hc ?_; simp [clsR]; done)
      | (exfalso; refine hc ?_; simp only [clsR]; split <;> decide)
      | exact opW_mono hk (fun _ _ => id) h
theorem IL_imp {ops : Array Oper} {Q Q' : IPost} (hq : ∀ e E st, Q e E st → Q' e E st) : ∀ (l : List Oper) (E : Env) (st : Heap), IL P W0 ops Q Kp l E st → IL P W0 ops Q' Kp l E st
  | [], E, st, h => hq _ _ _ h
  | o :: rest, E, st, h => by
    unfold IL at h ⊢
    cases hw : wantedE ops o E with
    | true => rw [hw] at h; simp only [cond_true] at h ⊢; exact opX_imp (fun v st' hk => IL_imp hq rest _ _ hk) h
    | false => rw [hw] at h; simp only [cond_false] at h ⊢; exact IL_imp hq rest _ _ h
theorem IAny_imp {ops : Array Oper} {Q Q' : IPost} (hq : ∀ e E st, Q e E st → Q' e E st) : ∀ (fuel : Nat) (listed : Array Bool) (E : Env) (st : Heap), IAny P W0 ops Q Kp fuel listed E st → IAny P W0 ops Q' Kp fuel listed E st
  | 0, listed, E, st, h => ⟨h.1, hq _ _ _ h.2⟩
  | fuel + 1, listed, E, st, h => ⟨fun hr => hq _ _ _ (h.1 hr), fun i hi => by
    have h2 := h.2 i hi
    unfold IOp at h2 ⊢
    split
    · rename_i ho; rw [ho] at h2; exact IAny_imp hq fuel _ _ _ h2
    · rename_i o ho
      rw [ho] at h2
      simp only at h2
      cases hw : wantedE ops o E with
      | true => rw [hw] at h2; simp only [cond_true] at h2 ⊢; exact opX_imp (fun v st' hk => IAny_imp hq fuel _ _ _ hk) h2
      | false => rw [hw] at h2; simp only [cond_false] at h2 ⊢; exact IAny_imp hq fuel _ _ _ h2⟩
theorem IW_imp (c : Code) : ∀ {Q Q' : IPost} {Kp : PPost} {E : Env} {st : Heap}, (∀ e E st, Q e E st → Q' e E st) → IW P W0 c Q Kp E st → IW P W0 c Q' Kp E st := by
  induction c with
  | skip => exact fun hq h => hq _ _ _ h
  | region id ops draw =>
    intro Q Q' Kp E st hq h
    cases draw with
    | true => exact IAny_imp hq _ _ _ _ h
    | false => exact IL_imp hq _ _ _ h
  | seq x y ihx ihy =>
    intro Q Q' Kp E st hq h
    refine ihx ?_ h
    intro e E st h'
    cases e <;> first | exact ihy hq h' | exact hq _ _ _ h'
  | cond c x y ihx ihy =>
    intro Q Q' Kp E st hq h
    unfold IW at h ⊢
    split at h
    · rename_i t ht
      try rw [ht]
      try simp only
      split at h
      · rename_i ht'; rw [if_pos ht']; exact ihx hq h
      · rename_i ht'; rw [if_neg ht']; exact ihy hq h
    · exact h.elim
  | block id c ih =>
    intro Q Q' Kp E st hq h
    refine ih ?_ h
    intro e E st h'
    cases e
    case exit i =>
      simp only [BlockI] at h' ⊢
      split at h'
      · rename_i hh; rw [if_pos hh]; exact hq _ _ _ h'
      · rename_i hh; rw [if_neg hh]; exact hq _ _ _ h'
    all_goals exact hq _ _ _ h'
  | loop c ih =>
    intro Q Q' Kp E st hq h
    obtain ⟨I, μ, h1, h2⟩ := h
    refine ⟨I, μ, h1, fun E st hI => ih ?_ (h2 E st hI)⟩
    intro e E st h'
    cases e <;> first | exact h' | exact hq _ _ _ h'
  | exit id => exact fun hq h => hq _ _ _ h
  | ret => exact fun hq h => hq _ _ _ h
  | label l => exact fun hq h => hq _ _ _ h
  | goto l => exact fun hq h => hq _ _ _ h
  | scope c ih =>
    intro Q Q' Kp E st hq h
    refine ih ?_ h
    intro e E st h'
    cases e <;> first | exact h' | exact hq _ _ _ h'
  | rangeFunc f params assign body _ _ => exact fun _ h => h.elim
  | refuse why => exact fun _ h => h.elim
/-- What stands ahead leaves R; from R on all goes well. -/
theorem IW_cut {x y : Code} {Q : IPost} {Kp : PPost} {E : Env} {st : Heap} (R : Env → Heap → Prop) (h1 : IW P W0 x (fun e E' st' => e = .normal ∧ R E' st') Kp E st) (h2 : ∀ E' st', R E' st' → IW P W0 y Q Kp E' st') : IW P W0 (.seq x y) Q Kp E st := by
  show IW P W0 x (ThenI (IW P W0 y Q Kp) Q) Kp E st
  refine IW_imp x ?_ h1
  rintro e E' st' ⟨rfl, hR⟩
  exact h2 E' st' hR
/-- The same, where it may leave early, too. -/
theorem IW_cut' {x y : Code} {Q : IPost} {Kp : PPost} {E : Env} {st : Heap} (R : Env → Heap → Prop) (h1 : IW P W0 x (fun e E' st' => (e = .normal ∧ R E' st') ∨ (e ≠ .normal ∧ Q e E' st')) Kp E st) (h2 : ∀ E' st', R E' st' → IW P W0 y Q Kp E' st') : IW P W0 (.seq x y) Q Kp E st := by
  show IW P W0 x (ThenI (IW P W0 y Q Kp) Q) Kp E st
  refine IW_imp x ?_ h1
  rintro e E' st' (⟨rfl, hR⟩ | ⟨hn, hQ⟩)
  · exact h2 E' st' hR
  · cases e <;> first | exact absurd rfl hn | exact hQ
/-- A sequence, grouped the other way. -/
theorem IW_assoc {x y z : Code} {Q : IPost} {Kp : PPost} {E : Env} {st : Heap} (h : IW P W0 (.seq (.seq x y) z) Q Kp E st) : IW P W0 (.seq x (.seq y z)) Q Kp E st := by
  refine IW_imp x ?_ (h : IW P W0 x (ThenI (IW P W0 y (ThenI (IW P W0 z Q Kp) Q) Kp) (ThenI (IW P W0 z Q Kp) Q)) Kp E st)
  intro e E' st' h'
  cases e <;> exact h'
end
end Go.Proofs.YtadgciaclhjjkaaGreat
set_option linter.unusedVariables false
set_option linter.unusedSimpArgs false
set_option maxRecDepth 100000
set_option maxHeartbeats 2000000
namespace Go.Proofs.YtadgciaclhjjkaaGreat
open Go.RowKit (Below)

theorem leT_not (a b : ByteArray) : (Op.bytesLess a.data.toList b.data.toList || strEq a b) = !ltT b a := by
  cases h : ltT b a with
  | true =>
    have h1 := ltT_ok.asymm _ _ h
    have h2 : strEq a b = false := by
      cases h3 : strEq a b with
      | false => rfl
      | true =>
        exfalso
        have : a = b := by
          unfold strEq at h3
          cases a; cases b
          simp at h3
          rw [h3]
        subst this
        rw [h] at h1; cases h1
    show (ltT a b || strEq a b) = !true
    rw [h1, h2]; rfl
  | false =>
    cases h1 : ltT a b with
    | true =>
      show (ltT a b || strEq a b) = !false
      rw [h1]; rfl
    | false =>
      have := ltT_total a b h1 h
      subst this
      show (ltT a a || strEq a a) = !false
      have : strEq a a = true := by simp [strEq]
      rw [this]; simp
section
variable {W0 : World} {st : Heap}
theorem values_spec {vv : Value} {l : List ByteArray} (h : RegF st 1 vv (l.map .string) l.length) : ICalls Tryz.prog W0 241 #[vv] st fun e st' => e = .returned (.bool (valuesM l)) ∧ st' = st := by
  obtain ⟨base, cap, rfl⟩ := h.slice
  refine enter (args := [_]) Tryz.func241 rfl ?_
  generalize hres : valuesM l = res
  unfold valuesM at hres
  by_cases h1 : l.length < 1
  · have q1 : ((l.length : Int) < 1) = True := eq_true (by omega)
    have : res = false := by rw [← hres]; have : decide (1 ≤ l.length) = false := decide_eq_false (by omega)
                             rw [this]; simp
    subst this
    simp [Tryz.f241, go_sem, q1]
  have q1 : ((l.length : Int) < 1) = False := eq_false (by omega)
  by_cases h2 : 16 < l.length
  · have q2 : ((16 : Int) < l.length) = True := eq_true (by omega)
    have : res = false := by rw [← hres]; have : decide (l.length ≤ 16) = false := by simp; omega
                             rw [this]; simp
    subst this
    simp [Tryz.f241, go_sem, q1, q2]
  have q2 : ((16 : Int) < l.length) = False := eq_false (by omega)
  have hall : ((l.drop 0).all (fun v => decide (v.size ≤ 64)) && risesT (l.drop (0 - 1))) = res := by
    rw [← hres]
    have e1 : decide (1 ≤ l.length) = true := by simp; omega
    have e2 : decide (l.length ≤ 16) = true := by simp; omega
    rw [e1, e2]; simp
  simp [Tryz.f241, go_sem, q1, q2]
  obtain ⟨blk, off, rfl, hg⟩ := src_get h.src (by omega)
  refine ⟨fun E st' => st' = st ∧ E 0 = .slice (some ⟨blk, off, none⟩) l.length cap ∧ E 13 = .slice (some ⟨blk, off, none⟩) l.length cap ∧ E 14 = Val.i l.length ∧ ∃ i : Nat, E 15 = Val.i i ∧ i ≤ l.length ∧ ((l.drop i).all (fun v => decide (v.size ≤ 64)) && risesT (l.drop (i - 1))) = res,
    fun E _ => match E 15 with | .int _ i => l.length - i.toNat | _ => 0, ⟨st, .rfl' _, rfl, by simp [go_sem], by simp [go_sem], by simp [go_sem], 0, by simp [go_sem], by omega, hall⟩, ?_⟩
  rintro E st' ⟨rfl, e0, e13, e14, i, e15, hi, hrec⟩
  by_cases hlt : i < l.length
  · have hlt' : ((i : Int) < l.length) = True := eq_true (by omega)
    have hgi := hg i (by omega)
    have hv : l[i]? = some l[i] := List.getElem?_eq_getElem hlt
    have hgv : (l.map Value.string)[i]? = some (.string l[i]) := by simp [hv]
    rw [hgv] at hgi
    have hd : l.drop i = l[i] :: l.drop (i + 1) := List.drop_eq_getElem_cons hlt
    rw [hd] at hrec
    simp only [List.all_cons] at hrec
    obtain ⟨v, hvv⟩ : ∃ v, l[i] = v := ⟨_, rfl⟩
    rw [hvv] at hgi hrec hd
    have hwi : IntKind.i64.wrap ((i : Int) + 1) = ((i + 1 : Nat) : Int) := by rw [wrap_id (by omega) (by omega)]; omega
    by_cases hbig : 64 < v.size
    · have p1 : ((64 : Int) < v.size) = True := eq_true (by omega)
      have : res = false := by rw [← hrec]; have : decide (v.size ≤ 64) = false := by simp; omega
                               rw [this]; simp
      subst this
      simp [go_sem, e0, e13, e14, e15, hlt, hlt', hgi, p1]
    have p1 : ((64 : Int) < v.size) = False := eq_false (by omega)
    have hsm : decide (v.size ≤ 64) = true := by simp; omega
    rw [hsm] at hrec
    simp only [Bool.true_and] at hrec
    by_cases hi0 : i = 0
    · have p2 : (0 < i) = False := eq_false (by omega)
      simp [go_sem, e0, e13, e14, e15, hlt, hlt', hgi, p1, p2, hwi]
      refine ⟨st', .rfl' _, ⟨rfl, i + 1, by omega, by omega, ?_⟩, by omega⟩
      subst hi0
      simpa using hrec
    · have p2 : (0 < i) = True := eq_true (by omega)
      have hwm : IntKind.i64.wrap ((i : Int) - 1) = ((i - 1 : Nat) : Int) := by rw [wrap_id (by omega) (by omega)]; omega
      have hltm : i - 1 < l.length := by omega
      have hgm := hg (i - 1) (by omega)
      have hp : l[i - 1]? = some l[i - 1] := List.getElem?_eq_getElem hltm
      have hgp : (l.map Value.string)[i - 1]? = some (.string l[i - 1]) := by simp [hp]
      rw [hgp] at hgm
      obtain ⟨p, hpp⟩ : ∃ p, l[i - 1] = p := ⟨_, rfl⟩
      rw [hpp] at hgm
      have hd2 : l.drop (i - 1) = p :: v :: l.drop (i + 1) := by
        rw [List.drop_eq_getElem_cons hltm, hpp, show i - 1 + 1 = i by omega, hd]
      rw [hd2] at hrec
      simp only [risesT] at hrec
      have hle := leT_not v p
      have hmI : ((i - 1 : Nat) : Int) < l.length := by omega
      cases hlt2 : ltT p v with
      | false =>
        rw [hlt2] at hrec hle
        have : res = false := by rw [← hrec]; simp
        subst this
        simp [go_sem, e0, e13, e14, e15, hlt, hlt', hgi, p1, p2, hwi, hwm, hgm, hltm, hle]
      | true =>
        rw [hlt2] at hrec hle
        simp [go_sem, e0, e13, e14, e15, hlt, hlt', hgi, p1, p2, hwi, hwm, hgm, hltm, hle]
        refine ⟨st', .rfl' _, ⟨rfl, i + 1, by omega, by omega, ?_⟩, by omega⟩
        rw [show i + 1 - 1 = i by omega, hd]
        simpa using hrec
  · have hlt' : ((i : Int) < l.length) = False := eq_false (by omega)
    have : i = l.length := by omega
    subst this
    rw [List.drop_eq_nil_of_le (Nat.le_refl _)] at hrec
    have : risesT (l.drop (l.length - 1)) = true := by
      have : (l.drop (l.length - 1)).length = 1 := by simp; omega
      match l.drop (l.length - 1), this with
      | [x], _ => rfl
    rw [this] at hrec
    simp at hrec
    subst hrec
    simp [go_sem, e0, e13, e14, e15]
theorem alone_spec {op : Int} {name value : ByteArray} {vv kv : Value} {vals : List ByteArray} {ks : List Value} {nk : Nat} (hv : RegF st 1 vv (vals.map .string) vals.length) (hk : RegF st 5 kv ks nk) :
    ICalls Tryz.prog W0 222 #[.agg #[Val.i op, .string name, .string value, vv, kv]] st fun e st' => e = .returned (.bool (aloneM op name value vals nk)) ∧ New st st' := by
  obtain ⟨vb, vc, rfl⟩ := hv.slice
  obtain ⟨kb, kc, rfl⟩ := hk.slice
  refine enter (args := [_]) Tryz.func222 rfl ?_
  obtain ⟨named, hnamed⟩ : ∃ b, (labelM name.data.toList && decide (value.size ≤ 64) && decide (nk = 0)) = b := ⟨_, rfl⟩
  obtain ⟨plain, hplain⟩ : ∃ b, (decide (name = ⟨#[]⟩) && decide (value = ⟨#[]⟩) && decide (vals.length = 0)) = b := ⟨_, rfl⟩
  have hM : aloneM op name value vals nk = if op = 0 then plain && decide (nk = 0) else if op = 1 ∨ op = 2 ∨ op = 3 then named && decide (vals.length = 0) else if op = 4 then named && decide (value = ⟨#[]⟩) && valuesM vals else if op = 5 ∨ op = 6 then plain else if op = 7 then plain && decide (nk = 1) else false := by
    unfold aloneM; rw [hnamed, hplain]
  refine IW_cut (fun E' st' => ∃ tb, New st st' ∧ E' 1 = ptr tb ∧ st' tb = some (.cells true [Val.i op, .string name, .string value, .slice vb vals.length vc, .slice kb nk kc] 5 (.ty 0))) ?_ ?_
  · simp [go_sem]
    unfold NewP
    intro tb htb
    refine ⟨.ty 0, ?_⟩
    simp [go_sem]
    exact (New.refl _).add htb
  rintro E1 st1 ⟨tb, hn, e1, ht⟩
  refine IW_cut (fun E' st' => st' = st1 ∧ E' 1 = ptr tb ∧ E' 3 = .bool named) ?_ ?_
  · simp [go_sem, e1, ht]
    refine labelName_spec.mono ?_
    rintro e st2 ⟨rfl, rfl⟩
    cases hL : labelM name.data.toList with
    | false =>
      rw [hL] at hnamed
      simp at hnamed
      subst hnamed
      simp [go_sem, e1, ht]
    | true =>
      rw [hL] at hnamed
      by_cases hB : value.size ≤ 64
      · have B : ((value.size : Int) ≤ 64) = True := eq_true (by omega)
        simp [hB] at hnamed
        simp [go_sem, e1, ht, B, hnamed]
      · have B : ((value.size : Int) ≤ 64) = False := eq_false (by omega)
        simp [hB] at hnamed
        subst hnamed
        simp [go_sem, e1, ht, B]
  rintro E2 st2 ⟨rfl, e1', e3⟩
  refine IW_cut (fun E' st' => st' = st2 ∧ E' 1 = ptr tb ∧ E' 3 = .bool named ∧ E' 4 = .bool plain) ?_ ?_
  · by_cases hD : name = ⟨#[]⟩
    · by_cases hF : value = ⟨#[]⟩
      · simp [hD, hF] at hplain
        simp [go_sem, e1', ht, e3, hD, hF, hplain]
      · simp [hD, hF] at hplain
        subst hplain
        simp [go_sem, e1', ht, e3, hD, hF]
    · simp [hD] at hplain
      subst hplain
      simp [go_sem, e1', ht, e3, hD]
  rintro E3 st3 ⟨rfl, e1, e3, e4⟩
  have fin : ∀ r, aloneM op name value vals nk = r → (Ending.returned (.bool r) = .returned (.bool (aloneM op name value vals nk)) ∧ New st st3) := fun r h => ⟨by rw [h], hn⟩
  rw [hM]
  have hF : (value = ⟨#[]⟩) = True ∨ (value = ⟨#[]⟩) = False := by
    by_cases h : value = ⟨#[]⟩
    · exact .inl (eq_true h)
    · exact .inr (eq_false h)
  have O : op = 0 ∨ op = 1 ∨ op = 2 ∨ op = 3 ∨ op = 4 ∨ op = 5 ∨ op = 6 ∨ op = 7 ∨ ((op = 0) = False ∧ (op = 1) = False ∧ (op = 2) = False ∧ (op = 3) = False ∧ (op = 4) = False ∧ (op = 5) = False ∧ (op = 6) = False ∧ (op = 7) = False) := by
    by_cases h0 : op = 0; exact .inl h0
    by_cases h1 : op = 1; exact .inr (.inl h1)
    by_cases h2 : op = 2; exact .inr (.inr (.inl h2))
    by_cases h3 : op = 3; exact .inr (.inr (.inr (.inl h3)))
    by_cases h4 : op = 4; exact .inr (.inr (.inr (.inr (.inl h4))))
    by_cases h5 : op = 5; exact .inr (.inr (.inr (.inr (.inr (.inl h5)))))
    by_cases h6 : op = 6; exact .inr (.inr (.inr (.inr (.inr (.inr (.inl h6))))))
    by_cases h7 : op = 7; exact .inr (.inr (.inr (.inr (.inr (.inr (.inr (.inl h7)))))))
    exact .inr (.inr (.inr (.inr (.inr (.inr (.inr (.inr ⟨eq_false h0, eq_false h1, eq_false h2, eq_false h3, eq_false h4, eq_false h5, eq_false h6, eq_false h7⟩)))))))
  have hv3 := hv.new hn
  rcases O with rfl | rfl | rfl | rfl | rfl | rfl | rfl | rfl | ⟨o0, o1, o2, o3, o4, o5, o6, o7⟩
  · cases plain <;> simp [go_sem, e1, e3, e4, ht] <;> exact hn
  · cases named <;> simp [go_sem, e1, e3, e4, ht] <;> exact hn
  · cases named <;> simp [go_sem, e1, e3, e4, ht] <;> exact hn
  · cases named <;> simp [go_sem, e1, e3, e4, ht] <;> exact hn
  · cases named with
    | false => simp [go_sem, e1, e3, e4, ht]; exact hn
    | true =>
      rcases hF with hF | hF
      · simp [go_sem, e1, e3, e4, ht, hF]
        refine (values_spec hv3).mono ?_
        rintro e st4 ⟨rfl, rfl⟩
        simp [go_sem]
        exact hn
      · simp [go_sem, e1, e3, e4, ht, hF]; exact hn
  · cases plain <;> simp [go_sem, e1, e3, e4, ht] <;> exact hn
  · cases plain <;> simp [go_sem, e1, e3, e4, ht] <;> exact hn
  · cases plain <;> simp [go_sem, e1, e3, e4, ht] <;> first | exact hn | exact ⟨by omega, hn⟩
  · simp [go_sem, e1, e3, e4, ht, o0, o1, o2, o3, o4, o5, o6, o7]; exact hn
end
end Go.Proofs.YtadgciaclhjjkaaGreat
set_option linter.unusedVariables false
set_option linter.unusedSimpArgs false
set_option maxRecDepth 100000
set_option maxHeartbeats 2000000
namespace Go.Proofs.YtadgciaclhjjkaaGreat
open Go.RowKit (Below)

def sizesM (l : List ByteArray) : Nat := (l.map (·.size)).sum
mutual
def holdsM : Mat → Nat → Int → Int → Bool × Int × Int
  | .mk op name value vals kids, deep, n, b =>
    if 8 < deep ∨ n - 1 < 0 ∨ aloneM op name value vals kids.length = false then (false, n - 1, b)
    else if b - (name.size + value.size : Nat) - sizesM vals < 0 then (false, n - 1, b - (name.size + value.size : Nat) - sizesM vals)
    else kidsM kids (deep + 1) (n - 1) (b - (name.size + value.size : Nat) - sizesM vals)
def kidsM : List Mat → Nat → Int → Int → Bool × Int × Int
  | [], _, n, b => (true, n, b)
  | k :: ks, deep, n, b => match holdsM k deep n b with
    | (true, n', b') => kidsM ks deep n' b'
    | (false, n', b') => (false, n', b')
end
def checkM (m : Mat) : Bool := (holdsM m 1 64 4096).1
mutual
theorem holdsM_bound : ∀ (m : Mat) (deep : Nat) (n b : Int), (holdsM m deep n b).2.1 ≤ n - 1 ∧ (holdsM m deep n b).2.2 ≤ b ∧ ((holdsM m deep n b).1 = true → 0 ≤ (holdsM m deep n b).2.1 ∧ 0 ≤ (holdsM m deep n b).2.2)
  | .mk op name value vals kids, deep, n, b => by
    unfold holdsM
    split
    · simp
    · split
      · simp; omega
      · have := kidsM_bound kids (deep + 1) (n - 1) (b - (name.size + value.size : Nat) - sizesM vals)
        rename_i h1 h2
        refine ⟨by omega, by omega, fun h => this.2.2 h (by omega) (by omega)⟩
theorem kidsM_bound : ∀ (ms : List Mat) (deep : Nat) (n b : Int), (kidsM ms deep n b).2.1 ≤ n ∧ (kidsM ms deep n b).2.2 ≤ b ∧ ((kidsM ms deep n b).1 = true → 0 ≤ n → 0 ≤ b → 0 ≤ (kidsM ms deep n b).2.1 ∧ 0 ≤ (kidsM ms deep n b).2.2)
  | [], deep, n, b => by unfold kidsM; simp; intro h1 h2; exact ⟨h1, h2⟩
  | k :: ks, deep, n, b => by
    unfold kidsM
    have h1 := holdsM_bound k deep n b
    split
    · rename_i n' b' h
      rw [h] at h1
      simp only at h1
      obtain ⟨t1, t2, t3⟩ := kidsM_bound ks deep n' b'
      obtain ⟨u1, u2, u3⟩ := h1
      refine ⟨by omega, by omega, fun hh h2 h3 => t3 hh (u3 trivial).1 (u3 trivial).2⟩
    · rename_i n' b' h
      rw [h] at h1
      obtain ⟨u1, u2, u3⟩ := h1
      exact ⟨by omega, u2, fun hh => by simp at hh⟩
end
theorem aloneM_bound {op : Int} {name value : ByteArray} {vals : List ByteArray} {nk : Nat} (h : aloneM op name value vals nk = true) : name.size ≤ 32 ∧ value.size ≤ 64 ∧ vals.length ≤ 16 ∧ ∀ v ∈ vals, v.size ≤ 64 := by
  have hl : labelM name.data.toList = true → name.size ≤ 32 := by
    intro h
    unfold labelM at h
    simp only [Bool.and_eq_true, decide_eq_true_eq] at h
    have := h.1.1.2
    simpa using this
  have he : ∀ s : ByteArray, s = ⟨#[]⟩ → s.size = 0 := by rintro s rfl; rfl
  have hv : valuesM vals = true → vals.length ≤ 16 ∧ ∀ v ∈ vals, v.size ≤ 64 := by
    intro h
    unfold valuesM at h
    simp only [Bool.and_eq_true, decide_eq_true_eq, List.all_eq_true] at h
    exact ⟨h.1.1.2, h.1.2⟩
  have hz : ∀ {l : List ByteArray}, l.length = 0 → l.length ≤ 16 ∧ ∀ v ∈ l, v.size ≤ 64 := by
    intro l h
    have := List.eq_nil_of_length_eq_zero h
    subst this
    simp
  unfold aloneM at h
  simp only [Bool.and_eq_true, decide_eq_true_eq, if_true, if_false] at h
  split at h
  · simp only [Bool.and_eq_true, decide_eq_true_eq] at h
    have h1 := he _ h.1.1.1
    have h2 := he _ h.1.1.2
    exact ⟨by omega, by omega, hz h.1.2⟩
  split at h
  · simp only [Bool.and_eq_true, decide_eq_true_eq] at h
    exact ⟨hl h.1.1.1, h.1.1.2, hz h.2⟩
  split at h
  · simp only [Bool.and_eq_true, decide_eq_true_eq] at h
    exact ⟨hl h.1.1.1.1, h.1.1.1.2, hv h.2⟩
  split at h
  · simp only [Bool.and_eq_true, decide_eq_true_eq] at h
    have h1 := he _ h.1.1
    have h2 := he _ h.1.2
    exact ⟨by omega, by omega, hz h.2⟩
  split at h
  · simp only [Bool.and_eq_true, decide_eq_true_eq] at h
    have h1 := he _ h.1.1.1
    have h2 := he _ h.1.1.2
    exact ⟨by omega, by omega, hz h.1.2⟩
  · cases h
theorem sizesM_drop {l : List ByteArray} {i : Nat} (h : i < l.length) : sizesM (l.drop i) = l[i].size + sizesM (l.drop (i + 1)) := by
  rw [List.drop_eq_getElem_cons h]; rfl
theorem sizesM_bound {l : List ByteArray} (h : ∀ v ∈ l, v.size ≤ 64) : sizesM l ≤ 64 * l.length := by
  induction l with
  | nil => simp [sizesM]
  | cons v l ih =>
    have h1 := h v (by simp)
    have h2 := ih fun w hw => h w (by simp [hw])
    simp only [sizesM, List.map_cons, List.sum_cons, List.length_cons] at h2 ⊢
    omega
def roomC (n b : Int) (r : Nat) : HObj := .cells true [Val.i n, Val.i b] 2 (.own r 0 60)
section
variable {W0 : World}
/-- What holds leaves. -/
def HoldsR (st : Heap) (r : Nat) (R : Bool × Int × Int) (e : Ending) (st' : Heap) : Prop := e = .returned (.bool R.1) ∧ st' r = some (roomC R.2.1 R.2.2 r) ∧ But1 r st st'
theorem holds_spec (m : Mat) : ∀ {st : Heap} {cs : List Value} {r deep : Nat} {n b : Int}, MatAt st cs m → st r = some (roomC n b r) → 0 ≤ n → n < 2 ^ 40 → 0 ≤ b → b < 2 ^ 40 → deep ≤ 100 →
    ICalls Tryz.prog W0 174 #[ptr r, .agg cs.toArray, Val.i deep] st (HoldsR st r (holdsM m deep n b)) := by
  intro st cs r deep n b hm hr hn0 hn1 hb0 hb1 hdeep
  match m with
  | .mk op name value vals kids =>
  have hm0 := hm
  unfold MatAt at hm
  obtain ⟨vv, kv, ks, rfl, hv, hk, hkids⟩ := hm
  obtain ⟨vb, vc, rfl⟩ := hv.slice
  obtain ⟨kb, kc, rfl⟩ := hk.slice
  generalize hRES : holdsM (.mk op name value vals kids) deep n b = RES
  unfold holdsM at hRES
  have hwn : IntKind.i64.wrap (n - 1) = n - 1 := wrap_id (by omega) (by omega)
  refine enter (args := [_, _, _]) Tryz.func174 rfl ?_
  refine IW_cut (fun E' st' => ∃ tb, But1 r st st' ∧ tb ≠ r ∧ E' 0 = ptr r ∧ E' 2 = Val.i deep ∧ E' 4 = ptr tb ∧ st' tb = some (.cells true [Val.i op, .string name, .string value, .slice vb vals.length vc, .slice kb kids.length kc] 5 (.ty 0)) ∧ st' r = some (roomC n b r)) ?_ ?_
  · simp [go_sem]
    unfold NewP
    intro tb htb
    refine ⟨.ty 0, ?_⟩
    have hne : tb ≠ r := Ne.symm (ne_of_new hr htb)
    have hne' := Ne.symm hne
    simp [go_sem, hne, hne', hr]
    exact ⟨(But1.refl _ _).add htb, tb, hne, rfl, upd_same _ _ _⟩
  rintro E1 st1 ⟨tb, hk1, hne, e0, e2, e4, ht, hr1⟩
  refine IW_cut (fun E' st' => But1 r st st' ∧ E' 0 = ptr r ∧ E' 2 = Val.i deep ∧ E' 4 = ptr tb ∧ st' tb = some (.cells true [Val.i op, .string name, .string value, .slice vb vals.length vc, .slice kb kids.length kc] 5 (.ty 0)) ∧ st' r = some (roomC (n - 1) b r)) ?_ ?_
  · simp [go_sem, e0, e2, e4, hr1, roomC, hwn, hne]
    exact ⟨hk1.put, ht⟩
  clear hr1 ht hk1 e0 e2 e4
  rintro E2 st2 ⟨hk2, e0, e2, e4, ht, hr2⟩
  have hRb : ∀ x, RegF st 1 x (vals.map .string) vals.length → RegF st2 1 x (vals.map .string) vals.length := fun x h => h.but hk2 hr
  refine IW_cut' (fun E' st' => (¬ (8 < deep ∨ n - 1 < 0 ∨ aloneM op name value vals kids.length = false)) ∧ But1 r st st' ∧ E' 0 = ptr r ∧ E' 2 = Val.i deep ∧ E' 4 = ptr tb ∧ st' tb = some (.cells true [Val.i op, .string name, .string value, .slice vb vals.length vc, .slice kb kids.length kc] 5 (.ty 0)) ∧ st' r = some (roomC (n - 1) b r)) ?_ ?_
  · by_cases h1 : 8 < deep
    · have q1 : ((8 : Int) < deep) = True := eq_true (by omega)
      rw [if_pos (.inl h1)] at hRES
      subst hRES
      simp [go_sem, e0, e2, e4, q1]
      exact ⟨rfl, hr2, hk2⟩
    have q1 : ((8 : Int) < deep) = False := eq_false (by omega)
    by_cases h2 : n - 1 < 0
    · have q2 : (n - 1 < 0) = True := eq_true h2
      rw [if_pos (.inr (.inl h2))] at hRES
      subst hRES
      have hr2' := hr2
      unfold roomC at hr2'
      simp [go_sem, e0, e2, e4, q1, hr2', q2]
      exact ⟨rfl, hr2, hk2⟩
    have q2 : (n - 1 < 0) = False := eq_false h2
    have hr2' := hr2
    unfold roomC at hr2'
    simp [go_sem, e0, e2, e4, q1, hr2', q2, ht]
    refine (alone_spec (ks := ks) (hRb _ hv) (hk.but hk2 hr)).mono ?_
    rintro e st3 ⟨rfl, hn3⟩
    have hne2 : tb ≠ r := hne
    cases hal : aloneM op name value vals kids.length with
    | true =>
      simp [go_sem, e0, e2, e4]
      exact ⟨by omega, hk2.trans (hn3.but r), hn3 _ _ ht, hn3 _ _ hr2⟩
    | false =>
      rw [if_pos (.inr (.inr hal))] at hRES
      subst hRES
      simp [go_sem, e0, e2, e4]
      exact ⟨rfl, hn3 _ _ hr2, hk2.trans (hn3.but r)⟩
  clear hr2 ht hk2 e0 e2 e4 hRb
  rintro E3 st3 ⟨hcond, hk3, e0, e2, e4, ht, hr3⟩
  rw [if_neg hcond] at hRES
  have hal : aloneM op name value vals kids.length = true := by
    cases h : aloneM op name value vals kids.length with
    | true => rfl
    | false => exact absurd (.inr (.inr h)) hcond
  obtain ⟨z1, z2, z3, z4⟩ := aloneM_bound hal
  have z5 := sizesM_bound z4
  have hnv : IntKind.i64.wrap ((name.size : Int) + value.size) = (name.size : Int) + value.size := wrap_id (by omega) (by omega)
  have hbv : IntKind.i64.wrap (b - ((name.size : Int) + value.size)) = b - ((name.size : Int) + value.size) := wrap_id (by omega) (by omega)
  refine IW_cut (fun E' st' => But1 r st st' ∧ E' 0 = ptr r ∧ E' 2 = Val.i deep ∧ E' 4 = ptr tb ∧ st' tb = some (.cells true [Val.i op, .string name, .string value, .slice vb vals.length vc, .slice kb kids.length kc] 5 (.ty 0)) ∧ st' r = some (roomC (n - 1) (b - ((name.size : Int) + value.size)) r)) ?_ ?_
  · simp [go_sem]
    refine draw [0, 1, 2, 4, 7, 3, 5, 6, 8, 9, 10, 11, 12, 13, 14] (by kernel_rfl) ?_
    unfold roomC at hr3
    simp [go_sem, e0, e2, e4, hr3, ht, hnv, hbv, hne]
    exact ⟨hk3.put, rfl⟩
  clear hr3 ht hk3 e0 e2 e4
  rintro E4 st4 ⟨hk4, e0, e2, e4, ht, hr4⟩
  obtain ⟨b1, hb1'⟩ : ∃ b1, b - ((name.size : Int) + value.size) = b1 := ⟨_, rfl⟩
  rw [hb1'] at hr4
  have hb2 : b - (name.size + value.size : Nat) - sizesM vals = b1 - sizesM vals := by omega
  rw [hb2] at hRES
  refine IW_cut (fun E' st' => But1 r st st' ∧ E' 0 = ptr r ∧ E' 2 = Val.i deep ∧ E' 4 = ptr tb ∧ st' tb = some (.cells true [Val.i op, .string name, .string value, .slice vb vals.length vc, .slice kb kids.length kc] 5 (.ty 0)) ∧ st' r = some (roomC (n - 1) (b1 - sizesM vals) r)) ?_ ?_
  · simp [go_sem, e0, e2, e4, ht]
    refine ⟨fun E st' => But1 r st st' ∧ E 0 = ptr r ∧ E 2 = Val.i deep ∧ E 4 = ptr tb ∧ st' tb = some (.cells true [Val.i op, .string name, .string value, .slice vb vals.length vc, .slice kb kids.length kc] 5 (.ty 0)) ∧ E 47 = .slice vb vals.length vc ∧ E 48 = Val.i vals.length ∧ ∃ (i : Nat) (c : Int), E 49 = Val.i i ∧ i ≤ vals.length ∧ st' r = some (roomC (n - 1) c r) ∧ c - sizesM (vals.drop i) = b1 - sizesM vals ∧ c ≤ b1 ∧ b1 - sizesM vals ≤ c,
      fun E _ => match E 49 with | .int _ i => vals.length - i.toNat | _ => 0, ⟨st4, .rfl' _, hk4, by simp [go_sem, e0], by simp [go_sem, e2], by simp [go_sem, e4], ht, by simp [go_sem], by simp [go_sem], 0, b1, by simp [go_sem], by omega, hr4, by simp, by omega, by omega⟩, ?_⟩
    clear hr4 ht hk4 e0 e2 e4
    rintro E st5 ⟨hk5, e0, e2, e4, ht, e47, e48, i, c, e49, hi, hr5, hc, hc1, hc2⟩
    by_cases hlt : i < vals.length
    · have hlt' : ((i : Int) < vals.length) = True := eq_true (by omega)
      obtain ⟨blk, off, rfl, hg⟩ := src_get (hv.but hk5 hr).src (by omega)
      have hgi := hg i (by omega)
      have hvi : vals[i]? = some vals[i] := List.getElem?_eq_getElem hlt
      have hgv : (vals.map Value.string)[i]? = some (.string vals[i]) := by simp [hvi]
      rw [hgv] at hgi
      have hsz := sizesM_drop hlt
      have hvz := z4 vals[i] (List.getElem_mem hlt)
      generalize vals[i] = v at hgi hsz hvz
      have hwi : IntKind.i64.wrap ((i : Int) + 1) = ((i + 1 : Nat) : Int) := by rw [wrap_id (by omega) (by omega)]; omega
      have hwc : IntKind.i64.wrap (c - (v.size : Int)) = c - v.size := wrap_id (by omega) (by omega)
      have hr5' := hr5
      unfold roomC at hr5'
      simp [go_sem, e0, e2, e4, e47, e48, e49, hlt, hlt', hgi, hr5', hwi, hwc]
      refine ⟨_, .rfl' _, ⟨hk5.put, by rw [upd_ne _ _ hne]; exact ht, i + 1, by omega, by omega, c - v.size, by rw [upd_same]; rfl, by omega, by omega, by omega⟩, by omega⟩
    · have hlt' : ((i : Int) < vals.length) = False := eq_false (by omega)
      have : i = vals.length := by omega
      subst this
      have : sizesM (vals.drop vals.length) = 0 := by rw [List.drop_length]; rfl
      have hcb : c = b1 - sizesM vals := by omega
      subst hcb
      simp [go_sem, e0, e2, e4, e47, e48, e49]
      exact ⟨hk5, ht, hr5⟩
  clear hr4 ht hk4 e0 e2 e4
  rintro E5 st5 ⟨hk5, e0, e2, e4, ht, hr5⟩
  refine IW_cut' (fun E' st' => (¬ (b1 - sizesM vals < 0)) ∧ But1 r st st' ∧ E' 0 = ptr r ∧ E' 2 = Val.i deep ∧ E' 4 = ptr tb ∧ st' tb = some (.cells true [Val.i op, .string name, .string value, .slice vb vals.length vc, .slice kb kids.length kc] 5 (.ty 0)) ∧ st' r = some (roomC (n - 1) (b1 - sizesM vals) r)) ?_ ?_
  · have hr5' := hr5
    unfold roomC at hr5'
    by_cases h1 : b1 - sizesM vals < 0
    · have q1 : (b1 - sizesM vals < 0) = True := eq_true h1
      rw [if_pos h1] at hRES
      subst hRES
      simp [go_sem, e0, e2, e4, hr5', q1]
      exact ⟨rfl, hr5, hk5⟩
    · have q1 : (b1 - sizesM vals < 0) = False := eq_false h1
      simp [go_sem, e0, e2, e4, hr5', q1]
      exact ⟨hk5, ht, rfl⟩
  clear hr5 ht hk5 e0 e2 e4
  rintro E6 st6 ⟨hcond2, hk6, e0, e2, e4, ht, hr6⟩
  rw [if_neg hcond2] at hRES
  obtain ⟨b2, hb2'⟩ : ∃ b2, b1 - sizesM vals = b2 := ⟨_, rfl⟩
  rw [hb2'] at hRES hr6 hcond2
  simp [go_sem, e0, e2, e4, ht]
  have hd8 : deep ≤ 8 := by
    rcases Nat.lt_or_ge 8 deep with h | h
    · exact absurd (.inl h) hcond
    · exact h
  refine ⟨fun E st' => But1 r st st' ∧ E 0 = ptr r ∧ E 2 = Val.i deep ∧ E 69 = .slice kb kids.length kc ∧ E 70 = Val.i kids.length ∧ ∃ (i : Nat) (n' b' : Int), E 71 = Val.i i ∧ i ≤ kids.length ∧ st' r = some (roomC n' b' r) ∧ 0 ≤ n' ∧ n' < 2 ^ 40 ∧ 0 ≤ b' ∧ b' < 2 ^ 40 ∧ (i : Int) ≤ n - n' ∧ kidsM (kids.drop i) (deep + 1) n' b' = RES,
    fun E _ => match E 71 with | .int _ i => kids.length - i.toNat | _ => 0, ⟨st6, .rfl' _, hk6, by simp [go_sem, e0], by simp [go_sem, e2], by simp [go_sem], by simp [go_sem], 0, n - 1, b2, by simp [go_sem], by omega, hr6, by omega, by omega, by omega, by omega, by omega, by simpa using hRES⟩, ?_⟩
  clear hr6 ht hk6 e0 e2 e4
  rintro E st7 ⟨hk7, e0, e2, e69, e70, i, n', b', e71, hi, hr7, hn0', hn1', hb0', hb1', hin, hrec⟩
  by_cases hlt : i < kids.length
  · have hlt' : ((i : Int) < kids.length) = True := eq_true (by omega)
    have hkr := hk.but hk7 hr
    obtain ⟨g5, hg5, hl5, base5, cap5, hv5, hc5, hreg5⟩ := hkr
    injection hv5 with q1 q2 q3; subst q1; subst q3
    rcases hreg5 with h0 | ⟨blk, off, rw5, ys5, m5, rfl, hs5, hp5, ho5⟩
    · omega
    have hki : kids[i]? = some kids[i] := List.getElem?_eq_getElem hlt
    have hmem : kids[i] ∈ kids := List.getElem_mem hlt
    obtain ⟨hmi, hil⟩ := KidsAt.get (KidsAt.mono (fun _ _ _ _ h => h.but hk7 hr) _ _ hkids) hki
    have hd : kids.drop i = kids[i] :: kids.drop (i + 1) := List.drop_eq_getElem_cons hlt
    rw [hd] at hrec
    unfold kidsM at hrec
    have hcell : ((ys5.drop (off + i * 5)).take 5) = (ks.drop (i * 5)).take 5 := by
      obtain ⟨t, ht⟩ := hp5
      have a1 : i * 5 ≤ ks.length := by omega
      have a2 : 5 ≤ (ks.drop (i * 5)).length := by rw [List.length_drop]; omega
      rw [← List.drop_drop, ← ht, List.drop_append_of_le_length a1, List.take_append_of_le_length a2]
    have hlen5 : off + i * 5 + 5 ≤ ys5.length := by
      obtain ⟨t, ht⟩ := hp5
      have := congrArg List.length ht
      simp at this
      omega
    have hwi : IntKind.i64.wrap ((i : Int) + 1) = ((i + 1 : Nat) : Int) := by rw [wrap_id (by omega) (by omega)]; omega
    have hwd : IntKind.i64.wrap ((deep : Int) + 1) = ((deep + 1 : Nat) : Int) := by rw [wrap_id (by omega) (by omega)]; omega
    simp [go_sem, e0, e2, e69, e70, e71, hlt, hlt', hs5, hlen5, hcell]
    obtain ⟨⟨op', name', value', vals', kids'⟩, hkk⟩ : ∃ k, kids[i] = k := ⟨_, rfl⟩
    have hmi' := hmi
    rw [hkk] at hmi'
    unfold MatAt at hmi'
    obtain ⟨vv', kv', ks', hcs, hv', hk', -⟩ := hmi'
    obtain ⟨vb', vc', rfl⟩ := hv'.slice
    obtain ⟨kb', kc', rfl⟩ := hk'.slice
    rw [hcs] at hmi ⊢
    unfold NewP
    intro tk htk
    refine ⟨.ty 0, ?_⟩
    simp [go_sem, e0, e2, e69, e70, e71, hwd]
    have hkt : tk ≠ r := Ne.symm (ne_of_new hr7 htk)
    have hN : New st7 (upd st7 tk (.cells true [Val.i op', .string name', .string value', .slice vb' vals'.length vc', .slice kb' kids'.length kc'] 5 (.ty 0))) := (New.refl _).add htk
    have hB := holdsM_bound kids[i] (deep + 1) n' b'
    refine (holds_spec kids[i] (deep := deep + 1) (hmi.new hN) (hN _ _ hr7) hn0' hn1' hb0' hb1' (by omega)).mono ?_
    rintro e st8 ⟨rfl, hr8, hk8⟩
    generalize holdsM kids[i] (deep + 1) n' b' = H at *
    obtain ⟨ok, n8, b8⟩ := H
    obtain ⟨u1, u2, u3⟩ := hB
    simp only at u1 u2 u3 hr8 hrec
    have hk9 : But1 r st st8 := (hk7.trans (hN.but r)).trans hk8
    cases ok with
    | true =>
      obtain ⟨u4, u5⟩ := u3 rfl
      simp only at hrec
      simp [go_sem, e0, e2, e69, e70, e71, hwi]
      refine ⟨_, .rfl' _, ⟨hk9, i + 1, by omega, by omega, n8, b8, hr8, by omega, by omega, by omega, by omega, by omega, hrec⟩, by omega⟩
    | false =>
      simp only at hrec
      subst hrec
      simp [go_sem, e0, e2, e69, e70, e71]
      exact ⟨rfl, hr8, hk9⟩
  · have hlt' : ((i : Int) < kids.length) = False := eq_false (by omega)
    have : i = kids.length := by omega
    subst this
    rw [List.drop_length] at hrec
    unfold kidsM at hrec
    subst hrec
    simp [go_sem, e0, e2, e69, e70, e71]
    exact ⟨rfl, hr7, hk7⟩
termination_by SizeOf.sizeOf m
decreasing_by
  have := List.sizeOf_lt_of_mem hmem
  simp
  omega
end
end Go.Proofs.YtadgciaclhjjkaaGreat
