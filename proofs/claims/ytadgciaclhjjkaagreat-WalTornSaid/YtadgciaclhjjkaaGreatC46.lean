/- A region of any order: first ones that only make new rows, then one that waits for all of them, then ones that only reckon with what that one told. Plain definitions and theorems, over any program. -/
import Derived.Test.YtadgciaclhjjkaaGreatC24
import Derived.Test.YtadgciaclhjjkaaGreatC45
set_option linter.unusedVariables false
set_option linter.unusedSimpArgs false
namespace Go.Proofs.YtadgciaclhjjkaaGreat
open Go.RowKit (Below)
def tailU (ops : List Oper) (n : Nat) : Bool := (List.range ops.length).all fun t => decide (t < n) || ((List.range n).all fun j => (reach ops ops.length (after1 ops t)).contains j) && (decide (t = n) || (reach ops ops.length (after1 ops t)).contains n)
theorem putU_same (E : Env) (d : Nat) (v : Value) : E.put (some d) v d = v := by
  show E.set d v d = v
  simp [Env.set]
theorem putU_ne {E : Env} {o : Option Nat} {t : Nat} {v : Value} (h : o ≠ some t) : E.put o v t = E t := by
  cases o with
  | none => rfl
  | some d =>
    show E.set d v t = E t
    unfold Env.set
    rw [if_neg]
    rintro rfl
    exact h rfl
theorem drawU {P : Program} {W0 : World} {ops : List Oper} {Q : IPost} {Kp : PPost} {E0 : Env} {st0 : Heap} (n : Nat) (l : List Nat) (V : Nat → Value → Heap → Prop) (W : Value → Heap → Prop) (V2 : Nat → Value → Value → Prop) (on : Oper) (dn : Nat) (htopo : topoOK ops [] l = true) (hdst : dstOK ops = true) (htail : tailU ops n = true) (hon : ops[n]? = some on) (hdn : on.dst = some dn)
    (hst : ∀ i v st st', New st st' → V i v st → V i v st')
    (hstep : ∀ (i : Nat) (o : Oper), i < n → ops[i]? = some o → ∀ (E : Env) (st : Heap), New st0 st →
      (∀ e ∈ o.after.toList, bnds e = true → ∀ (oj : Oper) (dj : Nat), ops[e.on]? = some oj → oj.dst = some dj → V e.on (E dj) st) →
      (∀ t, (∀ (j : Nat) (oj : Oper), ops[j]? = some oj → oj.dst = some t → n ≤ j ∨ ∃ e ∈ oj.after.toList, bnds e = true ∧ e.on = i) → E t = E0 t) →
      (bif wantedE ops.toArray o E then opX P W0 o E (fun v st' => New st st' ∧ V i v st') Kp st else V i undef st))
    (hmid : ∀ (E : Env) (st : Heap), New st0 st → (∀ (i : Nat) (o : Oper) (d : Nat), i < n → ops[i]? = some o → o.dst = some d → V i (E d) st) → (∀ t, (∀ (j : Nat) (oj : Oper), ops[j]? = some oj → oj.dst = some t → n ≤ j) → E t = E0 t) → (bif wantedE ops.toArray on E then opX P W0 on E W Kp st else W undef st))
    (hrest : ∀ (i : Nat) (o : Oper), n < i → ops[i]? = some o → ∀ (E : Env) (st : Heap) (vn : Value), W vn st → E dn = vn →
      (∀ e ∈ o.after.toList, bnds e = true → n < e.on → ∀ (oj : Oper) (dj : Nat), ops[e.on]? = some oj → oj.dst = some dj → V2 e.on vn (E dj)) →
      (bif wantedE ops.toArray o E then opX P W0 o E (fun v st' => st' = st ∧ V2 i vn v) Kp st else V2 i vn undef))
    (hend : ∀ (E : Env) (st : Heap) (vn : Value), W vn st → (∀ (i : Nat) (o : Oper) (d : Nat), n < i → ops[i]? = some o → o.dst = some d → V2 i vn (E d)) → (∀ t, (∀ (j : Nat) (oj : Oper), ops[j]? = some oj → oj.dst ≠ some t) → E t = E0 t) → Q .normal E st)
    (hc : ∀ (j : Nat) (oj : Oper), ops[j]? = some oj → clsR P oj.op ≤ 3) : DrawI P W0 ops Q Kp E0 st0 := by
  have hnl := (List.getElem?_eq_some_iff.1 hon).1
  let Vi (done : List Nat) (E : Env) (st : Heap) : Prop := (∀ i ∈ done, i < n) ∧ New st0 st ∧ ∀ (i : Nat) (o : Oper) (d : Nat), i ∈ done → ops[i]? = some o → o.dst = some d → V i (E d) st
  let Vn (done : List Nat) (E : Env) (st : Heap) : Prop := n ∈ done ∧ ∃ vn, W vn st ∧ E dn = vn ∧ ∀ (i : Nat) (o : Oper) (d : Nat), n < i → i ∈ done → ops[i]? = some o → o.dst = some d → V2 i vn (E d)
  have htl : ∀ {i : Nat} {o : Oper} {done : List Nat}, n ≤ i → ops[i]? = some o → (∀ e ∈ o.after.toList, bnds e = true → e.on ∈ done) → (∀ (j : Nat) (oj : Oper), j ∈ done → ops[j]? = some oj → ∀ e ∈ oj.after.toList, bnds e = true → e.on ∈ done) → (∀ j, j < n → j ∈ done) ∧ (i = n ∨ n ∈ done) := by
    intro i o done hi ho hdeps hcl
    have hil := (List.getElem?_eq_some_iff.1 ho).1
    have h1 := List.all_eq_true.1 htail i (List.mem_range.2 hil)
    simp only [Bool.or_eq_true, Bool.and_eq_true, decide_eq_true_eq] at h1
    rcases h1 with h1 | ⟨h1, h2⟩
    · omega
    · refine ⟨fun j hj => reach_done hcl _ _ (after1_spec ho hdeps) j (by simpa using List.all_eq_true.1 h1 j (List.mem_range.2 hj)), ?_⟩
      rcases h2 with h2 | h2
      · exact .inl h2
      · exact .inr (reach_done hcl _ _ (after1_spec ho hdeps) n (by simpa using h2))
  refine drawJ l (fun done E st => (Vi done E st ∨ Vn done E st) ∧ ∀ t, (∀ (j : Nat) (oj : Oper), ops[j]? = some oj → oj.dst = some t → j ∉ done) → E t = E0 t) htopo ⟨.inl ⟨by simp, New.refl _, by simp⟩, fun _ _ => rfl⟩ ?_ ?_ hc
  · rintro i o ho done E st hnot hdeps hcl ⟨hJ, hE⟩
    have hil := (List.getElem?_eq_some_iff.1 ho).1
    have hE' : ∀ v, ∀ t, (∀ (j : Nat) (oj : Oper), ops[j]? = some oj → oj.dst = some t → j ∉ i :: done) → E.put o.dst v t = E0 t := fun v t ht => by
      rw [putU_ne (fun h => ht i o ho h (by simp))]
      exact hE t fun j oj hoj hd hm => ht j oj hoj hd (by simp [hm])
    -- what another operation left stays
    have stay : ∀ {k : Nat} {ok : Oper} {d : Nat} (v : Value), k ∈ done → ops[k]? = some ok → ok.dst = some d → E.put o.dst v d = E d := fun {k ok d} v hk hok hd => putU_ne fun h => hnot (dstOK_spec hdst ho hok h hd ▸ hk)
    rcases Nat.lt_trichotomy i n with hin | hin | hin
    · rcases hJ with ⟨hdn1, hN, hV⟩ | ⟨hm, _⟩
      · have hnext : ∀ (v : Value) (st' : Heap), New st st' → V i v st' → Vi (i :: done) (E.put o.dst v) st' := by
          intro v st' hk hv
          refine ⟨fun j hj => ?_, hN.trans hk, fun k ok d hkd hok hd => ?_⟩
          · rcases List.mem_cons.1 hj with rfl | hj
            · exact hin
            · exact hdn1 j hj
          · rcases List.mem_cons.1 hkd with rfl | hkd
            · rw [ho] at hok; injection hok with hok; subst hok
              rw [hd, putU_same]
              exact hv
            · rw [stay v hkd hok hd]
              exact hst _ _ _ _ hk (hV k ok d hkd hok hd)
        have hs := hstep i o hin ho E st hN (fun e he hb oj dj hoj hdj => hV e.on oj dj (hdeps e he hb) hoj hdj) (fun t ht => hE t fun j oj hoj hd hm => by
          rcases ht j oj hoj hd with h | ⟨e, he, hb, hon'⟩
          · have := hdn1 j hm; omega
          · have := hcl j oj hm hoj e he hb
            rw [hon'] at this
            exact hnot this)
        cases hw : wantedE ops.toArray o E with
        | true =>
          rw [hw] at hs
          simp only [cond_true] at hs ⊢
          exact opX_mono (hc i o ho) (fun v st' _ hk => ⟨.inl (hnext v st' hk.1 hk.2), hE' v⟩) (fun _ _ => id) hs
        | false =>
          rw [hw] at hs
          simp only [cond_false] at hs ⊢
          exact ⟨.inl (hnext undef st (New.refl _) hs), hE' _⟩
      · have h1 := (htl (Nat.le_refl n) hon (fun e he hb => hcl n on hm hon e he hb) hcl).1 i hin
        exact absurd h1 hnot
    · subst hin
      rw [hon] at ho
      injection ho with ho
      subst ho
      obtain ⟨hall, _⟩ := htl (Nat.le_refl _) hon hdeps hcl
      rcases hJ with ⟨hdn1, hN, hV⟩ | ⟨hm, _⟩
      · have hs := hmid E st hN (fun k ok d hk hok hd => hV k ok d (hall k hk) hok hd) (fun t ht => hE t fun j oj hoj hd hm => by
          have h1 := ht j oj hoj hd
          have h2 := hdn1 j hm
          omega)
        have hnext : ∀ (v : Value) (st' : Heap), W v st' → Vn (i :: done) (E.put on.dst v) st' := fun v st' hw => ⟨by simp, v, hw, by rw [hdn, putU_same], fun k ok d hk hkd hok hd => by
          rcases List.mem_cons.1 hkd with rfl | hkd
          · omega
          · have := hdn1 k hkd; omega⟩
        cases hw : wantedE ops.toArray on E with
        | true =>
          rw [hw] at hs
          simp only [cond_true] at hs ⊢
          exact opX_mono (hc _ on hon) (fun v st' _ hk => ⟨.inr (hnext v st' hk), hE' v⟩) (fun _ _ => id) hs
        | false =>
          rw [hw] at hs
          simp only [cond_false] at hs ⊢
          exact ⟨.inr (hnext undef st hs), hE' _⟩
      · exact absurd hm hnot
    · obtain ⟨hall, hmem⟩ := htl (by omega) ho hdeps hcl
      have hm : n ∈ done := by
        rcases hmem with h | h
        · omega
        · exact h
      rcases hJ with ⟨hdn1, _⟩ | ⟨_, vn, hW, hvn, hV⟩
      · have := hdn1 n hm; omega
      · have hs := hrest i o hin ho E st vn hW hvn (fun e he hb hne oj dj hoj hdj => hV e.on oj dj hne (hdeps e he hb) hoj hdj)
        have hnext : ∀ (v : Value), V2 i vn v → Vn (i :: done) (E.put o.dst v) st := fun v hv => ⟨by simp [hm], vn, hW, by rw [stay v hm hon hdn]; exact hvn, fun k ok d hk hkd hok hd => by
          rcases List.mem_cons.1 hkd with rfl | hkd
          · rw [ho] at hok; injection hok with hok; subst hok
            rw [hd, putU_same]
            exact hv
          · rw [stay v hkd hok hd]
            exact hV k ok d hk hkd hok hd⟩
        cases hw : wantedE ops.toArray o E with
        | true =>
          rw [hw] at hs
          simp only [cond_true] at hs ⊢
          refine opX_mono (hc i o ho) (fun v st' _ hk => ?_) (fun _ _ => id) hs
          obtain ⟨rfl, hk⟩ := hk
          exact ⟨.inr (hnext v hk), hE' v⟩
        | false =>
          rw [hw] at hs
          simp only [cond_false] at hs ⊢
          exact ⟨.inr (hnext undef hs), hE' _⟩
  · rintro done E st hall ⟨hJ, hE⟩
    rcases hJ with ⟨hdn1, _⟩ | ⟨_, vn, hW, hvn, hV⟩
    · have := hdn1 n (hall n hnl); omega
    · exact hend E st vn hW (fun i o d hi ho hd => hV i o d hi (hall i (List.getElem?_eq_some_iff.1 ho).1) ho hd) fun t ht => hE t fun j oj hoj hd => absurd hd (ht j oj hoj)
theorem oldU_spec {ops : List Oper} {t i n : Nat} (h : oldB (ops.take n) t i = true) : ∀ (j : Nat) (oj : Oper), ops[j]? = some oj → oj.dst = some t → n ≤ j ∨ ∃ e ∈ oj.after.toList, bnds e = true ∧ e.on = i :=
  fun j oj ho hd => by
    rcases Nat.lt_or_ge j n with hj | hj
    · exact .inr (oldB_spec h j oj (by rw [List.getElem?_take, if_pos hj]; exact ho) hd)
    · exact .inl hj
end Go.Proofs.YtadgciaclhjjkaaGreat
set_option linter.unusedVariables false
set_option linter.unusedSimpArgs false
set_option maxRecDepth 100000
set_option maxHeartbeats 4000000
namespace Go.Proofs.YtadgciaclhjjkaaGreat
open Go.RowKit (Below)
/-- The records that WalTorn writes. -/
def TorR (l : List RcD) : Prop := ∀ (i : Nat) r, l[i]? = some r → ∃ ls, GoodL ls ∧ r = lawR ((i : Int) + 1) i ls
theorem TorR.snoc {l : List RcD} (h : TorR l) {ls : List Lab} (hG : GoodL ls) : TorR (l ++ [lawR ((l.length : Int) + 1) l.length ls]) := fun i r hi => by
  by_cases hlt : i < l.length
  · rw [List.getElem?_append_left hlt] at hi
    exact h i r hi
  · have hi2 : i = l.length := by
      have := (List.getElem?_eq_some_iff.1 hi).1
      simp at this
      omega
    subst hi2
    simp at hi
    exact ⟨ls, hG, hi.symm⟩
theorem TorR.take {l : List RcD} (h : TorR l) (j : Nat) : TorR (l.take j) := fun i r hi => by
  rw [List.getElem?_take] at hi
  split at hi
  · exact h i r hi
  · cases hi
theorem TorR.good {l : List RcD} (h : TorR l) (hl : l.length < 1000) : ∀ r ∈ l, RcGood r ∧ (recB r).length ≤ 80 := fun r hr => by
  obtain ⟨k, hk⟩ := List.mem_iff_getElem?.1 hr
  have hkl := (List.getElem?_eq_some_iff.1 hk).1
  obtain ⟨ls, hG, rfl⟩ := h k r hk
  have y1 : I64 ((k : Int) + 1) := ⟨by omega, by omega⟩
  have y2 : I64 (k : Int) := ⟨by omega, by omega⟩
  exact ⟨lawR_good y1 y2 hG, lawR_len y1 y2 hG⟩
theorem encL_law {rs : List RcD} (h : ∀ r ∈ rs, RcGood r ∧ (recB r).length ≤ 80) : (encL rs).length ≤ 94 * rs.length := by
  induction rs with
  | nil => simp [encL]
  | cons r rs ih =>
    have h1 := h r (by simp)
    have h2 := recF_len h1.1
    have h3 := ih fun x hx => h x (by simp [hx])
    have e : encL (r :: rs) = recF r ++ encL rs := rfl
    rw [e, List.length_append, List.length_cons]
    omega
/-- So far. -/
def TorI (s : Heap) (f lp m : Nat) (x v : Value) : Prop := ∃ (i : Nat) (rs : List RcD) (ends : List Nat), i ≤ m ∧ x = Val.i i ∧ LogS s f lp 1 [] rs i ∧ TorR rs ∧ rs.length = i ∧ ends.length = i ∧ Vec s (.ty 5) 1 v (ends.map fun n => Val.i (n : Nat)) i ∧ ∀ (j e : Nat), ends[j]? = some e → e = (encL (rs.take (j + 1))).length
theorem RcsAt.cells {st : Heap} {cs : List Value} {rs : List RcD} (h : RcsAt st cs rs) {i : Nat} {r : RcD} (hi : rs[i]? = some r) : i * 18 + 18 ≤ cs.length ∧ cs[i * 18]? = some (Val.i r.seq) ∧ cs[i * 18 + 1]? = some (Val.i r.kind) ∧ cs[i * 18 + 3]? = some (Val.i r.row.at_) := by
  have h1 := h.1
  have hlt := (List.getElem?_eq_some_iff.1 hi).1
  obtain ⟨lb, hb, hc, kb, kc, kl, lc, hl, ll, rest, he, hr⟩ := (h.2 i r hi).parts
  have hle : i * 18 + 18 ≤ cs.length := by
    have : (i + 1) * 18 ≤ rs.length * 18 := Nat.mul_le_mul_right _ hlt
    omega
  have g : ∀ j, j < 18 → cs[i * 18 + j]? = ((cs.drop (i * 18)).take 18)[j]? := fun j hj => by rw [List.getElem?_take, if_pos hj, List.getElem?_drop]
  refine ⟨hle, ?_, ?_, ?_⟩
  · have := g 0 (by omega); rw [Nat.add_zero] at this; rw [this, he]; rfl
  · rw [g 1 (by omega), he]; rfl
  · rw [g 3 (by omega), he]; rfl
/-- What is there behind the count of whole records. -/
def TorP (s : Heap) (x y z : Value) : Prop := ∃ (rs : List RcD) (j k : Nat) (xb : Option Addr) (xc : Nat), TorR rs ∧ rs.length < 10 ∧ x = .slice xb (encL rs).length xc ∧ Vec s (.ty 1) 1 (.slice xb (encL rs).length xc) (bytesV (encL rs)) (encL rs).length ∧ y = Val.i k ∧ z = Val.i j ∧ j ≤ rs.length ∧ k ≤ (encL rs).length ∧ (encL (rs.take j)).length ≤ k ∧ (j < rs.length → k < (encL (rs.take (j + 1))).length)
theorem one_row {st : Heap} {g : Tg} {v : Value} {B : Bs} (h : Reg st g 1 v (bytesV B) B.length) (hl : B.length ≤ 1000000) : ∀ (i : Nat) (b : Bs) (w : Value), [B][i]? = some b → [v][i]? = some w → Reg st g 1 w (bytesV b) b.length ∧ b.length ≤ 1000000 := fun i b w hb hw => by
  match i with
  | 0 =>
    simp at hb hw
    subst hb; subst hw
    exact ⟨h, hl⟩
  | i + 1 => simp at hb
theorem bytesV_tk (b : Bs) (k : Nat) : bytesV (b.take k) = (bytesV b).take k := by unfold bytesV; rw [List.map_take]
section
variable {W0 : World} {st : Heap}
theorem walTorn_walk {n at_ : Int} : ICalls Tryz.prog W0 9 #[Val.i n, Val.i at_] st fun e st' => e = .returned (.bool true) := by
  have awk : ∀ {st : Heap}, ICalls Tryz.prog W0 20 #[] st fun e st' => e = .returned (.bool true) := awake17_spec.mono fun e st' h => h.1
  have hlog : (⟨#[108, 111, 103, 45]⟩ : ByteArray) = logB := rfl
  refine enter (args := [_, _]) Tryz.func9 rfl ?_
  iterate 10 refine IW_assoc ?_
  refine IW_cut (fun E' s => TorP s (E' 13) (E' 15) (E' 16)) ?_ ?_
  rotate_left
  · rintro E s ⟨rs, j, k, xb, xc, hO, hlen, e13, hX, e15, e16, hj, hk, hj1, hj2⟩
    have hgood := hO.good (by omega)
    have hBl := encL_law hgood
    obtain ⟨t, htk, htn, htl⟩ := take_log (fun r hr => (hgood r hr).1) hj hj1 hj2 hk
    have hkl : ((encL rs).take k).length = k := by rw [List.length_take]; omega
    simp [go_sem]
    refine drawU 7 [0, 1, 2, 3, 4, 5, 6, 7, 8, 9, 10, 11, 12] (fun ix vx st' => match ix with
      | 0 => vx = .string (nameT logB 1)
      | 1 => ∃ nb, vx = .slice (some ⟨nb, 0, none⟩) 1 1 ∧ st' nb = some (.cells true [.string (nameT logB 1)] 1 (.ty 1))
      | 2 => vx = .slice xb (encL rs).length xc
      | 3 => vx = Val.i k
      | 4 => vx = .slice xb k xc
      | 5 => ∃ b c, vx = .slice b k c ∧ Vec st' (.ty 1) 1 (.slice b k c) (bytesV ((encL rs).take k)) k
      | 6 => ∃ nb b c, vx = .slice (some ⟨nb, 0, none⟩) 1 1 ∧ st' nb = some (.cells true [.slice b k c] 1 (.ty 1)) ∧ Vec st' (.ty 1) 1 (.slice b k c) (bytesV ((encL rs).take k)) k
      | _ => True) (fun vn st' => ∃ f2, vn = .tuple #[ptr f2, Val.i 0] ∧ FSAt st' f2 (calm 1 [(encL rs).take k] c00)) (fun ix vn vx => match ix with
      | 8 => vx = vn
      | 9 | 11 => ∀ a b, vn = .tuple #[a, b] → vx = a
      | 10 | 12 => ∀ a b, vn = .tuple #[a, b] → vx = b
      | _ => True) _ 95 (by kernel_rfl) (by kernel_rfl) (by kernel_rfl) rfl rfl ?_ ?_ ?_ ?_ ?_ ?_
    · intro ix vx sta stb hNw h
      match ix with
      | 1 => obtain ⟨nb, h1, h2⟩ := h; exact ⟨nb, h1, hNw _ _ h2⟩
      | 5 => obtain ⟨b, c, h1, h2⟩ := h; exact ⟨b, c, h1, h2.new' hNw⟩
      | 6 => obtain ⟨nb, b, c, h1, h2, h3⟩ := h; exact ⟨nb, b, c, h1, hNw _ _ h2, h3.new' hNw⟩
      | 0 => exact h
      | 2 => exact h
      | 3 => exact h
      | 4 => exact h
      | ix + 7 => trivial
    · intro ix oo hin hi E sta hNw hd hE
      match ix with
      | 0 =>
        injection hi with hi; subst hi
        simp [wantedE, go_sem]
        refine walName_exact.mono ?_
        rintro e stx ⟨rfl, h2⟩
        simp [go_sem, hlog]
        exact h2
      | 1 =>
        injection hi with hi; subst hi
        have d0 := hd { on := 0, ground := .data } (by simp) (by decide) _ _ rfl rfl
        simp only at d0
        simp [wantedE, go_sem, d0]
        unfold NewS
        intro nb hnb
        refine ⟨.ty 1, ?_⟩
        simp [go_sem]
        exact (New.refl _).add hnb
      | 2 =>
        have x13 := hE 13 (oldU_spec (by kernel_rfl))
        injection hi with hi; subst hi
        simp [wantedE, go_sem, x13, e13]
        exact New.refl _
      | 3 =>
        have x15 := hE 15 (oldU_spec (by kernel_rfl))
        injection hi with hi; subst hi
        simp [wantedE, go_sem, x15, e15]
        exact New.refl _
      | 4 =>
        injection hi with hi; subst hi
        have d2 := hd { on := 2, ground := .data } (by simp) (by decide) _ _ rfl rfl
        have d3 := hd { on := 3, ground := .data } (by simp) (by decide) _ _ rfl rfl
        simp only at d2 d3
        simp [wantedE, go_sem, d2, d3]
        exact ⟨by have := hX.reg.cap; omega, New.refl _⟩
      | 5 =>
        injection hi with hi; subst hi
        have d4 := hd { on := 4, ground := .data } (by simp) (by decide) _ _ rfl rfl
        simp only at d4
        simp [wantedE, go_sem, d4]
        have hb5 := Bytes_new (W0 := W0) (.ty 1) (bs := (encL rs).take k) (v := .slice xb k xc) (by rw [hkl, bytesV_tk]; exact (hX.reg.new hNw).take hk) (by rw [hkl]; omega)
        rw [hkl] at hb5
        refine hb5.mono ?_
        rintro e s5 ⟨b5, c5, rfl, hV5, -, k5⟩
        simp [go_sem]
        exact ⟨k5, b5, c5, ⟨rfl, rfl⟩, hV5⟩
      | 6 =>
        injection hi with hi; subst hi
        have d5 := hd { on := 5, ground := .data } (by simp) (by decide) _ _ rfl rfl
        simp only at d5
        obtain ⟨b5, c5, d5, hv5⟩ := d5
        simp [wantedE, go_sem, d5]
        unfold NewS
        intro nb hnb
        refine ⟨.ty 1, ?_⟩
        have k6 := (New.refl sta).add (b := nb) (o := .cells true [.slice b5 k c5] 1 (.ty 1)) hnb
        simp [go_sem]
        exact ⟨k6, b5, c5, ⟨rfl, rfl⟩, hv5.new' k6⟩
      | ix + 7 => omega
    · intro E sta hNw hd hE
      have d1 := hd 1 _ 89 (by omega) rfl rfl
      have d6 := hd 6 _ 94 (by omega) rfl rfl
      simp only at d1 d6
      obtain ⟨nb1, d1, hn1⟩ := d1
      obtain ⟨nb6, b5, c5, d6, hn6, hv6⟩ := d6
      simp [wantedE, go_sem, d1, d6]
      obtain ⟨hlok, hfill⟩ := lay_one (fro := 1) (b := (encL rs).take k) (by omega) (by omega)
      have hvs := one_row (v := .slice b5 k c5) (B := (encL rs).take k) (by rw [hkl]; exact hv6.reg) (by omega)
      refine ICalls.mono (by simpa using Laid_spec (W0 := W0) (names := [nameT logB 1]) (datas := [(encL rs).take k]) (vs := [.slice b5 k c5]) (gn := .ty 1) (gd := .ty 1) (gb := .ty 1) (nb := some ⟨nb1, 0, none⟩) (db := some ⟨nb6, 0, none⟩) (nc := 1) (dc := 1) rfl rfl (Reg.row hn1 (by simp)) (Reg.row hn6 (by simp)) hvs Free.ty Free.ty Free.ty (by simp) hlok hfill) ?_
      rintro e s7 ⟨f2, rfl, hf2n, hF2, k7⟩
      simp [go_sem]
      exact hF2
    · intro ix oo hin hi E sta vn hW hvn hd
      match ix with
      | 0 => omega
      | 1 => omega
      | 2 => omega
      | 3 => omega
      | 4 => omega
      | 5 => omega
      | 6 => omega
      | 7 => omega
      | 8 =>
        injection hi with hi; subst hi
        obtain ⟨f2, rfl, hW⟩ := hW
        simp [wantedE, go_sem, hvn]
      | 9 =>
        injection hi with hi; subst hi
        obtain ⟨f2, rfl, hW⟩ := hW
        have d8 := hd { on := 8, ground := .data } (by simp) (by decide) (by decide) _ _ rfl rfl
        simp only at d8
        simp [wantedE, go_sem, d8]
      | 10 =>
        injection hi with hi; subst hi
        obtain ⟨f2, rfl, hW⟩ := hW
        have d8 := hd { on := 8, ground := .data } (by simp) (by decide) (by decide) _ _ rfl rfl
        simp only at d8
        simp [wantedE, go_sem, d8]
      | 11 =>
        injection hi with hi; subst hi
        obtain ⟨f2, rfl, hW⟩ := hW
        have d9 := hd { on := 9, ground := .data } (by simp) (by decide) (by decide) _ _ rfl rfl
        simp only at d9
        have d9 := d9 _ _ rfl
        simp [wantedE, go_sem, d9]
      | 12 =>
        injection hi with hi; subst hi
        obtain ⟨f2, rfl, hW⟩ := hW
        have d10 := hd { on := 10, ground := .data } (by simp) (by decide) (by decide) _ _ rfl rfl
        simp only at d10
        have d10 := d10 _ _ rfl
        simp [wantedE, go_sem, d10]
      | ix + 13 => simp at hi
    · intro E sta vn hW hd hE
      obtain ⟨f2, rfl, hF2⟩ := hW
      have x17 := hd 11 _ 17 (by omega) rfl rfl
      have x8 := hd 12 _ 8 (by omega) rfl rfl
      simp only at x17 x8
      have x17 := x17 _ _ rfl
      have x8 := x8 _ _ rfl
      have y16 := (hE 16 (noB_spec (by kernel_rfl))).trans e16
      have hF2' : FSAt sta f2 (calm 1 (filesL [] (rs.take j) t) c00) := by
        have e : filesL [] (rs.take j) t = [(encL rs).take k] := by simp [filesL, htk]
        rw [e]; exact hF2
      have hOt : TorR (rs.take j) := hO.take j
      have hlt : (rs.take j).length = j := by rw [List.length_take]; omega
      have hin2 : LogIn 1 [] (rs.take j) 10 := ⟨by omega, by omega, by omega, by simp, by simp; omega, fun r hr => by
        have := hOt.good (by omega) r (by simpa using hr)
        exact ⟨this.1, by omega⟩⟩
      clear hd hE hX hF2
      simp [go_sem, x17, x8]
      refine (open_calm hF2' hin2 htn (by omega)).mono ?_
      rintro e s1 ⟨hN1, lp1, v1, cs1, rfl, hlp1, hL1, hV1, hR1⟩
      simp only [List.flatten_nil, List.nil_append, hlt] at hV1
      obtain ⟨b1, n1, rfl⟩ := hV1.slice
      simp [go_sem, y16]
      refine (ready_calm Quiet.new (hF2'.keep (hN1.to fun _ => True) (by simp)) hL1 hin2 (by omega)).mono ?_
      rintro e s2 ⟨rfl, hS2, hk2⟩
      simp [go_sem]
      refine rec_spec.mono ?_
      rintro e s3 ⟨hN3, cs3, ls3, rfl, hR3, hG3⟩
      have z5 : I64 50 := ⟨by omega, by omega⟩
      have hlen3 := lawR_len z5 z5 hG3
      simp [go_sem]
      refine ((hS2.new hN3).append hR3 (lawR_good z5 z5 hG3) (by omega) (by omega) (by omega)).mono ?_
      rintro e s4 ⟨rfl, hS4, hk4⟩
      have hnx : nextL [] (rs.take j) (lawR 50 50 ls3) = ([], rs.take j ++ [lawR 50 50 ls3]) := by
        have h1 := encL_law (hOt.good (by omega))
        unfold nextL
        rw [if_neg (by omega)]
      rw [hnx] at hS4
      simp only at hS4
      simp [go_sem, x17]
      refine (crash_log (picks := []) (gp := .ty 1) (ops := 0) hS4 (by simp) Reg.nil (fun g => out_tyF) (by simp)).mono ?_
      rintro e s5 ⟨f5, rfl, hF5, hk5⟩
      simp [go_sem]
      refine (open_calm hF5 hS4.inn Torn.nil (by simp)).mono ?_
      rintro e s6 ⟨hN6, lp6, v6, cs6, rfl, hlp6, hL6, hV6, hR6⟩
      have hall : ([] : List (List RcD)).flatten ++ (rs.take j ++ [lawR 50 50 ls3]) = rs.take j ++ [lawR 50 50 ls3] := rfl
      rw [hall] at hV6 hR6
      have hl6 : (rs.take j ++ [lawR 50 50 ls3]).length = j + 1 := by rw [List.length_append, hlt]; rfl
      rw [hl6] at hV6
      obtain ⟨b6, n6, rfl⟩ := hV6.slice
      have hget : ((rs.take j ++ [lawR 50 50 ls3]).map plainR)[j]? = some (lawR 50 50 ls3) := by
        rw [List.map_append, List.getElem?_append_right (by rw [List.length_map, hlt]; omega), List.length_map, hlt, Nat.sub_self]
        simp [lawR_plain]
      obtain ⟨c0, c1, c2, c3⟩ := hR6.cells hget
      obtain ⟨blk, off, rfl, hg⟩ := src_get hV6.src (by omega)
      have g0 := hg (j * 18) (by omega)
      rw [c1] at g0
      simp only [lawR] at g0
      clear hg
      have hwj : IntKind.i64.wrap ((j : Int) + 1) = (j : Int) + 1 := wrap_id (by omega) (by omega)
      simp [go_sem, y16, hwj, g0]
      refine ⟨by omega, awk.mono ?_⟩
      rintro e s7 rfl
      simp [go_sem]
    · intro j oj hj
      match j with
      | 0 | 1 | 2 | 3 | 4 | 5 | 6 | 7 | 8 | 9 | 10 | 11 | 12 => simp at hj; subst hj; decide
      | j + 13 => simp at hj
  simp [Tryz.f9, go_sem]
  refine (Place_spec (k := 10) (by omega) (by omega)).mono ?_
  rintro e st0 ⟨⟨m, hm, rfl⟩, rfl⟩
  simp [go_sem]
  refine New_spec.mono ?_
  rintro e st1 ⟨f, rfl, hfn, hf1, hk1⟩
  simp [go_sem]
  rw [new_calm 1] at hf1
  refine (open_new hf1 (by omega) (by omega)).mono ?_
  rintro e st2 ⟨hN2, lp, b2, n2, rfl, hlp, hL2⟩
  have hf2 := hf1.keep (hN2.to fun _ => True) (by simp)
  simp [go_sem]
  refine (ready_new Quiet.new hf2 hL2 (by omega) (by omega)).mono ?_
  rintro e st3 ⟨rfl, hS3, hk3⟩
  simp [go_sem]
  have hm10 : m < 10 := by omega
  refine ⟨fun E s => E 0 = Val.i m ∧ E 1 = Val.i at_ ∧ E 5 = ptr f ∧ E 6 = ptr lp ∧ TorI s f lp m (E 10) (E 9),
    fun E _ => match E 10 with | .int _ j => m - j.toNat | _ => 0, ⟨st3, .rfl' _, by simp [go_sem], by simp [go_sem], by simp [go_sem], by simp [go_sem], 0, [], [], by omega, by simp [go_sem], hS3, fun i r hi => by simp at hi, rfl, rfl, by simp [go_sem]; exact Vec.nil, by simp⟩, ?_⟩
  clear hS3 hk3 hL2 hf2 hf1
  rintro E s ⟨e0, e1, e5, e6, i, rs, ends, him, e10, hS, hO, hlen, hel, hV, hends⟩
  by_cases hlt : i < m
  · have q : ((i : Int) < m) = True := eq_true (by omega)
    have hwi : IntKind.i64.wrap ((i : Int) + 1) = (i : Int) + 1 := wrap_id (by omega) (by omega)
    have hz1 : I64 ((i : Int) + 1) := ⟨by omega, by omega⟩
    have hz2 : I64 (i : Int) := ⟨by omega, by omega⟩
    simp [go_sem, e0, e1, e5, e6, e10, q, hlt, hwi]
    refine rec_spec.mono ?_
    rintro e s2 ⟨hN2, cs, ls, rfl, hR, hG⟩
    have hlen80 := lawR_len hz1 hz2 hG
    simp [go_sem]
    refine (LogS.append (hS.new hN2) hR (lawR_good hz1 hz2 hG) (by omega) (by omega) (by omega)).mono ?_
    rintro e s3 ⟨rfl, hS3, hk3⟩
    have hnx : nextL [] rs (lawR ((i : Int) + 1) i ls) = ([], rs ++ [lawR ((i : Int) + 1) i ls]) := by
      have h1 := encL_law (hO.good (by omega))
      unfold nextL
      rw [if_neg (by omega)]
    rw [hnx] at hS3
    simp only at hS3
    have hV3 := (hV.new' hN2).keep hk3 outL_ty
    simp [go_sem, e5]
    refine walName_exact.mono ?_
    rintro e s4 ⟨rfl, hN4⟩
    simp [go_sem, hlog]
    refine ICalls.mono (by simpa using (hS3.new hN4).read) ?_
    rintro e s5 ⟨hN5, xb, xc, rfl, hX⟩
    simp [go_sem]
    unfold NewS
    intro b0 hb0
    refine ⟨.ty 1, ?_⟩
    have k6 := (New.refl s5).add (b := b0) (o := .cells true [Val.i (encL (rs ++ [lawR ((i : Int) + 1) i ls])).length] 1 (.ty 1)) hb0
    have gb := upd_same s5 b0 (.cells true [Val.i (encL (rs ++ [lawR ((i : Int) + 1) i ls])).length] 1 (.ty 1))
    simp [go_sem]
    generalize upd s5 b0 (.cells true [Val.i (encL (rs ++ [lawR ((i : Int) + 1) i ls])).length] 1 (.ty 1)) = s6 at *
    have hS6 := (hS3.new (hN4.trans hN5)).new k6
    have hV6 := (hV3.new' (hN4.trans hN5)).new' k6
    obtain ⟨vb, vc, hve⟩ := hV6.slice
    rw [hve] at hV6
    refine AppI_vec (g := .ty 5) (m := 1) (ys := [Val.i (encL (rs ++ [lawR ((i : Int) + 1) i ls])).length]) si58 (by rw [hve]; exact hV6) (by simp [srcCells, lkN_mk, gb, cellsOf]) (by simp [Value.oneCell']) (by omega) ?_
    intro vb7 vc7 s7 hV7 hE7
    have K7 : Keep (fun g => g ≠ .ty 5) s6 s7 := hE7.toKeep (by simp)
    have hS7 : LogS s7 f lp 1 [] (rs ++ [lawR ((i : Int) + 1) i ls]) (i + 1) := by
      obtain ⟨h1, ⟨c, h2, h3⟩, en, h4⟩ := hS6
      exact ⟨h1, ⟨c, h2, h3.keep K7 (by simp)⟩, en, K7.get h4 (by simp)⟩
    simp [go_sem, e0, e1, e5, e6, e10, hwi]
    refine ⟨_, .rfl' _, ⟨i + 1, rs ++ [lawR ((i : Int) + 1) i ls], ends ++ [(encL (rs ++ [lawR ((i : Int) + 1) i ls])).length], by omega, by simp, hS7, ?_, by simp [hlen], by simp [hel], ?_, ?_⟩, by omega⟩
    · have := hO.snoc hG
      rw [hlen] at this
      exact this
    · rw [List.map_append]
      exact hV7
    · intro j e hj
      by_cases hji : j < ends.length
      · rw [List.getElem?_append_left hji] at hj
        rw [List.take_append_of_le_length (by omega)]
        exact hends j e hj
      · have hji2 : j = ends.length := by
          have := (List.getElem?_eq_some_iff.1 hj).1
          simp at this
          omega
        subst hji2
        simp at hj
        rw [List.take_of_length_le (by simp; omega)]
        exact hj.symm
  · have hq : i = m := by omega
    subst hq
    simp [go_sem, e0, e1, e5, e6, e10]
    have hgood := hO.good (by omega)
    have hBl := encL_law hgood
    refine walName_exact.mono ?_
    rintro e s4 ⟨rfl, hN4⟩
    simp [go_sem, hlog]
    refine ICalls.mono (by simpa using (hS.new hN4).read) ?_
    rintro e s5 ⟨hN5, xb, xc, rfl, hX⟩
    have hV5 := (hV.new' hN4).new' hN5
    have hwl : IntKind.i64.wrap (((encL rs).length : Int) + 1) = ((encL rs).length : Int) + 1 := wrap_id (by omega) (by omega)
    simp [go_sem, e1, hwl]
    refine (Place_spec (k := ((encL rs).length : Int) + 1) (by omega) (by omega)).mono ?_
    rintro e s6 ⟨⟨k, hk, rfl⟩, rfl⟩
    have hk' : k ≤ (encL rs).length := by omega
    obtain ⟨v9, e9⟩ : ∃ v, E 9 = v := ⟨_, rfl⟩
    rw [e9] at hV5
    simp [go_sem, e0, e1, e9]
    refine ⟨fun E s => E 0 = Val.i i ∧ E 9 = v9 ∧ s = s6 ∧ E 13 = .slice xb (encL rs).length xc ∧ E 15 = Val.i k ∧ ∃ j : Nat, E 16 = Val.i j ∧ j ≤ i ∧ (encL (rs.take j)).length ≤ k,
      fun E _ => match E 16 with | .int _ j => i - j.toNat | _ => 0, ⟨s6, .rfl' _, by simp [go_sem, e0], by simp [go_sem, e9], rfl, by simp [go_sem], by simp [go_sem], 0, by simp [go_sem], by omega, by simp [encL]⟩, ?_⟩
    clear hV hS e0 e1 e5 e6 e10 e9 E
    rintro E s ⟨e0, e9, rfl, e13, e15, j, e16, hj, hjk⟩
    obtain ⟨vb, vc, rfl⟩ := hV5.slice
    by_cases hji : j < i
    · have q1 : ((j : Int) < (i : Int)) = True := eq_true (by omega)
      have hwj : IntKind.i64.wrap ((j : Int) + 1) = (j : Int) + 1 := wrap_id (by omega) (by omega)
      obtain ⟨x, hx⟩ : ∃ x, ends[j]? = some x := ⟨_, List.getElem?_eq_getElem (by omega)⟩
      have hxe := hends j x hx
      obtain ⟨blk, off, rfl, hg⟩ := src_get hV5.src (by omega)
      have g0 := hg j (by omega)
      rw [List.getElem?_map, hx] at g0
      simp only [Option.map_some] at g0
      clear hg
      by_cases hc : x ≤ k
      · have q2 : ((x : Int) ≤ (k : Int)) = True := eq_true (by omega)
        simp [go_sem, e0, e9, e13, e15, e16, q1, q2, hji, hwj, g0, hc]
        exact ⟨_, .rfl' _, ⟨rfl, j + 1, by simp, by omega, by omega⟩, by omega⟩
      · have q2 : ((x : Int) ≤ (k : Int)) = False := eq_false (by omega)
        simp [go_sem, e0, e9, e13, e15, e16, q1, q2, hji, hwj, g0, hc]
        exact ⟨rs, j, k, xb, xc, hO, by omega, rfl, hX, rfl, rfl, by omega, hk', hjk, fun _ => by omega⟩
    · have hjq : j = i := by omega
      subst hjq
      have q1 : ((j : Int) < (j : Int)) = False := eq_false (by omega)
      simp [go_sem, e0, e9, e13, e15, e16, q1]
      exact ⟨rs, j, k, xb, xc, hO, by omega, rfl, hX, rfl, rfl, by omega, hk', hjk, fun h => by omega⟩
end
end Go.Proofs.YtadgciaclhjjkaaGreat
