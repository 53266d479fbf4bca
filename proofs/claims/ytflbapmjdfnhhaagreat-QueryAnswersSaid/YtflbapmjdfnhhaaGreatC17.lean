/- The document's own look at a matcher, and what is small enough to be asked: plain. -/
import Derived.Test.YtflbapmjdfnhhaaGreatC14
import Derived.Test.YtflbapmjdfnhhaaGreatC11
set_option linter.unusedVariables false
set_option linter.unusedSimpArgs false
set_option maxRecDepth 100000
set_option maxHeartbeats 2000000
namespace Go.Proofs.YtflbapmjdfnhhaaGreat
def textS (s : Nat × Bool) (k : Nat) : Nat × Bool := if 4096 < s.1 + k then (s.1, true) else (s.1 + k, s.2)
def textsS : List ByteArray → Nat × Bool → Nat × Bool
  | [], s => s
  | v :: vs, s => if s.2 = true then s else textsS vs (textS s v.size)
def bareM (name value : ByteArray) (vals : List ByteArray) (nk : Nat) (one many kids : Bool) : Bool :=
  (one || decide (value = ⟨#[]⟩)) && (one || many || decide (name = ⟨#[]⟩)) && (many || decide (vals.length = 0)) && (kids || decide (nk = 0))
mutual
def lookM : Mat → Nat → Nat → Nat → Bool → Nat × Nat × Bool
  | .mk op name value vals kids, deep, n, b, bad =>
    if bad = true ∨ 64 < n + 1 ∨ 8 < deep then (n + 1, b, true)
    else if op = 0 then (n + 1, b, !bareM name value vals kids.length false false false)
    else if op = 1 ∨ op = 2 ∨ op = 3 then (n + 1, textS (textS (b, !bareM name value vals kids.length true false false || !labelM name.data.toList || decide (64 < value.size)) name.size) value.size)
    else if op = 4 then (n + 1, textsS vals (textS (b, !bareM name value vals kids.length false true false || !labelM name.data.toList || !valuesM vals) name.size))
    else if op = 5 ∨ op = 6 ∨ op = 7 then looksM kids (deep + 1) (n + 1) b (!bareM name value vals kids.length false false true || (decide (op = 7) && !decide (kids.length = 1)))
    else (n + 1, b, true)
def looksM : List Mat → Nat → Nat → Nat → Bool → Nat × Nat × Bool
  | [], _, n, b, bad => (n, b, bad)
  | k :: ks, deep, n, b, bad => if bad = true then (n, b, bad) else looksM ks deep (lookM k deep n b bad).1 (lookM k deep n b bad).2.1 (lookM k deep n b bad).2.2
end
def refCheckM (m : Mat) : Bool := !(lookM m 1 0 0 false).2.2
theorem textsS_spec : ∀ (vs : List ByteArray) (b : Nat), b ≤ 4096 → textsS vs (b, false) = if 4096 < b + sizesM vs then ((textsS vs (b, false)).1, true) else (b + sizesM vs, false)
  | [], b, hb => by
    unfold textsS
    have : sizesM [] = 0 := rfl
    rw [this, if_neg (by omega)]
    simp
  | v :: vs, b, hb => by
    have hs : sizesM (v :: vs) = v.size + sizesM vs := by simp [sizesM]
    unfold textsS
    rw [if_neg (by simp), hs]
    unfold textS
    by_cases h : 4096 < b + v.size
    · rw [if_pos h, if_pos (by omega)]
      cases vs <;> simp [textsS]
    · rw [if_neg h]
      have := textsS_spec vs (b + v.size) (by omega)
      by_cases h2 : 4096 < b + v.size + sizesM vs
      · rw [if_pos h2] at this
        rw [if_pos (by omega)]
        exact this
      · rw [if_neg h2] at this
        rw [if_neg (by omega), this]
        simp; omega
theorem textsS_true (vs : List ByteArray) (b : Nat) : textsS vs (b, true) = (b, true) := by cases vs <;> simp [textsS]
theorem textS2 (b n v : Nat) (bad : Bool) (hb : b ≤ 4096) : (textS (textS (b, bad) n) v).2 = (bad || decide (4096 < b + n + v)) ∧ ((bad || decide (4096 < b + n + v)) = false → (textS (textS (b, bad) n) v).1 = b + n + v) := by
  unfold textS
  by_cases h1 : 4096 < b + n
  · simp only [h1, if_true]
    have : 4096 < b + n + v := by omega
    split <;> simp [this]
  · simp only [h1, if_false]
    by_cases h2 : 4096 < b + n + v
    · simp [h2]
    · simp [h2]
mutual
theorem look_holds : ∀ (m : Mat) (deep n b : Nat), n ≤ 64 → b ≤ 4096 → (holdsM m deep (64 - n : Nat) (4096 - b : Nat)).1 = !(lookM m deep n b false).2.2 ∧
    ((holdsM m deep (64 - n : Nat) (4096 - b : Nat)).1 = true → (lookM m deep n b false).1 ≤ 64 ∧ (lookM m deep n b false).2.1 ≤ 4096 ∧ (holdsM m deep (64 - n : Nat) (4096 - b : Nat)).2.1 = (64 - (lookM m deep n b false).1 : Nat) ∧ (holdsM m deep (64 - n : Nat) (4096 - b : Nat)).2.2 = (4096 - (lookM m deep n b false).2.1 : Nat))
  | .mk op name value vals kids, deep, n, b, hn, hb => by
    unfold holdsM lookM
    have he : ∀ s : ByteArray, s = ⟨#[]⟩ → s.size = 0 := by rintro s rfl; rfl
    by_cases h0 : 64 < n + 1 ∨ 8 < deep
    · have c1 : 8 < deep ∨ (64 - n : Nat) - (1 : Int) < 0 ∨ aloneM op name value vals kids.length = false := by omega
      rw [if_pos c1, if_pos (by simp; omega)]
      simp
    · have c2 : ¬ (false = true ∨ 64 < n + 1 ∨ 8 < deep) := by simp; omega
      rw [if_neg c2]
      by_cases ha : aloneM op name value vals kids.length = false
      · rw [if_pos (.inr (.inr ha))]
        refine ⟨?_, by simp⟩
        unfold aloneM at ha
        by_cases o0 : op = 0
        · rw [if_pos o0] at ha ⊢
          simp [bareM] at ha ⊢
          intro h1 h2 h3
          exact ha h2 h1 h3
        rw [if_neg o0] at ha ⊢
        by_cases o1 : op = 1 ∨ op = 2 ∨ op = 3
        · rw [if_pos o1] at ha ⊢
          simp only [Bool.false_eq]
          rw [(textS2 _ _ _ _ hb).1]
          simp [bareM] at ha ⊢
          exact fun h1 h2 h3 h4 => absurd h1 (ha h3 h4 h2)
        rw [if_neg o1] at ha ⊢
        by_cases o4 : op = 4
        · rw [if_pos o4] at ha ⊢
          simp only [Bool.false_eq]
          have : (!bareM name value vals kids.length false true false || !labelM name.data.toList || !valuesM vals) = true := by
            simp [bareM] at ha ⊢
            rcases Classical.em (value = ⟨#[]⟩) with e1 | e1
            · rcases Classical.em (kids = []) with e2 | e2
              · cases e3 : labelM name.data.toList with
                | false => exact .inl (.inr rfl)
                | true =>
                  right
                  have : value.size = 0 := by rw [e1]; rfl
                  exact ha e3 (by omega) e2 e1
              · exact .inl (.inl (.inr e2))
            · exact .inl (.inl (.inl e1))
          rw [this]
          unfold textS
          split <;> simp [textsS_true]
        rw [if_neg o4] at ha ⊢
        by_cases o5 : op = 5 ∨ op = 6 ∨ op = 7
        · rw [if_pos o5]
          have : (!bareM name value vals kids.length false false true || (decide (op = 7) && !decide (kids.length = 1))) = true := by
            simp [bareM]
            by_cases o7 : op = 7
            · rw [if_neg (by omega), if_pos o7] at ha
              simp at ha
              rcases Classical.em (value = ⟨#[]⟩) with e1 | e1
              · rcases Classical.em (name = ⟨#[]⟩) with e2 | e2
                · rcases Classical.em (vals = []) with e3 | e3
                  · exact .inr ⟨o7, ha e2 e1 e3⟩
                  · exact .inl (.inr e3)
                · exact .inl (.inl (.inr e2))
              · exact .inl (.inl (.inl e1))
            · rw [if_pos (by omega)] at ha
              simp at ha
              left
              rcases Classical.em (value = ⟨#[]⟩) with e1 | e1
              · rcases Classical.em (name = ⟨#[]⟩) with e2 | e2
                · exact .inr (ha e2 e1)
                · exact .inl (.inr e2)
              · exact .inl (.inl e1)
          rw [this]
          cases kids <;> simp [looksM]
        · rw [if_neg o5]; simp
      · have ha' : aloneM op name value vals kids.length = true := by simpa using ha
        have c1 : ¬ (8 < deep ∨ (64 - n : Nat) - (1 : Int) < 0 ∨ aloneM op name value vals kids.length = false) := by rw [ha']; simp; omega
        rw [if_neg c1]
        have hnn : (64 - n : Nat) - (1 : Int) = (64 - (n + 1) : Nat) := by omega
        have c3 : ((4096 - b : Nat) : Int) - (name.size + value.size : Nat) - sizesM vals < 0 ↔ 4096 < b + name.size + value.size + sizesM vals := by omega
        unfold aloneM at ha'
        by_cases o0 : op = 0
        · rw [if_pos o0] at ha' ⊢
          simp at ha'
          obtain ⟨⟨⟨rfl, rfl⟩, rfl⟩, rfl⟩ := ha'
          have z0 : (⟨#[]⟩ : ByteArray).size = 0 := rfl
          have z1 : sizesM [] = 0 := rfl
          rw [if_neg (by rw [c3, z0, z1]; omega)]
          unfold kidsM
          simp [bareM, z0, z1]
          omega
        rw [if_neg o0] at ha' ⊢
        by_cases o1 : op = 1 ∨ op = 2 ∨ op = 3
        · rw [if_pos o1] at ha' ⊢
          simp at ha'
          obtain ⟨⟨⟨hlab, hvs⟩, rfl⟩, rfl⟩ := ha'
          have z1 : sizesM [] = 0 := rfl
          have hf : (!bareM name value [] ([] : List Mat).length true false false || !labelM name.data.toList || decide (64 < value.size)) = false := by
            simp [bareM, hlab]; omega
          rw [hf]
          obtain ⟨t1, t2⟩ := textS2 b name.size value.size false hb
          by_cases h : 4096 < b + name.size + value.size
          · rw [if_pos (by rw [c3, z1]; omega)]
            simp only [t1]
            simp [h]
          · rw [if_neg (by rw [c3, z1]; omega)]
            have t3 := t2 (by simp [h])
            unfold kidsM
            simp only [t1, t3, z1]
            simp [h]
            omega
        rw [if_neg o1] at ha' ⊢
        by_cases o4 : op = 4
        · rw [if_pos o4] at ha' ⊢
          simp at ha'
          obtain ⟨⟨⟨⟨hlab, hvs⟩, rfl⟩, rfl⟩, hvals⟩ := ha'
          have z0 : (⟨#[]⟩ : ByteArray).size = 0 := rfl
          have hf : (!bareM name ⟨#[]⟩ vals ([] : List Mat).length false true false || !labelM name.data.toList || !valuesM vals) = false := by
            simp [bareM, hlab, hvals]
          rw [hf]
          unfold textS
          by_cases h : 4096 < b + name.size
          · rw [if_pos (by rw [c3, z0]; omega)]
            simp [h, textsS_true]
          · simp only [h, if_false]
            have := textsS_spec vals (b + name.size) (by omega)
            by_cases h2 : 4096 < b + name.size + sizesM vals
            · rw [if_pos h2] at this
              rw [if_pos (by rw [c3, z0]; omega), this]
              simp
            · rw [if_neg h2] at this
              rw [if_neg (by rw [c3, z0]; omega), this]
              unfold kidsM
              simp [z0]
              omega
        rw [if_neg o4] at ha' ⊢
        have hplain : (op = 5 ∨ op = 6 ∨ op = 7) ∧ name = ⟨#[]⟩ ∧ value = ⟨#[]⟩ ∧ vals = [] ∧ (op = 7 → kids.length = 1) := by
          by_cases o5 : op = 5 ∨ op = 6
          · rw [if_pos o5] at ha'
            simp at ha'
            exact ⟨by omega, ha'.1.1, ha'.1.2, ha'.2, by omega⟩
          rw [if_neg o5] at ha'
          by_cases o7 : op = 7
          · rw [if_pos o7] at ha'
            simp at ha'
            exact ⟨by omega, ha'.1.1.1, ha'.1.1.2, ha'.1.2, fun _ => ha'.2⟩
          · rw [if_neg o7] at ha'; simp at ha'
        obtain ⟨o5, rfl, rfl, rfl, hk1⟩ := hplain
        rw [if_pos o5]
        have z0 : (⟨#[]⟩ : ByteArray).size = 0 := rfl
        have z1 : sizesM [] = 0 := rfl
        have hf : (!bareM ⟨#[]⟩ ⟨#[]⟩ [] kids.length false false true || (decide (op = 7) && !decide (kids.length = 1))) = false := by
          simp [bareM]
          exact hk1
        rw [hf, if_neg (by rw [c3, z0, z1]; omega), hnn]
        have e2 : ((4096 - b : Nat) : Int) - ((⟨#[]⟩ : ByteArray).size + (⟨#[]⟩ : ByteArray).size : Nat) - (sizesM [] : Nat) = (4096 - b : Nat) := by rw [z0, z1]; omega
        rw [e2]
        exact looks_kids kids (deep + 1) (n + 1) b (by omega) hb
theorem looks_kids : ∀ (ms : List Mat) (deep n b : Nat), n ≤ 64 → b ≤ 4096 → (kidsM ms deep (64 - n : Nat) (4096 - b : Nat)).1 = !(looksM ms deep n b false).2.2 ∧
    ((kidsM ms deep (64 - n : Nat) (4096 - b : Nat)).1 = true → (looksM ms deep n b false).1 ≤ 64 ∧ (looksM ms deep n b false).2.1 ≤ 4096 ∧ (kidsM ms deep (64 - n : Nat) (4096 - b : Nat)).2.1 = (64 - (looksM ms deep n b false).1 : Nat) ∧ (kidsM ms deep (64 - n : Nat) (4096 - b : Nat)).2.2 = (4096 - (looksM ms deep n b false).2.1 : Nat))
  | [], deep, n, b, hn, hb => by
    unfold kidsM looksM
    simp [hn, hb]
  | k :: ks, deep, n, b, hn, hb => by
    unfold kidsM looksM
    obtain ⟨h1, h2⟩ := look_holds k deep n b hn hb
    rw [if_neg (by simp)]
    generalize hH : holdsM k deep (64 - n : Nat) (4096 - b : Nat) = H at *
    generalize hL : lookM k deep n b false = L at *
    obtain ⟨ok, n', b'⟩ := H
    obtain ⟨l1, l2, l3⟩ := L
    simp only at h1 h2
    cases ok with
    | false =>
      have : l3 = true := by simpa using h1
      subst this
      simp only
      cases ks <;> simp [looksM]
    | true =>
      have : l3 = false := by simpa using h1
      subst this
      obtain ⟨g1, g2, g3, g4⟩ := h2 rfl
      simp only
      subst g3 g4
      exact looks_kids ks deep l1 l2 g1 g2
end
theorem refCheck_eq (m : Mat) : refCheckM m = checkM m := by
  have := (look_holds m 1 0 0 (by omega) (by omega)).1
  unfold refCheckM checkM
  exact this.symm
/-! ### What is small enough to be asked -/
mutual
def tinyM : Mat → Nat → Nat → Bool × Nat
  | .mk op name value vals kids, n, deep => if 200 < n + 1 ∨ 11 < deep ∨ 300 < name.size ∨ 5000 < value.size ∨ 40 < vals.length then (false, n + 1)
    else if vals.all (fun v => decide (v.size ≤ 300)) = true then tinysM kids (n + 1) (deep + 1) else (false, n + 1)
def tinysM : List Mat → Nat → Nat → Bool × Nat
  | [], n, _ => (true, n)
  | m :: ms, n, deep => if (tinyM m n deep).1 = true then tinysM ms (tinyM m n deep).2 deep else (false, (tinyM m n deep).2)
end
/-- Small, and so deep at most. -/
def NiceM : Nat → Mat → Prop
  | 0, _ => False
  | d + 1, .mk op name value vals kids => name.size ≤ 300 ∧ value.size ≤ 5000 ∧ vals.length ≤ 40 ∧ (∀ v ∈ vals, v.size ≤ 300) ∧ kids.length ≤ 200 ∧ ∀ k ∈ kids, NiceM d k
mutual
theorem tinyM_spec : ∀ (m : Mat) (n deep : Nat), n < (tinyM m n deep).2 ∧ ((tinyM m n deep).1 = true → (tinyM m n deep).2 ≤ 200 ∧ NiceM (12 - deep) m)
  | .mk op name value vals kids, n, deep => by
    unfold tinyM
    split
    · simp
    rename_i h
    split
    · rename_i h2
      obtain ⟨t1, t2⟩ := tinysM_spec kids (n + 1) (deep + 1)
      refine ⟨by omega, fun hh => ?_⟩
      obtain ⟨u1, u3, u2⟩ := t2 hh (by omega)
      refine ⟨u1, ?_⟩
      have : 12 - deep = (12 - (deep + 1)) + 1 := by omega
      rw [this]
      unfold NiceM
      exact ⟨by omega, by omega, by omega, by simpa using h2, by omega, u2⟩
    · simp
theorem tinysM_spec : ∀ (ms : List Mat) (n deep : Nat), n ≤ (tinysM ms n deep).2 ∧ ((tinysM ms n deep).1 = true → n ≤ 200 → (tinysM ms n deep).2 ≤ 200 ∧ n + ms.length ≤ (tinysM ms n deep).2 ∧ ∀ k ∈ ms, NiceM (12 - deep) k)
  | [], n, deep => by unfold tinysM; simp
  | m :: ms, n, deep => by
    unfold tinysM
    obtain ⟨t1, t2⟩ := tinyM_spec m n deep
    split
    · rename_i h
      obtain ⟨u1, u2⟩ := t2 h
      obtain ⟨w1, w2⟩ := tinysM_spec ms (tinyM m n deep).2 deep
      refine ⟨by omega, fun hh hn => ?_⟩
      obtain ⟨x1, x3, x2⟩ := w2 hh u1
      refine ⟨x1, by simp only [List.length_cons]; omega, fun k hk => ?_⟩
      rcases List.mem_cons.1 hk with rfl | hk
      · exact u2
      · exact x2 k hk
    · simp; omega
end
end Go.Proofs.YtflbapmjdfnhhaaGreat
set_option linter.unusedVariables false
set_option linter.unusedSimpArgs false
set_option maxRecDepth 100000
set_option maxHeartbeats 2000000
namespace Go.Proofs.YtflbapmjdfnhhaaGreat
open Go.RowKit (Below)
def NInv (s : ByteArray) (i : Nat) : Prop := (i = 0 ∨ ¬ (48 ≤ (s.data.toList.getD 0 0).toNat ∧ (s.data.toList.getD 0 0).toNat ≤ 57)) ∧ (s.data.toList.all fun x => okChar x.toNat) = ((s.data.toList.drop i).all fun x => okChar x.toNat)
section
variable {W0 : World} {st : Heap}
theorem refName_spec {s : ByteArray} (hs : s.size < 2 ^ 60) : ICalls Tryz.prog W0 36 #[.string s] st fun e st' => e = .returned (.bool (labelM s.data.toList)) ∧ st' = st := by
  refine enter (args := [_]) Tryz.func36 rfl ?_
  have hsz : s.data.toList.length = s.size := by simp
  generalize hres : labelM s.data.toList = res
  unfold labelM at hres
  rw [hsz] at hres
  simp [Tryz.f36, go_sem]
  refine ⟨fun E st' => st' = st ∧ E 0 = .string s ∧ ∃ i : Nat, E 3 = Val.i i ∧ i ≤ s.size ∧ NInv s i,
    fun E _ => match E 3 with | .int _ i => s.size - i.toNat | _ => 0, ⟨st, .rfl' _, rfl, by simp [go_sem], 0, by simp [go_sem], by omega, .inl rfl, by simp⟩, ?_⟩
  rintro E st' ⟨rfl, e0, i, e3, hi, hf, hall⟩
  by_cases hlt : i < s.size
  · have hlt' : ((i : Int) < s.size) = True := eq_true (by omega)
    have hbi := btOf_eq s i hlt
    have hwi : IntKind.i64.wrap ((i : Int) + 1) = ((i + 1 : Nat) : Int) := by rw [wrap_id (by omega) (by omega)]; omega
    have hd : s.data.toList.drop i = s.data.toList[i]'(by omega) :: s.data.toList.drop (i + 1) := List.drop_eq_getElem_cons (by omega)
    have hgc : s.data.toList.getD i 0 = s.data.toList[i]'(by omega) := by rw [List.getD_eq_getElem?_getD, List.getElem?_eq_getElem (by omega)]; rfl
    rw [hd, List.all_cons, ← hgc] at hall
    generalize hc : (s.data.toList.getD i 0).toNat = c at hbi hall
    have hbad : okChar c = false → res = false := fun h => by rw [← hres, hall, h]; simp
    have hfirst : i = 0 → 48 ≤ c → c ≤ 57 → res = false := fun h0 h1 h2 => by
      subst h0
      rw [← hres, hc]; simp [h1, h2]
    have hgo : (i = 0 → ¬ (48 ≤ c ∧ c ≤ 57)) → okChar c = true → NInv s (i + 1) := fun h1 h2 => by
      refine ⟨.inr ?_, by rw [hall, h2]; simp⟩
      rcases hf with hf | hf
      · have := h1 hf
        subst hf
        rw [hc]; exact this
      · exact hf
    by_cases u : c = 95
    · have qu : ((c : Int) = 95) = True := eq_true (by omega)
      have := hgo (fun _ => by omega) (by unfold okChar; simp [u])
      simp [go_sem, e0, e3, hlt, hlt', hbi, qu, hwi]
      exact ⟨_, .rfl' _, ⟨rfl, i + 1, by omega, by omega, this⟩, by omega⟩
    have qu : ((c : Int) = 95) = False := eq_false (by omega)
    by_cases l : 97 ≤ c ∧ c ≤ 122
    · have q1 : ((c : Int) < 97) = False := eq_false (by omega)
      have q2 : ((122 : Int) < c) = False := eq_false (by omega)
      have := hgo (fun _ => by omega) (by unfold okChar; simp [l.1, l.2])
      simp [go_sem, e0, e3, hlt, hlt', hbi, qu, q1, q2, hwi]
      exact ⟨_, .rfl' _, ⟨rfl, i + 1, by omega, by omega, this⟩, by omega⟩
    have ql : (((c : Int) < 97) = True) ∨ (((c : Int) < 97) = False ∧ ((122 : Int) < c) = True) := by
      by_cases h : c < 97
      · exact .inl (eq_true (by omega))
      · exact .inr ⟨eq_false (by omega), eq_true (by omega)⟩
    by_cases d : 48 ≤ c ∧ c ≤ 57
    · have p1 : ((c : Int) < 48) = False := eq_false (by omega)
      have p2 : ((57 : Int) < c) = False := eq_false (by omega)
      by_cases h0 : i = 0
      · have p3 : ((i : Int) = 0) = True := eq_true (by omega)
        have := hfirst h0 d.1 d.2
        subst this
        have q0 : (i = 0) = True := eq_true h0
        rcases ql with q1 | ⟨q1, q2⟩
        · simp [go_sem, e0, e3, hlt, hlt', hbi, qu, q1, p1, p2, p3, q0]
        · simp [go_sem, e0, e3, hlt, hlt', hbi, qu, q1, q2, p1, p2, p3, q0]
      · have p3 : ((i : Int) = 0) = False := eq_false (by omega)
        have := hgo (fun h => absurd h h0) (by unfold okChar; simp [d.1, d.2])
        rcases ql with q1 | ⟨q1, q2⟩
        · simp [go_sem, e0, e3, hlt, hlt', hbi, qu, q1, p1, p2, p3, h0, hwi]
          exact ⟨_, .rfl' _, ⟨rfl, i + 1, by omega, by omega, this⟩, by omega⟩
        · simp [go_sem, e0, e3, hlt, hlt', hbi, qu, q1, q2, p1, p2, p3, h0, hwi]
          exact ⟨_, .rfl' _, ⟨rfl, i + 1, by omega, by omega, this⟩, by omega⟩
    · have := hbad (by unfold okChar; simp; omega)
      subst this
      have qd : (((c : Int) < 48) = True) ∨ (((c : Int) < 48) = False ∧ ((57 : Int) < c) = True) := by
        by_cases h : c < 48
        · exact .inl (eq_true (by omega))
        · exact .inr ⟨eq_false (by omega), eq_true (by omega)⟩
      rcases ql with q1 | ⟨q1, q2⟩ <;> rcases qd with p1 | ⟨p1, p2⟩
      · simp [go_sem, e0, e3, hlt, hlt', hbi, qu, q1, p1]
      · simp [go_sem, e0, e3, hlt, hlt', hbi, qu, q1, p1, p2]
      · simp [go_sem, e0, e3, hlt, hlt', hbi, qu, q1, q2, p1]
      · simp [go_sem, e0, e3, hlt, hlt', hbi, qu, q1, q2, p1, p2]
  · have hlt' : ((i : Int) < s.size) = False := eq_false (by omega)
    have : i = s.size := by omega
    subst this
    rw [List.drop_eq_nil_of_le (by omega)] at hall
    have h1 : res = (decide (1 ≤ s.size) && decide (s.size ≤ 32)) := by
      rw [← hres, hall]
      rcases hf with hf | hf
      · have : decide (1 ≤ s.size) = false := decide_eq_false (by omega)
        rw [this]; simp
      · have : (decide (48 ≤ (s.data.toList.getD 0 0).toNat) && decide ((s.data.toList.getD 0 0).toNat ≤ 57)) = false := by
          rw [← Bool.not_eq_true, Bool.and_eq_true, decide_eq_true_eq, decide_eq_true_eq]; exact hf
        rw [this]; simp
    subst h1
    by_cases z : 1 ≤ s.size
    · have q1 : ((1 : Int) ≤ s.size) = True := eq_true (by omega)
      by_cases z2 : s.size ≤ 32
      · have q2 : ((s.size : Int) ≤ 32) = True := eq_true (by omega)
        simp [go_sem, e0, e3, q1, q2, z, z2]
      · have q2 : ((s.size : Int) ≤ 32) = False := eq_false (by omega)
        simp [go_sem, e0, e3, q1, q2, z, z2]
    · have q1 : ((1 : Int) ≤ s.size) = False := eq_false (by omega)
      simp [go_sem, e0, e3, q1, z]
theorem refValues_spec {vv : Value} {l : List ByteArray} (h : RegF st 1 vv (l.map .string) l.length) : ICalls Tryz.prog W0 40 #[vv] st fun e st' => e = .returned (.bool (valuesM l)) ∧ st' = st := by
  obtain ⟨base, cap, rfl⟩ := h.slice
  refine enter (args := [_]) Tryz.func40 rfl ?_
  generalize hres : valuesM l = res
  unfold valuesM at hres
  by_cases h1 : l.length < 1
  · have q1 : ((l.length : Int) < 1) = True := eq_true (by omega)
    have : res = false := by rw [← hres]; have : decide (1 ≤ l.length) = false := decide_eq_false (by omega)
                             rw [this]; simp
    subst this
    simp [Tryz.f40, go_sem, q1]
  have q1 : ((l.length : Int) < 1) = False := eq_false (by omega)
  by_cases h2 : 16 < l.length
  · have q2 : ((16 : Int) < l.length) = True := eq_true (by omega)
    have : res = false := by rw [← hres]; have : decide (l.length ≤ 16) = false := by simp; omega
                             rw [this]; simp
    subst this
    simp [Tryz.f40, go_sem, q1, q2]
  have q2 : ((16 : Int) < l.length) = False := eq_false (by omega)
  have hall : ((l.drop 0).all (fun v => decide (v.size ≤ 64)) && risesT (l.drop (0 - 1))) = res := by
    rw [← hres]
    have e1 : decide (1 ≤ l.length) = true := by simp; omega
    have e2 : decide (l.length ≤ 16) = true := by simp; omega
    rw [e1, e2]; simp
  simp [Tryz.f40, go_sem, q1, q2]
  obtain ⟨blk, off, rfl, hg⟩ := src_get h.src (by omega)
  refine ⟨fun E st' => st' = st ∧ E 0 = .slice (some ⟨blk, off, none⟩) l.length cap ∧ ∃ i : Nat, E 3 = Val.i i ∧ i ≤ l.length ∧ ((l.drop i).all (fun v => decide (v.size ≤ 64)) && risesT (l.drop (i - 1))) = res,
    fun E _ => match E 3 with | .int _ i => l.length - i.toNat | _ => 0, ⟨st, .rfl' _, rfl, by simp [go_sem], 0, by simp [go_sem], by omega, hall⟩, ?_⟩
  rintro E st' ⟨rfl, e0, i, e3, hi, hrec⟩
  by_cases hlt : i < l.length
  · have hlt' : ((i : Int) < l.length) = True := eq_true (by omega)
    have hgi := hg i (by omega)
    have hv : l[i]? = some l[i] := List.getElem?_eq_getElem hlt
    have hgv : (l.map Value.string)[i]? = some (.string l[i]) := by simp [hv]
    rw [hgv] at hgi
    have hd : l.drop i = l[i] :: l.drop (i + 1) := List.drop_eq_getElem_cons hlt
    rw [hd] at hrec
    simp only [List.all_cons] at hrec
    obtain ⟨v, hvv⟩ : ∃ v, l[i] = v := ⟨_, rfl⟩
    rw [hvv] at hgi hrec hd
    have hwi : IntKind.i64.wrap ((i : Int) + 1) = ((i + 1 : Nat) : Int) := by rw [wrap_id (by omega) (by omega)]; omega
    by_cases hbig : 64 < v.size
    · have p1 : ((64 : Int) < v.size) = True := eq_true (by omega)
      have : res = false := by rw [← hrec]; have : decide (v.size ≤ 64) = false := by simp; omega
                               rw [this]; simp
      subst this
      simp [go_sem, e0, e3, hlt, hlt', hgi, p1]
      refine draw [0, 1, 2, 3, 4, 5, 6, 7, 8, 9, 10, 11, 12, 14, 15, 16, 17, 13, 18, 19, 20, 21] (by kernel_rfl) ?_
      simp [go_sem, e0, e3, hlt, hlt', hgi, p1]
    have p1 : ((64 : Int) < v.size) = False := eq_false (by omega)
    have hsm : decide (v.size ≤ 64) = true := by simp; omega
    rw [hsm] at hrec
    simp only [Bool.true_and] at hrec
    by_cases hi0 : i = 0
    · have p2 : (0 < i) = False := eq_false (by omega)
      simp [go_sem, e0, e3, hlt, hlt', hgi, p1, p2, hwi]
      refine draw [0, 1, 2, 3, 4, 5, 6, 7, 8, 9, 10, 11, 12, 14, 15, 16, 17, 13, 18, 19, 20, 21] (by kernel_rfl) ?_
      simp [go_sem, e0, e3, hlt, hlt', hgi, p1, p2, hwi]
      refine ⟨st', .rfl' _, ⟨rfl, i + 1, by omega, by omega, ?_⟩, by omega⟩
      subst hi0
      simpa using hrec
    · have p2 : (0 < i) = True := eq_true (by omega)
      have hwm : IntKind.i64.wrap ((i : Int) - 1) = ((i - 1 : Nat) : Int) := by rw [wrap_id (by omega) (by omega)]; omega
      have hltm : i - 1 < l.length := by omega
      have hgm := hg (i - 1) (by omega)
      have hp : l[i - 1]? = some l[i - 1] := List.getElem?_eq_getElem hltm
      have hgp : (l.map Value.string)[i - 1]? = some (.string l[i - 1]) := by simp [hp]
      rw [hgp] at hgm
      obtain ⟨p, hpp⟩ : ∃ p, l[i - 1] = p := ⟨_, rfl⟩
      rw [hpp] at hgm
      have hd2 : l.drop (i - 1) = p :: v :: l.drop (i + 1) := by
        rw [List.drop_eq_getElem_cons hltm, hpp, show i - 1 + 1 = i by omega, hd]
      rw [hd2] at hrec
      simp only [risesT] at hrec
      have hle := leT_not v p
      have hmI : ((i - 1 : Nat) : Int) < l.length := by omega
      cases hlt2 : ltT p v with
      | false =>
        rw [hlt2] at hrec hle
        have : res = false := by rw [← hrec]; simp
        subst this
        simp [go_sem, e0, e3, hlt, hlt', hgi, p1, p2, hwi, hwm, hgm, hltm, hle]
        refine draw [0, 1, 2, 3, 4, 5, 6, 7, 8, 9, 10, 11, 12, 14, 15, 16, 17, 13, 18, 19, 20, 21] (by kernel_rfl) ?_
        simp [go_sem, e0, e3, hlt, hlt', hgi, p1, p2, hwi, hwm, hgm, hltm, hle]
      | true =>
        rw [hlt2] at hrec hle
        simp [go_sem, e0, e3, hlt, hlt', hgi, p1, p2, hwi, hwm, hgm, hltm, hle]
        refine draw [0, 1, 2, 3, 4, 5, 6, 7, 8, 9, 10, 11, 12, 14, 15, 16, 17, 13, 18, 19, 20, 21] (by kernel_rfl) ?_
        simp [go_sem, e0, e3, hlt, hlt', hgi, p1, p2, hwi, hwm, hgm, hltm, hle]
        refine ⟨st', .rfl' _, ⟨rfl, i + 1, by omega, by omega, ?_⟩, by omega⟩
        rw [show i + 1 - 1 = i by omega, hd]
        simpa using hrec
  · have hlt' : ((i : Int) < l.length) = False := eq_false (by omega)
    have : i = l.length := by omega
    subst this
    rw [List.drop_eq_nil_of_le (Nat.le_refl _)] at hrec
    have : risesT (l.drop (l.length - 1)) = true := by
      have : (l.drop (l.length - 1)).length = 1 := by simp; omega
      match l.drop (l.length - 1), this with
      | [x], _ => rfl
    rw [this] at hrec
    simp at hrec
    subst hrec
    simp [go_sem, e0, e3]
end
end Go.Proofs.YtflbapmjdfnhhaaGreat
