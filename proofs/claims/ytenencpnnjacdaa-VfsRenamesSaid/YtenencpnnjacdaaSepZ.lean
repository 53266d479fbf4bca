/- The model's operations in plain forms, third part: append, copy, conversions, indexes, slicing, maps, calls. -/
import Derived.Test.YtenencpnnjacdaaSepY
set_option linter.unusedVariables false
set_option linter.unusedSimpArgs false
namespace Go.Proofs.Ytenencpnnjacdaa
open Go.RowKit (Below)

theorem upd_upd (st : Heap) (b : Nat) (o o' : HObj) : upd (upd st b o) b o' = upd st b o' := by
  funext k; unfold upd; split <;> rfl
theorem upd_self {st : Heap} {b : Nat} {o : HObj} (h : st b = some o) : upd st b o = st := by
  funext k; unfold upd; split
  · rename_i hk; rw [hk, h]
  · rfl

/-! ### Several cells written one behind the other -/
theorem stN_onto {b : Nat} {n : Nat} {e : Tg} : ∀ (ys : List Value) (xs : List Value) (st : Heap), st b = some (.cells true xs n e) → xs.length + ys.length ≤ n → (∀ y ∈ ys, y.oneCell' = true) → stN st b xs.length ys = some (upd st b (.cells true (xs ++ ys) n e))
  | [], xs, st, hb, _, _ => by simp [stN, upd_self hb]
  | y :: ys, xs, st, hb, hn, h1 => by
    unfold stN
    simp only [List.length_cons] at hn
    rw [if_pos (h1 y (by simp))]
    have : stC st ⟨b, xs.length, none⟩ y = some (upd st b (.cells true (xs ++ [y]) n e)) := by
      unfold stC
      simp only [hb]
      rw [if_pos (by omega)]
      simp [putCell]
    rw [this]
    simp only [Option.bind_some]
    have ih := stN_onto ys (xs ++ [y]) (upd st b (.cells true (xs ++ [y]) n e)) (upd_same _ _ _) (by simp; omega) (fun z hz => h1 z (by simp [hz]))
    rw [List.length_append, List.length_singleton] at ih
    rw [ih, upd_upd]
    simp
theorem stN_splice {b : Nat} {n : Nat} {e : Tg} : ∀ (ys : List Value) (o : Nat) (xs : List Value) (st : Heap), st b = some (.cells true xs n e) → o + ys.length ≤ xs.length → xs.length ≤ n → (∀ y ∈ ys, y.oneCell' = true) → stN st b o ys = some (upd st b (.cells true (splice xs o ys) n e))
  | [], o, xs, st, hb, _, _, _ => by simp [stN, splice, upd_self hb]
  | y :: ys, o, xs, st, hb, ho, hn, h1 => by
    unfold stN
    simp only [List.length_cons] at ho
    rw [if_pos (h1 y (by simp))]
    have : stC st ⟨b, o, none⟩ y = some (upd st b (.cells true (xs.set o y) n e)) := by
      unfold stC
      simp only [hb]
      rw [if_pos (by omega)]
      have : o < xs.length := by omega
      simp [putCell, this]
    rw [this]
    simp only [Option.bind_some]
    rw [stN_splice ys (o + 1) (xs.set o y) (upd st b (.cells true (xs.set o y) n e)) (upd_same _ _ _) (by simp; omega) (by simpa using hn) (fun z hz => h1 z (by simp [hz])), upd_upd]
    congr 3
    have hlt : o < xs.length := by omega
    simp only [splice, List.length_cons]
    rw [List.take_add_one, List.take_set_of_le (Nat.le_refl _), List.getElem?_set_self hlt, List.drop_set_of_lt (by omega)]
    simp [Nat.add_assoc, Nat.add_comm 1]

theorem lkN_length {st : Heap} {a : Addr} {n : Nat} {l : List Value} (h : lkN st a n = some l) : l.length = n := by
  unfold lkN at h
  split at h
  · cases h
  · split at h
    · injection h with h; subst h; simp; omega
    · cases h
theorem src_length {size n : Nat} {st : Heap} {x : Value} {l : List Value} (h : srcCells size st x = some (n, l)) : l.length = n * size := by
  unfold srcCells at h
  split at h
  · split at h
    · rename_i h0; injection h with h; injection h with h1 h2; subst h1; subst h2; simp
    · cases h
  · split at h
    · rename_i h0; injection h with h; injection h with h1 h2; subst h1; subst h2; simp
    · obtain ⟨l', hl', he⟩ := Option.map_eq_some_iff.1 h
      injection he with h1 h2; subst h1; subst h2
      exact lkN_length hl'
  · split at h
    · rename_i s hs; injection h with h; injection h with h1 h2; subst h1; subst h2; subst hs; simp
    · cases h
  · cases h
theorem src_slice {size n len cap : Nat} {st : Heap} {base : Option Addr} {l : List Value} (h : srcCells size st (.slice base len cap) = some (n, l)) : n = len := by
  cases base with
  | none =>
    simp only [srcCells] at h
    split at h
    · rename_i h0; injection h with h; injection h with h1 h2; omega
    · cases h
  | some a =>
    simp only [srcCells] at h
    split at h
    · rename_i h0; injection h with h; injection h with h1 h2; omega
    · obtain ⟨l', hl', he⟩ := Option.map_eq_some_iff.1 h
      injection he with h1 h2; exact h1.symm

/-! ### append -/
def appX (P : Program) (t : TypeId) (v x : Value) (K : Value → Heap → Prop) (st : Heap) : Prop :=
  optK (slInfo P t) fun i => match v with
  | .slice base len cap => optK (srcCells i.2.1 st x) fun s =>
    if s.1 = 0 ∧ len ≤ cap then K v st else
    (len + s.1) * i.2.2.1 ≤ 140737488355328 ∧
    (len + s.1 ≤ cap → match base with
      | some a => a.spot = none ∧ ∃ xs n e, st a.block = some (.cells true xs n e) ∧ xs.length = a.off + len * i.2.1 ∧ a.off + cap * i.2.1 ≤ n ∧ (∀ y ∈ s.2, y.oneCell' = true) ∧ K (.slice base (len + s.1) cap) (upd st a.block (.cells true (xs ++ s.2) n e))
      | none => False) ∧
    (cap < len + s.1 → optK (srcCells i.2.1 st v) fun o => ∀ b c, st b = none → len + s.1 ≤ c → ∃ g : Tg, K (.slice (some ⟨b, 0, none⟩) (len + s.1) c) (upd st b (.cells true (o.2 ++ s.2) (c * i.2.1) g)))
  | _ => False
theorem wpS_mark {P : Program} {K : Unit → Heap → Prop} {Kp : Value → Heap → Prop} {st : Heap} (n : Nat) : wpS P (askRoom n) K Kp st = K () st := by
  unfold askRoom; split <;> rfl
theorem append_spec {P : Program} {K : Value → Heap → Prop} {Kp : Value → Heap → Prop} {st : Heap} {t r : TypeId} {v x : Value} (h : appX P t v x K st) : wpS P (Builtin.append_ #[t, t] r #[v, x]) K Kp st := by
  obtain ⟨⟨e, size, bytes, z⟩, hi, h⟩ := optK_iff.1 h
  obtain ⟨hu, i, zv, hinfo, hsz, hby, hz, hzl, hzs, hpos, hbpos⟩ := slInfo_some hi
  have hz' : zeroOf P e = some zv := by simp [zeroOf, hinfo, hz]
  cases v with
  | slice base len cap =>
    obtain ⟨⟨m, ys⟩, hs, h⟩ := optK_iff.1 h
    simp only at hs h
    obtain ⟨hl, hf⟩ := src_spec (P := P) (Kp := Kp) hs
    unfold Builtin.append_
    simp only [List.getElem?_toArray, List.getElem?_cons_zero, List.getElem?_cons_succ]
    rw [wpS_bind, wpS_underlying hu]
    simp only
    rw [wpS_bind, wpS_sizeOf hinfo, hsz, wpS_bind, wpS_underlying hu]
    simp only
    rw [wpS_bind, wpS_pure]
    simp only [Bool.false_eq_true, if_false, Bool.not_false, if_true]
    rw [wpS_bind]
    refine hl _ ?_
    by_cases h0 : m = 0 ∧ len ≤ cap
    · rw [if_pos h0] at h
      obtain ⟨rfl, hle⟩ := h0
      rw [if_pos (by omega), wpS_bind]
      refine hf _ ?_
      have hys : ys = [] := List.eq_nil_of_length_eq_zero (by simpa using src_length hs)
      subst hys
      cases base with
      | none => simpa [wpS_bind, wpS_pure] using h
      | some a => simpa [wpS_bind, wpS_pure, storeCells] using h
    · rw [if_neg h0] at h
      obtain ⟨hbytes, hin, hnew⟩ := h
      by_cases hle : len + m ≤ cap
      · have h := hin hle
        rw [if_pos hle, wpS_bind]
        refine hf _ ?_
        cases base with
        | none => exact h.elim
        | some a =>
          obtain ⟨hsp, xs, n, e', hb, hxl, hcap, h1, hk⟩ := h
          have hyl := src_length hs
          obtain ⟨b, o, sp⟩ := a
          simp only at hsp hb hxl hcap hk
          subst hsp
          simp only
          rw [wpS_bind, add_mk]
          refine wpS_storeCells b ys (o + len * size) 0 st _ _ ?_ hk
          have hmul : (len + m) * size ≤ cap * size := Nat.mul_le_mul_right _ hle
          rw [Nat.add_mul] at hmul
          have := stN_onto ys xs st hb (by omega) h1
          rwa [hxl] at this
      · rw [if_neg hle]
        have hlt : cap < len + m := by omega
        obtain ⟨⟨ol, os⟩, ho, h⟩ := optK_iff.1 (hnew hlt)
        simp only at ho h
        have hol := src_length ho
        have hyl := src_length hs
        have hol' := src_slice ho
        subst hol'
        have hneed : ol + m ≤ 140737488355328 := Nat.le_trans (Nat.le_mul_of_pos_right _ hbpos) hbytes
        rw [wpS_bind, wpS_typeInfo hinfo]
        rw [if_neg (by simp only [Bool.false_eq_true, false_or]; rintro ⟨_, h⟩; omega)]
        rw [wpS_bind, wpS_typeInfo hinfo, hby]
        rw [if_neg (by have := growslice_fits hlt hbytes; omega)]
        rw [wpS_bind]
        show wpS P (Sem.choose _ Sem.pure) _ _ _
        unfold wpS
        rw [if_neg (by simp [Question.forced])]
        intro c0
        generalize hc : (Question.appendCap (ol + m) cap e).cut c0 = c
        have hcle : ol + m ≤ c := by rw [← hc]; simp [Question.cut]
        rw [wpS_pure', wpS_bind, wpS_typeInfo hinfo, wpS_bind, wpS_mark, wpS_bind]
        refine (src_spec (P := P) (Kp := Kp) ho).2 _ ?_
        rw [wpS_bind]
        refine hf _ ?_
        rw [wpS_bind, wpS_zeroValue hz', wpS_bind]
        refine wpS_newRow_le (os ++ ys) ?_ fun b hb => ?_
        · exact ⟨_, by simp [Array.toList_append]; rfl⟩
        · obtain ⟨g, hk⟩ := h b c hb hcle
          refine ⟨g, ?_⟩
          rw [wpS_pure]
          have hsize : (os.toArray ++ ys.toArray ++ Builtin.zeroCells zv.cells (c - (ol + m))).size = c * size := by
            have e1 : os.length = ol * size := hol
            have e2 : ys.length = m * size := hyl
            have e3 : (Builtin.zeroCells zv.cells (c - (ol + m))).size = (c - (ol + m)) * size := by simp [Builtin.zeroCells, hzs]
            simp only [Array.size_append, List.size_toArray, e1, e2, e3, ← Nat.add_mul]
            congr 1
            omega
          rw [hsize]
          exact hk
  | _ => exact h.elim
end Go.Proofs.Ytenencpnnjacdaa
