/- Orders of texts: plain. -/
import Derived.Test.YtmgbknkjgfdllaaSepP
import Derived.Test.YtmgbknkjgfdllaaSepV
set_option linter.unusedVariables false
set_option linter.unusedSimpArgs false
namespace Go.Proofs.Ytmgbknkjgfdllaa
structure LtOK {α : Type} (lt : α → α → Bool) : Prop where
  asymm : ∀ a b, lt a b = true → lt b a = false
  trans : ∀ a b c, lt b a = false → lt c b = false → lt c a = false
theorem bytesLess_asymm : ∀ a b, Op.bytesLess a b = true → Op.bytesLess b a = false
  | _, [], h => by simp [Op.bytesLess] at h
  | [], _ :: _, h => by simp [Op.bytesLess]
  | a :: x, b :: y, h => by
    simp only [Op.bytesLess, Bool.or_eq_true, Bool.and_eq_true, decide_eq_true_eq, beq_iff_eq, Bool.or_eq_false_iff, Bool.and_eq_false_iff, decide_eq_false_iff_not, UInt8.lt_iff_toNat_lt, beq_eq_false_iff_ne] at h ⊢
    rcases h with h | ⟨rfl, h⟩
    · exact ⟨by omega, .inl (by rintro rfl; omega)⟩
    · exact ⟨by omega, .inr (bytesLess_asymm _ _ h)⟩
theorem bytesLess_trans : ∀ a b c, Op.bytesLess b a = false → Op.bytesLess c b = false → Op.bytesLess c a = false
  | [], _, c, _, _ => by cases c <;> simp [Op.bytesLess]
  | _ :: _, [], _, h, _ => by simp [Op.bytesLess] at h
  | _ :: _, _ :: _, [], _, h => by simp [Op.bytesLess] at h
  | a :: x, b :: y, c :: z, h, h' => by
    simp only [Op.bytesLess, Bool.or_eq_false_iff, Bool.and_eq_false_iff, decide_eq_false_iff_not, UInt8.lt_iff_toNat_lt, beq_eq_false_iff_ne] at h h' ⊢
    refine ⟨by omega, ?_⟩
    by_cases hca : c = a
    · right
      subst hca
      have hbc : b = c := UInt8.toNat_inj.1 (by omega)
      subst hbc
      refine bytesLess_trans x y z ?_ ?_
      · rcases h.2 with h | h
        · exact absurd rfl h
        · exact h
      · rcases h'.2 with h | h
        · exact absurd rfl h
        · exact h
    · exact .inl hca
theorem bytesLess_total : ∀ a b, Op.bytesLess a b = false → Op.bytesLess b a = false → a = b
  | [], [], _, _ => rfl
  | [], _ :: _, h, _ => by simp [Op.bytesLess] at h
  | _ :: _, [], _, h => by simp [Op.bytesLess] at h
  | a :: x, b :: y, h, h' => by
    simp only [Op.bytesLess, Bool.or_eq_false_iff, Bool.and_eq_false_iff, decide_eq_false_iff_not, UInt8.lt_iff_toNat_lt, beq_eq_false_iff_ne] at h h'
    have hab : a = b := UInt8.toNat_inj.1 (by omega)
    subst hab
    rw [bytesLess_total x y]
    · rcases h.2 with h | h
      · exact absurd rfl h
      · exact h
    · rcases h'.2 with h | h
      · exact absurd rfl h
      · exact h
abbrev ltT (a b : ByteArray) : Bool := Op.bytesLess a.data.toList b.data.toList
theorem ltT_ok : LtOK ltT := ⟨fun a b h => bytesLess_asymm _ _ h, fun a b c h h' => bytesLess_trans _ _ _ h h'⟩
theorem ltT_total (a b : ByteArray) (h : ltT a b = false) (h' : ltT b a = false) : a = b := by
  have := bytesLess_total _ _ h h'
  cases a; cases b
  simp at this
  rw [this]
end Go.Proofs.Ytmgbknkjgfdllaa
