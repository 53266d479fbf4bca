/- Sorting few strings by a comparison: an insertion sort, as it goes. -/
import Derived.Test.YtadgciaclhjjkaaGreatC13
import Derived.Test.YtadgciaclhjjkaaGreatC08
import Derived.Test.YtadgciaclhjjkaaGreatC22
set_option linter.unusedVariables false
set_option linter.unusedSimpArgs false
set_option maxRecDepth 100000
set_option maxHeartbeats 1000000
namespace Go.Proofs.YtadgciaclhjjkaaGreat
open Go.RowKit (Below)

section
variable {W0 : World} {st : Heap}
end
end Go.Proofs.YtadgciaclhjjkaaGreat
set_option linter.unusedVariables false
set_option linter.unusedSimpArgs false
set_option maxRecDepth 100000
set_option maxHeartbeats 1000000
namespace Go.Proofs.YtadgciaclhjjkaaGreat
open Go.RowKit (Below)
section
variable {W0 : World} {st : Heap}
end
end Go.Proofs.YtadgciaclhjjkaaGreat
set_option linter.unusedVariables false
set_option linter.unusedSimpArgs false
namespace Go.Proofs.YtadgciaclhjjkaaGreat
end Go.Proofs.YtadgciaclhjjkaaGreat
set_option linter.unusedVariables false
set_option linter.unusedSimpArgs false
namespace Go.Proofs.YtadgciaclhjjkaaGreat
theorem ba_eq_iff (a b : ByteArray) : ((a == b) = true) ↔ a = b := by
  cases a; cases b
  rename_i x y
  show ((x == y) = true) ↔ _
  simp
theorem afind_shift (k : ByteArray) : ∀ (l : Dir) (i n : Nat), afind k l (i + n) = (afind k l i).map fun p => (p.1 + n, p.2)
  | [], _, _ => rfl
  | e :: l, i, n => by
    unfold afind
    split
    · rfl
    · rw [show i + n + 1 = i + 1 + n by omega]; exact afind_shift k l (i + 1) n
theorem afind_cons (e : ByteArray × Nat) (l : Dir) (k : ByteArray) : afind k (e :: l) 0 = if k = e.1 then some (0, e.2) else (afind k l 0).map fun p => (p.1 + 1, p.2) := by
  conv => lhs; unfold afind
  by_cases h : k = e.1
  · rw [if_pos ((ba_eq_iff _ _).2 h), if_pos h]
  · rw [if_neg (by rw [ba_eq_iff]; exact h), if_neg h, afind_shift k l 0 1]
theorem aget_nil (k : ByteArray) : aget [] k = none := rfl
theorem aget_cons (e : ByteArray × Nat) (l : Dir) (k : ByteArray) : aget (e :: l) k = if k = e.1 then some e.2 else aget l k := by
  unfold aget
  rw [afind_cons]
  by_cases h : k = e.1
  · rw [if_pos h, if_pos h]; rfl
  · rw [if_neg h, if_neg h, Option.map_map]; rfl
theorem aset_cons (e : ByteArray × Nat) (l : Dir) (k : ByteArray) (x : Nat) : aset (e :: l) k x = if k = e.1 then (k, x) :: l else e :: aset l k x := by
  unfold aset
  rw [afind_cons]
  by_cases h : k = e.1
  · rw [if_pos h, if_pos h]; rfl
  · rw [if_neg h, if_neg h]
    cases afind k l 0 <;> rfl
/-- Each name once. -/
abbrev Names (l : Dir) : Prop := (l.map (·.1)).Nodup
end Go.Proofs.YtadgciaclhjjkaaGreat
