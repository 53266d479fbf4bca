/- Names by numbers; bytes in new memory of a mark of their own; a remainder from 0 on. -/
import Derived.Test.YtmgbknkjgfdllaaPowA
import Derived.Test.YtmgbknkjgfdllaaPlace
set_option linter.unusedVariables false
set_option linter.unusedSimpArgs false
set_option maxRecDepth 100000
set_option maxHeartbeats 2000000
namespace Go.Proofs.Ytmgbknkjgfdllaa
open Go.RowKit (Below)
/-- The names that may be. -/
def VN : List ByteArray := [⟨#[97]⟩, ⟨#[98]⟩, ⟨#[108, 111, 103, 45, 48, 48, 48, 48, 48, 48, 48, 49]⟩, ⟨#[109, 97, 110, 105, 102, 101, 115, 116]⟩, ⟨#[109, 97, 110, 105, 102, 101, 115, 116, 46, 116, 109, 112]⟩, ⟨#[99]⟩]
def NameOK (s : ByteArray) : Prop := okName s = false ∨ s ∈ VN
section
variable {W0 : World} {st : Heap}
theorem name_spec {n : Int} : ICalls Try.prog W0 28 #[Val.i n] st fun e st' => (∃ s, e = .returned (.string s) ∧ NameOK s) ∧ st' = st := by
  refine enter (args := [_]) Try.func28 rfl ?_
  simp [Try.f28, go_sem]
  refine (Place_spec (by omega) (by omega)).mono ?_
  rintro e st' ⟨⟨m, hm, rfl⟩, rfl⟩
  have : m = 0 ∨ m = 1 ∨ m = 2 ∨ m = 3 ∨ m = 4 ∨ m = 5 ∨ m = 6 ∨ m = 7 := by omega
  rcases this with rfl | rfl | rfl | rfl | rfl | rfl | rfl | rfl
  all_goals
    simp [go_sem]
    first | (right; simp [VN]; done) | (left; rfl)
theorem BytesG_spec {v : Value} {bs : Bs} {g0 : Tg} (g : Tg) (h : Reg st g0 1 v (bytesV bs) bs.length) (hl : bs.length < 2 ^ 40) : ICalls Try.prog W0 17 #[v] st fun e st' => ∃ b c, e = .returned (.slice b bs.length c) ∧ Vec st' g 1 (.slice b bs.length c) (bytesV bs) bs.length ∧ Fresh st (.slice b bs.length c) ∧ New st st' := by
  refine enter (args := [_]) Try.func17 rfl ?_
  simp [Try.f17, go_sem]
  refine AppI_newg g si29 (m := bs.length) (ys := bytesV bs) h.src (by omega) ?_
  intro base cap st2 hV hF hN
  simp [go_sem]
  exact ⟨base, cap, ⟨rfl, rfl⟩, hV, hF, hN⟩
end
end Go.Proofs.Ytmgbknkjgfdllaa
