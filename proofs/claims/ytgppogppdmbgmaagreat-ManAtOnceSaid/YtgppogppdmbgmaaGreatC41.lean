/- The law ManChecks, walked. -/
import Derived.Test.YtgppogppdmbgmaaGreatC37
set_option linter.unusedVariables false
set_option linter.unusedSimpArgs false
set_option maxRecDepth 100000
set_option maxHeartbeats 8000000
namespace Go.Proofs.YtgppogppdmbgmaaGreat
open Go.RowKit (Below)
section
variable {W0 : World} {st : Heap}
/-- What an encoding gives, whether it may be or not. -/
theorem EncR.flat {g : Tg} {m : ManD} {e : Ending} {st' : Heap} (h : EncR st g m e st') : New st st' ∧ ∃ v, e = .returned (.tuple #[v, Val.i (if manM m = true then 0 else 5)]) ∧ Reg st' g 1 v (bytesV (if manM m = true then frameM (bodyM m) else [])) (if manM m = true then frameM (bodyM m) else []).length := by
  obtain ⟨hk, h⟩ := h
  refine ⟨hk, ?_⟩
  by_cases hm : manM m = true
  · rw [if_pos hm] at h
    simp only [hm, if_true]
    obtain ⟨v, rfl, hV, hF⟩ := h
    exact ⟨v, rfl, hV.reg⟩
  · rw [if_neg hm] at h
    simp only [hm, if_false]
    exact ⟨_, h, Reg.nil⟩
theorem ManAt.free {st st' : Heap} (hk : Keep Free st st') {cs : List Value} {m : ManD} (h : ManAt st cs m) : ManAt st' cs m := h.mono fun _ _ _ _ h => h.free hk
end
end Go.Proofs.YtgppogppdmbgmaaGreat
