/- A manifest exchanged while the power goes: plain laws. -/
import Derived.Test.YtahgfnbkkfpcnaaGreatC38
import Derived.Test.YtahgfnbkkfpcnaaGreatC27
set_option linter.unusedVariables false
set_option linter.unusedSimpArgs false
set_option maxRecDepth 100000
set_option maxHeartbeats 8000000
namespace Go.Proofs.YtahgfnbkkfpcnaaGreat
open Go.RowKit (Below)
def q0 (a : Bs) (c : Ctl) : VFS := ⟨[(manN, 0)], [(manN, 0)], [], [⟨0, a, [], a⟩], c⟩
def q1 (a : Bs) (c : Ctl) : VFS := ⟨[(manN, 0)], [(manN, 0), (tmpN, 1)], [⟨0, tmpN, ⟨#[]⟩, some 1⟩], [⟨0, a, [], a⟩, ⟨1, [], [], []⟩], c⟩
def q2 (a b : Bs) (c : Ctl) : VFS := ⟨[(manN, 0)], [(manN, 0), (tmpN, 1)], [⟨0, tmpN, ⟨#[]⟩, some 1⟩], [⟨0, a, [], a⟩, ⟨1, [], [⟨false, 0, b⟩], b⟩], c⟩
def q3 (a b : Bs) (c : Ctl) : VFS := ⟨[(manN, 0)], [(manN, 0), (tmpN, 1)], [⟨0, tmpN, ⟨#[]⟩, some 1⟩], [⟨0, a, [], a⟩, ⟨1, b, [], b⟩], c⟩
def q4 (a b : Bs) (c : Ctl) : VFS := ⟨[(manN, 0)], [(manN, 1)], [⟨0, tmpN, ⟨#[]⟩, some 1⟩, ⟨1, tmpN, manN, none⟩], [⟨0, a, [], a⟩, ⟨1, b, [], b⟩], c⟩
def q5 (a b : Bs) (c : Ctl) : VFS := ⟨[(manN, 1)], [(manN, 1)], [], [⟨0, a, [], a⟩, ⟨1, b, [], b⟩], c⟩
theorem n_mt : (manN == tmpN) = false := by decide
theorem n_tm : (tmpN == manN) = false := by decide
theorem n_tt : (tmpN == tmpN) = true := by decide
theorem n_mm : (manN == manN) = true := by decide
theorem ok_t : z0a tmpN = true := by decide
theorem ok_m : z0a manN = true := by decide
section
variable {a b : Bs} {c c' : Ctl}
end
structure CrashOK (S : VFS) (ops : Int) (picks : List Int) (d sd : Dir) (L : VFS) : Prop where
 small : S.small
 names : Names S.sure
 born : ∀ (i : Nat) (F : VFile), S.files[i]? = some F → F.born = i
 crash : crashM S.turns 0 ops S.sure = some d
 few : d.length ≤ 12
 perm : sd.Perm d
 order : sd.Pairwise (fun p q => p.2 < q.2)
 left : leftM S.files picks 0 sd .new = some L
 room : ∀ F ∈ S.files, F.sure.length + (F.pend.map (·.b.length)).sum < 2 ^ 40
def L2 (a r : Bs) : VFS := (VFS.new.lay manN a).lay tmpN r
end Go.Proofs.YtahgfnbkkfpcnaaGreat
