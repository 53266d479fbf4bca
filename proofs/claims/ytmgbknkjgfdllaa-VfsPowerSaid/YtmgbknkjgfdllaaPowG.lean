/- Calls that are handed in, opened. -/
import Derived.Test.YtmgbknkjgfdllaaPowE
import Derived.Test.YtmgbknkjgfdllaaSepR
set_option linter.unusedVariables false
set_option linter.unusedSimpArgs false
set_option maxRecDepth 100000
set_option maxHeartbeats 2000000
namespace Go.Proofs.Ytmgbknkjgfdllaa
open Go.ChangeShapes Go.WideShapes Go.ChangeAt Go.RowKit
theorem take_one {l : List Value} {j : Nat} {v : Value} (h : (l.drop j).take 1 = [v]) : l[j]? = some v := by
  have := congrArg (·[0]?) h
  simpa using this
theorem bytes_of {st : Heap} {ys : List Value} {xs : List Int} (hl : ys.length = xs.length) (h : ∀ i x, xs[i]? = some x → IntAt .u8 st ((ys.drop (i * 1)).take 1) x) : ∃ bs : Bs, bs.length = xs.length ∧ ys = bytesV bs := by
  refine ⟨xs.map fun z => UInt8.ofNat z.toNat, by simp, ?_⟩
  apply List.ext_getElem?
  intro i
  by_cases hi : i < xs.length
  · obtain ⟨h1, h2⟩ := h i xs[i] (List.getElem?_eq_getElem hi)
    rw [Nat.mul_one] at h1
    rw [take_one h1]
    have hb : 0 ≤ xs[i] ∧ xs[i] < 256 := by
      have := bounds_u8 h2
      omega
    have : (UInt8.ofNat xs[i].toNat).toNat = xs[i].toNat := by
      simp
      omega
    simp [bytesV, hi, this]
    omega
  · rw [List.getElem?_eq_none (by omega), List.getElem?_eq_none (by simp [bytesV]; omega)]
theorem six {l : List Value} {a b c d e f : Value} (hl : l.length = 6) (h0 : l[0]? = some a) (h1 : l[1]? = some b) (h2 : l[2]? = some c) (h3 : l[3]? = some d) (h4 : l[4]? = some e) (h5 : l[5]? = some f) : l = [a, b, c, d, e, f] := by
  match l, hl with
  | [x0, x1, x2, x3, x4, x5], _ => simp at h0 h1 h2 h3 h4 h5; subst h0; subst h1; subst h2; subst h3; subst h4; subst h5; rfl
theorem opens_op (fuel : Nat) : Opens 47 6 OpAt fuel := fun H enc W cs x hx hr => by
  obtain ⟨hl, n, rfl, hf⟩ := opens_struct Try.underlying47 hx hr
  have hl6 : cs.length = 6 := hl.trans (by kernel_rfl)
  refine ⟨hl6, ?_⟩
  obtain ⟨y0, h0, r0⟩ := hf 0 _ rfl
  obtain ⟨y1, h1, r1⟩ := hf 1 _ rfl
  obtain ⟨y2, h2, r2⟩ := hf 2 _ rfl
  obtain ⟨y3, h3, r3⟩ := hf 3 _ rfl
  obtain ⟨y4, h4, r4⟩ := hf 4 _ rfl
  obtain ⟨y5, h5, r5⟩ := hf 5 _ rfl
  obtain ⟨_, kind, k0, _⟩ := opens_int Try.underlying3 n H enc W _ _ h0 r0
  obtain ⟨_, a, k1, _⟩ := opens_int Try.underlying3 n H enc W _ _ h1 r1
  obtain ⟨_, b, k2, _⟩ := opens_int Try.underlying3 n H enc W _ _ h2 r2
  obtain ⟨_, c, k3, _⟩ := opens_int Try.underlying3 n H enc W _ _ h3 r3
  obtain ⟨_, xs, base, cap, ys, k4, hreg, _, hel⟩ := opens_slice (n := 1) (bytes := 1) Try.underlying29 (by kernel_rfl) (by omega) (by kernel_rfl) (fun f _ => opens_int Try.underlying5 f) H enc W _ _ h4 r4
  obtain ⟨_, zs, base', cap', ws, k5, _⟩ := opens_slice (n := 1) (bytes := 8) Try.underlying45 (by kernel_rfl) (by omega) (by kernel_rfl) (fun f _ => opens_int Try.underlying3 f) H enc W _ _ h5 r5
  obtain ⟨bs, hbl, rfl⟩ := bytes_of (by simpa using hreg.1) hel
  rw [← hbl] at hreg k4
  refine ⟨⟨kind, a, b, c, bs⟩, .slice base bs.length cap, base', zs.length, cap', ?_, hreg⟩
  exact six hl6 (take_one k0) (take_one k1) (take_one k2) (take_one k3) (take_one k4) (take_one k5)
theorem opened_ops {H : Type} {enc : TypeId × Value → H} {W : World} {a0 : Option Addr} {len cap : Nat} {d : DataW H} {p : List MemPlace} {ts : List TypeId} {ds : List (DataW H)} (h0 : DataW.Trod enc Try.prog W 0 (fun _ => true) true 42 (.slice a0 len cap) d p)
    (j : Nat) (hw : (DataW.weightsEach Try.prog ts ds).all (· ≤ reachBytes) = true) (ht : ts[j]? = some 42) (hd : ds[j]? = some d) : ∃ os : List OpD, OpsAt (snap W) (.slice a0 len cap) os ∧ os.length < 2 ^ 50 := by
  obtain ⟨os, base, c, ys, h1, h2, h3, h4⟩ := opened (n := 1) (A := SliceAt OpAt 6 80) (fun f => opens_slice (n := 6) (bytes := 80) Try.underlying42 (by kernel_rfl) (by omega) (by kernel_rfl) (fun f _ => opens_op f)) h0 j hw ht hd
  simp [Value.cells] at h1
  obtain ⟨rfl, rfl, rfl⟩ := h1
  exact ⟨os, ⟨ys, h2, h4⟩, by omega⟩
end Go.Proofs.Ytmgbknkjgfdllaa
