/- Rows that are handed in, opened. -/
import Derived.Test.YtflbapmjdfnhhaaGreatC26
import Derived.Test.YtflbapmjdfnhhaaGreatC34
set_option linter.unusedVariables false
set_option linter.unusedSimpArgs false
set_option maxRecDepth 100000
namespace Go.Proofs.YtflbapmjdfnhhaaGreat
open Go.ChangeShapes Go.WideShapes Go.ChangeAt Go.RowKit
def LabW (_ : Heap) (cs : List Value) (x : Lab) : Prop := cs = [.string x.1, .string x.2] ∧ x.1.size < 2 ^ 60 ∧ x.2.size < 2 ^ 60
theorem opens_label (fuel : Nat) : Opens 85 2 LabW fuel := fun H enc W cs x hx hr => by
  obtain ⟨hl, n, rfl, hf⟩ := opens_struct Tryz.underlying85 hx hr
  have hl2 : cs.length = 2 := hl.trans (by kernel_rfl)
  refine ⟨hl2, ?_⟩
  obtain ⟨y0, h0, r0⟩ := hf 0 _ rfl
  obtain ⟨y1, h1, r1⟩ := hf 1 _ rfl
  obtain ⟨_, a0, k0, w0⟩ := opens_text Tryz.underlying9 n H enc W _ _ h0 r0
  obtain ⟨_, a1, k1, w1⟩ := opens_text Tryz.underlying9 n H enc W _ _ h1 r1
  have c0 := took_one k0
  have c1 := took_one k1
  refine ⟨(a0, a1), ?_, by simp only; omega, by simp only; omega⟩
  match cs, hl2 with
  | [x0, x1], _ => simp at c0 c1; subst c0; subst c1; rfl
theorem lab_rows : ∀ (xs : List Lab) (ys : List Value), ys.length = xs.length * 2 → (∀ (i : Nat) (x : Lab), xs[i]? = some x → (ys.drop (i * 2)).take 2 = [.string x.1, .string x.2]) → ys = labV xs
  | [], ys, hl, _ => List.eq_nil_of_length_eq_zero (by simpa using hl)
  | x :: xs, ys, hl, h => by
    have h0 := h 0 x rfl
    simp only [Nat.zero_mul, List.drop_zero] at h0
    have := lab_rows xs (ys.drop 2) (by rw [List.length_drop]; simp at hl; omega) fun i y hi => by
      have := h (i + 1) y (by simpa using hi)
      rw [List.drop_drop]
      rwa [show 2 + i * 2 = (i + 1) * 2 by omega]
    rw [← List.take_append_drop 2 ys, h0, this]
    simp [labV]
def RowW (st : Heap) (cs : List Value) (r : RowD) : Prop := RowAt st cs r ∧ RowOK r
theorem opens_row (fuel : Nat) : Opens 57 8 RowW fuel := fun H enc W cs x hx hr => by
  obtain ⟨hl, n, rfl, hf⟩ := opens_struct Tryz.underlying57 hx hr
  have hl8 : cs.length = 8 := hl.trans (by kernel_rfl)
  refine ⟨hl8, ?_⟩
  obtain ⟨y0, h0, r0⟩ := hf 0 _ rfl
  obtain ⟨y1, h1, r1⟩ := hf 1 _ rfl
  obtain ⟨y2, h2, r2⟩ := hf 2 _ rfl
  obtain ⟨_, labs, lb, lc, lys, k0, lreg, lsz, lel⟩ := opens_slice (n := 2) (bytes := 32) Tryz.underlying49 (by kernel_rfl) (by omega) (by kernel_rfl) (fun f _ => opens_label f) H enc W _ _ h0 r0
  obtain ⟨_, a1, k1, w1⟩ := opens_int Tryz.underlying3 n H enc W _ _ h1 r1
  obtain ⟨_, s, k2, ok⟩ := opens_sketch n H enc W _ _ h2 r2
  have c0 := took_one k0
  have c1 := took_one k1
  have hlab := lab_rows labs lys lreg.1 fun i x hi => (lel i x hi).1
  refine ⟨⟨labs, a1, s⟩, ⟨.slice lb labs.length lc, cs.drop 2, ?_, ⟨.ty 0, by intro g x r; simp, by rw [← hlab]; exact lreg⟩, ?_⟩, ⟨ok, bounds_i64' w1, lsz, fun x hx => ?_⟩⟩
  · match cs, hl8 with
    | [x0, x1, x2, x3, x4, x5, x6, x7], _ => simp at c0 c1; subst c0; subst c1; rfl
  · have hcg : Tryz.prog.cellsOf 55 = 6 := by kernel_rfl
    match cs, hl8 with
    | [x0, x1, x2, x3, x4, x5, x6, x7], _ => simpa [hcg] using k2
  · obtain ⟨i, hi⟩ := List.mem_iff_getElem?.1 hx
    exact (lel i x hi).2
theorem opened_rows {H : Type} {enc : TypeId × Value → H} {W : World} {a0 : Option Addr} {len cap : Nat} {d0 : DataW H} {p : List MemPlace} {ts : List TypeId} {ds : List (DataW H)}
    (h0 : DataW.Trod enc Tryz.prog W 0 (fun _ => true) true 29 (.slice a0 len cap) d0 p) (j : Nat) (hw : (DataW.weightsEach Tryz.prog ts ds).all (· ≤ reachBytes) = true) (ht : ts[j]? = some 29) (hd : ds[j]? = some d0) :
    ∃ (l : List RowD), l.length = len ∧ RowsAt (snap W) (.slice a0 l.length cap) l ∧ l.length < 2 ^ 50 ∧ ∀ r ∈ l, RowOK r := by
  obtain ⟨l, base, cap', ys, he, hreg, hb, hel⟩ := opened (n := 1) (A := SliceAt RowW 8 112) (fun f => opens_slice (n := 8) (bytes := 112) Tryz.underlying29 (by kernel_rfl) (by omega) (by kernel_rfl) (fun f _ => opens_row f)) h0 j hw ht hd
  have he' : Value.slice a0 len cap = .slice base l.length cap' := by simpa [Value.cells] using he
  injection he' with e1 e2 e3
  subst e1
  subst e2
  subst e3
  refine ⟨l, rfl, ⟨ys, ⟨.ty 0, (by intro g x r; simp), hreg⟩, hreg.1, fun i r hi => (hel i r hi).1⟩, by omega, fun x hx => ?_⟩
  obtain ⟨i, hi⟩ := List.mem_iff_getElem?.1 hx
  exact (hel i x hi).2
end Go.Proofs.YtflbapmjdfnhhaaGreat
