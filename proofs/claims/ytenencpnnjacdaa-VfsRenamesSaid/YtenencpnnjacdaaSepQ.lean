/- The world as it was given, as an abstract heap that is only read; a slice of bytes that is an argument. -/
import Derived.Test.YtenencpnnjacdaaTab
import Derived.Test.YtenencpnnjacdaaSepW
import Derived.ProofKit
import Derived.OpenShut
import Derived.SizedLaws
set_option linter.unusedVariables false
set_option linter.unusedSimpArgs false
namespace Go.Proofs.Ytenencpnnjacdaa
open Go.ChangeShapes Go.WideShapes Go.ChangeAt Go.RowKit

theorem own : ownKnob Try.prog.godebug = none := by kernel_rfl
theorem laidOut : laidOutB Try.prog = true := by kernel_rfl
def snap (w : World) : Heap := fun k => match w.heap[k]? with
  | some (.cells cs e fr) => some (.cells false cs.toList cs.size (.ty 0))
  | _ => none
theorem snap_sim (w : World) : Sim w (snap w) w := by
  refine ⟨Below.refl _ _, fun b o hb => ?_⟩
  unfold snap at hb
  split at hb
  · rename_i cs e fr hw
    injection hb with hb; subst hb
    exact ⟨cs, e, fr, hw, rfl, List.prefix_rfl, fun h => by cases h⟩
  · cases hb
theorem snap_cell {w : World} {b off : Nat} {v : Value} (h : w.cell? ⟨b, off, none⟩ = some v) : ∃ ys n, snap w b = some (.cells false ys n (.ty 0)) ∧ ys[off]? = some v := by
  unfold World.cell? at h
  split at h
  · rename_i c e fr hw
    simp only [Option.isSome_none, Bool.false_eq_true, if_false] at h
    exact ⟨c.toList, c.size, by unfold snap; rw [hw], by simpa using h⟩
  · cases h
theorem cells_u8 : Try.prog.cellsOf 5 = 1 := by kernel_rfl
theorem opened_bytes {H : Type} {enc : TypeId × Value → H} {W : World} {a0 : Option Addr} {len cap : Nat} {d0 : DataW H} {p : List MemPlace}
    (h0 : DataW.Trod enc Try.prog W 0 (fun _ => true) true 29 (.slice a0 len cap) d0 p) :
    ∃ bs : List UInt8, bs.length = len ∧ Reg (snap W) (.ty 0) 1 (.slice a0 len cap) (bytesV bs) bs.length := by
  obtain ⟨fuel, hf⟩ := h0
  rcases open_ints Try.underlying29 Try.underlying5 cells_u8 hf with ⟨hcs, hx⟩ | ⟨a, len', cap', zs, hcs, _, hl, hm, hz, hx, hcell, hwz⟩
  · simp [Value.cells] at hcs
    obtain ⟨rfl, rfl, rfl⟩ := hcs
    exact ⟨[], rfl, Reg.nil⟩
  · simp [Value.cells] at hcs
    obtain ⟨rfl, rfl, rfl⟩ := hcs
    simp only [if_true] at hz
    refine ⟨(zs.take len).map fun z => UInt8.ofNat z.toNat, by simp; omega, ?_⟩
    have hblen : ((zs.take len).map fun z => UInt8.ofNat z.toNat).length = len := by simp; omega
    have hbv : bytesV ((zs.take len).map fun z => UInt8.ofNat z.toNat) = (zs.take len).map (Value.int .u8) := by
      unfold bytesV
      rw [List.map_map]
      refine List.map_congr_left fun z hz => ?_
      have hw := hwz z (List.mem_of_mem_take hz)
      have hb : 0 ≤ z ∧ z < 256 := by
        have := bounds_u8 hw
        omega
      simp only [Function.comp]
      congr 1
      simp
      omega
    rw [hblen, hbv]
    refine ⟨by simp; omega, some a, cap, rfl, hl, ?_⟩
    by_cases h0 : len = 0
    · exact .inl h0
    · right
      obtain ⟨b, off, rfl, hc⟩ := ints_at hcell (by omega)
      obtain ⟨ys, n, hs, h1⟩ := snap_cell (hc 0 (by omega))
      refine ⟨b, off, false, ys, n, rfl, hs, ?_, ?_⟩
      · have key : ∀ i, i < len → ys[off + i]? = some (.int .u8 (zs.getD i 0)) := fun i hi => by
          obtain ⟨ys', n', hs', h1'⟩ := snap_cell (hc i (by omega))
          rw [hs] at hs'
          injection hs' with hs'; injection hs' with _ hys; subst hys
          exact h1'
        rw [List.prefix_iff_eq_take]
        apply List.ext_getElem?
        intro i
        rw [List.getElem?_take]
        by_cases hi : i < len
        · have hi' : i < zs.length := by omega
          rw [if_pos (by simp; omega), List.getElem?_drop, key i hi]
          simp [hi, hi', List.getD]
        · rw [if_neg (by simp; omega), List.getElem?_eq_none (by simp; omega)]
      · have := (List.getElem?_eq_some_iff.1 h1).1
        omega
theorem cells_int : Try.prog.cellsOf 3 = 1 := by kernel_rfl
theorem opened_ints {H : Type} {enc : TypeId × Value → H} {W : World} {a0 : Option Addr} {len cap : Nat} {d0 : DataW H} {p : List MemPlace}
    (h0 : DataW.Trod enc Try.prog W 0 (fun _ => true) true 50 (.slice a0 len cap) d0 p) :
    ∃ zs : List Int, zs.length = len ∧ Reg (snap W) (.ty 0) 1 (.slice a0 len cap) (zs.map (Value.int .i64)) zs.length ∧ (∀ z ∈ zs, -2 ^ 63 ≤ z ∧ z < 2 ^ 63) ∧ (zs = [] ∨ ∃ es ss, d0 = .slice es ss ∧ zs.length ≤ es.length + ss.length) := by
  obtain ⟨fuel, hf⟩ := h0
  rcases open_ints Try.underlying50 Try.underlying3 cells_int hf with ⟨hcs, hx⟩ | ⟨a, len', cap', zs, hcs, _, hl, hm, hz, hx, hcell, hwz⟩
  · simp [Value.cells] at hcs
    obtain ⟨rfl, rfl, rfl⟩ := hcs
    exact ⟨[], rfl, Reg.nil, by simp, .inl rfl⟩
  · simp [Value.cells] at hcs
    obtain ⟨rfl, rfl, rfl⟩ := hcs
    simp only [if_true] at hz
    refine ⟨zs.take len, by simp; omega, ?_, fun z hz' => ?_, .inr ⟨_, _, (Prod.mk.inj hx).1, by simp [lits]⟩⟩
    · have hblen : (zs.take len).length = len := by simp; omega
      rw [hblen]
      refine ⟨by simp; omega, some a, cap, rfl, hl, ?_⟩
      by_cases h0 : len = 0
      · exact .inl h0
      · right
        obtain ⟨b, off, rfl, hc⟩ := ints_at hcell (by omega)
        obtain ⟨ys, n, hs, h1⟩ := snap_cell (hc 0 (by omega))
        refine ⟨b, off, false, ys, n, rfl, hs, ?_, ?_⟩
        · have key : ∀ i, i < len → ys[off + i]? = some (.int .i64 (zs.getD i 0)) := fun i hi => by
            obtain ⟨ys', n', hs', h1'⟩ := snap_cell (hc i (by omega))
            rw [hs] at hs'
            injection hs' with hs'; injection hs' with _ hys; subst hys
            exact h1'
          rw [List.prefix_iff_eq_take]
          apply List.ext_getElem?
          intro i
          rw [List.getElem?_take]
          by_cases hi : i < len
          · have hi' : i < zs.length := by omega
            rw [if_pos (by simp; omega), List.getElem?_drop, key i hi]
            simp [hi, hi', List.getD]
          · rw [if_neg (by simp; omega), List.getElem?_eq_none (by simp; omega)]
        · have := (List.getElem?_eq_some_iff.1 h1).1
          omega
    · have := bounds_i64 (hwz z (List.mem_of_mem_take hz'))
      omega
theorem bytes_int : Try.prog.bytesOf 3 = 8 := by kernel_rfl
theorem sized_ints {H : Type} {ts : List TypeId} {ds : List (DataW H)} {zs : List Int} {d0 : DataW H} {j : Nat} (h : (DataW.weightsEach Try.prog ts ds).all (· ≤ reachBytes) = true) (ht : ts[j]? = some 50) (hd : ds[j]? = some d0)
    (hz : zs = [] ∨ ∃ es ss, d0 = .slice es ss ∧ zs.length ≤ es.length + ss.length) : zs.length * 8 ≤ 140737488355328 := by
  rcases hz with rfl | ⟨es, ss, rfl, hz⟩
  · simp
  · have h1 := sized_slice h ht hd Try.underlying50
    have h2 := reachBytes_lt
    rw [bytes_int] at h1
    omega
end Go.Proofs.Ytenencpnnjacdaa
