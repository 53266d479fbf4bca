/- The histogram's buckets. -/
import Derived.Test.YtflbapmjdfnhhaaGreatC11
set_option linter.unusedVariables false
set_option linter.unusedSimpArgs false
set_option maxRecDepth 100000
set_option maxHeartbeats 400000
namespace Go.Proofs.YtflbapmjdfnhhaaGreat
open Go.RowKit (Below)
/-- The buckets among the first k that are not empty. -/
def bktL (h : List Nat) : Nat → List (Nat × Nat)
  | 0 => []
  | k + 1 => if 0 < h.getD k 0 then bktL h k ++ [(k, h.getD k 0)] else bktL h k
def bktV (l : List (Nat × Nat)) : List Value := l.flatMap fun p => [Val.i p.1, .int .u64 (p.2 : Int)]
theorem bktL_length (h : List Nat) : ∀ k, (bktL h k).length ≤ k
  | 0 => Nat.le_refl 0
  | k + 1 => by
    have := bktL_length h k
    unfold bktL
    split
    · simp; omega
    · omega
theorem bktV_append (a b : List (Nat × Nat)) : bktV (a ++ b) = bktV a ++ bktV b := by simp [bktV]
section
variable {W0 : World} {st : Heap}
theorem buckets_spec {r : Nat} {h : List Nat} (hr : HistAt st r h) : ICalls Tryz.prog W0 81 #[ptr r] st fun e st' => ∃ v, e = .returned v ∧ Vec st' (.ty 1) 2 v (bktV (bktL h 7424)) (bktL h 7424).length ∧ Fresh st v ∧ New st st' := by
  obtain ⟨hb, hl, hn⟩ := hr
  have hcl : (cellsU h).length = 7424 := by simp [cellsU, hl]
  have htk : (cellsU h).take 7424 = cellsU h := by rw [← hcl]; exact List.take_length
  refine enter (args := [_]) Tryz.func81 rfl ?_
  simp [-List.reduceReplicate, Tryz.f81, go_sem, hb, htk, hcl]
  refine ⟨fun E st' => E 12 = .agg (cellsU h).toArray ∧ ∃ k : Nat, E 13 = Val.i k ∧ k ≤ 7424 ∧ Vec st' (.ty 1) 2 (E 3) (bktV (bktL h k)) (bktL h k).length ∧ Fresh st (E 3) ∧ New st st', fun E _ => match E 13 with | .int _ z => 7424 - z.toNat | _ => 0, ⟨st, .rfl' _, by simp [go_sem], 0, by simp [go_sem], by omega, by simp [go_sem]; exact .nil, by simp [go_sem]; exact .none, .refl _⟩, ?_⟩
  rintro E st' ⟨e12, k, e13, hk, hv, hf, hnw⟩
  by_cases hlt : k < 7424
  · have hkl : k < h.length := by omega
    have q1 : ((k : Int) < 7424) = True := eq_true (by omega)
    have hget : (cellsU h)[k]? = some (.int .u64 h[k]) := by simp [cellsU, List.getElem?_eq_getElem hkl]
    have hgd : h.getD k 0 = h[k] := by simp [List.getD_eq_getElem?_getD, List.getElem?_eq_getElem hkl]
    have hwk : IntKind.i64.wrap ((k : Int) + 1) = (k : Int) + 1 := wrap_id (by omega) (by omega)
    by_cases hp : 0 < h[k]
    · have q2 : (0 < h[k]) = True := eq_true hp
      have hnext : bktL h (k + 1) = bktL h k ++ [(k, h[k])] := by
        show (if 0 < h.getD k 0 then _ else _) = _
        rw [hgd, if_pos hp]
      simp [-List.reduceReplicate, go_sem, e12, e13, hget, q1, q2, hlt]
      unfold NewS
      intro b1 hb1
      refine ⟨.ty 1, ?_⟩
      simp [-List.reduceReplicate, go_sem, e12, e13]
      have hN1 : New st' (upd st' b1 (.cells true [Val.i k, .int .u64 (h[k] : Int)] 2 (.ty 1))) := (New.refl _).add hb1
      have hlen := bktL_length h k
      refine AppI_new (st0 := st) (g := .ty 1) (m := 1) (ys := [Val.i k, .int .u64 (h[k] : Int)]) si50 (hv.new' hN1) hf (hnw.trans hN1) (by simp [srcCells, lkN_mk, upd_same, cellsOf]) (by simp; exact ⟨rfl, rfl⟩) (by omega) ?_
      intro nb nc st2 hv2 hf2 hk2 _
      simp [-List.reduceReplicate, go_sem, e12, e13, hwk]
      refine ⟨st2, .rfl' _, ⟨k + 1, by simp, by omega, ?_, hf2, hk2⟩, by omega⟩
      rw [hnext, bktV_append]
      simpa [bktV] using hv2
    · have q2 : (0 < h[k]) = False := eq_false hp
      have hnext : bktL h (k + 1) = bktL h k := by
        show (if 0 < h.getD k 0 then _ else _) = _
        rw [hgd, if_neg hp]
      simp [-List.reduceReplicate, go_sem, e12, e13, hget, q1, q2, hlt, hwk]
      refine ⟨st', .rfl' _, ⟨k + 1, by simp, by omega, ?_, hf, hnw⟩, by omega⟩
      rw [hnext]
      exact hv
  · have hk' : k = 7424 := by omega
    subst hk'
    simp [-List.reduceReplicate, go_sem, e12, e13]
    exact ⟨hv, hf, hnw⟩
end
end Go.Proofs.YtflbapmjdfnhhaaGreat
