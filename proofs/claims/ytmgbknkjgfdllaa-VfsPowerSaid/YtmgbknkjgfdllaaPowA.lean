/- The document's file system, at its beginning: each call answers, and nothing else is changed. -/
import Derived.Test.YtmgbknkjgfdllaaVfsV
import Derived.Test.YtmgbknkjgfdllaaSepJ
import Derived.Test.YtmgbknkjgfdllaaManE
set_option linter.unusedVariables false
set_option linter.unusedSimpArgs false
set_option maxRecDepth 100000
set_option maxHeartbeats 2000000
namespace Go.Proofs.Ytmgbknkjgfdllaa
open Go.RowKit (Below)
/-- An empty one, of so many calls. -/
def refC (n : Int) (w : Nat) : HObj := .cells true [.slice none 0 0, .slice none 0 0, .slice none 0 0, Val.i n, .bool false, Val.i 0, Val.i 0, .bool false] 8 (.own w 0 80)
def RefR (st : Heap) (w : Nat) (e : Ending) (st' : Heap) : Prop := (∃ v : Int, e = .returned (Val.i v)) ∧ But1 w st st'
section
variable {W0 : World} {st : Heap}
theorem refCall_spec {w : Nat} (h : st w = some (refC 0 w)) : ICalls Try.prog W0 111 #[ptr w] st fun e st' => e = .returned (.tuple #[Val.i 0, .bool false]) ∧ st' w = some (refC 1 w) ∧ But1 w st st' := by
  unfold refC at h
  have hw : IntKind.i64.wrap 1 = 1 := wrap_id (by omega) (by omega)
  refine enter (args := [_]) Try.func111 rfl ?_
  simp [Try.f111, go_sem, h, hw]
  exact ⟨rfl, But1.put (But1.refl _ _)⟩
theorem refMay_spec {s : ByteArray} : ICalls Try.prog W0 112 #[.string s] st fun e st' => (∃ b : Bool, e = .returned (.bool b)) ∧ st' = st := by
  refine enter (args := [_]) Try.func112 rfl ?_
  by_cases h1 : 1 ≤ s.size
  · have q1 : ((1 : Int) ≤ s.size) = True := eq_true (by omega)
    by_cases h2 : s.size ≤ 64
    · have q2 : ((s.size : Int) ≤ 64) = True := eq_true (by omega)
      simp [Try.f112, go_sem, q1, q2]
    · have q2 : ((s.size : Int) ≤ 64) = False := eq_false (by omega)
      simp [Try.f112, go_sem, q1, q2]
  · have q1 : ((1 : Int) ≤ s.size) = False := eq_false (by omega)
    simp [Try.f112, go_sem, q1]
theorem AppI_nil {P : Program} {t e size bytes : Nat} {z : List Value} {K : Value → Heap → Prop} (hi : slInfo P t = some (e, size, bytes, z)) (hk : K (.slice none 0 0) st) : AppI (some (e, size, bytes, z)) P t (.slice none 0 0) (.slice none 0 0) K st := by
  unfold AppI appX
  refine optK_iff.2 ⟨_, hi, ?_⟩
  simp only
  refine optK_iff.2 ⟨(0, []), by simp [srcCells], ?_⟩
  simp only
  rw [if_pos (by simp)]
  exact hk
theorem refTurned_spec : ICalls Try.prog W0 120 #[.slice none 0 0, .slice none 0 0, Val.i 0] st fun e st' => e = .returned (.slice none 0 0) ∧ st' = st := by
  refine enter (args := [_, _, _]) Try.func120 rfl ?_
  simp [Try.f120, go_sem]
  refine AppI_nil si52 ?_
  simp [go_sem]
  refine ⟨fun E st' => st' = st ∧ E 0 = .slice none 0 0 ∧ E 1 = .slice none 0 0 ∧ E 7 = Val.i 0, fun E _ => 0, ⟨st, .rfl' _, rfl, by simp [go_sem], by simp [go_sem], by simp [go_sem]⟩, ?_⟩
  rintro E st' ⟨rfl, e0, e1, e7⟩
  simp [go_sem, e0, e1, e7]
theorem refDir_spec {w : Nat} {n : Int} (h : st w = some (refC n w)) : ICalls Try.prog W0 113 #[ptr w] st fun e st' => e = .returned (.slice none 0 0) ∧ st' = st := by
  unfold refC at h
  refine enter (args := [_]) Try.func113 rfl ?_
  simp [Try.f113, go_sem, h]
  refine draw [0, 1, 2, 4, 5, 6, 8, 9, 10, 3, 7, 11, 12, 13, 14] (by kernel_rfl) ?_
  simp [go_sem, h]
  refine refTurned_spec.mono ?_
  rintro e st2 ⟨rfl, rfl⟩
  simp [go_sem]
theorem refFind_spec {s : ByteArray} : ICalls Try.prog W0 114 #[.slice none 0 0, .string s] st fun e st' => e = .returned (Val.i (-1)) ∧ st' = st := by
  refine enter (args := [_, _]) Try.func114 rfl ?_
  simp [Try.f114, go_sem]
  refine ⟨fun E st' => st' = st ∧ E 0 = .slice none 0 0 ∧ E 5 = Val.i 0, fun E _ => 0, ⟨st, .rfl' _, rfl, by simp [go_sem], by simp [go_sem]⟩, ?_⟩
  rintro E st' ⟨rfl, e0, e5⟩
  simp [go_sem, e0, e5]
theorem refFile_spec {w : Nat} {n : Int} {s : ByteArray} (h : st w = some (refC n w)) : ICalls Try.prog W0 115 #[ptr w, .string s] st fun e st' => e = .returned (Val.i (-1)) ∧ st' = st := by
  refine enter (args := [_, _]) Try.func115 rfl ?_
  simp [Try.f115, go_sem]
  refine (refDir_spec h).mono ?_
  rintro e st2 ⟨rfl, rfl⟩
  simp [go_sem]
  refine refFind_spec.mono ?_
  rintro e st3 ⟨rfl, rfl⟩
  simp [go_sem]
theorem refSync_spec {w : Nat} {s : ByteArray} (h : st w = some (refC 0 w)) : ICalls Try.prog W0 65 #[ptr w, .string s] st (RefR st w) := by
  refine enter (args := [_, _]) Try.func65 rfl ?_
  simp [Try.f65, go_sem]
  refine (refCall_spec h).mono ?_
  rintro e st1 ⟨rfl, h1, k1⟩
  simp [go_sem]
  refine refMay_spec.mono ?_
  rintro e st2 ⟨⟨b, rfl⟩, rfl⟩
  cases b with
  | false =>
    simp [go_sem]
    exact ⟨⟨_, rfl⟩, k1⟩
  | true =>
  simp [go_sem]
  refine (refFile_spec h1).mono ?_
  rintro e st3 ⟨rfl, rfl⟩
  simp [go_sem]
  exact ⟨⟨_, rfl⟩, k1⟩
theorem refRemove_spec {w : Nat} {s : ByteArray} (h : st w = some (refC 0 w)) : ICalls Try.prog W0 68 #[ptr w, .string s] st (RefR st w) := by
  refine enter (args := [_, _]) Try.func68 rfl ?_
  simp [Try.f68, go_sem]
  refine (refCall_spec h).mono ?_
  rintro e st1 ⟨rfl, h1, k1⟩
  simp [go_sem]
  refine refMay_spec.mono ?_
  rintro e st2 ⟨⟨b, rfl⟩, rfl⟩
  cases b with
  | false =>
    simp [go_sem]
    exact ⟨⟨_, rfl⟩, k1⟩
  | true =>
  simp [go_sem]
  refine (refFile_spec h1).mono ?_
  rintro e st3 ⟨rfl, rfl⟩
  simp [go_sem]
  exact ⟨⟨_, rfl⟩, k1⟩
theorem refCut_spec {w : Nat} {s : ByteArray} {z : Int} (h : st w = some (refC 0 w)) : ICalls Try.prog W0 64 #[ptr w, .string s, Val.i z] st (RefR st w) := by
  refine enter (args := [_, _, _]) Try.func64 rfl ?_
  simp [Try.f64, go_sem]
  refine (refCall_spec h).mono ?_
  rintro e st1 ⟨rfl, h1, k1⟩
  simp [go_sem]
  refine refMay_spec.mono ?_
  rintro e st2 ⟨⟨b, rfl⟩, rfl⟩
  cases b with
  | false =>
    simp [go_sem]
    exact ⟨⟨_, rfl⟩, k1⟩
  | true =>
  simp [go_sem]
  refine (refFile_spec h1).mono ?_
  rintro e st3 ⟨rfl, rfl⟩
  simp [go_sem]
  exact ⟨⟨_, rfl⟩, k1⟩
theorem refRename_spec {w : Nat} {s t : ByteArray} (h : st w = some (refC 0 w)) : ICalls Try.prog W0 67 #[ptr w, .string s, .string t] st (RefR st w) := by
  refine enter (args := [_, _, _]) Try.func67 rfl ?_
  simp [Try.f67, go_sem]
  refine (refCall_spec h).mono ?_
  rintro e st1 ⟨rfl, h1, k1⟩
  simp [go_sem]
  refine refMay_spec.mono ?_
  rintro e st2 ⟨⟨b, rfl⟩, rfl⟩
  cases b with
  | false =>
    simp [go_sem]
    exact ⟨⟨_, rfl⟩, k1⟩
  | true =>
  simp [go_sem]
  refine refMay_spec.mono ?_
  rintro e st2 ⟨⟨b, rfl⟩, rfl⟩
  cases b with
  | false =>
    simp [go_sem]
    exact ⟨⟨_, rfl⟩, k1⟩
  | true =>
  simp [go_sem]
  refine (refFile_spec h1).mono ?_
  rintro e st3 ⟨rfl, rfl⟩
  simp [go_sem]
  exact ⟨⟨_, rfl⟩, k1⟩
theorem refSyncDir_spec {w : Nat} (h : st w = some (refC 0 w)) : ICalls Try.prog W0 69 #[ptr w] st (RefR st w) := by
  refine enter (args := [_]) Try.func69 rfl ?_
  simp [Try.f69, go_sem]
  refine (refCall_spec h).mono ?_
  rintro e st1 ⟨rfl, h1, k1⟩
  simp [go_sem]
  refine (refDir_spec h1).mono ?_
  rintro e st3 ⟨rfl, rfl⟩
  unfold refC at h1
  simp [go_sem, h1]
  exact ⟨⟨_, rfl⟩, k1.put⟩
theorem refCreate_spec {w : Nat} {s : ByteArray} (h : st w = some (refC 0 w)) : ICalls Try.prog W0 61 #[ptr w, .string s] st (RefR st w) := by
  refine enter (args := [_, _]) Try.func61 rfl ?_
  simp [Try.f61, go_sem]
  refine (refCall_spec h).mono ?_
  rintro e st1 ⟨rfl, h1, k1⟩
  simp [go_sem]
  refine refMay_spec.mono ?_
  rintro e st2 ⟨⟨b, rfl⟩, rfl⟩
  cases b with
  | false =>
    simp [go_sem]
    exact ⟨⟨_, rfl⟩, k1⟩
  | true =>
  simp [go_sem]
  refine (refDir_spec h1).mono ?_
  rintro e st3 ⟨rfl, rfl⟩
  simp [go_sem]
  refine refFind_spec.mono ?_
  rintro e st4 ⟨rfl, rfl⟩
  unfold refC at h1
  simp [go_sem, h1]
  unfold NewS
  intro nb hnb
  refine ⟨.own nb 0 81, ?_⟩
  have n1 : nb ≠ w := Ne.symm (ne_of_new h1 hnb)
  have n1' := Ne.symm n1
  simp [go_sem, h1, n1, n1']
  refine AppI_newg (.ty 0) si51 (m := 1) (ys := [.slice none 0 0, .slice none 0 0]) (by simp [srcCells, lkN_mk, upd_same, cellsOf]) (by omega) ?_
  intro base cap st5 hV hF hN
  have h5 := hN _ _ (show (upd st4 nb (.cells true [.slice none 0 0, .slice none 0 0] 2 (.own nb 0 81))) w = _ from (upd_ne _ _ n1').trans h1)
  have k5 := (k1.add hnb (o := .cells true [.slice none 0 0, .slice none 0 0] 2 (.own nb 0 81))).trans (hN.but w)
  have hw0 : IntKind.i64.wrap (1 - 1) = 0 := wrap_id (by omega) (by omega)
  have hw00 : IntKind.i64.wrap 0 = 0 := wrap_id (by omega) (by omega)
  simp [go_sem, h5]
  refine draw [0, 1, 2, 3, 5, 6, 7, 8, 4, 9, 10, 11, 12, 13, 14, 15, 16, 17] (by kernel_rfl) ?_
  simp [go_sem, h5, hw00]
  intro nb2 hnb2
  refine ⟨.own nb2 0 82, ?_⟩
  have n2 : nb2 ≠ w := by
    rintro rfl
    rw [upd_same] at hnb2
    cases hnb2
  have n2' := Ne.symm n2
  simp [go_sem, n2, n2']
  refine AppI_newg (.ty 0) si53 (m := 1) (ys := [Val.i 0, .string s, .string ⟨#[]⟩, Val.i 0]) (by simp [srcCells, lkN_mk, upd_same, cellsOf]) (by omega) ?_
  intro base2 cap2 st6 hV6 hF6 hN6
  have h6 := hN6 w _ ((upd_ne _ _ n2').trans (upd_same _ _ _))
  have k6 := ((k5.put (o := .cells true [.slice base 1 cap, .slice none 0 0, .slice none 0 0, Val.i 1, .bool false, Val.i 0, Val.i 0, .bool false] 8 (.own w 0 80))).trans ((But1.refl w _).add hnb2 (o := .cells true [Val.i 0, .string s, .string ⟨#[]⟩, Val.i 0] 4 (.own nb2 0 82)))).trans (hN6.but w)
  simp [go_sem, h6]
  exact ⟨⟨_, rfl⟩, k6.put⟩
theorem refAppend_spec {w : Nat} {s : ByteArray} {bv : Value} (h : st w = some (refC 0 w)) : ICalls Try.prog W0 62 #[ptr w, .string s, bv] st (RefR st w) := by
  refine enter (args := [_, _, _]) Try.func62 rfl ?_
  have h' := h
  unfold refC at h'
  simp [Try.f62, go_sem, h']
  refine (refCall_spec h).mono ?_
  rintro e st1 ⟨rfl, h1, k1⟩
  simp [go_sem]
  refine (refFile_spec h1).mono ?_
  rintro e st3 ⟨rfl, rfl⟩
  simp [go_sem]
  refine refMay_spec.mono ?_
  rintro e st2 ⟨⟨b, rfl⟩, rfl⟩
  cases b with
  | false =>
    simp [go_sem]
    exact ⟨⟨_, rfl⟩, k1⟩
  | true =>
  simp [go_sem]
  exact ⟨⟨_, rfl⟩, k1⟩
end
end Go.Proofs.Ytmgbknkjgfdllaa
