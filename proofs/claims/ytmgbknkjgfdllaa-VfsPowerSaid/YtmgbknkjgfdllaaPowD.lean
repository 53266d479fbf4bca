/- One call of a script, at both file systems. -/
import Derived.Test.YtmgbknkjgfdllaaPowC
import Derived.Test.YtmgbknkjgfdllaaSepK
import Derived.Test.YtmgbknkjgfdllaaMatC
set_option linter.unusedVariables false
set_option linter.unusedSimpArgs false
set_option maxRecDepth 100000
set_option maxHeartbeats 4000000
namespace Go.Proofs.Ytmgbknkjgfdllaa
open Go.RowKit (Below)
def placeM (n k : Int) : Int := if n.tmod k < 0 then n.tmod k + k else n.tmod k
theorem placeM_bound {n k : Int} (hk : 0 < k) : 0 ≤ placeM n k ∧ placeM n k < k := by
  have h1 := Int.tmod_lt_of_pos n hk
  have h2 := Int.lt_tmod_of_pos n hk
  unfold placeM
  split <;> omega
/-- What one call of a script leaves. -/
def DoR (st : Heap) (f w k : Nat) (e : Ending) (st' : Heap) : Prop := (∃ v, e = .returned v) ∧ (∃ S', FSAt st' f S' ∧ PowI S' (k + 1)) ∧ Keep (fun g => Out f g ∧ Out w g) st st'
section
variable {W0 : World} {st : Heap}
theorem Place_det {n k : Int} (hk : 0 < k) (hk2 : k < 2 ^ 40) : ICalls Try.prog W0 19 #[Val.i n, Val.i k] st fun e st' => e = .returned (Val.i (placeM n k)) ∧ st' = st := by
  refine enter (args := [_, _]) Try.func19 rfl ?_
  have hk0 : ¬ k = 0 := by omega
  have h1 := Int.tmod_lt_of_pos n hk
  have h2 : -k < n.tmod k := by
    have := Int.lt_tmod_of_pos n hk
    omega
  have hw1 : IntKind.i64.wrap (n.tmod k) = n.tmod k := wrap_id (by omega) (by omega)
  unfold placeM
  by_cases hneg : n.tmod k < 0
  · have hw2 : IntKind.i64.wrap (n.tmod k + k) = n.tmod k + k := wrap_id (by omega) (by omega)
    simp [Try.f19, go_sem, hk0, hneg, hw1, hw2]
  · simp [Try.f19, go_sem, hk0, hneg, hw1]
theorem But1.keepW {st' : Heap} {w : Nat} {n : Int} (h : But1 w st st') (hw : st w = some (refC n w)) : Keep (Out w) st st' := by
  intro k o g hk ht hp
  refine h k o ?_ hk
  rintro rfl
  rw [hw] at hk
  injection hk with hk
  subst hk
  simp only [refC, HObj.tag, Option.some.injEq] at ht
  exact hp _ _ ht.symm
def GC (f w k : Nat) (S : VFS) (st2 : Heap) (tb : Nat) (box : HObj) (c1 c2 : Nat) (done : List Nat) (st' : Heap) : Prop :=
  st' tb = some box ∧ Keep (fun g => Out f g ∧ Out w g) st2 st' ∧ (c1 ∈ done → ∃ S', FSAt st' f S' ∧ PowI S' (k + 1)) ∧ (c1 ∉ done → FSAt st' f S) ∧ (c2 ∉ done → st' w = some (refC 0 w))
theorem GC.skip {f w k : Nat} {S : VFS} {st2 st' : Heap} {tb : Nat} {box : HObj} {c1 c2 i : Nat} {done : List Nat} (h : GC f w k S st2 tb box c1 c2 done st') (h1 : c1 ≠ i) (h2 : c2 ≠ i) : GC f w k S st2 tb box c1 c2 (i :: done) st' := by
  obtain ⟨g1, g2, g3, g4, g5⟩ := h
  refine ⟨g1, g2, fun h => g3 ?_, fun h => g4 ?_, fun h => g5 ?_⟩
  · rcases List.mem_cons.1 h with h | h
    · exact absurd h h1
    · exact h
  · exact fun hh => h (List.mem_cons_of_mem _ hh)
  · exact fun hh => h (List.mem_cons_of_mem _ hh)
theorem GC.first {f w k : Nat} {S S' : VFS} {st2 sta stb : Heap} {tb : Nat} {cs : List Value} {c1 c2 : Nat} {done : List Nat} (h : GC f w k S st2 tb (.cells true cs 6 (.ty 0)) c1 c2 done sta) (hne : c2 ≠ c1) (ow : Out f (.own w 0 80)) (hf : FSAt stb f S') (hI : PowI S' (k + 1)) (hk : Keep (Out f) sta stb) : GC f w k S st2 tb (.cells true cs 6 (.ty 0)) c1 c2 (c1 :: done) stb := by
  obtain ⟨g1, g2, g3, g4, g5⟩ := h
  refine ⟨hk.get g1 (by intro x r; simp), g2.trans (hk.imp fun g h => h.1), fun _ => ⟨S', hf, hI⟩, fun h => absurd (by simp) h, fun h => hk.get (g5 ?_) ow⟩
  exact fun hh => h (List.mem_cons_of_mem _ hh)
theorem GC.second {f w k : Nat} {S : VFS} {st2 sta stb : Heap} {tb : Nat} {cs : List Value} {c1 c2 : Nat} {done : List Nat} {e : Ending} (h : GC f w k S st2 tb (.cells true cs 6 (.ty 0)) c1 c2 done sta) (h1 : c1 ∈ done) (h2 : c2 ∉ done) (fo : ∀ x r, Out w (.own f x r)) (hR : RefR sta w e stb) : GC f w k S st2 tb (.cells true cs 6 (.ty 0)) c1 c2 (c2 :: done) stb := by
  obtain ⟨g1, g2, g3, g4, g5⟩ := h
  have hk : Keep (Out w) sta stb := But1.keepW hR.2 (g5 h2)
  obtain ⟨S', hf, hI⟩ := g3 h1
  exact ⟨hk.get g1 (by intro x r; simp), g2.trans (hk.imp fun g h => h.2), fun _ => ⟨S', hf.keep hk fo, hI⟩, fun h => absurd (List.mem_cons_of_mem _ h1) h, fun h => absurd (by simp) h⟩
theorem do_spec {f w k : Nat} {S : VFS} {kind a b n : Int} {dv : Value} {pb : Option Addr} {pl pc : Nat} {data : Bs} {gd : Tg} (hf : FSAt st f S) (hI : PowI S k) (hk : k ≤ 50) (hw : st w = some (refC 0 w)) (hd : Reg st gd 1 dv (bytesV data) data.length) (hgd : Free gd) (hdl : data.length ≤ 500) (hpl : placeM kind 10 < 8) :
    ICalls Try.prog W0 22 #[ptr f, ptr w, .agg #[Val.i kind, Val.i a, Val.i b, Val.i n, dv, .slice pb pl pc]] st (DoR st f w k) := by
  obtain ⟨db, dc, rfl⟩ := hd.slice
  have hfw : f ≠ w := by
    obtain ⟨sm, nm, tv, ad, h1, -⟩ := hf
    rintro rfl
    rw [h1] at hw
    simp [refC] at hw
  have hwf := Ne.symm hfw
  have ow : Out f (.own w 0 80) := by intro x r h; injection h with h1; exact hwf h1
  have fo : ∀ x r, Out w (.own f x r) := by intro x r x' r' h; injection h with h1; exact hfw h1
  refine enter (args := [_, _, _]) Try.func22 rfl ?_
  refine IW_cut (fun E' st' => ∃ tb, New st st' ∧ E' 0 = ptr f ∧ E' 1 = ptr w ∧ E' 5 = ptr tb ∧ st' tb = some (.cells true [Val.i kind, Val.i a, Val.i b, Val.i n, .slice db data.length dc, .slice pb pl pc] 6 (.ty 0))) ?_ ?_
  · simp [go_sem]
    unfold NewP
    intro tb htb
    refine ⟨.ty 0, ?_⟩
    simp [go_sem]
    exact (New.refl _).add htb
  rintro E1 st1 ⟨tb, hk1, e0, e1, e5, ht⟩
  refine IW_cut (fun E' st' => ∃ s, NameOK s ∧ st' = st1 ∧ E' 0 = ptr f ∧ E' 1 = ptr w ∧ E' 5 = ptr tb ∧ E' 9 = .string s) ?_ ?_
  · simp [go_sem, e0, e1, e5, ht]
    refine name_spec.mono ?_
    rintro e st2 ⟨⟨s, rfl, hs⟩, rfl⟩
    simp [go_sem, e0, e1, e5]
    exact hs
  clear e0 e1 e5
  rintro E2 st2 ⟨s, hs, rfl, e0, e1, e5, e9⟩
  have hw1 := hk1 _ _ hw
  have hf1 : FSAt st2 f S := hf.keep (hk1.to fun _ => True) (by simp)
  have hd1 := hd.new hk1
  have hsm := hI.small (by omega)
  have hK1 : Keep (fun g => Out f g ∧ Out w g) st st2 := hk1.to _
  have fin : ∀ {S' : VFS} {sta stb : Heap} {e : Ending}, FSAt sta f S' → PowI S' (k + 1) → Keep (fun g => Out f g ∧ g ≠ .own w 1 90) st2 sta → RefR sta w e stb → (∃ v, e = .returned (Val.i v)) ∧ (∃ S', FSAt stb f S' ∧ PowI S' (k + 1)) ∧ Keep (fun g => Out f g ∧ Out w g) st stb := by
    rintro S' sta stb e h1 h2 h3 ⟨hv, hb⟩
    have hkw : Keep (Out w) sta stb := But1.keepW hb (h3.get hw1 ⟨ow, by simp⟩)
    exact ⟨hv, ⟨S', h1.keep hkw fo, h2⟩, (hK1.trans (h3.imp fun g h => ⟨h.1, h.2 1 90⟩)).trans (hkw.imp fun g h => h.2)⟩
  simp [go_sem, e0, e1, e5, e9, ht]
  refine (Place_det (by omega) (by omega)).mono ?_
  rintro e st3 ⟨rfl, rfl⟩
  obtain ⟨p0, p1⟩ := placeM_bound (n := kind) (k := 10) (by omega)
  generalize placeM kind 10 = m at *
  have hm : m = 0 ∨ (m = 1 ∨ m = 2) ∨ m = 3 ∨ m = 4 ∨ m = 5 ∨ m = 6 ∨ m = 7 := by omega
  rcases hm with rfl | hm12 | rfl | rfl | rfl | rfl | rfl
  · simp [go_sem, e0, e1, e5, e9, ht]
    refine (Create_spec hf1 hsm).mono ?_
    rintro e st4 ⟨rfl, hf4, hk4⟩
    simp [go_sem, e0, e1, e5, e9]
    refine (refCreate_spec (hk4.get hw1 ow)).mono ?_
    rintro e st5 hR
    obtain ⟨⟨v, rfl⟩, h1, h2⟩ := fin hf4 (hI.create hs) (hk4.imp fun g h => h.1) hR
    simp [go_sem, e0, e1, e5, e9]
    exact ⟨⟨_, rfl⟩, h1, h2⟩
  · have hu : ∀ y ∈ bytesV data, ∃ q, y = .int .u8 q := by
      intro y hy
      unfold bytesV at hy
      obtain ⟨x, _, rfl⟩ := List.mem_map.1 hy
      exact ⟨_, rfl⟩
    rcases hm12 with rfl | rfl
    all_goals
      simp [go_sem, e0, e1, e5, e9, ht]
      refine (BytesG_spec (.own w 1 90) hd1 (by omega)).mono ?_
      rintro e st4 ⟨bb, bc, rfl, hV4, hF4, hk4⟩
      simp [go_sem, e0, e1, e5, e9]
      refine (Append_spec (b := data) (hf1.keep (hk4.to fun _ => True) (by simp)) hsm hV4.reg (by intro x r h; injection h with h1; exact hwf h1) (by omega)).mono ?_
      rintro e st5 ⟨rfl, hf5, hk5⟩
      have hV5 := hV4.keep hk5 (by intro x r h; injection h with h1; exact hwf h1)
      simp [go_sem, e0, e1, e5, e9]
      obtain ⟨av, hav⟩ : ∃ av, (S.append s data).1 = av := ⟨_, rfl⟩
      have hIa := hI.append (n := s) hdl
      obtain ⟨Sa, hSa⟩ : ∃ Sa, (S.append s data).2 = Sa := ⟨_, rfl⟩
      rw [hSa] at hf5 hIa
      refine ⟨fun E st' => E 0 = ptr f ∧ E 1 = ptr w ∧ E 5 = ptr tb ∧ E 9 = .string s ∧ E 10 = .slice bb data.length bc ∧ E 11 = Val.i av ∧ ∃ (i : Nat) (ys : List Value), E 12 = Val.i i ∧ i ≤ data.length ∧ Keep (fun g => g ≠ .own w 1 90) st5 st' ∧ Vec st' (.own w 1 90) 1 (.slice bb data.length bc) ys data.length ∧ ∀ y ∈ ys, ∃ q, y = .int .u8 q,
        fun E _ => match E 12 with | .int _ i => data.length - i.toNat | _ => 0, ⟨st5, .rfl' _, by simp [go_sem, e0], by simp [go_sem, e1], by simp [go_sem, e5], by simp [go_sem, e9], by simp [go_sem], by simp [go_sem, hav], 0, _, by simp [go_sem], by omega, Keep.rfl', hV5, hu⟩, ?_⟩
      have k25 : Keep (fun g => Out f g ∧ g ≠ .own w 1 90) st3 st5 := (hk4.to _).trans (hk5.imp fun g h => h.1)
      have ht5 : st5 tb = some (.cells true [Val.i kind, Val.i a, Val.i b, Val.i n, .slice db data.length dc, .slice pb pl pc] 6 (.ty 0)) := k25.get ht ⟨by intro x r; simp, by simp⟩
      clear e0 e1 e5 e9
      rintro E st6 ⟨e0, e1, e5, e9, e10, e11, i, ys, e12, hi, hk6, hV6, hu6⟩
      have ht6 := hk6.get ht5 (by simp)
      by_cases hlt : i < data.length
      · have hlt' : ((i : Int) < data.length) = True := eq_true (by omega)
        have hwi : IntKind.i64.wrap ((i : Int) + 1) = ((i + 1 : Nat) : Int) := by rw [wrap_id (by omega) (by omega)]; omega
        obtain ⟨hyl, base6, cap6, hv6, hc6, hd6⟩ := hV6
        injection hv6 with q1 q2 q3
        subst q1; subst q3
        rcases hd6 with ⟨bk, nn, rfl, hs6, hn6⟩ | ⟨rfl, h0⟩
        · have hyi : i < ys.length := by omega
          obtain ⟨q, hq⟩ := hu6 ys[i] (List.getElem_mem hyi)
          have hgi : ys[i]? = some (.int .u8 q) := by rw [List.getElem?_eq_getElem hyi, hq]
          have hnn : i < nn := by omega
          have hyle : i ≤ ys.length := by omega
          simp [go_sem, e0, e1, e5, e9, e10, e11, e12, hlt', hlt, hs6, hgi, hq, hwi, hyi, hnn, hyle]
          refine ⟨_, .rfl' _, ⟨i + 1, by omega, by omega, hk6.old hs6 (by simp [HObj.tag]), ys.set i (.int .u8 (bits .xor .u8 q 255)), ⟨by simp [hyl], _, _, rfl, hc6, .inl ⟨bk, nn, rfl, upd_same _ _ _, hn6⟩⟩, ?_⟩, by omega⟩
          intro y hy
          rcases List.mem_or_eq_of_mem_set hy with hy | rfl
          · exact hu6 y hy
          · exact ⟨_, rfl⟩
        · omega
      · have hlt' : ((i : Int) < data.length) = False := eq_false (by omega)
        simp [go_sem, e0, e1, e5, e9, e10, e11, e12, hlt', hlt, ht6]
        have k26 : Keep (fun g => Out f g ∧ g ≠ .own w 1 90) st3 st6 := k25.trans (hk6.imp fun g h => h.2)
        refine (refAppend_spec (k26.get hw1 ⟨ow, by simp⟩)).mono ?_
        rintro e st7 hR
        obtain ⟨⟨v, rfl⟩, h1, h2⟩ := fin (hf5.keep hk6 (by intro x r h; injection h with h1; exact hfw h1)) hIa k26 hR
        simp [go_sem, e0, e1, e5, e9, e10, e11, e12]
        exact ⟨⟨_, rfl⟩, h1, h2⟩
  · simp [go_sem, e0, e1, e5, e9, ht]
    refine drawG [0, 1, 2, 3, 4, 5, 6, 7, 8, 9, 10, 11, 12, 13, 14, 15] (fun i v => match i with
      | 0 | 2 => v = ptr f
      | 1 | 7 => v = ptr w
      | 3 | 8 => v = .string s
      | 4 | 9 => v = .pointer (some ⟨tb, 3, none⟩)
      | 5 | 10 => v = Val.i n
      | 6 | 11 => ∃ z : Int, v = Val.i z
      | 12 => ∃ z : Bool, v = .bool z
      | _ => True) (GC f w k S st3 tb (.cells true [Val.i kind, Val.i a, Val.i b, Val.i n, .slice db data.length dc, .slice pb pl pc] 6 (.ty 0)) 6 11) (by kernel_rfl) (by kernel_rfl) ⟨ht, Keep.rfl', fun h => absurd h (by simp), fun _ => hf1, fun _ => hw1⟩ ?_ ?_ ?_
    · intro i oo hi done E st5 hnd hG hdp hcl hd' hE
      have hg := hG
      obtain ⟨g1, g2, g3, g4, g5⟩ := hg
      match i with
      | 0 =>
        have x0 := hE 0 (oldB_spec (by kernel_rfl))
        simp at hi; subst hi
        simp [wantedE, go_sem, x0, e0]
        exact hG.skip (by decide) (by decide)
      | 1 =>
        have x0 := hE 1 (oldB_spec (by kernel_rfl))
        simp at hi; subst hi
        simp [wantedE, go_sem, x0, e1]
        exact hG.skip (by decide) (by decide)
      | 2 =>
        have x0 := hE 0 (oldB_spec (by kernel_rfl))
        simp at hi; subst hi
        simp [wantedE, go_sem, x0, e0]
        exact hG.skip (by decide) (by decide)
      | 3 =>
        have x0 := hE 9 (oldB_spec (by kernel_rfl))
        simp at hi; subst hi
        simp [wantedE, go_sem, x0, e9]
        exact hG.skip (by decide) (by decide)
      | 4 =>
        have x0 := hE 5 (oldB_spec (by kernel_rfl))
        simp at hi; subst hi
        simp [wantedE, go_sem, x0, e5]
        exact hG.skip (by decide) (by decide)
      | 5 =>
        simp at hi; subst hi
        have d0 := hd' { on := 4, ground := .data } (by simp) (by decide) _ _ rfl rfl
        simp only at d0
        simp [wantedE, go_sem, d0, g1]
        exact hG.skip (by decide) (by decide)
      | 6 =>
        simp at hi; subst hi
        have d0 := hd' { on := 2, ground := .data } (by simp) (by decide) _ _ rfl rfl
        have d1 := hd' { on := 3, ground := .data } (by simp) (by decide) _ _ rfl rfl
        have d2 := hd' { on := 5, ground := .data } (by simp) (by decide) _ _ rfl rfl
        simp only at d0 d1 d2
        simp [wantedE, go_sem, d0, d1, d2]
        refine (Cut_spec (g4 hnd) hsm).mono ?_
        rintro e st6 ⟨rfl, hf6, hk6⟩
        simp [go_sem]
        exact hG.first (by decide) ow hf6 hI.cut hk6
      | 7 =>
        have x0 := hE 1 (oldB_spec (by kernel_rfl))
        simp at hi; subst hi
        simp [wantedE, go_sem, x0, e1]
        exact hG.skip (by decide) (by decide)
      | 8 =>
        have x0 := hE 9 (oldB_spec (by kernel_rfl))
        simp at hi; subst hi
        simp [wantedE, go_sem, x0, e9]
        exact hG.skip (by decide) (by decide)
      | 9 =>
        have x0 := hE 5 (oldB_spec (by kernel_rfl))
        simp at hi; subst hi
        simp [wantedE, go_sem, x0, e5]
        exact hG.skip (by decide) (by decide)
      | 10 =>
        simp at hi; subst hi
        have d0 := hd' { on := 9, ground := .data } (by simp) (by decide) _ _ rfl rfl
        simp only at d0
        simp [wantedE, go_sem, d0, g1]
        exact hG.skip (by decide) (by decide)
      | 11 =>
        simp at hi; subst hi
        have d0 := hd' { on := 7, ground := .data } (by simp) (by decide) _ _ rfl rfl
        have d1 := hd' { on := 8, ground := .data } (by simp) (by decide) _ _ rfl rfl
        have d2 := hd' { on := 10, ground := .data } (by simp) (by decide) _ _ rfl rfl
        simp only at d0 d1 d2
        simp [wantedE, go_sem, d0, d1, d2]
        refine (refCut_spec (g5 hnd)).mono ?_
        rintro e st6 hR
        have hR' := hR
        obtain ⟨⟨z, rfl⟩, -⟩ := hR'
        simp [go_sem]
        exact hG.second (hdp { on := 6, ground := .chain } (by simp) (by decide)) hnd fo hR
      | 12 =>
        simp at hi; subst hi
        have d0 := hd' { on := 6, ground := .data } (by simp) (by decide) _ _ rfl rfl
        have d1 := hd' { on := 11, ground := .data } (by simp) (by decide) _ _ rfl rfl
        simp only at d0 d1
        obtain ⟨z0, d0⟩ := d0
        obtain ⟨z1, d1⟩ := d1
        simp [wantedE, go_sem, d0, d1]
        exact hG.skip (by decide) (by decide)
      | 13 =>
        simp at hi; subst hi
        simp [wantedE, go_sem]
        exact hG.skip (by decide) (by decide)
      | 14 =>
        simp at hi; subst hi
        simp [wantedE, go_sem]
        exact hG.skip (by decide) (by decide)
      | 15 =>
        simp at hi; subst hi
        simp [wantedE, go_sem]
        exact hG.skip (by decide) (by decide)
      | i + 16 => simp at hi
    · intro done E st5 hall hG hd' hE
      obtain ⟨g1, g2, g3, g4, g5⟩ := hG
      simp [go_sem]
      exact ⟨⟨_, rfl⟩, g3 (hall 6 (by decide)), hK1.trans g2⟩
    · intro j oj hj
      match j with
      | 0 | 1 | 2 | 3 | 4 | 5 | 6 | 7 | 8 | 9 | 10 | 11 | 12 | 13 | 14 | 15 => simp at hj; subst hj; decide
      | j + 16 => simp at hj
  · simp [go_sem, e0, e1, e5, e9, ht]
    refine (Sync_spec hf1).mono ?_
    rintro e st4 ⟨rfl, hf4, hk4⟩
    simp [go_sem, e0, e1, e5, e9]
    refine (refSync_spec (hk4.get hw1 ow)).mono ?_
    rintro e st5 hR
    obtain ⟨⟨v, rfl⟩, h1, h2⟩ := fin hf4 hI.sync' (hk4.imp fun g h => h.1) hR
    simp [go_sem, e0, e1, e5, e9]
    exact ⟨⟨_, rfl⟩, h1, h2⟩
  · simp [go_sem, e0, e1, e5, e9, ht]
    refine drawG [0, 1, 2, 3, 4, 5, 6, 7, 8, 9, 10, 11, 12, 13, 14, 15, 16, 17] (fun i v => match i with
      | 0 | 2 => v = ptr f
      | 1 | 8 => v = ptr w
      | 3 | 9 => v = .string s
      | 4 | 10 => v = .pointer (some ⟨tb, 2, none⟩)
      | 5 | 11 => v = Val.i b
      | 6 | 12 => ∃ z, v = .string z ∧ NameOK z
      | 7 | 13 => ∃ z : Int, v = Val.i z
      | 14 => ∃ z : Bool, v = .bool z
      | _ => True) (GC f w k S st3 tb (.cells true [Val.i kind, Val.i a, Val.i b, Val.i n, .slice db data.length dc, .slice pb pl pc] 6 (.ty 0)) 7 13) (by kernel_rfl) (by kernel_rfl) ⟨ht, Keep.rfl', fun h => absurd h (by simp), fun _ => hf1, fun _ => hw1⟩ ?_ ?_ ?_
    · intro i oo hi done E st5 hnd hG hdp hcl hd' hE
      have hg := hG
      obtain ⟨g1, g2, g3, g4, g5⟩ := hg
      match i with
      | 0 =>
        have x0 := hE 0 (oldB_spec (by kernel_rfl))
        simp at hi; subst hi
        simp [wantedE, go_sem, x0, e0]
        exact hG.skip (by decide) (by decide)
      | 1 =>
        have x0 := hE 1 (oldB_spec (by kernel_rfl))
        simp at hi; subst hi
        simp [wantedE, go_sem, x0, e1]
        exact hG.skip (by decide) (by decide)
      | 2 =>
        have x0 := hE 0 (oldB_spec (by kernel_rfl))
        simp at hi; subst hi
        simp [wantedE, go_sem, x0, e0]
        exact hG.skip (by decide) (by decide)
      | 3 =>
        have x0 := hE 9 (oldB_spec (by kernel_rfl))
        simp at hi; subst hi
        simp [wantedE, go_sem, x0, e9]
        exact hG.skip (by decide) (by decide)
      | 4 =>
        have x0 := hE 5 (oldB_spec (by kernel_rfl))
        simp at hi; subst hi
        simp [wantedE, go_sem, x0, e5]
        exact hG.skip (by decide) (by decide)
      | 5 =>
        simp at hi; subst hi
        have d0 := hd' { on := 4, ground := .data } (by simp) (by decide) _ _ rfl rfl
        simp only at d0
        simp [wantedE, go_sem, d0, g1]
        exact hG.skip (by decide) (by decide)
      | 6 =>
        simp at hi; subst hi
        have d0 := hd' { on := 5, ground := .data } (by simp) (by decide) _ _ rfl rfl
        simp only at d0
        simp [wantedE, go_sem, d0]
        refine (name_spec).mono ?_
        rintro e st6 ⟨⟨z, rfl, hz⟩, rfl⟩
        simp [go_sem]
        exact ⟨hz, hG.skip (by decide) (by decide)⟩
      | 7 =>
        simp at hi; subst hi
        have d0 := hd' { on := 2, ground := .data } (by simp) (by decide) _ _ rfl rfl
        have d1 := hd' { on := 3, ground := .data } (by simp) (by decide) _ _ rfl rfl
        have d2 := hd' { on := 6, ground := .data } (by simp) (by decide) _ _ rfl rfl
        simp only at d0 d1 d2
        obtain ⟨z, d2, hz⟩ := d2
        simp [wantedE, go_sem, d0, d1, d2]
        refine (Rename_spec (g4 hnd) hsm).mono ?_
        rintro e st6 ⟨rfl, hf6, hk6⟩
        simp [go_sem]
        exact hG.first (by decide) ow hf6 (hI.rename hz) hk6
      | 8 =>
        have x0 := hE 1 (oldB_spec (by kernel_rfl))
        simp at hi; subst hi
        simp [wantedE, go_sem, x0, e1]
        exact hG.skip (by decide) (by decide)
      | 9 =>
        have x0 := hE 9 (oldB_spec (by kernel_rfl))
        simp at hi; subst hi
        simp [wantedE, go_sem, x0, e9]
        exact hG.skip (by decide) (by decide)
      | 10 =>
        have x0 := hE 5 (oldB_spec (by kernel_rfl))
        simp at hi; subst hi
        simp [wantedE, go_sem, x0, e5]
        exact hG.skip (by decide) (by decide)
      | 11 =>
        simp at hi; subst hi
        have d0 := hd' { on := 10, ground := .data } (by simp) (by decide) _ _ rfl rfl
        simp only at d0
        simp [wantedE, go_sem, d0, g1]
        exact hG.skip (by decide) (by decide)
      | 12 =>
        simp at hi; subst hi
        have d0 := hd' { on := 11, ground := .data } (by simp) (by decide) _ _ rfl rfl
        simp only at d0
        simp [wantedE, go_sem, d0]
        refine (name_spec).mono ?_
        rintro e st6 ⟨⟨z, rfl, hz⟩, rfl⟩
        simp [go_sem]
        exact ⟨hz, hG.skip (by decide) (by decide)⟩
      | 13 =>
        simp at hi; subst hi
        have d0 := hd' { on := 8, ground := .data } (by simp) (by decide) _ _ rfl rfl
        have d1 := hd' { on := 9, ground := .data } (by simp) (by decide) _ _ rfl rfl
        have d2 := hd' { on := 12, ground := .data } (by simp) (by decide) _ _ rfl rfl
        simp only at d0 d1 d2
        obtain ⟨z, d2, hz⟩ := d2
        simp [wantedE, go_sem, d0, d1, d2]
        refine (refRename_spec (g5 hnd)).mono ?_
        rintro e st6 hR
        have hR' := hR
        obtain ⟨⟨z, rfl⟩, -⟩ := hR'
        simp [go_sem]
        exact hG.second (hcl 12 _ (hdp { on := 12, ground := .chain } (by simp) (by decide)) rfl { on := 7, ground := .chain } (by simp) (by decide)) hnd fo hR
      | 14 =>
        simp at hi; subst hi
        have d0 := hd' { on := 7, ground := .data } (by simp) (by decide) _ _ rfl rfl
        have d1 := hd' { on := 13, ground := .data } (by simp) (by decide) _ _ rfl rfl
        simp only at d0 d1
        obtain ⟨z0, d0⟩ := d0
        obtain ⟨z1, d1⟩ := d1
        simp [wantedE, go_sem, d0, d1]
        exact hG.skip (by decide) (by decide)
      | 15 =>
        simp at hi; subst hi
        simp [wantedE, go_sem]
        exact hG.skip (by decide) (by decide)
      | 16 =>
        simp at hi; subst hi
        simp [wantedE, go_sem]
        exact hG.skip (by decide) (by decide)
      | 17 =>
        simp at hi; subst hi
        simp [wantedE, go_sem]
        exact hG.skip (by decide) (by decide)
      | i + 18 => simp at hi
    · intro done E st5 hall hG hd' hE
      obtain ⟨g1, g2, g3, g4, g5⟩ := hG
      simp [go_sem]
      exact ⟨⟨_, rfl⟩, g3 (hall 7 (by decide)), hK1.trans g2⟩
    · intro j oj hj
      match j with
      | 0 | 1 | 2 | 3 | 4 | 5 | 6 | 7 | 8 | 9 | 10 | 11 | 12 | 13 | 14 | 15 | 16 | 17 => simp at hj; subst hj; decide
      | j + 18 => simp at hj
  · simp [go_sem, e0, e1, e5, e9, ht]
    refine (Remove_spec hf1 hsm).mono ?_
    rintro e st4 ⟨rfl, hf4, hk4⟩
    simp [go_sem, e0, e1, e5, e9]
    refine (refRemove_spec (hk4.get hw1 ow)).mono ?_
    rintro e st5 hR
    obtain ⟨⟨v, rfl⟩, h1, h2⟩ := fin hf4 hI.remove (hk4.imp fun g h => h.1) hR
    simp [go_sem, e0, e1, e5, e9]
    exact ⟨⟨_, rfl⟩, h1, h2⟩
  · simp [go_sem, e0, e1, e5, e9, ht]
    obtain ⟨d, hsd, hpd⟩ := hI.sync
    refine (SyncDir_spec hf1 hsm hsd).mono ?_
    rintro e st4 ⟨rfl, hf4, hk4⟩
    rw [if_pos hI.call.1] at hf4
    simp [go_sem, e0, e1, e5, e9]
    refine (refSyncDir_spec (hk4.get hw1 ow)).mono ?_
    rintro e st5 hR
    obtain ⟨⟨v, rfl⟩, h1, h2⟩ := fin hf4 (hI.dir hsd) (hk4.imp fun g h => h.1) hR
    simp [go_sem, e0, e1, e5, e9]
    exact ⟨⟨_, rfl⟩, h1, h2⟩
end
end Go.Proofs.Ytmgbknkjgfdllaa
