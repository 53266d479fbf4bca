/- A record written, in parts: numbers behind a row of one's own, rising numbers, labels, gauges, buckets: the walks. -/
import Derived.Test.YtadgciaclhjjkaaGreatC29
import Derived.Test.YtadgciaclhjjkaaGreatC14
set_option linter.unusedVariables false
set_option linter.unusedSimpArgs false
set_option maxRecDepth 100000
set_option maxHeartbeats 2000000
namespace Go.Proofs.YtadgciaclhjjkaaGreat
open Go.RowKit (Below)
theorem rascK_head : ∀ {l : List Nat} {v : Nat}, ascK (v :: l) = true → (∀ x ∈ l, v < x) ∧ ascK l = true
  | [], v, _ => ⟨by simp, rfl⟩
  | y :: l, v, h => by
    unfold ascK at h
    simp only [Bool.and_eq_true, decide_eq_true_eq] at h
    obtain ⟨h1, h2⟩ := rascK_head h.2
    refine ⟨fun x hx => ?_, h.2⟩
    rcases List.mem_cons.1 hx with rfl | hx
    · exact h.1
    · have := h1 x hx; omega
theorem rascK_drop : ∀ {l : List Nat} (i : Nat), ascK l = true → ascK (l.drop i) = true
  | [], i, _ => by simp [ascK]
  | v :: l, 0, h => h
  | v :: l, i + 1, h => by rw [List.drop_succ_cons]; exact rascK_drop i (rascK_head h).2
section
variable {W0 : World} {st : Heap}
theorem vputV_spec {st0 : Heap} {bv : Value} {b : Bs} {g : Tg} {n : Nat} (h : Vec st g 1 bv (bytesV b) b.length) (hF : Fresh st0 bv) (hN : New st0 st) (hn : n < 2 ^ 64) (hl : b.length < 2 ^ 40) :
    ICalls Tryz.prog W0 116 #[bv, Val.u n] st fun e st' => ∃ v, e = .returned v ∧ Vec st' g 1 v (bytesV (b ++ vputM n)) (b ++ vputM n).length ∧ Fresh st0 v ∧ New st0 st' := by
  refine enter (args := [_, _]) Tryz.func116 rfl ?_
  simp [Tryz.f116, go_sem]
  have hpl := vputM_len n hn
  refine ⟨fun E st' => New st0 st' ∧ ∃ (c : Bs) (m : Nat) (v : Value), E 0 = v ∧ E 1 = Val.u m ∧ m < 2 ^ 64 ∧ c ++ vputM m = b ++ vputM n ∧ (Vec st' g 1 v (bytesV c) c.length ∧ Fresh st0 v),
    fun E _ => match E 1 with | .int _ m => m.toNat | _ => 0, ⟨st, .rfl' _, hN, b, n, _, by simp [go_sem], by simp [go_sem], hn, rfl, h, hF⟩, ?_⟩
  rintro E st' ⟨hk, c, m, v, e0, e1, hm, hcm, hv⟩
  have hclen : c.length + (vputM m).length = b.length + (vputM n).length := by rw [← List.length_append, hcm, List.length_append]
  have hml := vputM_len m hm
  have hsl : ∃ cb cc, v = .slice cb c.length cc := by
    exact hv.1.slice
  obtain ⟨cb, cc, rfl⟩ := hsl
  by_cases hge : 128 ≤ m
  · have hge' : (128 : Int) ≤ m := by omega
    have hw : IntKind.u8.wrap (m : Int) = m % 256 := by rw [IntKind.wrap_u8]
    have hor := bits_or128 ((m : Int) % 256) (by omega) (by omega)
    simp [go_sem, e0, e1, hge', hw, hor]
    unfold NewS
    intro b1 hb1
    refine ⟨.ty 0, ?_⟩
    simp [go_sem]
    have hmm : ((m : Int) % 128 + 128) = ((UInt8.ofNat (m % 128 + 128)).toNat : Int) := by rw [ofNat_u8 _ (by omega)]; omega
    rw [hmm]
    have k1 : New st' (upd st' b1 (.cells true [.int .u8 ((UInt8.ofNat (m % 128 + 128)).toNat : Int)] 1 (.ty 0))) := (New.refl _).add hb1
    have hsrc : srcCells 1 (upd st' b1 (.cells true [.int .u8 ((UInt8.ofNat (m % 128 + 128)).toNat : Int)] 1 (.ty 0))) (.slice (some ⟨b1, 0, none⟩) 1 1) = some (1, bytesV [UInt8.ofNat (m % 128 + 128)]) := by
      simp [srcCells, lkN_mk, upd_same, cellsOf, bytesV]
    have hun : vputM m = UInt8.ofNat (m % 128 + 128) :: vputM (m / 128) := by
      rw [vputM]; exact if_neg (by omega)
    have hfin : ∀ (nb : Option Addr) (nc : Nat) (st2 : Heap), Vec st2 g 1 (.slice nb (c.length + 1) nc) (bytesV c ++ bytesV [UInt8.ofNat (m % 128 + 128)]) (c.length + 1) → Fresh st0 (.slice nb (c.length + 1) nc) → New st0 st2 → ∃ (c' : Bs) (m' : Nat), (m : Int) / 128 = m' ∧ m' < 2 ^ 64 ∧ c' ++ vputM m' = b ++ vputM n ∧ (Vec st2 g 1 (.slice nb (c.length + 1) nc) (bytesV c') c'.length ∧ Fresh st0 (.slice nb (c.length + 1) nc)) := by
      intro nb nc st2 hv2 hf2 hk2
      refine ⟨c ++ [UInt8.ofNat (m % 128 + 128)], m / 128, by omega, by omega, ?_, ?_, hf2⟩
      · rw [← hcm, hun]; simp
      · simpa [bytesV_append] using hv2
    obtain ⟨hv, hfr⟩ := hv
    refine AppI_new si40 (hv.new' k1) hfr (hk.trans k1) hsrc (bytesV_one _) (by omega) ?_
    intro nb nc st2 hv2 hf2 hk2 _
    have hfd : ((m : Int).fdiv 128) = (m : Int) / 128 := by rw [Int.fdiv_eq_ediv_of_nonneg _ (by omega)]
    simp [go_sem, e0, e1, hfd]
    refine ⟨st2, .rfl' _, ⟨hk2, ?_⟩, by omega⟩
    obtain ⟨c', m', h1, h2, h3, h4⟩ := hfin nb nc st2 hv2 hf2 hk2
    exact ⟨c', m', h1, h2, h3, h4⟩
  · have hge' : ¬ (128 : Int) ≤ m := by omega
    have hw : IntKind.u8.wrap (m : Int) = m := by rw [IntKind.wrap_u8]; omega
    simp [go_sem, e0, e1, hge', hw]
    unfold NewS
    intro b1 hb1
    refine ⟨.ty 0, ?_⟩
    simp [go_sem]
    have hmm : (m : Int) = ((UInt8.ofNat m).toNat : Int) := by rw [ofNat_u8 _ (by omega)]
    rw [hmm]
    have k1 : New st' (upd st' b1 (.cells true [.int .u8 ((UInt8.ofNat m).toNat : Int)] 1 (.ty 0))) := (New.refl _).add hb1
    have hsrc : srcCells 1 (upd st' b1 (.cells true [.int .u8 ((UInt8.ofNat m).toNat : Int)] 1 (.ty 0))) (.slice (some ⟨b1, 0, none⟩) 1 1) = some (1, bytesV [UInt8.ofNat m]) := by
      simp [srcCells, lkN_mk, upd_same, cellsOf, bytesV]
    have hun : vputM m = [UInt8.ofNat m] := by rw [vputM]; exact if_pos (by omega)
    have hl1 : (b ++ vputM n).length = c.length + 1 := by rw [← hcm, hun]; simp
    have hb1' : bytesV (b ++ vputM n) = bytesV c ++ bytesV [UInt8.ofNat m] := by rw [← hcm, hun, bytesV_append]
    obtain ⟨hv, hfr⟩ := hv
    refine AppI_new si40 (hv.new' k1) hfr (hk.trans k1) hsrc (bytesV_one _) (by omega) ?_
    intro nb nc st2 hv2 hf2 hk2 _
    simp [go_sem]
    refine ⟨?_, hf2, hk2⟩
    rw [← List.length_append, hl1, hb1']; exact hv2
theorem putRise_spec {bv lv : Value} {b : Bs} {l : List Nat} {g0 : Tg} (g : Tg) (h : Reg st g0 1 bv (bytesV b) b.length) (hL : RegF st 1 lv (cellsU l) l.length) (hv : ∀ v ∈ l, v < 2 ^ 64) (hs : ascK l = true) (hll : l.length ≤ 1000000) (hl : b.length < 2 ^ 39) :
    ICalls Tryz.prog W0 171 #[bv, lv] st (MatPutR st g (b ++ riseB l)) := by
  obtain ⟨lb, lc, rfl⟩ := hL.slice
  refine enter (args := [_, _]) Tryz.func171 rfl ?_
  have hw : IntKind.u64.wrap (l.length : Int) = l.length := wraps_u64 _ (by omega) (by omega)
  simp [Tryz.f171, go_sem, hw]
  refine (vPut_spec g h (show l.length < 2 ^ 64 by omega) (by omega)).mono ?_
  rintro e st1 ⟨v1, rfl, hV1, hF1, k1⟩
  have hv10 := vputM_len l.length (by omega)
  simp [go_sem]
  have hTl := (riseT_len l 0 hv).2
  have hBl : (riseB l).length ≤ 10 + l.length * 10 := by unfold riseB; rw [List.length_append]; omega
  have hgo0 : (b ++ vputM l.length) ++ riseT 0 l = b ++ riseB l := by unfold riseB; rw [List.append_assoc]
  obtain ⟨T, hT⟩ : ∃ T, b ++ riseB l = T := ⟨_, rfl⟩
  rw [hT] at hgo0 ⊢
  have hTlen : T.length < 2 ^ 40 := by rw [← hT, List.length_append]; omega
  generalize b ++ vputM l.length = c1 at *
  refine ⟨fun E st' => New st st' ∧ E 13 = .slice lb l.length lc ∧ E 14 = Val.i l.length ∧ ∃ (i nx : Nat) (v : Value) (c : Bs), E 0 = v ∧ E 15 = Val.i i ∧ i ≤ l.length ∧ E 5 = Val.u nx ∧ nx < 2 ^ 64 ∧ (∀ x ∈ l.drop i, nx ≤ x) ∧ c ++ riseT nx (l.drop i) = T ∧ Vec st' g 1 v (bytesV c) c.length ∧ Fresh st v,
    fun E _ => match E 15 with | .int _ i => l.length - i.toNat | _ => 0, ⟨st1, .rfl' _, k1, by simp [go_sem], by simp [go_sem], 0, 0, _, c1, by simp [go_sem], by simp [go_sem], by omega, by simp [go_sem], by omega, by simp, by simpa using hgo0, hV1, hF1⟩, ?_⟩
  clear hV1 hF1 hgo0 k1
  rintro E st2 ⟨k2, e13, e14, i, nx, v, c, e0, e15, hi, e5, hnx, hle, hgo, hV, hF⟩
  by_cases hlt : i < l.length
  · have hlt' : ((i : Int) < l.length) = True := eq_true (by omega)
    have hwi : IntKind.i64.wrap ((i : Int) + 1) = ((i + 1 : Nat) : Int) := by rw [wrap_id (by omega) (by omega)]; omega
    obtain ⟨x, hx⟩ : ∃ x, l[i]? = some x := ⟨l[i], List.getElem?_eq_getElem hlt⟩
    have hxm := List.mem_of_getElem? hx
    have hx64 := hv x hxm
    have hd : l.drop i = x :: l.drop (i + 1) := by
      rw [List.drop_eq_getElem_cons hlt]
      rw [List.getElem?_eq_getElem hlt] at hx
      injection hx with hx
      rw [hx]
    have hsd := rascK_drop i hs
    rw [hd] at hle hgo hsd
    have hxn := hle x (by simp)
    rw [riseT_cons, ← List.append_assoc] at hgo
    obtain ⟨b1, o1, rfl, g1⟩ := src_get (hL.new k2).src (by omega)
    have hg1 := g1 i (by omega)
    have hgv : (cellsU l)[i]? = some (.int .u64 x) := by simp [cellsU, hx]
    rw [hgv] at hg1
    have hws : IntKind.u64.wrap ((x : Int) - (nx : Int)) = ((x - nx : Nat) : Int) := by rw [IntKind.wrap_u64]; omega
    have hwn : IntKind.u64.wrap ((x : Int) + 1) = (((x + 1) % 2 ^ 64 : Nat) : Int) := by rw [IntKind.wrap_u64]; omega
    obtain ⟨y, hy⟩ : ∃ y, x - nx = y := ⟨_, rfl⟩
    rw [hy] at hws hgo
    have hcl : c.length < 2 ^ 40 := by
      rw [← hgo, List.length_append, List.length_append] at hTlen; omega
    simp [go_sem, e0, e5, e13, e14, e15, hlt', hlt, hg1, hws]
    refine (vputV_spec hV hF k2 (show y < 2 ^ 64 by omega) hcl).mono ?_
    rintro e st3 ⟨v3, rfl, hV3, hF3, k3⟩
    simp [go_sem, e13, e14, e15, hwn, hwi]
    refine ⟨_, .rfl' _, ⟨k3, i + 1, by omega, by omega, (x + 1) % 2 ^ 64, by omega, by omega, fun z hz => ?_, c ++ vputM y, ?_, by simpa using hV3, hF3⟩, by omega⟩
    · have h1 := (rascK_head hsd).1 z hz
      have h2 := hv z (List.mem_of_mem_drop hz)
      omega
    · rw [← hgo]
      congr 1
      cases hr : l.drop (i + 1) with
      | nil => rfl
      | cons z r =>
        have h1 := (rascK_head hsd).1 z (by rw [hr]; simp)
        have h2 := hv z (List.mem_of_mem_drop (by rw [hr]; simp : z ∈ l.drop (i + 1)))
        have : (x + 1) % 2 ^ 64 = x + 1 := by omega
        rw [this]
  · have hlt' : ((i : Int) < l.length) = False := eq_false (by omega)
    have : i = l.length := by omega
    subst this
    rw [List.drop_length, riseT, List.append_nil] at hgo
    subst hgo
    simp [go_sem, e0, e13, e14, e15, hlt']
    exact ⟨v, rfl, hV, hF, k2⟩
theorem plainPut_spec {bv lv : Value} {b : Bs} {l : List Nat} {g0 : Tg} (g : Tg) (h : Reg st g0 1 bv (bytesV b) b.length) (hL : RegF st 1 lv (cellsU l) l.length) (hv : ∀ v ∈ l, v < 2 ^ 64) (hne : l ≠ []) (hll : l.length ≤ 100) (hl : b.length < 2 ^ 39) :
    ICalls Tryz.prog W0 170 #[bv, lv] st (MatPutR st g (b ++ l.flatMap vputM)) := by
  obtain ⟨lb, lc, rfl⟩ := hL.slice
  obtain ⟨bb, bc, rfl⟩ := h.slice
  have hcap := h.cap
  refine enter (args := [_, _]) Tryz.func170 rfl ?_
  simp [Tryz.f170, go_sem, hcap]
  have hfl : ∀ (q : List Nat), (∀ v ∈ q, v < 2 ^ 64) → (q.flatMap vputM).length ≤ q.length * 10 := by
    intro q
    induction q with
    | nil => intro _; simp
    | cons x q ih =>
      intro hq
      have h1 := (vputM_len x (hq x (by simp))).1
      have h2 := ih (fun v hv => hq v (by simp [hv]))
      rw [List.flatMap_cons, List.length_append, List.length_cons]
      omega
  have hTl := hfl l hv
  obtain ⟨T, hT⟩ : ∃ T, b ++ l.flatMap vputM = T := ⟨_, rfl⟩
  rw [hT]
  have hTlen : T.length < 2 ^ 40 := by rw [← hT, List.length_append]; omega
  have hTi := h.tight
  refine ⟨fun E st' => New st st' ∧ E 13 = .slice lb l.length lc ∧ E 14 = Val.i l.length ∧ ∃ (i : Nat) (v : Value) (c : Bs), E 0 = v ∧ E 15 = Val.i i ∧ i ≤ l.length ∧ c ++ (l.drop i).flatMap vputM = T ∧ ((i = 0 ∧ v = .slice bb b.length b.length ∧ c = b) ∨ (0 < i ∧ Vec st' g 1 v (bytesV c) c.length ∧ Fresh st v)),
    fun E _ => match E 15 with | .int _ i => l.length - i.toNat | _ => 0, ⟨st, .rfl' _, New.refl _, by simp [go_sem], by simp [go_sem], 0, _, b, by simp [go_sem], by simp [go_sem], by omega, by simpa using hT, .inl ⟨rfl, rfl, rfl⟩⟩, ?_⟩
  rintro E st2 ⟨k2, e13, e14, i, v, c, e0, e15, hi, hgo, hcs⟩
  by_cases hlt : i < l.length
  · have hlt' : ((i : Int) < l.length) = True := eq_true (by omega)
    have hwi : IntKind.i64.wrap ((i : Int) + 1) = ((i + 1 : Nat) : Int) := by rw [wrap_id (by omega) (by omega)]; omega
    obtain ⟨x, hx⟩ : ∃ x, l[i]? = some x := ⟨l[i], List.getElem?_eq_getElem hlt⟩
    have hx64 := hv x (List.mem_of_getElem? hx)
    have hd : l.drop i = x :: l.drop (i + 1) := by
      rw [List.drop_eq_getElem_cons hlt]
      rw [List.getElem?_eq_getElem hlt] at hx
      injection hx with hx
      rw [hx]
    rw [hd, List.flatMap_cons, ← List.append_assoc] at hgo
    obtain ⟨b1, o1, rfl, g1⟩ := src_get (hL.new k2).src (by omega)
    have hg1 := g1 i (by omega)
    have hgv : (cellsU l)[i]? = some (.int .u64 x) := by simp [cellsU, hx]
    rw [hgv] at hg1
    have hcl : c.length + (vputM x).length < 2 ^ 40 := by
      rw [← hgo, List.length_append, List.length_append] at hTlen; omega
    have hxl := vputM_len x hx64
    simp [go_sem, e13, e14, e15, hlt', hlt, hg1]
    refine (vPut_spec (b := []) (g0 := .ty 0) (.ty 0) Reg.nil hx64 (by simp)).mono ?_
    rintro e st3 ⟨v3, rfl, hV3, -, k3⟩
    simp only [List.nil_append] at hV3
    obtain ⟨vb3, vc3, rfl⟩ := hV3.slice
    have hsrc := hV3.reg.src
    simp [go_sem, e0]
    rcases hcs with ⟨hi0, rfl, rfl⟩ | ⟨hi0, hV, hF⟩
    · refine AppI_tight g si40 (hTi.new (k2.trans k3)) (k2.trans k3) hsrc (by omega) (by omega) ?_
      intro nb nc st4 hV4 hF4 k4 _
      simp [go_sem, e13, e14, e15, hwi]
      refine ⟨_, .rfl' _, ⟨k4, i + 1, by omega, by omega, _, hgo, .inr ⟨by omega, by simpa [bytesV_append] using hV4, hF4⟩⟩, by omega⟩
    · obtain ⟨cb, cc, rfl⟩ := hV.slice
      refine AppI_new si40 (hV.new' k3) hF (k2.trans k3) hsrc (bytesV_one _) (by omega) ?_
      intro nb nc st4 hV4 hF4 k4 _
      simp [go_sem, e13, e14, e15, hwi]
      refine ⟨_, .rfl' _, ⟨k4, i + 1, by omega, by omega, _, hgo, .inr ⟨by omega, by simpa [bytesV_append] using hV4, hF4⟩⟩, by omega⟩
  · have hlt' : ((i : Int) < l.length) = False := eq_false (by omega)
    have : i = l.length := by omega
    subst this
    rw [List.drop_length, List.flatMap_nil, List.append_nil] at hgo
    subst hgo
    have hl0 : 0 < l.length := List.length_pos_iff.2 hne
    rcases hcs with ⟨h0, -⟩ | ⟨-, hV, hF⟩
    · omega
    · simp [go_sem, e0, e13, e14, e15, hlt']
      exact ⟨v, rfl, hV, hF, k2⟩
end
end Go.Proofs.YtadgciaclhjjkaaGreat
