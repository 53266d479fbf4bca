/- Tombs as bytes; a manifest's body: how long it is. -/
import Derived.Test.YtahgfnbkkfpcnaaGreatC28
import Derived.Test.YtahgfnbkkfpcnaaGreatC18
set_option linter.unusedVariables false
set_option linter.unusedSimpArgs false
set_option maxRecDepth 100000
set_option maxHeartbeats 8000000
namespace Go.Proofs.YtahgfnbkkfpcnaaGreat
open Go.RowKit (Below)
def intB (v : Int) : Bs := vputM (zz v)
def metaB (x : MetaD) : Bs := x.ints.flatMap intB
def tombB (t : TombD) : Bs := intB t.seq ++ intB t.fro ++ intB t.to ++ putM t.m
def z3d (l : List TombD) : Bs := vputM l.length ++ l.flatMap tombB
def bodyM (m : ManD) : Bs := intB m.seq ++ intB m.log ++ intB m.next ++ intB m.now ++ vputM m.blocks.length ++ m.blocks.flatMap metaB ++ z3d m.tombs
theorem vput1 {n : Nat} (h : n < 128) : (vputM n).length = 1 := by unfold vputM; rw [if_pos h]; rfl
theorem z85 {s : ByteArray} (h : s.size < 128) : (textB s).length = 1 + s.size := by unfold textB; rw [List.length_append, vput1 h]; simp
theorem zcb : ∀ {l : List ByteArray}, (∀ v ∈ l, v.size ≤ 64) → ((l.map textB).flatten).length = l.length + z0e l
 | [], _ => rfl
 | v :: l, h => by
  have h1 := z85 (s := v) (by have := h v (by simp); omega)
  have h2 := zcb (l := l) (fun w hw => h w (by simp [hw]))
  have h3 : z0e (v :: l) = v.size + z0e l := by simp [z0e]
  simp only [List.map_cons, List.flatten_cons, List.length_append, List.length_cons]
  omega
mutual
theorem za7 : ∀ (m : Mat) (deep : Nat) (n b : Int), n ≤ 64 → (z0n m deep n b).1 = true → ((putM m).length : Int) ≤ 20 * (n - (z0n m deep n b).2.1) + (b - (z0n m deep n b).2.2)
 | .mk op name value vals kids, deep, n, b, hn, h => by
  have hs := (z63 (.mk op name value vals kids) deep n b hn h).1
  unfold z0n at h ⊢
  split at h
  ·cases h
  rename_i h1
  rw [if_neg h1]
  split at h
  ·cases h
  rename_i h2
  rw [if_neg h2]
  have hal : z0p op name value vals kids.length = true := by
   cases hh : z0p op name value vals kids.length with
   | true => rfl
   | false => exact absurd (.inr (.inr hh)) h1
  unfold z2x at hs
  obtain ⟨ho0, ho1, z1, z2, z3, z4, z5, z6⟩ := hs
  have hk := zct kids (deep + 1) (n - 1) (b - (name.size + value.size : Nat) - z0e vals) (by omega) h
  obtain ⟨o, rfl⟩ := Int.eq_ofNat_of_zero_le ho0
  have hwo : IntKind.u64.wrap (o : Int) = (o : Int) := z0c _ (by omega) (by omega)
  have hop : (vputM (IntKind.u64.wrap (o : Int)).toNat).length = 1 := by rw [hwo]; exact vput1 (by omega)
  have t1 := z85 (s := name) (by omega)
  have t2 := z85 (s := value) (by omega)
  have t3 := zcb z4
  have t4 := vput1 (n := vals.length) (by omega)
  have t5 := vput1 (n := kids.length) (by omega)
  have hkb := z8u kids (deep + 1) (n - 1) (b - (name.size + value.size : Nat) - z0e vals)
  unfold putM
  rw [List.length_append, hop]
  split
  ·rw [List.length_append, t1, t2]
   omega
  split
  ·rw [List.length_append, List.length_append, t1, t3, t4]
   omega
  ·rw [List.length_append]
   split
   ·rw [t5]; omega
   ·simp only [List.length_nil]; omega
theorem zct : ∀ (ms : List Mat) (deep : Nat) (n b : Int), n ≤ 64 → (kidsM ms deep n b).1 = true → ((putsM ms).length : Int) ≤ 20 * (n - (kidsM ms deep n b).2.1) + (b - (kidsM ms deep n b).2.2)
 | [], deep, n, b, hn, h => by unfold putsM kidsM; simp
 | k :: ks, deep, n, b, hn, h => by
  unfold kidsM at h ⊢
  unfold putsM
  have hb := z3k k deep n b
  have hl := za7 k deep n b hn
  generalize z0n k deep n b = H at *
  obtain ⟨ok, n', b'⟩ := H
  cases ok with
  | false => cases h
  | true =>
   simp only at h hb hl ⊢
   have := zct ks deep n' b' (by omega) h
   have := hl trivial
   rw [List.length_append]
   omega
end
theorem zd2 {m : Mat} (h : z1n m = true) : (putM m).length ≤ 5376 := by
 have h1 := za7 m 1 64 4096 (by omega) h
 have h2 := z3k m 1 64 4096
 have := h2.2.2 h
 omega
theorem z0q {v : Int} (h0 : -2 ^ 63 ≤ v) (h1 : v < 2 ^ 63) : (intB v).length ≤ 10 := (z14 _ (zz_lt h0 h1)).1
theorem z6u {x : MetaD} (h : z0b x) (hr : x.rows < 2 ^ 63) : (metaB x).length ≤ 70 := by
 unfold z0b z0m at h
 have := fun v h0 h1 => z0q (v := v) h0 h1
 simp only [metaB, MetaD.ints, List.flatMap_cons, List.flatMap_nil, List.append_nil, List.length_append]
 have a1 := this x.id (by omega) (by omega)
 have a2 := this x.level (by omega) (by omega)
 have a3 := this x.day (by omega) (by omega)
 have a4 := this x.lo (by omega) (by omega)
 have a5 := this x.hi (by omega) (by omega)
 have a6 := this x.done (by omega) (by omega)
 have a7 := this x.rows (by omega) (by omega)
 omega
theorem z4g {t : TombD} (h : z1g t) : (tombB t).length ≤ 5406 := by
 obtain ⟨⟨h1, h2⟩, h3, h4⟩ := h
 unfold z0r at h3
 have a1 := z0q (v := t.seq) (by omega) (by omega)
 have a2 := z0q (v := t.fro) (by omega) (by omega)
 have a3 := z0q (v := t.to) (by omega) (by omega)
 have a4 := zd2 h4
 simp only [tombB, List.length_append]
 omega
theorem z3i {α : Type} {f : α → Bs} {k : Nat} : ∀ {l : List α}, (∀ x ∈ l, (f x).length ≤ k) → (l.flatMap f).length ≤ k * l.length
 | [], _ => by simp
 | x :: l, h => by
  have h1 := h x (by simp)
  have h2 := z3i (l := l) (fun y hy => h y (by simp [hy]))
  simp only [List.flatMap_cons, List.length_append, List.length_cons, Nat.mul_add]
  omega
section
variable {W0 : World} {st : Heap}
theorem zdy {bv tv : Value} {b : Bs} {ts : List Value} {tombs : List TombD} {g : Tg} (hb : Reg st g 1 bv (bytesV b) b.length) (ht : RegF st 8 tv ts tombs.length) (hts : z13 st ts tombs) (hok : ∀ t ∈ tombs, z1g t) (hl : b.length < 2 ^ 38) (hlt : tombs.length ≤ 64) :
  z00 Tryz.prog W0 178 #[bv, tv] st (z36 st g (b ++ z3d tombs)) := by
 obtain ⟨tb, tc, rfl⟩ := ht.slice
 refine enter (args := [_, _]) Tryz.func178 rfl ?_
 have hwl : IntKind.u64.wrap (tombs.length : Int) = (tombs.length : Int) := z0c _ (by omega) (by omega)
 simp [Tryz.f178, go_sem, hwl]
 refine (z3r g hb (by omega) (by omega)).mono ?_
 rintro e st1 ⟨v1, rfl, hV1, hF1, hk1⟩
 simp [go_sem]
 have hfl : (tombs.flatMap tombB).length ≤ 5406 * tombs.length := z3i fun t h => z4g (hok t h)
 have hvl := z14 tombs.length (by omega)
 refine ⟨fun E st' => New st st' ∧ E 12 = .slice tb tombs.length tc ∧ E 13 = Val.i tombs.length ∧ ∃ i : Nat, E 14 = Val.i i ∧ i ≤ tombs.length ∧ Vec st' g 1 (E 0) (bytesV (b ++ vputM tombs.length ++ (tombs.take i).flatMap tombB)) (b ++ vputM tombs.length ++ (tombs.take i).flatMap tombB).length ∧ Fresh st (E 0),
  fun E _ => match E 14 with | .int _ i => tombs.length - i.toNat | _ => 0, ⟨st1, .rfl' _, hk1, by simp [go_sem], by simp [go_sem], 0, by simp [go_sem], by omega, by simpa [go_sem] using hV1, by simpa [go_sem] using hF1⟩, ?_⟩
 rintro E st2 ⟨hk2, e12, e13, i, e14, hi, hV, hF⟩
 by_cases hlt' : i < tombs.length
 ·have hltI : ((i : Int) < tombs.length) = True := eq_true (by omega)
  have hwi := wrS i (by omega)
  obtain ⟨mb, off, cap, rw_, zs, mm, g', hv, hs, hget⟩ := z1d (ht.new hk2) (by omega)
  injection hv with v1 v2 v3
  subst v1; subst v3
  obtain ⟨hlen, hcell, hc⟩ := hget i hlt'
  have hx : tombs[i]? = some tombs[i] := List.getElem?_eq_getElem hlt'
  have htk : tombs.take (i + 1) = tombs.take i ++ [tombs[i]] := by rw [List.take_add_one, hx]; rfl
  have hti := (hts i _ hx).mono (fun _ _ _ _ h => h.new hk2)
  rw [← hcell] at hti
  have hoki := hok _ (List.getElem_mem hlt')
  generalize tombs[i] = x at *
  obtain ⟨B, hB⟩ : ∃ B, b ++ vputM tombs.length ++ (tombs.take i).flatMap tombB = B := ⟨_, rfl⟩
  have hBl : B.length < 2 ^ 38 + 1000000 := by
   have : ((tombs.take i).flatMap tombB).length ≤ 5406 * (tombs.take i).length := z3i fun t h => z4g (hok t (List.mem_of_mem_take h))
   have h2 : (tombs.take i).length ≤ 64 := by rw [List.length_take]; omega
   rw [← hB, List.length_append, List.length_append]
   omega
  rw [hB] at hV
  obtain ⟨ms, hms, hcs⟩ := hti
  have hms0 := hms
  have hxl := z4g hoki
  have i1 := z0q (v := x.seq) (by have := hoki.1; omega) (by have := hoki.1; omega)
  have i2 := z0q (v := x.fro) (by have := hoki.2.1; unfold z0r at this; omega) (by have := hoki.2.1; unfold z0r at this; omega)
  have i3 := z0q (v := x.to) (by have := hoki.2.1; unfold z0r at this; omega) (by have := hoki.2.1; unfold z0r at this; omega)
  obtain ⟨sq, mat, fro, to⟩ := x
  obtain ⟨⟨k1, k2⟩, k3, k4⟩ := hoki
  unfold z0r at k3
  simp only at k1 k2 k3 k4 i1 i2 i3
  have hms1 := hms0
  obtain ⟨op, name, value, vals, kids⟩ := mat
  unfold MatAt at hms
  obtain ⟨vv, kv, ks, rfl, hv', hk', hkids⟩ := hms
  obtain ⟨vb', vc', rfl⟩ := hv'.slice
  obtain ⟨kb', kc', rfl⟩ := hk'.slice
  simp only [List.cons_append, List.nil_append] at hcs
  simp [go_sem, e12, e13, e14, hltI, hlt', hs, hlen, hcs]
  unfold NewP
  intro tx htx
  refine ⟨.ty 0, ?_⟩
  simp [go_sem, e12, e13, e14]
  have HN : New st2 (upd st2 tx (.cells true [Val.i sq, Val.i op, .string name, .string value, .slice vb' vals.length vc', .slice kb' kids.length kc', Val.i fro, Val.i to] 8 (.ty 0))) := (New.refl _).add htx
  obtain ⟨v0, hv0⟩ : ∃ v, E 0 = v := ⟨_, rfl⟩
  rw [hv0] at hV hF
  refine drawV [0, 1, 2, 3, 4, 5, 6, 7, 8, 9, 10, 11, 12, 13] (fun i v st' => match i with
   | 0 => v = v0
   | 1 => v = .pointer (some ⟨tx, 0, none⟩)
   | 2 => v = Val.i sq
   | 3 => Vec st' g 1 v (bytesV (B ++ intB sq)) (B ++ intB sq).length
   | 4 => v = .pointer (some ⟨tx, 6, none⟩)
   | 5 => v = Val.i fro
   | 6 => Vec st' g 1 v (bytesV (B ++ intB sq ++ intB fro)) (B ++ intB sq ++ intB fro).length
   | 7 => v = .pointer (some ⟨tx, 7, none⟩)
   | 8 => v = Val.i to
   | 9 => Vec st' g 1 v (bytesV (B ++ intB sq ++ intB fro ++ intB to)) (B ++ intB sq ++ intB fro ++ intB to).length
   | 10 => v = .pointer (some ⟨tx, 1, none⟩)
   | 11 => v = .agg #[Val.i op, .string name, .string value, .slice vb' vals.length vc', .slice kb' kids.length kc']
   | _ => Vec st' g 1 v (bytesV (B ++ tombB ⟨sq, .mk op name value vals kids, fro, to⟩)) (B ++ tombB ⟨sq, .mk op name value vals kids, fro, to⟩).length ∧ Fresh st v) (by kernel_rfl) (by kernel_rfl) ?_ ?_ ?_ ?_
  ·intro i v st3 st4 hN h
   match i with
   | 0 | 1 | 2 | 4 | 5 | 7 | 8 | 10 | 11 => exact h
   | 3 | 6 | 9 => exact Vec.new' h hN
   | i + 12 => exact ⟨Vec.new' h.1 hN, h.2⟩
  ·intro j oo hi E' st3 hN hd hE
   have htx3 := hN _ _ (upd_same st2 tx _)
   have hkk := hk2.trans (HN.trans hN)
   match j with
   | 0 =>
    have x0 := hE 0 (z1c (by kernel_rfl))
    injection hi with hi; subst hi
    simp [go_sem, hv0] at x0
    simp [z02, go_sem, x0]
    exact New.refl _
   | 1 =>
    have x0 := hE 6 (z1c (by kernel_rfl))
    injection hi with hi; subst hi
    simp [go_sem, e12] at x0
    simp [z02, go_sem, x0]
    exact New.refl _
   | 2 =>
    injection hi with hi; subst hi
    have d0 := hd { on := 1, ground := .data } (by simp) (by decide) _ _ rfl rfl
    simp only at d0
    simp [z02, go_sem, d0, htx3]
    exact New.refl _
   | 3 =>
    injection hi with hi; subst hi
    have d0 := hd { on := 0, ground := .data } (by simp) (by decide) _ _ rfl rfl
    have d1 := hd { on := 2, ground := .data } (by simp) (by decide) _ _ rfl rfl
    simp only at d0 d1
    simp [z02, go_sem, d0, d1]
    refine (z1y g ((hV.reg.new (HN.trans hN))) (by omega) (by omega) (by omega)).mono ?_
    rintro e st4 ⟨v, rfl, hV4, hF4, hN4⟩
    simp [go_sem]
    exact ⟨hN4, by simpa [intB] using hV4⟩
   | 4 =>
    have x0 := hE 6 (z1c (by kernel_rfl))
    injection hi with hi; subst hi
    simp [go_sem, e12] at x0
    simp [z02, go_sem, x0]
    exact New.refl _
   | 5 =>
    injection hi with hi; subst hi
    have d0 := hd { on := 4, ground := .data } (by simp) (by decide) _ _ rfl rfl
    simp only at d0
    simp [z02, go_sem, d0, htx3]
    exact New.refl _
   | 6 =>
    injection hi with hi; subst hi
    have d0 := hd { on := 3, ground := .data } (by simp) (by decide) _ _ rfl rfl
    have d1 := hd { on := 5, ground := .data } (by simp) (by decide) _ _ rfl rfl
    simp only at d0 d1
    simp [z02, go_sem, d1]
    refine (z1y g d0.reg (by omega) (by omega) (by rw [List.length_append]; omega)).mono ?_
    rintro e st4 ⟨v, rfl, hV4, hF4, hN4⟩
    simp [go_sem]
    exact ⟨hN4, by simpa [intB] using hV4⟩
   | 7 =>
    have x0 := hE 6 (z1c (by kernel_rfl))
    injection hi with hi; subst hi
    simp [go_sem, e12] at x0
    simp [z02, go_sem, x0]
    exact New.refl _
   | 8 =>
    injection hi with hi; subst hi
    have d0 := hd { on := 7, ground := .data } (by simp) (by decide) _ _ rfl rfl
    simp only at d0
    simp [z02, go_sem, d0, htx3]
    exact New.refl _
   | 9 =>
    injection hi with hi; subst hi
    have d0 := hd { on := 6, ground := .data } (by simp) (by decide) _ _ rfl rfl
    have d1 := hd { on := 8, ground := .data } (by simp) (by decide) _ _ rfl rfl
    simp only at d0 d1
    simp [z02, go_sem, d1]
    refine (z1y g d0.reg (by omega) (by omega) (by rw [List.length_append, List.length_append]; omega)).mono ?_
    rintro e st4 ⟨v, rfl, hV4, hF4, hN4⟩
    simp [go_sem]
    exact ⟨hN4, by simpa [intB] using hV4⟩
   | 10 =>
    have x0 := hE 6 (z1c (by kernel_rfl))
    injection hi with hi; subst hi
    simp [go_sem, e12] at x0
    simp [z02, go_sem, x0]
    exact New.refl _
   | 11 =>
    injection hi with hi; subst hi
    have d0 := hd { on := 10, ground := .data } (by simp) (by decide) _ _ rfl rfl
    simp only at d0
    simp [z02, go_sem, d0, htx3]
    exact New.refl _
   | 12 =>
    injection hi with hi; subst hi
    have d0 := hd { on := 9, ground := .data } (by simp) (by decide) _ _ rfl rfl
    have d1 := hd { on := 11, ground := .data } (by simp) (by decide) _ _ rfl rfl
    simp only at d0 d1
    simp [z02, go_sem, d1]
    refine (zio _ (hms1.new (HN.trans hN)) d0.reg (by rw [List.length_append, List.length_append, List.length_append]; omega)).mono ?_
    rintro e st4 (⟨hbad, -, -⟩ | ⟨-, v, rfl, hV4, hF4, hN4⟩)
    ·rw [k4] at hbad; cases hbad
    simp [go_sem]
    refine ⟨hN4, ?_, hF4.old hkk⟩
    unfold tombB
    simpa using hV4
   | 13 =>
    injection hi with hi; subst hi
    have d0 := hd { on := 12, ground := .data } (by simp) (by decide) _ _ rfl rfl
    simp only at d0
    simp [z02, go_sem]
    exact ⟨New.refl _, by simpa using d0⟩
   | j + 14 => simp at hi
  ·intro E' st3 hN hd hE
   have d13 := hd 13 _ _ rfl rfl
   simp only at d13
   have x12 := hE 12 (z4d (by kernel_rfl))
   have x13 := hE 13 (z4d (by kernel_rfl))
   have x14 := hE 14 (z4d (by kernel_rfl))
   simp [go_sem, e12] at x12
   simp [go_sem, e13] at x13
   simp [go_sem, e14] at x14
   simp [go_sem, x12, x13, x14, hwi]
   have hbb : b ++ vputM tombs.length ++ (tombs.take (i + 1)).flatMap tombB = B ++ tombB ⟨sq, .mk op name value vals kids, fro, to⟩ := by
    rw [htk, ← hB]; simp
   refine ⟨_, .rfl' _, ⟨hk2.trans (HN.trans hN), i + 1, by omega, by omega, ?_, d13.2⟩, by omega⟩
   have := d13.1
   rw [← hbb] at this
   simpa using this
  ·intro j oj hj
   match j with
   | 0 | 1 | 2 | 3 | 4 | 5 | 6 | 7 | 8 | 9 | 10 | 11 | 12 | 13 => simp at hj; subst hj; decide
   | j + 14 => simp at hj
 ·have hltI : ((i : Int) < tombs.length) = False := eq_false (by omega)
  have : i = tombs.length := by omega
  subst this
  rw [List.take_length] at hV
  simp [go_sem, e12, e13, e14]
  refine ⟨_, rfl, ?_, hF, hk2⟩
  unfold z3d
  simpa using hV
end
theorem blocksM_all {next seq : Int} : ∀ {l : List MetaD} {p : Option Int}, z33 next seq p l = true → ∀ x ∈ l, z0b x
 | [], _, _ => by simp
 | x :: l, p, h => by
  unfold z33 at h
  simp only [Bool.and_eq_true, decide_eq_true_eq] at h
  intro y hy
  rcases List.mem_cons.1 hy with rfl | hy
  ·exact h.1.1.1.1
  ·exact blocksM_all h.2 y hy
theorem tombsM_all {seq : Int} : ∀ {l : List TombD} {p : Option Int}, z1l seq p l = true → ∀ x ∈ l, z1g x
 | [], _, _ => by simp
 | x :: l, p, h => by
  unfold z1l at h
  simp only [Bool.and_eq_true, decide_eq_true_eq] at h
  intro y hy
  rcases List.mem_cons.1 hy with rfl | hy
  ·exact h.1.1.1
  ·exact tombsM_all h.2 y hy
theorem manM_parts {m : ManD} (h : manM m = true) : z1f m ∧ (∀ x ∈ m.blocks, z0b x) ∧ ∀ t ∈ m.tombs, z1g t := by
 unfold manM at h
 simp only [Bool.and_eq_true, decide_eq_true_eq] at h
 exact ⟨h.1.1, blocksM_all h.1.2, tombsM_all h.2⟩
def z2j (m : ManD) : Prop := ∀ x ∈ m.blocks, x.rows < 2 ^ 63
theorem z3e {m : ManD} (h : manM m = true) (hf : z2j m) : 1 ≤ (bodyM m).length ∧ (bodyM m).length ≤ 500000 := by
 obtain ⟨⟨h1, h2, h3, h4, h5, h6, h7, h8⟩, hb, ht⟩ := manM_parts h
 unfold z0m at h3 h4
 have a1 := z0q (v := m.seq) (by omega) (by omega)
 have a2 := z0q (v := m.log) (by omega) (by omega)
 have a3 := z0q (v := m.next) (by omega) (by omega)
 have a4 := z0q (v := m.now) (by omega) (by omega)
 have a5 := z14 m.blocks.length (by omega)
 have a6 := z14 m.tombs.length (by omega)
 have a7 : (m.blocks.flatMap metaB).length ≤ 70 * m.blocks.length := z3i fun x hx => z6u (hb x hx) (hf x hx)
 have a8 : (m.tombs.flatMap tombB).length ≤ 5406 * m.tombs.length := z3i fun x hx => z4g (ht x hx)
 simp only [bodyM, z3d, List.length_append]
 omega
def ints4 (m : ManD) : List Int := [m.seq, m.log, m.next, m.now]
def EncR (st : Heap) (g : Tg) (m : ManD) (e : Ending) (st' : Heap) : Prop := New st st' ∧ if manM m = true then ∃ v, e = .returned (.tuple #[v, Val.i 0]) ∧ Vec st' g 1 v (bytesV (z0d (bodyM m))) (z0d (bodyM m)).length ∧ Fresh st v else e = .returned (.tuple #[.slice none 0 0, Val.i 5])
section
variable {W0 : World} {st : Heap}
theorem zal {cs : List Value} {m : ManD} (g : Tg) (h : ManAt st cs m) (hf : z2j m) : z00 Tryz.prog W0 102 #[.agg cs.toArray] st (EncR st g m) := by
 have h0 := h
 obtain ⟨bv, tv, bs, ts, rfl, hb, hbs, ht, hts⟩ := h
 obtain ⟨bb, bc, rfl⟩ := hb.slice
 obtain ⟨tb, tc, rfl⟩ := ht.slice
 refine enter (args := [_]) Tryz.func102 rfl ?_
 refine IW_cut (fun E' st' => ∃ tm, New st st' ∧ E' 1 = ptr tm ∧ st' tm = some (.cells true [Val.i m.seq, Val.i m.log, Val.i m.next, Val.i m.now, .slice bb m.blocks.length bc, .slice tb m.tombs.length tc] 6 (.ty 0))) ?_ ?_
 ·simp [go_sem]
  unfold NewP
  intro tm htm
  refine ⟨.ty 0, ?_⟩
  simp [go_sem]
  exact (New.refl _).add htm
 rintro E1 st1 ⟨tm, hk1, e1, htm⟩
 refine z1a (fun E' st' => manM m = true ∧ New st st' ∧ E' 1 = ptr tm ∧ st' tm = some (.cells true [Val.i m.seq, Val.i m.log, Val.i m.next, Val.i m.now, .slice bb m.blocks.length bc, .slice tb m.tombs.length tc] 6 (.ty 0))) ?_ ?_
 ·simp [go_sem, e1, htm]
  refine (z92 (h0.new hk1)).mono ?_
  rintro e st2 ⟨rfl, hk2⟩
  cases hm : manM m with
  | false =>
   simp [go_sem, e1, EncR, hm]
   exact hk1.trans hk2
  | true =>
   simp [go_sem, e1]
   exact ⟨hk1.trans hk2, hk2 _ _ htm⟩
 clear htm hk1 e1
 rintro E2 st2 ⟨hm, hk2, e1, htm⟩
 obtain ⟨⟨h1, h2, h3, h4, h5, h6, h7, h8⟩, hmb, hmt⟩ := manM_parts hm
 obtain ⟨hbl1, hbl2⟩ := z3e hm hf
 unfold z0m at h3 h4
 have a1 := z0q (v := m.seq) (by omega) (by omega)
 have a2 := z0q (v := m.log) (by omega) (by omega)
 have a3 := z0q (v := m.next) (by omega) (by omega)
 have a4 := z0q (v := m.now) (by omega) (by omega)
 have a5 := z14 m.blocks.length (by omega)
 have w0 : IntKind.i64.wrap 0 = 0 := z03 (by omega) (by omega)
 have w1 : IntKind.i64.wrap 1 = 1 := z03 (by omega) (by omega)
 have w2 : IntKind.i64.wrap 2 = 2 := z03 (by omega) (by omega)
 have w3 : IntKind.i64.wrap 3 = 3 := z03 (by omega) (by omega)
 have w4 : IntKind.i64.wrap 4 = 4 := z03 (by omega) (by omega)
 have w5 : IntKind.i64.wrap 5 = 5 := z03 (by omega) (by omega)
 have w6 : IntKind.i64.wrap 6 = 6 := z03 (by omega) (by omega)
 have w7 : IntKind.i64.wrap 7 = 7 := z03 (by omega) (by omega)
 refine IW_cut (fun E' st' => st' = st2 ∧ E' 1 = ptr tm ∧ E' 4 = .slice none 0 0) ?_ ?_
 ·simp [go_sem, e1]
 clear e1
 rintro E3 st3 ⟨rfl, e1, e4⟩
 refine IW_cut (fun E' st' => New st st' ∧ E' 1 = ptr tm ∧ st' tm = some (.cells true [Val.i m.seq, Val.i m.log, Val.i m.next, Val.i m.now, .slice bb m.blocks.length bc, .slice tb m.tombs.length tc] 6 (.ty 0)) ∧ Vec st' g 1 (E' 4) (bytesV (intB m.seq ++ intB m.log ++ intB m.next ++ intB m.now)) (intB m.seq ++ intB m.log ++ intB m.next ++ intB m.now).length ∧ Fresh st (E' 4)) ?_ ?_
 ·simp [go_sem, e1, htm]
  refine ⟨fun E st' => New st st' ∧ E 1 = ptr tm ∧ st' tm = some (.cells true [Val.i m.seq, Val.i m.log, Val.i m.next, Val.i m.now, .slice bb m.blocks.length bc, .slice tb m.tombs.length tc] 6 (.ty 0)) ∧ E 23 = .agg #[Val.i m.seq, Val.i m.log, Val.i m.next, Val.i m.now] ∧ ∃ i : Nat, E 24 = Val.i i ∧ i ≤ 4 ∧ Vec st' g 1 (E 4) (bytesV (((ints4 m).take i).flatMap intB)) (((ints4 m).take i).flatMap intB).length ∧ Fresh st (E 4),
   fun E _ => match E 24 with | .int _ i => 4 - i.toNat | _ => 0, ⟨st3, .rfl' _, hk2, by simp [go_sem, e1], htm, by simp [go_sem], 0, by simp [go_sem], by omega, by simpa [go_sem, e4, bytesV] using Vec.nil, by simpa [go_sem, e4] using Fresh.none⟩, ?_⟩
  clear htm hk2 e1 e4
  rintro E st5 ⟨hk5, e1, htm, e23, i, e24, hi, hV, hF⟩
  have hi' : i = 0 ∨ i = 1 ∨ i = 2 ∨ i = 3 ∨ i = 4 := by omega
  rcases hi' with rfl | rfl | rfl | rfl | rfl
  ·simp [go_sem, e1, e23, e24]
   refine (z1y g hV.reg (by omega) (by omega) (by simp [ints4] <;> omega)).mono ?_
   rintro e st8 ⟨v8, rfl, hV8, hF8, hk8⟩
   simp [go_sem, e1, e23, e24, w0, w1]
   refine ⟨_, .rfl' _, ?_⟩
   first
   | exact ⟨hk5.trans hk8, hk8 _ _ htm, 1, rfl, by omega, by simpa [ints4, intB] using hV8, hF8.old hk5⟩
   | exact ⟨⟨hk5.trans hk8, hk8 _ _ htm, 1, rfl, by omega, by simpa [ints4, intB] using hV8, hF8.old hk5⟩, by omega⟩
  ·simp [go_sem, e1, e23, e24]
   refine (z1y g hV.reg (by omega) (by omega) (by simp [ints4] <;> omega)).mono ?_
   rintro e st8 ⟨v8, rfl, hV8, hF8, hk8⟩
   simp [go_sem, e1, e23, e24, w1, w2]
   refine ⟨_, .rfl' _, ?_⟩
   first
   | exact ⟨hk5.trans hk8, hk8 _ _ htm, 2, rfl, by omega, by simpa [ints4, intB] using hV8, hF8.old hk5⟩
   | exact ⟨⟨hk5.trans hk8, hk8 _ _ htm, 2, rfl, by omega, by simpa [ints4, intB] using hV8, hF8.old hk5⟩, by omega⟩
  ·simp [go_sem, e1, e23, e24]
   refine (z1y g hV.reg (by omega) (by omega) (by simp [ints4] <;> omega)).mono ?_
   rintro e st8 ⟨v8, rfl, hV8, hF8, hk8⟩
   simp [go_sem, e1, e23, e24, w2, w3]
   refine ⟨_, .rfl' _, ?_⟩
   first
   | exact ⟨hk5.trans hk8, hk8 _ _ htm, 3, rfl, by omega, by simpa [ints4, intB] using hV8, hF8.old hk5⟩
   | exact ⟨⟨hk5.trans hk8, hk8 _ _ htm, 3, rfl, by omega, by simpa [ints4, intB] using hV8, hF8.old hk5⟩, by omega⟩
  ·simp [go_sem, e1, e23, e24]
   refine (z1y g hV.reg (by omega) (by omega) (by simp [ints4] <;> omega)).mono ?_
   rintro e st8 ⟨v8, rfl, hV8, hF8, hk8⟩
   simp [go_sem, e1, e23, e24, w3, w4]
   refine ⟨_, .rfl' _, ?_⟩
   first
   | exact ⟨hk5.trans hk8, hk8 _ _ htm, 4, rfl, by omega, by simpa [ints4, intB] using hV8, hF8.old hk5⟩
   | exact ⟨⟨hk5.trans hk8, hk8 _ _ htm, 4, rfl, by omega, by simpa [ints4, intB] using hV8, hF8.old hk5⟩, by omega⟩
  ·simp [go_sem, e1, e23, e24]
   exact ⟨hk5, htm, by simpa [ints4] using hV, hF⟩
 clear htm hk2 e1 e4
 rintro E4 st4 ⟨hk4, e1, htm, hV4, hF4⟩
 obtain ⟨B4, hB4⟩ : ∃ B, intB m.seq ++ intB m.log ++ intB m.next ++ intB m.now = B := ⟨_, rfl⟩
 rw [hB4] at hV4
 have hB4l : B4.length ≤ 40 := by rw [← hB4]; simp only [List.length_append]; omega
 have hwl : IntKind.u64.wrap (m.blocks.length : Int) = (m.blocks.length : Int) := z0c _ (by omega) (by omega)
 obtain ⟨v4, hv4⟩ : ∃ v, E4 4 = v := ⟨_, rfl⟩
 rw [hv4] at hV4 hF4
 refine IW_cut (fun E' st' => New st st' ∧ E' 1 = ptr tm ∧ st' tm = some (.cells true [Val.i m.seq, Val.i m.log, Val.i m.next, Val.i m.now, .slice bb m.blocks.length bc, .slice tb m.tombs.length tc] 6 (.ty 0)) ∧ Vec st' g 1 (E' 4) (bytesV (B4 ++ vputM m.blocks.length)) (B4 ++ vputM m.blocks.length).length ∧ Fresh st (E' 4)) ?_ ?_
 ·simp [go_sem, e1, htm, hwl, hv4]
  refine (z3r g hV4.reg (by omega) (by omega)).mono ?_
  rintro e st5 ⟨v, rfl, hV5, hF5, hk5⟩
  simp [go_sem, e1]
  exact ⟨hk4.trans hk5, hk5 _ _ htm, by simpa using hV5, hF5.old hk4⟩
 clear htm hk4 e1 hV4 hF4 hv4
 rintro E5 st5 ⟨hk5, e1, htm, hV5, hF5⟩
 obtain ⟨B5, hB5⟩ : ∃ B, B4 ++ vputM m.blocks.length = B := ⟨_, rfl⟩
 rw [hB5] at hV5
 have hB5l : B5.length ≤ 50 := by rw [← hB5]; simp only [List.length_append]; omega
 refine IW_cut (fun E' st' => New st st' ∧ E' 1 = ptr tm ∧ st' tm = some (.cells true [Val.i m.seq, Val.i m.log, Val.i m.next, Val.i m.now, .slice bb m.blocks.length bc, .slice tb m.tombs.length tc] 6 (.ty 0)) ∧ Vec st' g 1 (E' 4) (bytesV (B5 ++ m.blocks.flatMap metaB)) (B5 ++ m.blocks.flatMap metaB).length ∧ Fresh st (E' 4)) ?_ ?_
 ·simp [go_sem, e1, htm]
  refine ⟨fun E st' => New st st' ∧ E 1 = ptr tm ∧ st' tm = some (.cells true [Val.i m.seq, Val.i m.log, Val.i m.next, Val.i m.now, .slice bb m.blocks.length bc, .slice tb m.tombs.length tc] 6 (.ty 0)) ∧ E 38 = .slice bb m.blocks.length bc ∧ E 39 = Val.i m.blocks.length ∧ ∃ i : Nat, E 40 = Val.i i ∧ i ≤ m.blocks.length ∧ Vec st' g 1 (E 4) (bytesV (B5 ++ (m.blocks.take i).flatMap metaB)) (B5 ++ (m.blocks.take i).flatMap metaB).length ∧ Fresh st (E 4),
   fun E _ => match E 40 with | .int _ i => m.blocks.length - i.toNat | _ => 0, ⟨st5, .rfl' _, hk5, by simp [go_sem, e1], htm, by simp [go_sem], by simp [go_sem], 0, by simp [go_sem], by omega, by simpa [go_sem] using hV5, by simpa [go_sem] using hF5⟩, ?_⟩
  clear htm hk5 e1 hV5 hF5
  rintro E st6 ⟨hk6, e1, htm, e38, e39, i, e40, hi, hV, hF⟩
  by_cases hlt : i < m.blocks.length
  ·have hlt' : ((i : Int) < m.blocks.length) = True := eq_true (by omega)
   have hwi := wrS i (by omega)
   obtain ⟨mb, off, cap, rw_, zs, mm, g', hv, hs, hget⟩ := z1d (hb.new hk6) (by omega)
   injection hv with v1 v2 v3
   subst v1; subst v3
   obtain ⟨hlen, hcell, hc⟩ := hget i hlt
   have hx : m.blocks[i]? = some m.blocks[i] := List.getElem?_eq_getElem hlt
   have htk : m.blocks.take (i + 1) = m.blocks.take i ++ [m.blocks[i]] := by rw [List.take_add_one, hx]; rfl
   rw [hbs i _ hx] at hcell
   have hox := hmb _ (List.getElem_mem hlt)
   have hfx := hf _ (List.getElem_mem hlt)
   generalize m.blocks[i] = x at *
   unfold MetaD.cells at hcell
   obtain ⟨B, hB⟩ : ∃ B, B5 ++ (m.blocks.take i).flatMap metaB = B := ⟨_, rfl⟩
   have hBl : B.length ≤ 64000 := by
    have : ((m.blocks.take i).flatMap metaB).length ≤ 70 * (m.blocks.take i).length := z3i fun y hy => z6u (hmb y (List.mem_of_mem_take hy)) (hf y (List.mem_of_mem_take hy))
    have h2 : (m.blocks.take i).length ≤ 900 := by rw [List.length_take]; omega
    rw [← hB, List.length_append]
    omega
   rw [hB] at hV
   unfold z0b z0m at hox
   have c1 := z0q (v := x.id) (by omega) (by omega)
   have c2 := z0q (v := x.level) (by omega) (by omega)
   have c3 := z0q (v := x.day) (by omega) (by omega)
   have c4 := z0q (v := x.lo) (by omega) (by omega)
   have c5 := z0q (v := x.hi) (by omega) (by omega)
   have c6 := z0q (v := x.done) (by omega) (by omega)
   have c7 := z0q (v := x.rows) (by omega) (by omega)
   simp [go_sem, e1, e38, e39, e40, hlt', hlt, hs, hlen, hcell]
   unfold NewP
   intro tx htx
   refine ⟨.ty 0, ?_⟩
   simp [go_sem, e1, e38, e39, e40]
   have HN : New st6 (upd st6 tx (.cells true [Val.i x.id, Val.i x.level, Val.i x.day, Val.i x.lo, Val.i x.hi, Val.i x.done, Val.i x.rows] 7 (.ty 0))) := (New.refl _).add htx
   refine ⟨fun E' st' => New st st' ∧ E' 1 = ptr tm ∧ st' tm = some (.cells true [Val.i m.seq, Val.i m.log, Val.i m.next, Val.i m.now, .slice (some ⟨mb, off, none⟩) m.blocks.length bc, .slice tb m.tombs.length tc] 6 (.ty 0)) ∧ E' 38 = .slice (some ⟨mb, off, none⟩) m.blocks.length bc ∧ E' 39 = Val.i m.blocks.length ∧ E' 40 = Val.i i ∧ E' 58 = .agg #[Val.i x.id, Val.i x.level, Val.i x.day, Val.i x.lo, Val.i x.hi, Val.i x.done, Val.i x.rows] ∧ ∃ j : Nat, E' 59 = Val.i j ∧ j ≤ 7 ∧ Vec st' g 1 (E' 4) (bytesV (B ++ (x.ints.take j).flatMap intB)) (B ++ (x.ints.take j).flatMap intB).length ∧ Fresh st (E' 4),
    fun E' _ => match E' 59 with | .int _ j => 7 - j.toNat | _ => 0, ⟨_, .rfl' _, hk6.trans HN, by simp [go_sem, e1], HN _ _ htm, by simp [go_sem, e38], by simp [go_sem, e39], by simp [go_sem, e40], by simp [go_sem], 0, by simp [go_sem], by omega, by simpa [go_sem] using hV.new' HN, by simpa [go_sem] using hF⟩, ?_⟩
   clear htm e1 e38 e39 e40 hV hF
   rintro E' st7 ⟨hk7, e1, htm, e38, e39, e40, e58, j, e59, hj, hV, hF⟩
   have hj' : j = 0 ∨ j = 1 ∨ j = 2 ∨ j = 3 ∨ j = 4 ∨ j = 5 ∨ j = 6 ∨ j = 7 := by omega
   rcases hj' with rfl | rfl | rfl | rfl | rfl | rfl | rfl | rfl
   ·simp [go_sem, e1, e38, e39, e40, e58, e59]
    refine (z1y g hV.reg (by omega) (by omega) (by simp [MetaD.ints] <;> omega)).mono ?_
    rintro e st8 ⟨v8, rfl, hV8, hF8, hk8⟩
    simp [go_sem, e1, e38, e39, e40, e58, e59, w0, w1]
    refine ⟨_, .rfl' _, ?_⟩
    first
    | exact ⟨hk7.trans hk8, hk8 _ _ htm, 1, rfl, by omega, by simpa [MetaD.ints, intB] using hV8, hF8.old hk7⟩
    | exact ⟨⟨hk7.trans hk8, hk8 _ _ htm, 1, rfl, by omega, by simpa [MetaD.ints, intB] using hV8, hF8.old hk7⟩, by omega⟩
   ·simp [go_sem, e1, e38, e39, e40, e58, e59]
    refine (z1y g hV.reg (by omega) (by omega) (by simp [MetaD.ints] <;> omega)).mono ?_
    rintro e st8 ⟨v8, rfl, hV8, hF8, hk8⟩
    simp [go_sem, e1, e38, e39, e40, e58, e59, w1, w2]
    refine ⟨_, .rfl' _, ?_⟩
    first
    | exact ⟨hk7.trans hk8, hk8 _ _ htm, 2, rfl, by omega, by simpa [MetaD.ints, intB] using hV8, hF8.old hk7⟩
    | exact ⟨⟨hk7.trans hk8, hk8 _ _ htm, 2, rfl, by omega, by simpa [MetaD.ints, intB] using hV8, hF8.old hk7⟩, by omega⟩
   ·simp [go_sem, e1, e38, e39, e40, e58, e59]
    refine (z1y g hV.reg (by omega) (by omega) (by simp [MetaD.ints] <;> omega)).mono ?_
    rintro e st8 ⟨v8, rfl, hV8, hF8, hk8⟩
    simp [go_sem, e1, e38, e39, e40, e58, e59, w2, w3]
    refine ⟨_, .rfl' _, ?_⟩
    first
    | exact ⟨hk7.trans hk8, hk8 _ _ htm, 3, rfl, by omega, by simpa [MetaD.ints, intB] using hV8, hF8.old hk7⟩
    | exact ⟨⟨hk7.trans hk8, hk8 _ _ htm, 3, rfl, by omega, by simpa [MetaD.ints, intB] using hV8, hF8.old hk7⟩, by omega⟩
   ·simp [go_sem, e1, e38, e39, e40, e58, e59]
    refine (z1y g hV.reg (by omega) (by omega) (by simp [MetaD.ints] <;> omega)).mono ?_
    rintro e st8 ⟨v8, rfl, hV8, hF8, hk8⟩
    simp [go_sem, e1, e38, e39, e40, e58, e59, w3, w4]
    refine ⟨_, .rfl' _, ?_⟩
    first
    | exact ⟨hk7.trans hk8, hk8 _ _ htm, 4, rfl, by omega, by simpa [MetaD.ints, intB] using hV8, hF8.old hk7⟩
    | exact ⟨⟨hk7.trans hk8, hk8 _ _ htm, 4, rfl, by omega, by simpa [MetaD.ints, intB] using hV8, hF8.old hk7⟩, by omega⟩
   ·simp [go_sem, e1, e38, e39, e40, e58, e59]
    refine (z1y g hV.reg (by omega) (by omega) (by simp [MetaD.ints] <;> omega)).mono ?_
    rintro e st8 ⟨v8, rfl, hV8, hF8, hk8⟩
    simp [go_sem, e1, e38, e39, e40, e58, e59, w4, w5]
    refine ⟨_, .rfl' _, ?_⟩
    first
    | exact ⟨hk7.trans hk8, hk8 _ _ htm, 5, rfl, by omega, by simpa [MetaD.ints, intB] using hV8, hF8.old hk7⟩
    | exact ⟨⟨hk7.trans hk8, hk8 _ _ htm, 5, rfl, by omega, by simpa [MetaD.ints, intB] using hV8, hF8.old hk7⟩, by omega⟩
   ·simp [go_sem, e1, e38, e39, e40, e58, e59]
    refine (z1y g hV.reg (by omega) (by omega) (by simp [MetaD.ints] <;> omega)).mono ?_
    rintro e st8 ⟨v8, rfl, hV8, hF8, hk8⟩
    simp [go_sem, e1, e38, e39, e40, e58, e59, w5, w6]
    refine ⟨_, .rfl' _, ?_⟩
    first
    | exact ⟨hk7.trans hk8, hk8 _ _ htm, 6, rfl, by omega, by simpa [MetaD.ints, intB] using hV8, hF8.old hk7⟩
    | exact ⟨⟨hk7.trans hk8, hk8 _ _ htm, 6, rfl, by omega, by simpa [MetaD.ints, intB] using hV8, hF8.old hk7⟩, by omega⟩
   ·simp [go_sem, e1, e38, e39, e40, e58, e59]
    refine (z1y g hV.reg (by omega) (by omega) (by simp [MetaD.ints] <;> omega)).mono ?_
    rintro e st8 ⟨v8, rfl, hV8, hF8, hk8⟩
    simp [go_sem, e1, e38, e39, e40, e58, e59, w6, w7]
    refine ⟨_, .rfl' _, ?_⟩
    first
    | exact ⟨hk7.trans hk8, hk8 _ _ htm, 7, rfl, by omega, by simpa [MetaD.ints, intB] using hV8, hF8.old hk7⟩
    | exact ⟨⟨hk7.trans hk8, hk8 _ _ htm, 7, rfl, by omega, by simpa [MetaD.ints, intB] using hV8, hF8.old hk7⟩, by omega⟩
   ·simp [go_sem, e1, e38, e39, e40, e58, e59, hwi]
    refine ⟨_, .rfl' _, ⟨hk7, htm, i + 1, by omega, by omega, ?_, hF⟩, by omega⟩
    have heq : B ++ (x.ints.take 7).flatMap intB = B5 ++ (m.blocks.take (i + 1)).flatMap metaB := by
     rw [htk, ← hB]; simp [metaB, MetaD.ints]
    rw [heq] at hV
    simpa using hV
  ·have hlt' : ((i : Int) < m.blocks.length) = False := eq_false (by omega)
   have : i = m.blocks.length := by omega
   subst this
   rw [List.take_length] at hV
   simp [go_sem, e1, e38, e39, e40]
   exact ⟨hk6, htm, by simpa using hV, hF⟩
 clear htm hk5 e1 hV5 hF5
 rintro E6 st6 ⟨hk6, e1, htm, hV6, hF6⟩
 obtain ⟨B6, hB6⟩ : ∃ B, B5 ++ m.blocks.flatMap metaB = B := ⟨_, rfl⟩
 rw [hB6] at hV6
 have hbody : B6 ++ z3d m.tombs = bodyM m := by rw [← hB6, ← hB5, ← hB4]; rfl
 have hB6l : B6.length ≤ 500000 := by
  have := congrArg List.length hbody
  rw [List.length_append] at this
  omega
 obtain ⟨v6, hv6⟩ : ∃ v, E6 4 = v := ⟨_, rfl⟩
 rw [hv6] at hV6 hF6
 simp [go_sem, e1, htm, hv6]
 refine (zdy hV6.reg (ht.new hk6) (fun i x hx => (hts i x hx).mono (fun _ _ _ _ h => h.new hk6)) hmt (by omega) h8).mono ?_
 rintro e st7 ⟨v, rfl, hV7, hF7, hk7⟩
 rw [hbody] at hV7
 simp [go_sem]
 have hfp := zh6 (W0 := W0) (st := st7) (bv := .slice none 0 0) (b := []) (g0 := g) g Reg.nil hV7.reg (by simp) (by omega)
 refine hfp.mono ?_
 rintro e st8 ⟨hk8, hR⟩
 rw [if_neg (by omega)] at hR
 obtain ⟨v', rfl, hV8, hF8⟩ := hR
 simp only [List.nil_append] at hV8
 simp [go_sem, EncR, hm]
 exact ⟨(hk6.trans hk7).trans hk8, hV8, (hF8.old hk7).old hk6⟩
end
/-! ### Bit by bit -/
def polyS : Nat := 2197175160
def bitS (r : Nat) : Nat := (r / 2) ^^^ (if r % 2 = 1 then polyS else 0)
def bitT (r b : Nat) : Nat := (r / 2) ^^^ (if r % 2 ≠ b % 2 then polyS else 0)
theorem zdn (a b : Nat) : (a ^^^ b) / 2 = (a / 2) ^^^ (b / 2) := by
 have := Nat.shiftRight_xor_distrib (a := a) (b := b) (i := 1)
 simpa [Nat.shiftRight_eq_div_pow] using this
theorem zcs (a b : Nat) : (a ^^^ b) % 2 = (a % 2 + b % 2) % 2 := by
 have h : (a ^^^ b).testBit 0 = (a.testBit 0 ^^ b.testBit 0) := Nat.testBit_xor ..
 rw [Nat.testBit_zero, Nat.testBit_zero, Nat.testBit_zero] at h
 rcases Nat.mod_two_eq_zero_or_one a with ha | ha <;> rcases Nat.mod_two_eq_zero_or_one b with hb | hb <;> rcases Nat.mod_two_eq_zero_or_one (a ^^^ b) with hc | hc
 all_goals simp [ha, hb, hc] at h ⊢
theorem bitS_xor (a b : Nat) : bitS (a ^^^ b) = bitS a ^^^ bitS b := by
 unfold bitS
 rw [zdn, zcs]
 rcases Nat.mod_two_eq_zero_or_one a with ha | ha <;> rcases Nat.mod_two_eq_zero_or_one b with hb | hb
 all_goals simp only [ha, hb]
 all_goals simp
 ·exact Nat.xor_assoc _ _ _
 ·rw [Nat.xor_assoc, Nat.xor_assoc, Nat.xor_comm (b / 2)]
 ·rw [Nat.xor_assoc, ← Nat.xor_assoc polyS, Nat.xor_comm polyS (b / 2), Nat.xor_assoc (b / 2), Nat.xor_self, Nat.xor_zero]
theorem bitT_eq (r x : Nat) : bitS (r ^^^ x) = bitT r x ^^^ (x / 2) := by
 unfold bitS bitT
 rw [zdn, zcs]
 rcases Nat.mod_two_eq_zero_or_one r with ha | ha <;> rcases Nat.mod_two_eq_zero_or_one x with hb | hb
 all_goals simp only [ha, hb]
 all_goals simp
 all_goals rw [Nat.xor_assoc, Nat.xor_assoc, Nat.xor_comm (x / 2)]
def itS : Nat → Nat → Nat
 | 0, r => r
 | k + 1, r => itS k (bitS r)
def itT : Nat → Nat → Nat → Nat
 | 0, r, _ => r
 | k + 1, r, x => itT k (bitT r x) (x / 2)
theorem zcy : ∀ (k a b : Nat), itS k (a ^^^ b) = itS k a ^^^ itS k b
 | 0, _, _ => rfl
 | k + 1, a, b => by unfold itS; rw [bitS_xor, zcy k]
theorem itT_eq : ∀ (k r x : Nat), itS k (r ^^^ x) = itT k r x ^^^ (x / 2 ^ k)
 | 0, r, x => by simp [itS, itT]
 | k + 1, r, x => by
  unfold itS itT
  rw [bitT_eq, itT_eq k, Nat.div_div_eq_div_mul, ← Nat.pow_succ']
theorem zco : ∀ (j k r : Nat), itS (j + k) r = itS k (itS j r)
 | 0, k, r => by simp [itS]
 | j + 1, k, r => by
  rw [show j + 1 + k = (j + k) + 1 by omega]
  show itS (j + k) (bitS r) = itS k (itS j (bitS r))
  exact zco j k _
theorem zgc (q : Nat) : bitS (2 * q) = q := by unfold bitS; simp
theorem zbi (r : Nat) : itS 4 r = z3o r := by
 have h1 : (16 * (r / 16)) ^^^ (r % 16) = r := by
  apply Nat.eq_of_testBit_eq
  intro i
  rw [Nat.testBit_xor, show 16 * (r / 16) = 2 ^ 4 * (r / 2 ^ 4) from rfl, show r % 16 = r % 2 ^ 4 from rfl, Nat.testBit_two_pow_mul, Nat.testBit_mod_two_pow]
  by_cases hi : 4 ≤ i
  ·have h5 : (r / 2 ^ 4).testBit (i - 4) = r.testBit i := by
    rw [Nat.testBit_div_two_pow]
    congr 1
    omega
   have h6 : ¬ i < 4 := by omega
   simp [hi, h5, h6]
  ·have h6 : i < 4 := by omega
   simp [hi, h6]
 have h16 : ∀ q, itS 4 (16 * q) = q := by
  intro q
  have : 16 * q = 2 * (2 * (2 * (2 * q))) := by omega
  rw [this]
  simp only [itS, zgc]
 have htab : ∀ j : Fin 16, itS 4 j.val = z2c.getD j.val 0 := by decide
 conv => lhs; rw [← h1]
 rw [zcy, h16]
 unfold z3o
 rw [htab ⟨r % 16, Nat.mod_lt _ (by decide)⟩]
theorem zjm (r : Nat) (x : UInt8) : itT 8 r x.toNat = z2p r x := by
 have h := itT_eq 8 r x.toNat
 have h0 : x.toNat / 2 ^ 8 = 0 := Nat.div_eq_of_lt x.toNat_lt
 rw [h0, Nat.xor_zero] at h
 rw [← h]
 unfold z2p
 rw [show 8 = 4 + 4 from rfl, zco, zbi, zbi]
end Go.Proofs.YtahgfnbkkfpcnaaGreat
