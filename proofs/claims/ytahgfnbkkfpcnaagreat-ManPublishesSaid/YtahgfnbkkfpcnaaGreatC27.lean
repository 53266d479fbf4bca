/- Sorting at most twelve strings by their order. -/
import Derived.Test.YtahgfnbkkfpcnaaGreatC21
set_option linter.unusedVariables false
set_option linter.unusedSimpArgs false
set_option maxRecDepth 100000
set_option maxHeartbeats 1000000
namespace Go.Proofs.YtahgfnbkkfpcnaaGreat
open Go.RowKit (Below)
section
variable {W0 : World} {st : Heap}
theorem zhu {a : ByteArray} : z00 Tryz.prog W0 276 #[.string a] st fun e st' => e = .returned (.bool false) ∧ st' = st := by
 refine enter (args := [_]) Tryz.func276 rfl ?_
 simp [Tryz.f276, go_sem]
theorem ze1 {a b : ByteArray} : z00 Tryz.prog W0 238 #[.string a, .string b] st fun e st' => e = .returned (.bool (ltT a b)) ∧ st' = st := by
 refine enter (args := [_, _]) Tryz.func238 rfl ?_
 simp [Tryz.f238, go_sem]
 refine zhu.mono ?_
 rintro e st1 ⟨rfl, rfl⟩
 simp [go_sem]
theorem zjb {b N cap : Nat} {cs : List ByteArray} {g : Tg} (h : st b = some (.cells true (cs.map .string) N g)) (hN : cs.length ≤ N) (hn : cs.length < 2 ^ 40) :
  z00 Tryz.prog W0 232 #[.slice (some ⟨b, 0, none⟩) cs.length cap, .int .i64 0, .int .i64 cs.length] st fun e st' => e = .returned (.tuple #[]) ∧ st' = upd st b (.cells true ((z1w ltT cs (cs.length - 1) 1).map .string) N g) := by
 refine enter (args := [_, _, _]) Tryz.func232 rfl ?_
 simp [Tryz.f232, go_sem]
 refine ⟨fun E st' => E 0 = .slice (some ⟨b, 0, none⟩) cs.length cap ∧ E 1 = .int .i64 0 ∧ E 2 = .int .i64 cs.length ∧ ∃ (i : Nat) (l : List ByteArray), E 6 = .int .i64 i ∧ 1 ≤ i ∧ (i ≤ cs.length ∨ i = 1) ∧ l.length = cs.length ∧ (∀ x ∈ l, x ∈ cs) ∧ st' = upd st b (.cells true (l.map .string) N g) ∧ z1w ltT l (cs.length - i) i = z1w ltT cs (cs.length - 1) 1,
  fun E _ => match E 6 with | .int _ i => cs.length - i.toNat | _ => 0, ⟨st, .rfl' _, by simp [go_sem], by simp [go_sem], by simp [go_sem], 1, cs, by simp [go_sem]; decide, by omega, .inr rfl, rfl, fun x hx => hx, (z6c h).symm, rfl⟩, ?_⟩
 rintro E st' ⟨e0, e1, e2, i, l, e8, hi1, hi2, hl, hmem, rfl, hsort⟩
 by_cases hlt : i < cs.length
 ·have hlt' : (i : Int) < cs.length := by omega
  have hfuel : cs.length - i = (cs.length - (i + 1)) + 1 := by omega
  rw [hfuel] at hsort
  simp only [z1w] at hsort
  have hwi : IntKind.i64.wrap ((i : Int) + 1) = i + 1 := z03 (by omega) (by omega)
  simp [go_sem, e0, e1, e2, e8, hlt']
  refine ⟨fun E st' => E 0 = .slice (some ⟨b, 0, none⟩) cs.length cap ∧ E 1 = .int .i64 0 ∧ E 2 = .int .i64 cs.length ∧ E 6 = .int .i64 i ∧ ∃ (j : Nat) (m : List ByteArray), E 7 = .int .i64 j ∧ j ≤ i ∧ m.length = cs.length ∧ (∀ x ∈ m, x ∈ cs) ∧ st' = upd st b (.cells true (m.map .string) N g) ∧ downM ltT j m = downM ltT i l,
   fun E _ => match E 7 with | .int _ j => j.toNat | _ => 0, ⟨_, .rfl' _, by simp [go_sem, e0], by simp [go_sem, e1], by simp [go_sem, e2], by simp [go_sem, e8], i, l, by simp [go_sem, e8], Nat.le_refl _, hl, hmem, rfl, rfl⟩, ?_⟩
  clear e0 e1 e2 e8
  rintro E st' ⟨e0, e1, e2, e8, j, m, e9, hji, hml, hmm, rfl, hdown⟩
  simp [go_sem]
  refine draw [0, 1, 2, 3, 4, 5, 6, 8, 9, 10, 11, 7, 12, 13, 14] (by kernel_rfl) ?_
  by_cases hj : 0 < j
  ·have hj' : (0 : Int) < j := by omega
   have hwj : IntKind.i64.wrap ((j : Int) - 1) = ((j - 1 : Nat) : Int) := by rw [z03 (by omega) (by omega)]; omega
   obtain ⟨x, hx⟩ : ∃ x, m[j]? = some x := ⟨_, List.getElem?_eq_getElem (by omega)⟩
   obtain ⟨y, hy⟩ : ∃ y, m[j - 1]? = some y := ⟨_, List.getElem?_eq_getElem (by omega)⟩
   have hjl : j < cs.length := by omega
   have hjl1 : j - 1 < cs.length := by omega
   simp [go_sem, e0, e1, e2, e8, e9, hj, hwj, hjl, hjl1, hx, hy]
   refine ze1.mono ?_
   rintro e st1 ⟨rfl, rfl⟩
   obtain ⟨j', rfl⟩ : ∃ j', j = j' + 1 := ⟨j - 1, by omega⟩
   simp only [Nat.add_sub_cancel] at hy hwj hjl1
   have hL : downM ltT (j' + 1) m = if ltT x y = true then downM ltT j' (swapM m (j' + 1)) else m := by
    conv => lhs; unfold downM
    rw [hx, hy]
   rw [hL] at hdown
   cases hcmp : ltT x y with
   | true =>
    rw [if_pos hcmp] at hdown
    simp [go_sem, e0, e1, e2, e8, e9, hcmp]
    refine draw [0, 1, 2, 3, 4, 5, 6, 7, 8, 10, 11, 12, 9, 13, 14, 15, 16, 17] (by kernel_rfl) ?_
    have hwj' : IntKind.i64.wrap (j' : Int) = j' := z03 (by omega) (by omega)
    have b1 : (0 : Int) ≤ (j' : Int) + 1 := by omega
    have b2 : (j' : Int) + 1 < cs.length := by omega
    have b3 : (j' : Int) < cs.length := by omega
    have b4 : ((j' : Int) + 1).toNat = j' + 1 := by omega
    have b5 : j' + 1 < N := by omega
    have b6 : j' < N := by omega
    have b7 : j' + 1 ≤ m.length := by omega
    have b8 : j' ≤ m.length := by omega
    have b9 : j' + 1 < m.length := by omega
    have b10 : j' < m.length := by omega
    simp [go_sem, e0, e1, e2, e8, e9, hwj', b1, b2, b3, b4, b5, b6, b7, b8, b9, b10, hx, hy]
    have hmx : m[j' + 1] = x := by rw [List.getElem?_eq_getElem b9] at hx; injection hx
    have hmy : m[j'] = y := by rw [List.getElem?_eq_getElem b10] at hy; injection hy
    have hsw : swapM m (j' + 1) = (m.set (j' + 1) y).set j' x := by unfold swapM; simp only [Nat.add_sub_cancel]; rw [hx, hy]
    refine ⟨_, .rfl' _, j', rfl, by omega, swapM m (j' + 1), by rw [zjs, hml], fun z hz => hmm z (zin hz), ?_, hdown⟩
    rw [hsw, hmx, hmy]
    simp [List.map_set]
   | false =>
    rw [if_neg (by rw [hcmp]; simp)] at hdown
    simp [go_sem, e0, e1, e2, e8, e9, hcmp, hwi]
    refine ⟨_, .rfl' _, ⟨i + 1, by omega, by omega, by omega, m, hml, hmm, rfl, by rw [hdown]; exact hsort⟩, by omega⟩
  ·have hj0 : j = 0 := by omega
   subst hj0
   simp [go_sem, e0, e1, e2, e8, e9, hwi]
   simp only [downM] at hdown
   refine ⟨_, .rfl' _, ⟨i + 1, by omega, by omega, by omega, m, hml, hmm, rfl, ?_⟩, by omega⟩
   rw [hdown]; exact hsort
 ·have hlt' : ¬ (i : Int) < cs.length := by omega
  have hz : cs.length - i = 0 := by omega
  rw [hz] at hsort
  simp only [z1w] at hsort
  simp [go_sem, e0, e1, e2, e8, hlt', hlt]
  rw [← hsort]
theorem Sort_few {b N cap : Nat} {cs : List ByteArray} {g : Tg} (h : st b = some (.cells true (cs.map .string) N g)) (hN : cs.length ≤ N) (hn : cs.length ≤ 12) :
  z00 Tryz.prog W0 119 #[.slice (some ⟨b, 0, none⟩) cs.length cap] st fun e st' => e = .returned (.tuple #[]) ∧ ∃ cs', cs'.Perm cs ∧ z0x ltT cs' ∧ st' = upd st b (.cells true (cs'.map .string) N g) := by
 refine enter (args := [_]) Tryz.func119 rfl ?_
 have hw : IntKind.u64.wrap (cs.length : Int) = cs.length := by rw [IntKind.wrap_u64]; omega
 simp [Tryz.f119, go_sem, hw]
 refine (Len_few (by omega) (by omega)).mono ?_
 rintro e st' ⟨⟨k, rfl⟩, rfl⟩
 simp [go_sem]
 refine z00.mono (R := fun e st2 => e = .returned (.tuple #[]) ∧ st2 = upd st' b (.cells true ((z1w ltT cs (cs.length - 1) 1).map .string) N g)) ?_ ?_
 ·refine enter (args := [_, _, _, _]) Tryz.func187 rfl ?_
  simp [Tryz.f187, go_sem]
  refine ⟨fun E st2 => st2 = st' ∧ E 0 = .slice (some ⟨b, 0, none⟩) cs.length cap ∧ E 1 = .int .i64 0 ∧ E 2 = .int .i64 cs.length, fun _ _ => 0, ⟨st', .rfl' st', rfl, by simp [go_sem], by simp [go_sem], by simp [go_sem]⟩, ?_⟩
  rintro E st2 ⟨rfl, e0, e1, e2⟩
  have hw1 : IntKind.i64.wrap ((cs.length : Int) - 0) = cs.length := by rw [z03 (by omega) (by omega)]; omega
  have hw' : IntKind.i64.wrap (cs.length : Int) = cs.length := z03 (by omega) (by omega)
  have hn' : (cs.length : Int) ≤ 12 := by omega
  simp [go_sem, e0, e1, e2, hw1, hw', hn', hn]
  refine (zjb h hN (by omega)).mono ?_
  rintro e st3 ⟨rfl, rfl⟩
  simp [go_sem]
 ·rintro e st2 ⟨rfl, rfl⟩
  obtain ⟨h1, h2⟩ := isort_ok z7t cs
  simp [go_sem]
  exact ⟨_, h2, h1, rfl⟩
end
def unS : Value → ByteArray
 | .string s => s
 | _ => ⟨#[]⟩
theorem zck (l : List ByteArray) : (l.map Value.string).map unS = l := by rw [List.map_map]; exact List.map_id' l
def z59 (L : KV) : Prop := L.map (·.1) = (L.map fun x => unS x.1).map Value.string
theorem z59.push {L : KV} (h : z59 L) (s : ByteArray) (v : Value) : z59 (L ++ [(.string s, v)]) := by
 unfold z59 at *
 rw [List.map_append, List.map_append, List.map_append, ← h]
 rfl
theorem zj8 {l l' : List ByteArray} (h : (l.map Value.string).Perm (l'.map Value.string)) : l.Perm l' := by
 have := h.map unS
 rwa [zck, zck] at this
theorem zhe (ad : Nat → Nat) (l : Dir) : (encM ad l).map (·.1) = (l.map (·.1)).map Value.string := by simp [encM]
def pickAt (picks : List Int) (i : Nat) : Int := if picks = [] then 0 else picks.getD (i % picks.length) 0
def leftM (files : List VFile) (picks : List Int) : Nat → Dir → VFS → Option VFS
 | _, [], S => some S
 | i, (n, k) :: ds, S => (files[k]?).bind fun F => (withM F.sure F.pend (pickAt picks i)).bind fun r => leftM files picks (i + 1) ds (S.lay n r)
structure Plain (S : VFS) (j : Nat) : Prop where
 turns : S.turns = []
 len : S.files.length = j
 files : ∀ F ∈ S.files, F.pend = [] ∧ F.now.length < 2 ^ 40 ∧ F.sure.length < 2 ^ 40
section
variable {W0 : World} {st : Heap}
theorem zd6 {f : Nat} {S : VFS} (h : FSAt st f S) (hl : S.now.length ≤ 12) (hn : Names S.now) :
  z00 Tryz.prog W0 42 #[ptr f] st fun e st' => ∃ b c ns, e = .returned (.slice b S.now.length c) ∧ ns.Perm (S.now.map (·.1)) ∧ z0x ltT ns ∧ Vec st' (.ty 0) 1 (.slice b S.now.length c) (ns.map .string) S.now.length ∧ FSAt st' f S ∧ Keep (Out f) st st' := by
 obtain ⟨sm, nm, tv, ad, h1, h2, h3, h4, h5, h6⟩ := h
 refine z00.post (enter (args := [_]) Tryz.func42 rfl ?_)
 simp [Tryz.f42, go_sem, h1, fsC]
 refine zgk h3 ?_
 intro b st1 hb hi ho
 simp [go_sem]
 have hnb := ne_of_new h3 hb
 have hbut : But nm (.own f 0 9) st st1 := fun k o hk hn _ => by rw [ho k hn (ne_of_new hk hb)]; exact hk
 refine ⟨fun E st' => E 12 = ptr' b ∧ But nm (.own f 0 9) st st' ∧ ∃ L v, z59 L ∧ Iter st' nm b (encM ad S.now) L ∧ E 3 = v ∧ Vec st' (.own f 0 9) 1 v (L.map (·.1)) L.length,
  fun E st' => S.now.length - (match E 3 with | .slice _ n _ => n | _ => 0), ⟨st1, .rfl' _, by simp [go_sem], hbut, [], .slice none 0 0, rfl, hi, by simp [go_sem], Vec.nil⟩, ?_⟩
 rintro E st' ⟨e12, hbut, L, v, hLs, hi, e3, hv⟩
 obtain ⟨vb, vc, rfl⟩ := hv.slice
 simp [go_sem, e12]
 refine zf6 (.own f 0 6) hnb hi ?_ ?_
 ·intro hp
  have hln : L.length = S.now.length := by rw [hp.length_eq]; simp [encM]
  simp [go_sem, e3]
  obtain ⟨ns, hns⟩ : ∃ ns, ns = L.map fun x => unS x.1 := ⟨_, rfl⟩
  unfold z59 at hLs
  rw [← hns] at hLs
  have hnsl : ns.length = L.length := by rw [hns]; simp
  have hnp : ns.Perm (S.now.map (·.1)) := by
   refine zj8 ?_
   rw [← hLs, ← zhe ad]
   exact hp.map _
  have hkeep : Keep (fun t => t ≠ .own f 0 9) st (upd st' nm (.map (.own f 0 6) (encM ad S.now))) := by
   intro k o g hk ht hpg
   by_cases hkn : k = nm
   ·subst hkn; rw [h3] at hk; injection hk with hk; subst hk; exact upd_same _ _ _
   ·rw [upd_ne _ _ hkn]; exact hbut k o hk hkn (by rw [ht]; intro e; injection e with e; exact hpg e)
  have hvA : Vec (upd st' nm (.map (.own f 0 6) (encM ad S.now))) (.own f 0 9) 1 (.slice vb L.length vc) (L.map (·.1)) L.length := by
   obtain ⟨z1, z2, z3, z4, z5, z6⟩ := hv
   refine ⟨z1, z2, z3, z4, z5, z6.imp ?_ id⟩
   rintro ⟨b9, n9, w1, w2, w3⟩
   obtain ⟨ents, clock, seen, Ls, q1, q2, q3, q4⟩ := hi
   exact ⟨b9, n9, w1, by rw [upd_ne _ _ (by rintro rfl; rw [q2] at w2; cases w2)]; exact w2, w3⟩
  generalize upd st' nm _ = stA at *
  have hfs : ∀ {s : Heap}, Keep (fun t => t ≠ .own f 0 9) st s → FSAt s f S := fun hkeep => ⟨sm, nm, tv, ad, hkeep.get h1 (by simp), hkeep.getM h2 (by simp), hkeep.getM h3 (by simp), h4.keep hkeep (by simp), fun i F hF => (h5 i F hF).keep hkeep (by intro r h1 h2; simp; omega), h6⟩
  by_cases hsmall : L.length ≤ 1
  ·refine (zih (by omega)).mono ?_
   rintro e st2 ⟨rfl, rfl⟩
   simp [go_sem, e3, hln]
   have hsorted : z0x ltT ns := by
    match ns, hnsl with
    | [], _ => simp [z0x]
    | [x], _ => simp [z0x]
    | x :: y :: l, h => simp at h; omega
   obtain ⟨z1, base, cap, z4, z5, z6⟩ := hvA
   injection z4 with q1 q2 q3; subst q1; subst q3
   rcases z6 with ⟨b9, n9, rfl, w2, w3⟩ | ⟨rfl, hc0⟩
   ·refine ⟨upd st2 b9 (.cells true (L.map (·.1)) n9 (.ty 0)), .retag w2, some ⟨b9, 0, none⟩, vc, ⟨rfl, rfl⟩, ns, hnp, hsorted, ?_, ?_⟩
    ·rw [← hln, hLs]
     rw [hLs] at z1
     exact Vec.new (by simp; omega) z5 (upd_same _ _ _) w3
    ·have kk := hkeep.old (o := .cells true (L.map (·.1)) n9 (.ty 0)) w2 (by simp [HObj.tag])
     exact ⟨hfs kk, kk.imp fun g h => h 0 9⟩
   ·refine ⟨st2, .rfl' _, none, vc, ⟨rfl, rfl⟩, ns, hnp, hsorted, ?_, hfs hkeep, hkeep.imp fun g h => h 0 9⟩
    rw [← hln]
    exact ⟨by simp; omega, none, vc, rfl, z5, .inr ⟨rfl, hc0⟩⟩
  ·obtain ⟨z1, base, cap, z4, z5, z6⟩ := hvA
   injection z4 with q1 q2 q3; subst q1; subst q3
   rcases z6 with ⟨b9, n9, rfl, w2, w3⟩ | ⟨rfl, hc0⟩
   ·rw [hLs] at w2
    rw [← hnsl]
    refine (Sort_few w2 (by omega) (by omega)).mono ?_
    rintro e st2 ⟨rfl, cs', hcp, hcs, rfl⟩
    simp [go_sem, e3, hln]
    have kk := hkeep.old (o := .cells true (cs'.map .string) n9 (.own f 0 9)) w2 (by simp [HObj.tag])
    have kk2 := kk.old (o := .cells true (cs'.map .string) n9 (.ty 0)) (upd_same _ _ _) (by simp [HObj.tag])
    refine ⟨_, .retag (g' := .ty 0) (upd_same _ _ _), some ⟨b9, 0, none⟩, vc, ⟨rfl, rfl⟩, cs', hcp.trans hnp, hcs, ?_, hfs kk2, kk2.imp fun g h => h 0 9⟩
    rw [← hln]
    exact Vec.new (by simp [hcp.length_eq]; omega) z5 (upd_same _ _ _) w3
   ·omega
 ·intro k v st2 hm hi2 ho2
  obtain ⟨p, hp, hpe⟩ := List.mem_map.1 hm
  injection hpe with hk hv'
  subst hk
  simp [go_sem, e12]
  refine EntryI_last hi2 ?_
  simp [go_sem, e3]
  unfold NewS
  intro b3 hb3
  refine ⟨.ty 0, ?_⟩
  simp [go_sem]
  have hbut2 : But nm (.own f 0 9) st st2 := by
   intro k o hk hn ht
   rw [ho2 k (by rintro rfl; rw [hb] at hk; cases hk)]
   exact hbut k o hk hn ht
  have hv2 : Vec st2 (.own f 0 9) 1 (.slice vb L.length vc) (L.map (·.1)) L.length := by
   obtain ⟨z1, z2, z3, z4, z5, z6⟩ := hv
   refine ⟨z1, z2, z3, z4, z5, z6.imp ?_ id⟩
   rintro ⟨b9, n9, w1, w2, w3⟩
   have hib : ∃ o, st' b = some (.other o) := by
    obtain ⟨ents, clock, seen, Ls, q1, q2, q3, q4⟩ := hi
    exact ⟨_, q3⟩
   obtain ⟨o, hio⟩ := hib
   exact ⟨b9, n9, w1, by rw [ho2 b9 (by rintro rfl; rw [hio] at w2; cases w2)]; exact w2, w3⟩
  have n3 : ∀ k o, st2 k = some o → (upd st2 b3 (.cells true [.string p.1] 1 (.ty 0))) k = some o := fun k o hk => by rw [upd_ne _ _ (ne_of_new hk hb3)]; exact hk
  have n3' : ∀ k o, st2 k = some (.other o) → (upd st2 b3 (.cells true [.string p.1] 1 (.ty 0))) k = some (.other o) := fun k o hk => n3 k _ hk
  have hlen := hi2.len
  have hml : (encM ad S.now).length = S.now.length := by simp [encM]
  rw [hml] at hlen
  simp only [List.length_append, List.length_singleton] at hlen
  refine z37 (g := .own f 0 9) (m := 1) (ys := [.string p.1]) si32 (hv2.keep (Keep.rfl'.new hb3) (p := fun _ => True) trivial) ?_ (by simp [Value.oneCell']) (by omega) ?_
  ·simp [z06, z0i, upd_same, cellsOf]
  intro s5 c5 st5 hv5 he5
  simp [go_sem, e3, e12]
  refine ⟨st5, .rfl' _, ⟨?_, L ++ [(.string p.1, v)], ?_, ?_, ?_⟩, ?_⟩
  ·intro k o hk hn ht
   exact he5.keep k o (n3 k o (hbut2 k o hk hn ht)) ht
  ·exact hLs.push _ _
  ·exact (hi2.of n3').of he5.other
  ·simpa using hv5
  ·have h7 : L.length + 1 ≤ S.now.length := hlen
   have h8 : S.now.length - (L.length + 1) < S.now.length - L.length := by omega
   exact h8
end
end Go.Proofs.YtahgfnbkkfpcnaaGreat
