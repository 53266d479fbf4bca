/- A remainder from 0 on; bytes in new memory. -/
import Derived.Test.YtahgfnbkkfpcnaaGreatCTab
import Derived.Test.YtahgfnbkkfpcnaaGreatC08
import Derived.Test.YtahgfnbkkfpcnaaGreatC41
set_option linter.unusedVariables false
set_option linter.unusedSimpArgs false
set_option maxRecDepth 100000
set_option maxHeartbeats 1000000
namespace Go.Proofs.YtahgfnbkkfpcnaaGreat
open Go.RowKit (Below)
section
variable {W0 : World} {st : Heap}
end
set_option maxHeartbeats 8000000
theorem zgy {m : ManD} (hm : manM m = true) (hf : z2j m) : 0 < (z0d (bodyM m)).length ∧ (z0d (bodyM m)).length ≤ 600000 := by
 have hbl := z3e hm hf
 have h2 := z14 (bodyM m).length (by omega)
 unfold z0d le4
 simp only [List.length_append, List.length_cons, List.length_nil]
 omega
section
variable {W0 : World} {st : Heap}
theorem zfd {v : Value} {bs : Bs} {g0 : Tg} (g : Tg) (h : Reg st g0 1 v (bytesV bs) bs.length) (hl : bs.length < 2 ^ 40) : z00 Tryz.prog W0 19 #[v] st fun e st' => ∃ b c, e = .returned (.slice b bs.length c) ∧ Vec st' g 1 (.slice b bs.length c) (bytesV bs) bs.length ∧ Fresh st (.slice b bs.length c) ∧ New st st' := by
 refine enter (args := [_]) Tryz.func19 rfl ?_
 simp [Tryz.f19, go_sem]
 refine z2q g si40 h.src (by omega) ?_
 intro b c st1 hv hf he
 simp [go_sem]
 exact ⟨b, c, ⟨rfl, rfl⟩, hv, hf, he⟩
end
def Seg (b : Bs) (a a' : Int) (s : Bs) : Prop := 0 ≤ a ∧ a ≤ a' ∧ a' ≤ b.length ∧ (b.drop a.toNat).take (a'.toNat - a.toNat) = s
theorem Seg.len {b : Bs} {a a' : Int} {s : Bs} (h : Seg b a a' s) : a + s.length = a' := by
 obtain ⟨h0, h1, h2, h3⟩ := h
 rw [← h3, List.length_take, List.length_drop]
 omega
theorem Seg.refl {b : Bs} {a : Int} (h0 : 0 ≤ a) (h1 : a ≤ b.length) : Seg b a a [] := ⟨h0, by omega, h1, by simp⟩
theorem Seg.trans {b : Bs} {a m c : Int} {s t : Bs} (h : Seg b a m s) (h' : Seg b m c t) : Seg b a c (s ++ t) := by
 obtain ⟨h0, h1, h2, h3⟩ := h
 obtain ⟨k0, k1, k2, k3⟩ := h'
 refine ⟨h0, by omega, k2, ?_⟩
 rw [show c.toNat - a.toNat = (m.toNat - a.toNat) + (c.toNat - m.toNat) by omega, List.take_add, h3, List.drop_drop, show a.toNat + (m.toNat - a.toNat) = m.toNat by omega, k3]
theorem Seg.whole {b s : Bs} (h : Seg b 0 b.length s) : s = b := by
 obtain ⟨h0, h1, h2, h3⟩ := h
 rw [← h3]
 simp
theorem Seg.byte {b : Bs} {a : Nat} {x : UInt8} (h : b[a]? = some x) : Seg b a ((a + 1 : Nat) : Int) [x] := by
 obtain ⟨hl, hx⟩ := List.getElem?_eq_some_iff.1 h
 refine ⟨by omega, by omega, by omega, ?_⟩
 have : b.drop a = x :: b.drop (a + 1) := by rw [← hx]; exact List.drop_eq_getElem_cons hl
 simp only [Int.toNat_natCast]
 rw [this, show a + 1 - a = 1 by omega]
 rfl
theorem Seg.nat {b s : Bs} {c n : Nat} (h : c + n ≤ b.length) (hs : (b.drop c).take n = s) : Seg b c ((c + n : Nat) : Int) s := by
 refine ⟨by omega, by omega, by omega, ?_⟩
 simp only [Int.toNat_natCast]
 rw [show c + n - c = n by omega, hs]
theorem zec {b : Bs} : ∀ (k : Nat) {a v w a' : Nat}, k ≤ 9 → vgetL b (k + 1) a v = some (w, a') → ∃ n, w = v + n * 128 ^ (9 - k) ∧ Seg b a a' (vputM n) ∧ (k = 9 ∨ 0 < n) := by
 intro k
 induction k with
 | zero =>
  intro a v w a' _ h
  unfold vgetL at h
  split at h
  ·cases h
  rename_i x hx
  split at h
  ·cases h
  split at h
  ·split at h
   ·cases h
   injection h with h
   injection h with h1 h2
   subst h1
   subst h2
   refine ⟨x.toNat, by rw [Nat.mod_eq_of_lt (by assumption)], ?_, .inr (by omega)⟩
   have := Seg.byte hx
   unfold vputM
   rw [if_pos (by assumption)]
   simpa using this
  ·unfold vgetL at h
   cases h
 | succ k ih =>
  intro a v w a' hk h
  unfold vgetL at h
  split at h
  ·cases h
  rename_i x hx
  split at h
  ·cases h
  split at h
  ·split at h
   ·cases h
   injection h with h
   injection h with h1 h2
   subst h1
   subst h2
   refine ⟨x.toNat, by rw [Nat.mod_eq_of_lt (by assumption)], ?_, ?_⟩
   ·have := Seg.byte hx
    unfold vputM
    rw [if_pos (by assumption)]
    simpa using this
   ·rename_i hn
    rcases Nat.lt_or_ge (k + 1) 9 with h9 | h9
    ·right
     rcases Nat.eq_zero_or_pos x.toNat with h0 | h0
     ·exact absurd ⟨h9, h0⟩ hn
     ·exact h0
    ·left; omega
  ·rename_i hge
   obtain ⟨n, hw, hs, hn⟩ := ih (by omega) h
   have hx256 := x.toNat_lt
   have hn0 : 0 < n := by omega
   refine ⟨x.toNat % 128 + 128 * n, ?_, ?_, .inr (by omega)⟩
   ·rw [hw]
    have hpow : (128 : Nat) ^ (9 - k) = 128 * 128 ^ (9 - (k + 1)) := by
     rw [show 9 - k = 9 - (k + 1) + 1 by omega, Nat.pow_succ, Nat.mul_comm]
    rw [hpow, Nat.add_mul, ← Nat.mul_assoc, Nat.mul_comm n 128]
    omega
   ·have h1 := (Seg.byte hx).trans hs
    rw [vputM, if_neg (by omega)]
    have e1 : (x.toNat % 128 + 128 * n) / 128 = n := by omega
    have e2 : (x.toNat % 128 + 128 * n) % 128 + 128 = x.toNat := by omega
    rw [e1, e2]
    simpa using h1
theorem z3m {b : Bs} {a : Int} {n a' : Nat} (h : vgetM b a = some (n, a')) : Seg b a a' (vputM n) := by
 unfold vgetM at h
 split at h
 ·cases h
 obtain ⟨m, hw, hs, _⟩ := zec 9 (by omega) h
 simp at hw
 subst hw
 rwa [show ((a.toNat : Nat) : Int) = a by omega] at hs
theorem zz_unzz (u : Nat) : zz (unzz u) = u := by
 unfold zz unzz
 split <;> split <;> omega
theorem zix {b : Bs} {a v : Int} {a' : Nat} (h : z2a b a = some (v, a')) : Seg b a a' (intB v) := by
 unfold z2a at h
 obtain ⟨p, hp, h⟩ := Option.map_eq_some_iff.1 h
 injection h with h1 h2
 subst h1
 subst h2
 unfold intB
 rw [zz_unzz]
 exact z3m hp
theorem z6b {b : Bs} : ∀ {k : Nat} {a : Int} {l : List Int} {a' : Int}, 0 ≤ a → a ≤ b.length → intsM b k a = some (l, a') → Seg b a a' (l.flatMap intB)
 | 0, a, l, a', h0, h1, h => by
  unfold intsM at h
  injection h with h; injection h with e1 e2; subst e1; subst e2
  exact .refl h0 h1
 | k + 1, a, l, a', h0, h1, h => by
  unfold intsM at h
  obtain ⟨p, hp, h⟩ := Option.bind_eq_some_iff.1 h
  obtain ⟨q, hq, h⟩ := Option.map_eq_some_iff.1 h
  injection h with e1 e2
  subst e1
  subst e2
  have s1 := zix (v := p.1) (a' := p.2) hp
  have s2 := z6b (l := q.1) (a' := q.2) (Int.le_trans s1.1 s1.2.1) s1.2.2.1 hq
  rw [List.flatMap_cons]
  exact s1.trans s2
theorem z8n {b : Bs} {a : Int} {most n a' : Nat} (h : numM b a most = some (n, a')) : Seg b a a' (vputM n) := by
 unfold numM at h
 obtain ⟨p, hp, h⟩ := Option.bind_eq_some_iff.1 h
 split at h
 ·injection h with h
  subst h
  exact z3m hp
 ·cases h
theorem z6s {b : Bs} {a : Int} {most : Nat} {s : ByteArray} {a' : Nat} (h : txtM b a most = some (s, a')) : Seg b a a' (textB s) := by
 unfold txtM at h
 obtain ⟨p, hp, h⟩ := Option.map_eq_some_iff.1 h
 injection h with e1 e2
 subst e1
 subst e2
 unfold z31 at hp
 split at hp
 ·cases hp
 rename_i n c hv
 split at hp
 ·cases hp
 rename_i hn
 injection hp with hp
 subst hp
 have s1 := z3m hv
 have hb := z21 hv
 simp only at hb
 have s2 : Seg b c ((c + n : Nat) : Int) ((b.drop c).take n) := Seg.nat (by omega) rfl
 have s3 := s1.trans s2
 unfold textB
 have hsz : ((b.drop c).take n).length = n := by rw [List.length_take, List.length_drop]; omega
 simpa [ByteArray.size, hsz] using s3
theorem z8t {b : Bs} : ∀ {k : Nat} {a : Int} {l : List ByteArray} {a' : Int}, 0 ≤ a → a ≤ b.length → txtsM b k a = some (l, a') → l.length = k ∧ Seg b a a' ((l.map textB).flatten)
 | 0, a, l, a', h0, h1, h => by
  unfold txtsM at h
  injection h with h; injection h with e1 e2; subst e1; subst e2
  exact ⟨rfl, .refl h0 h1⟩
 | k + 1, a, l, a', h0, h1, h => by
  unfold txtsM at h
  obtain ⟨p, hp, h⟩ := Option.bind_eq_some_iff.1 h
  obtain ⟨q, hq, h⟩ := Option.map_eq_some_iff.1 h
  injection h with e1 e2
  subst e1
  subst e2
  have s1 := z6s (s := p.1) (a' := p.2) hp
  obtain ⟨hl, s2⟩ := z8t (l := q.1) (a' := q.2) (Int.le_trans s1.1 s1.2.1) s1.2.2.1 hq
  refine ⟨by simp [hl], ?_⟩
  rw [List.map_cons, List.flatten_cons]
  exact s1.trans s2
theorem z6l {f : Int → Int → Option (Mat × Int × Int)} : ∀ {k : Nat} {a l : Int} {r : List Mat × Int × Int}, z0j f k a l = some r → r.1.length = k
 | 0, a, l, r, h => by unfold z0j at h; injection h with h; subst h; rfl
 | k + 1, a, l, r, h => by
  unfold z0j at h
  obtain ⟨p, hp, h⟩ := Option.bind_eq_some_iff.1 h
  obtain ⟨q, hq, h⟩ := Option.map_eq_some_iff.1 h
  subst h
  simp [z6l hq]
theorem z4h {b : Bs} {f : Int → Int → Option (Mat × Int × Int)} (hf : ∀ {a l : Int} {r : Mat × Int × Int}, f a l = some r → 0 ≤ a → a ≤ b.length → Seg b a r.2.1 (putM r.1)) :
  ∀ {k : Nat} {a l : Int} {r : List Mat × Int × Int}, 0 ≤ a → a ≤ b.length → z0j f k a l = some r → Seg b a r.2.1 (putsM r.1)
 | 0, a, l, r, h0, h1, h => by unfold z0j at h; injection h with h; subst h; unfold putsM; exact .refl h0 h1
 | k + 1, a, l, r, h0, h1, h => by
  unfold z0j at h
  obtain ⟨p, hp, h⟩ := Option.bind_eq_some_iff.1 h
  obtain ⟨q, hq, h⟩ := Option.map_eq_some_iff.1 h
  subst h
  have s1 := hf hp h0 h1
  have s2 := z4h hf (Int.le_trans s1.1 s1.2.1) s1.2.2.1 hq
  show Seg b a q.2.1 (putsM (p.1 :: q.1))
  unfold putsM
  exact s1.trans s2
theorem z4m {b : Bs} : ∀ (d : Nat) {a l : Int} {r : Mat × Int × Int}, readM b d a l = some r → 0 ≤ a → a ≤ b.length → Seg b a r.2.1 (putM r.1)
 | 0, a, l, r, h, _, _ => by unfold readM at h; cases h
 | d + 1, a, l, r, h, h0, h1 => by
  unfold readM at h
  split at h
  ·cases h
  obtain ⟨hd, hh, h⟩ := Option.bind_eq_some_iff.1 h
  obtain ⟨q, hq, h⟩ := Option.map_eq_some_iff.1 h
  subst h
  have hlen := z6l hq
  unfold headM at hh
  obtain ⟨p, hp, hh⟩ := Option.bind_eq_some_iff.1 hh
  have s1 := z8n (n := p.1) (a' := p.2) hp
  have hp7 := numM_le (n := p.1) (p := p.2) hp
  have hop : (IntKind.u64.wrap (p.1 : Int)).toNat = p.1 := by rw [z0c _ (by omega) (by omega)]; omega
  have g0 := Int.le_trans s1.1 s1.2.1
  have g1 := s1.2.2.1
  show Seg b a q.2.1 (putM (.mk hd.op hd.name hd.value hd.vals q.1))
  split at hh
  ·rename_i c
   obtain ⟨x, hx, hh⟩ := Option.bind_eq_some_iff.1 hh
   obtain ⟨y, hy, hh⟩ := Option.map_eq_some_iff.1 hh
   subst hh
   have s2 := z6s (s := x.1) (a' := x.2) hx
   have s3 := z6s (s := y.1) (a' := y.2) hy
   have s4 := z4h (fun hr => z4m d hr) (Int.le_trans s3.1 s3.2.1) s3.2.2.1 hq
   have hk := List.eq_nil_of_length_eq_zero hlen
   rw [hk] at s4
   unfold putsM at s4
   unfold putM
   simp only
   rw [hop, if_pos (by omega)]
   have := (s1.trans (s2.trans s3)).trans s4
   simpa using this
  ·rename_i c1
   split at hh
   ·rename_i c
    obtain ⟨x, hx, hh⟩ := Option.bind_eq_some_iff.1 hh
    obtain ⟨y, hy, hh⟩ := Option.bind_eq_some_iff.1 hh
    obtain ⟨z, hz, hh⟩ := Option.map_eq_some_iff.1 hh
    subst hh
    have s2 := z6s (s := x.1) (a' := x.2) hx
    have s3 := z8n (n := y.1) (a' := y.2) hy
    obtain ⟨hzl, s4⟩ := z8t (l := z.1) (a' := z.2) (Int.le_trans s3.1 s3.2.1) s3.2.2.1 hz
    have s5 := z4h (fun hr => z4m d hr) (Int.le_trans s4.1 s4.2.1) s4.2.2.1 hq
    have hk := List.eq_nil_of_length_eq_zero hlen
    rw [hk] at s5
    unfold putsM at s5
    unfold putM
    simp only
    rw [c] at hop s1
    rw [if_neg (by omega), if_pos (by omega), hzl]
    have e4 : (IntKind.u64.wrap (((4 : Nat) : Int))).toNat = 4 := hop
    rw [e4]
    have := (s1.trans (s2.trans (s3.trans s4))).trans s5
    simpa using this
   ·rename_i c2
    split at hh
    ·rename_i c
     obtain ⟨x, hx, hh⟩ := Option.map_eq_some_iff.1 hh
     subst hh
     have s2 := z8n (n := x.1) (a' := x.2) hx
     have s3 := z4h (fun hr => z4m d hr) (Int.le_trans s2.1 s2.2.1) s2.2.2.1 hq
     unfold putM
     simp only
     rw [hop, if_neg (by omega), if_neg (by omega), if_pos (by omega), hlen]
     exact s1.trans (s2.trans s3)
    ·rename_i c3
     split at hh
     ·rename_i c
      injection hh with hh
      subst hh
      have s2 := z4h (fun hr => z4m d hr) g0 g1 hq
      unfold putM
      simp only
      rw [c] at hop s1
      have e7 : (IntKind.u64.wrap (((7 : Nat) : Int))).toNat = 7 := hop
      rw [e7, if_neg (by omega), if_neg (by omega), if_neg (by omega), List.nil_append]
      exact s1.trans s2
     ·injection hh with hh
      subst hh
      have s2 := z4h (fun hr => z4m d hr) g0 g1 hq
      unfold putM
      simp only
      rw [hop, if_neg (by omega), if_neg (by omega), if_neg (by omega), List.nil_append]
      exact s1.trans s2
theorem ziz {b : Bs} {a : Int} {r : Mat × Int} (h : getMatM b a = some r) (h0 : 0 ≤ a) (h1 : a ≤ b.length) : Seg b a r.2 (putM r.1) := by
 unfold getMatM at h
 obtain ⟨p, hp, h⟩ := Option.bind_eq_some_iff.1 h
 split at h
 ·injection h with h
  subst h
  exact z4m 8 hp h0 h1
 ·cases h
theorem zfn {b : Bs} {a : Int} {r : TombD × Int} (h : z3p b a = some r) (h0 : 0 ≤ a) (h1 : a ≤ b.length) : Seg b a r.2 (tombB r.1) := by
 unfold z3p at h
 obtain ⟨p, hp, h⟩ := Option.bind_eq_some_iff.1 h
 obtain ⟨q, hq, h⟩ := Option.map_eq_some_iff.1 h
 subst h
 have s1 := z6b (l := p.1) (a' := p.2) h0 h1 hp
 have hl := z48 (l := p.1) (a' := p.2) hp
 have s2 := ziz hq (Int.le_trans s1.1 s1.2.1) s1.2.2.1
 obtain ⟨l, a1⟩ := p
 simp only at *
 match l, hl with
 | [x, y, z], _ =>
  unfold tombB
  have := s1.trans s2
  simpa using this
theorem z6v {b : Bs} : ∀ {k : Nat} {prev : Option Int} {a : Int} {r : List TombD × Int}, z0y b prev k a = some r → 0 ≤ a → a ≤ b.length → r.1.length = k ∧ Seg b a r.2 (r.1.flatMap tombB)
 | 0, prev, a, r, h, h0, h1 => by unfold z0y at h; injection h with h; subst h; exact ⟨rfl, .refl h0 h1⟩
 | k + 1, prev, a, r, h, h0, h1 => by
  unfold z0y at h
  obtain ⟨p, hp, h⟩ := Option.bind_eq_some_iff.1 h
  split at h
  ·obtain ⟨q, hq, h⟩ := Option.map_eq_some_iff.1 h
   subst h
   have s1 := zfn hp h0 h1
   obtain ⟨hl, s2⟩ := z6v hq (Int.le_trans s1.1 s1.2.1) s1.2.2.1
   exact ⟨by simp [hl], s1.trans s2⟩
  ·cases h
theorem z6t {b : Bs} : ∀ {k : Nat} {a : Int} {r : List MetaD × Int}, z0u b k a = some r → 0 ≤ a → a ≤ b.length → r.1.length = k ∧ Seg b a r.2 (r.1.flatMap metaB)
 | 0, a, r, h, h0, h1 => by unfold z0u at h; injection h with h; subst h; exact ⟨rfl, .refl h0 h1⟩
 | k + 1, a, r, h, h0, h1 => by
  unfold z0u at h
  obtain ⟨p, hp, h⟩ := Option.bind_eq_some_iff.1 h
  obtain ⟨q, hq, h⟩ := Option.map_eq_some_iff.1 h
  subst h
  have s1 := z6b (l := p.1) (a' := p.2) h0 h1 hp
  have hl7 := z48 (l := p.1) (a' := p.2) hp
  obtain ⟨hl, s2⟩ := z6t hq (Int.le_trans s1.1 s1.2.1) s1.2.2.1
  refine ⟨by simp [hl], ?_⟩
  obtain ⟨l, a1⟩ := p
  simp only at *
  match l, hl7 with
  | [x0, x1, x2, x3, x4, x5, x6], _ => exact s1.trans s2
theorem zjr {b : Bs} {m : ManD} (h : z1p b = some m) : bodyM m = b := by
 unfold z1p at h
 obtain ⟨p, hp, h⟩ := Option.bind_eq_some_iff.1 h
 obtain ⟨c, hc, h⟩ := Option.bind_eq_some_iff.1 h
 split at h
 ·cases h
 obtain ⟨bl, hbl, h⟩ := Option.bind_eq_some_iff.1 h
 obtain ⟨t, ht, h⟩ := Option.bind_eq_some_iff.1 h
 split at h
 ·rename_i hend
  injection h with h
  subst h
  have s1 := z6b (l := p.1) (a' := p.2) (by omega) (by omega) hp
  have hl4 := z48 (l := p.1) (a' := p.2) hp
  have s2 := z3m (n := c.1) (a' := c.2) hc
  obtain ⟨hbll, s3⟩ := z6t hbl (Int.le_trans s2.1 s2.2.1) s2.2.2.1
  unfold z1k at ht
  obtain ⟨d, hd, ht⟩ := Option.bind_eq_some_iff.1 ht
  split at ht
  ·cases ht
  have s4 := z3m (n := d.1) (a' := d.2) hd
  obtain ⟨htl, s5⟩ := z6v ht (Int.le_trans s4.1 s4.2.1) s4.2.2.1
  rw [hend] at s5
  obtain ⟨l, a1⟩ := p
  simp only at *
  match l, hl4 with
  | [x0, x1, x2, x3], _ =>
   refine Seg.whole ?_
   unfold bodyM z3d
   simp only [hbll, htl]
   have := s1.trans (s2.trans (s3.trans (s4.trans s5)))
   simpa using this
 ·cases h
theorem z9n {b : Bs} (h : b.length = 4) : le4 (le4R b) = b := by
 match b, h with
 | [x, y, z, w], _ =>
  have hx := x.toNat_lt
  have hy := y.toNat_lt
  have hz := z.toNat_lt
  have hw := w.toNat_lt
  unfold le4R le4
  simp only
  have e1 : (x.toNat + 256 * y.toNat + 65536 * z.toNat + 16777216 * w.toNat) % 256 = x.toNat := by omega
  have e2 : (x.toNat + 256 * y.toNat + 65536 * z.toNat + 16777216 * w.toNat) / 256 % 256 = y.toNat := by omega
  have e3 : (x.toNat + 256 * y.toNat + 65536 * z.toNat + 16777216 * w.toNat) / 65536 % 256 = z.toNat := by omega
  have e4 : (x.toNat + 256 * y.toNat + 65536 * z.toNat + 16777216 * w.toNat) / 16777216 % 256 = w.toNat := by omega
  rw [e1, e2, e3, e4]
  simp
theorem zgj {b body : Bs} {e : Nat} {a : Int} (h : z18 b a = .ok (body, e)) : Seg b a e (z0d body) ∧ 1 ≤ body.length ∧ body.length ≤ 1048576 := by
 unfold z18 at h
 split at h
 ·cases h
 split at h
 ·cases h
 split at h
 ·cases h
 rename_i n c hv
 split at h
 ·cases h
 rename_i hn
 split at h
 ·cases h
 rename_i hcrc
 injection h with h
 injection h with h1 h2
 subst h2
 have hb := z21 hv
 simp only at hb
 have hl : body.length = n := by rw [← h1, List.length_take, List.length_drop]; omega
 have s1 := z3m hv
 have s2 : Seg b c ((c + 4 : Nat) : Int) ((b.drop c).take 4) := Seg.nat (by omega) rfl
 have s3 : Seg b ((c + 4 : Nat) : Int) ((c + 4 + n : Nat) : Int) body := Seg.nat (by omega) h1
 have h4 : ((b.drop c).take 4).length = 4 := by rw [List.length_take, List.length_drop]; omega
 have e4 := z9n h4
 rw [h1] at hcrc
 have hcrc' : crcM body = le4R ((b.drop c).take 4) := Classical.not_not.1 hcrc
 refine ⟨?_, by omega, by omega⟩
 unfold z0d
 rw [hl, hcrc', e4]
 exact s1.trans (s2.trans s3)
theorem zji (b : Bs) : z1o b = match z18 b 0 with
  | .error _ => none
  | .ok (body, e) => if e = b.length then (z1p body).bind fun m => if manM m = true then some m else none else none := by
 unfold z1o
 cases hf : z18 b 0 with
 | error k => rfl
 | ok p =>
  obtain ⟨body, e⟩ := p
  simp only
  by_cases he : e = b.length
  ·rw [if_pos he, if_pos he]
   cases hr : z1p body with
   | none => rfl
   | some m =>
    simp only [Option.bind_some]
    have h1 := zjr hr
    have h2 := (zgj hf).1
    rw [he] at h2
    have h3 := Seg.whole h2
    rw [h1, h3]
    simp
  ·rw [if_neg he, if_neg he]
end Go.Proofs.YtahgfnbkkfpcnaaGreat
