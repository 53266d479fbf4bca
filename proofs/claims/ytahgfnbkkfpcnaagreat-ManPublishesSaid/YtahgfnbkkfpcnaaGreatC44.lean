/- The document's matchers and tombs read. -/
import Derived.Test.YtahgfnbkkfpcnaaGreatC43
import Derived.Test.YtahgfnbkkfpcnaaGreatC13
import Derived.Test.YtahgfnbkkfpcnaaGreatC35
import Derived.Test.YtahgfnbkkfpcnaaGreatC37
set_option linter.unusedVariables false
set_option linter.unusedSimpArgs false
set_option maxRecDepth 100000
set_option maxHeartbeats 8000000
namespace Go.Proofs.YtahgfnbkkfpcnaaGreat
open Go.RowKit (Below)
theorem z73 {b : Bs} {a : Int} {most : Nat} {s : ByteArray} {a' : Nat} (h : txtM b a most = some (s, a')) : s.size ≤ most := by
 unfold txtM at h
 obtain ⟨p, hp, h⟩ := Option.map_eq_some_iff.1 h
 injection h with e1 e2
 subst e1
 unfold z31 at hp
 split at hp
 ·cases hp
 rename_i n c hv
 split at hp
 ·cases hp
 rename_i hn
 injection hp with hp
 subst hp
 have : ((b.drop c).take n).length ≤ n := List.length_take_le _ _
 show ((b.drop c).take n).toArray.size ≤ most
 rw [List.size_toArray]
 omega
theorem zbl {b : Bs} : ∀ {k : Nat} {a : Int} {l : List ByteArray} {a' : Int}, txtsM b k a = some (l, a') → l.length = k ∧ ∀ v ∈ l, v.size ≤ 64
 | 0, a, l, a', h => by unfold txtsM at h; injection h with h; injection h with h1 h2; subst h1; exact ⟨rfl, by simp⟩
 | k + 1, a, l, a', h => by
  unfold txtsM at h
  obtain ⟨p, hp, h⟩ := Option.bind_eq_some_iff.1 h
  obtain ⟨q, hq, h⟩ := Option.map_eq_some_iff.1 h
  injection h with e1 e2
  subst e1
  have h1 := z73 (s := p.1) (a' := p.2) hp
  obtain ⟨h2, h3⟩ := zbl (l := q.1) (a' := q.2) hq
  refine ⟨by simp [h2], fun v hv => ?_⟩
  rcases List.mem_cons.1 hv with rfl | hv
  ·exact h1
  ·exact h3 v hv
theorem readsF_all {f : Int → Int → Option (Mat × Int × Int)} {P : Mat → Prop} (hf : ∀ {a l : Int} {r : Mat × Int × Int}, f a l = some r → P r.1) : ∀ {k : Nat} {a l : Int} {r : List Mat × Int × Int}, z0j f k a l = some r → ∀ m ∈ r.1, P m
 | 0, a, l, r, h => by unfold z0j at h; injection h with h; subst h; simp
 | k + 1, a, l, r, h => by
  unfold z0j at h
  obtain ⟨p, hp, h⟩ := Option.bind_eq_some_iff.1 h
  obtain ⟨q, hq, h⟩ := Option.map_eq_some_iff.1 h
  subst h
  intro m hm
  rcases List.mem_cons.1 hm with rfl | hm
  ·exact hf hp
  ·exact readsF_all hf hq m hm
theorem headM_nice {b : Bs} {a : Int} {h : MHead} (hh : headM b a = some h) : h.name.size ≤ 32 ∧ h.value.size ≤ 64 ∧ h.vals.length ≤ 16 ∧ (∀ v ∈ h.vals, v.size ≤ 64) ∧ h.k ≤ 64 := by
 unfold headM at hh
 obtain ⟨p, hp, hh⟩ := Option.bind_eq_some_iff.1 hh
 split at hh
 ·obtain ⟨x, hx, hh⟩ := Option.bind_eq_some_iff.1 hh
  obtain ⟨y, hy, hh⟩ := Option.map_eq_some_iff.1 hh
  subst hh
  exact ⟨z73 (s := x.1) (a' := x.2) hx, z73 (s := y.1) (a' := y.2) hy, by simp, by simp, by simp⟩
 split at hh
 ·obtain ⟨x, hx, hh⟩ := Option.bind_eq_some_iff.1 hh
  obtain ⟨y, hy, hh⟩ := Option.bind_eq_some_iff.1 hh
  obtain ⟨z, hz, hh⟩ := Option.map_eq_some_iff.1 hh
  subst hh
  obtain ⟨h1, h2⟩ := zbl (l := z.1) (a' := z.2) hz
  have h3 := numM_le (n := y.1) (p := y.2) hy
  exact ⟨z73 (s := x.1) (a' := x.2) hx, Nat.zero_le _, by simp only; omega, h2, by simp⟩
 split at hh
 ·obtain ⟨x, hx, hh⟩ := Option.map_eq_some_iff.1 hh
  subst hh
  exact ⟨Nat.zero_le _, Nat.zero_le _, by simp, by simp, numM_le (n := x.1) (p := x.2) hx⟩
 split at hh
 ·injection hh with hh
  subst hh
  exact ⟨Nat.zero_le _, Nat.zero_le _, by simp, by simp, by simp⟩
 ·injection hh with hh
  subst hh
  exact ⟨Nat.zero_le _, Nat.zero_le _, by simp, by simp, by simp⟩
theorem z98 {b : Bs} : ∀ (d : Nat) {a l : Int} {r : Mat × Int × Int}, readM b d a l = some r → NiceM d r.1
 | 0, a, l, r, h => by unfold readM at h; cases h
 | d + 1, a, l, r, h => by
  unfold readM at h
  split at h
  ·cases h
  obtain ⟨hd, hh, h⟩ := Option.bind_eq_some_iff.1 h
  obtain ⟨q, hq, h⟩ := Option.map_eq_some_iff.1 h
  subst h
  obtain ⟨h1, h2, h3, h4, h5⟩ := headM_nice hh
  have h6 := z6l hq
  have h7 := readsF_all (P := NiceM d) (fun hr => z98 d hr) hq
  show NiceM (d + 1) (.mk _ _ _ _ _)
  unfold NiceM
  exact ⟨by omega, by omega, by omega, fun v hv => by have := h4 v hv; omega, by omega, h7⟩
def MGetR (st : Heap) (r : Nat) (bv : Value) (R : Option (Mat × Int)) (e : Ending) (st' : Heap) : Prop := But1 r st st' ∧ ∃ x0 x1 x2 x3 x4 : Value, e = .returned (.agg #[x0, x1, x2, x3, x4]) ∧ (x0.oneCell' = true ∧ x1.oneCell' = true ∧ x2.oneCell' = true ∧ x3.oneCell' = true ∧ x4.oneCell' = true) ∧ match R with
 | some (m, a) => MatAt st' [x0, x1, x2, x3, x4] m ∧ RefAt st' r bv (some a)
 | none => RefAt st' r bv none
section
variable {W0 : World} {st : Heap}
theorem zg6 {r : Nat} {bv : Value} {b : Bs} {g0 : Tg} {p : Option Int} (hr : RefAt st r bv p) (hb : Reg st g0 1 bv (bytesV b) b.length) (hg : Free g0) (hl : b.length < 2 ^ 60) :
  z00 Tryz.prog W0 86 #[ptr r] st (MGetR st r bv (p.bind (getMatM b))) := by
 obtain ⟨a0, bad0, hr0, hp⟩ := hr.cell
 generalize hRES : p.bind (getMatM b) = RES
 refine enter (args := [_]) Tryz.func86 rfl ?_
 simp [Tryz.f86, go_sem]
 unfold NewP
 intro t2 ht2
 refine ⟨.own t2 0 74, ?_⟩
 have n2 : r ≠ t2 := ne_of_new hr0 ht2
 simp [go_sem]
 have hc1 := upd_same st t2 (.cells true [Val.i 0, .string ⟨#[]⟩, .string ⟨#[]⟩, .slice none 0 0, .slice none 0 0] 5 (.own t2 0 74))
 have hr1 := hr.upd (b := t2) (o := (.cells true [Val.i 0, .string ⟨#[]⟩, .string ⟨#[]⟩, .slice none 0 0, .slice none 0 0] 5 (.own t2 0 74))) (Ne.symm n2)
 have hNa := (New.refl st).add (b := t2) (o := (.cells true [Val.i 0, .string ⟨#[]⟩, .string ⟨#[]⟩, .slice none 0 0, .slice none 0 0] 5 (.own t2 0 74))) ht2
 generalize upd st t2 (.cells true [Val.i 0, .string ⟨#[]⟩, .string ⟨#[]⟩, .slice none 0 0, .slice none 0 0] 5 (.own t2 0 74)) = st1 at *
 intro s hs
 refine ⟨.own s 0 98, ?_⟩
 have ns2 : t2 ≠ s := ne_of_new hc1 hs
 obtain ⟨a1, bad1, hr1', _⟩ := hr1.cell
 have nsr : r ≠ s := ne_of_new hr1' hs
 simp [go_sem]
 have hs2 := upd_same st1 s (.cells true [Val.i 0] 1 (.own s 0 98))
 have hr2 := hr1.upd (b := s) (o := .cells true [Val.i 0] 1 (.own s 0 98)) (Ne.symm nsr)
 have hNb := hNa.add (b := s) (o := .cells true [Val.i 0] 1 (.own s 0 98)) hs
 have hc2 := (upd_ne st1 (.cells true [Val.i 0] 1 (.own s 0 98)) ns2).trans hc1
 have hss : st s = none := hNa.none hs
 generalize upd st1 s (.cells true [Val.i 0] 1 (.own s 0 98)) = st2 at *
 refine (got_spec hl hg 8 (deep := 1) (by omega) nsr hr2 hs2 (hb.new hNb) (by omega) (by omega)).mono ?_
 rintro e st3 ⟨hB3, y0, y1, y2, y3, y4, rfl, ⟨o0, o1, o2, o3, o4⟩, kk', hs3, hQ⟩
 have hc3 := hB3.get hc2 (Ne.symm n2) ns2
 have hk3 : But1 r st st3 := fun k o h1 hk => hB3 k o h1 (by rintro rfl; rw [hss] at hk; cases hk) (hNb k o hk)
 have u0 := o0
 have u1 := o1
 have u2 := o2
 have u3 := o3
 have u4 := o4
 unfold Value.oneCell' at u0 u1 u2 u3 u4
 simp [go_sem]
 unfold NewP
 intro t4 ht4
 refine ⟨.ty 0, ?_⟩
 have n24 : t2 ≠ t4 := ne_of_new hc3 ht4
 have nr4 : t4 ≠ r := by
  rintro rfl
  have : ∃ o, st3 t4 = some o := by
   cases hx : p.bind fun a => readM b 8 a (64 - 0) with
   | none => rw [hx] at hQ; obtain ⟨a, h⟩ := hQ; exact ⟨_, h⟩
   | some q => rw [hx] at hQ; exact ⟨_, hQ.2.1⟩
  obtain ⟨o, ho⟩ := this
  rw [ho] at ht4
  cases ht4
 have hNc := (New.refl st3).add (b := t4) (o := .cells true [y0, y1, y2, y3, y4] 5 (.ty 0)) ht4
 have hd4 := upd_same st3 t4 (.cells true [y0, y1, y2, y3, y4] 5 (.ty 0))
 have hc4 := hNc _ _ hc3
 have hk4 := hk3.add (b := t4) (o := .cells true [y0, y1, y2, y3, y4] 5 (.ty 0)) ht4
 simp [go_sem, u0, u1, u2, u3, u4]
 generalize upd st3 t4 (.cells true [y0, y1, y2, y3, y4] 5 (.ty 0)) = st4 at *
 have early : ∀ {st' : Heap}, But1 r st st' → RefAt st' r bv none → RES = none → MGetR st r bv RES (.returned (.agg z0v.toArray)) (upd st' t2 (.cells true z0v 5 (.own t2 0 74))) := by
  intro st' h1 h2 h3
  rw [h3]
  exact ⟨h1.putNew ht2, _, _, _, _, _, rfl, ⟨rfl, rfl, rfl, rfl, rfl⟩, h2.upd (Ne.symm n2)⟩
 cases hx : p.bind fun a => readM b 8 a (64 - 0) with
 | none =>
  rw [hx] at hQ
  have hR4 := RefAt.mv (p := none) hQ fun o ho ht => hNc _ _ ho
  have hR4' := hR4
  obtain ⟨a, hr4⟩ := hR4'
  unfold refC at hr4
  have hn : RES = none := by
   rw [← hRES]
   cases p with
   | none => rfl
   | some a =>
    simp only [Option.bind_some] at hx ⊢
    unfold getMatM
    rw [show (64 : Int) = 64 - 0 by omega, hx]
    rfl
  simp [go_sem, hr4, hc4, n2, Ne.symm n2]
  refine z29 ?_
  simp [go_sem]
  exact early hk4.put ⟨a, upd_same _ _ _⟩ hn
 | some q =>
  obtain ⟨m, a', l'⟩ := q
  rw [hx] at hQ
  obtain ⟨hM, hR, -⟩ := hQ
  have hR4 := hR.mv fun o ho ht => hNc _ _ ho
  have hR4' := hR4
  change st4 r = some (refC bv a' false r) at hR4'
  unfold refC at hR4'
  have hnice : NiceM 8 m := by
   obtain ⟨a, h1, h2⟩ := Option.bind_eq_some_iff.1 hx
   exact z98 8 h2
  have hRES' : RES = if z1n m = true then some (m, a') else none := by
   rw [← hRES]
   cases p with
   | none => cases hx
   | some a =>
    simp only [Option.bind_some] at hx ⊢
    unfold getMatM
    rw [show (64 : Int) = 64 - 0 by omega, hx]
    rfl
  have hM4 := hM.new hNc
  simp [go_sem, hR4', hd4]
  refine (zbq hnice (by omega) hM4).mono ?_
  rintro e st5 ⟨rfl, hN5⟩
  have hr5 := hN5 _ _ hR4'
  have hc5 := hN5 _ _ hc4
  have hd5 := hN5 _ _ hd4
  have hk5 := hk4.trans (hN5.but r)
  cases hck : z1n m with
  | false =>
   simp [go_sem, hr5, hc5, n2, Ne.symm n2]
   refine z29 ?_
   simp [go_sem]
   exact early hk5.put ⟨a', upd_same _ _ _⟩ (by rw [hRES', hck]; rfl)
  | true =>
   simp [go_sem, hr5, hc5, hd5, n2, Ne.symm n2, u0, u1, u2, u3, u4]
   refine z29 ?_
   simp [go_sem]
   rw [hRES', hck]
   have hB := But1.put (o := .cells true [y0, y1, y2, y3, y4] 5 (.own t2 0 74)) (But1.refl t2 st5)
   exact ⟨hk5.putNew ht2, _, _, _, _, _, rfl, ⟨o0, o1, o2, o3, o4⟩, MatAt.mono (fun _ _ _ _ hx => (hx.new hN5).but hB hc5) _ _ hM4, RefAt.upd (hR4.mv fun o ho ht => hN5 _ _ ho) (Ne.symm n2)⟩
end
set_option maxHeartbeats 400000
theorem NiceM.up : ∀ {d : Nat} {m : Mat}, NiceM d m → NiceM (d + 1) m
 | 0, m, h => by unfold NiceM at h; exact h.elim
 | d + 1, .mk op name value vals kids, h => by
  unfold NiceM at h ⊢
  exact ⟨h.1, h.2.1, h.2.2.1, h.2.2.2.1, h.2.2.2.2.1, fun k hk => (h.2.2.2.2.2 k hk).up⟩
theorem getMat_nice {b : Bs} {a : Int} {r : Mat × Int} (h : getMatM b a = some r) : NiceM 12 r.1 := by
 unfold getMatM at h
 obtain ⟨p, hp, h⟩ := Option.bind_eq_some_iff.1 h
 split at h
 ·injection h with h
  subst h
  exact (z98 8 hp).up.up.up.up
 ·cases h
def intsR (b : Bs) : Nat → Option Int → List Int × Option Int
 | 0, p => ([], p)
 | k + 1, p => (unzz (numR b p).1 :: (intsR b k (numR b p).2).1, (intsR b k (numR b p).2).2)
theorem z82 (b : Bs) : ∀ k, (intsR b k none).2 = none
 | 0 => rfl
 | k + 1 => by
  have : numR b none = (0, none) := rfl
  unfold intsR
  rw [this]
  exact z82 b k
theorem z7u (b : Bs) : ∀ (k : Nat) (p : Option Int), p.bind (intsM b k) = (intsR b k p).2.map fun a => ((intsR b k p).1, a)
 | 0, p => by cases p <;> rfl
 | k + 1, p => by
  cases p with
  | none => rw [z82]; rfl
  | some a =>
   have ih := z7u b k (numR b (some a)).2
   simp only [Option.bind_some]
   unfold intsM z2a
   show _ = ((intsR b k (numR b (some a)).2).2).map fun a' => (unzz (numR b (some a)).1 :: (intsR b k (numR b (some a)).2).1, a')
   cases hv : vgetM b a with
   | none =>
    have hn : numR b (some a) = (0, none) := by unfold numR; simp [hv]
    rw [hn, z82]
    rfl
   | some x =>
    have hn : numR b (some a) = (x.1, some (x.2 : Int)) := by unfold numR; simp [hv]
    rw [hn] at ih ⊢
    simp only [Option.bind_some, Option.map_some] at ih ⊢
    rw [ih]
    cases (intsR b k (some (x.2 : Int))).2 <;> rfl
theorem zik (t : TombD) : 1 ≤ (tombB t).length := by
 unfold tombB intB
 simp only [List.length_append]
 have := z6i (zz t.seq)
 omega
theorem z9w : ∀ l : List TombD, l.length ≤ (l.flatMap tombB).length
 | [] => by simp
 | s :: l => by
  have := z9w l
  have h1 := zik s
  simp only [List.length_cons, List.flatMap_cons, List.length_append]
  omega
theorem zj6 {b : Bs} {prev : Option Int} {k a : Nat} (ha : a ≤ b.length) (h : b.length < k + a) : z0y b prev k (a : Int) = none := by
 cases ht : z0y b prev k (a : Int) with
 | none => rfl
 | some r =>
  obtain ⟨h1, h2⟩ := z6v ht (by omega) (by omega)
  have h3 := h2.len
  have h4 := z9w r.1
  have := h2.2.2.1
  omega
theorem But1.free {r n a b : Nat} {st st' : Heap} {w : Bool} {xs : List Value} (h : But1 r st st') (hr : st r = some (.cells w xs n (.own r a b))) : Keep Free st st' := fun k o g hk ht hp => by
 refine h k o ?_ hk
 rintro rfl
 rw [hr] at hk
 injection hk with hk
 subst hk
 injection ht with ht
 exact hp _ _ _ ht.symm
theorem RefAt.free {st st' : Heap} {r : Nat} {bv : Value} {p : Option Int} (h : RefAt st r bv p) (hk : But1 r st st') : Keep Free st st' := by
 obtain ⟨a, bad, hr, _⟩ := h.cell
 exact hk.free hr
theorem z17 {st : Heap} {b n x y : Nat} {w : Bool} {xs : List Value} {o : HObj} (h : st b = some (.cells w xs n (.own b x y))) : Keep Free st (upd st b o) := (But1.put (But1.refl b st)).free h
def TGetR (st : Heap) (r : Nat) (bv : Value) (R : Option (List TombD × Int)) (e : Ending) (st' : Heap) : Prop := But1 r st st' ∧ match R with
 | some (l, a) => ∃ v ts, e = .returned v ∧ RegF st' 8 v ts l.length ∧ z13 st' ts l ∧ RefAt st' r bv (some a)
 | none => e = .returned (.slice none 0 0) ∧ RefAt st' r bv none
section
variable {W0 : World} {st : Heap}
theorem zf1 {r : Nat} {bv : Value} {b : Bs} {g0 : Tg} {p : Option Int} (hr : RefAt st r bv p) (hb : Reg st g0 1 bv (bytesV b) b.length) (hg : Free g0) (hl : b.length < 2 ^ 60) :
  z00 Tryz.prog W0 193 #[ptr r] st (TGetR st r bv (p.bind (z1k b))) := by
 obtain ⟨a0, bad0, hr0, hp⟩ := hr.cell
 generalize hRES : p.bind (z1k b) = RES
 refine enter (args := [_]) Tryz.func193 rfl ?_
 simp [Tryz.f193, go_sem]
 refine (z6f (most := 64) hr hb hg hl (by omega)).mono ?_
 rintro e st1 ⟨hB1, rfl, hr1⟩
 have hb1 := hb.but hg hB1 hr0
 generalize hU : z10 b 64 p = U at *
 obtain ⟨c, p1⟩ := U
 simp only at hr1
 simp [go_sem]
 obtain ⟨hT1, hT2, hc64⟩ : (∀ a, p1 = some a → RES = z0y b none c a) ∧ (p1 = none → RES = none ∧ c = 0) ∧ c ≤ 64 := by
  unfold z10 at hU
  cases hv : p.bind (vgetM b) with
  | none =>
   rw [hv] at hU
   injection hU with hU1 hU2
   subst hU1
   subst hU2
   refine ⟨by simp, fun _ => ⟨?_, rfl⟩, by omega⟩
   rw [← hRES]
   cases p with
   | none => rfl
   | some a =>
    simp only [Option.bind_some] at hv ⊢
    unfold z1k
    rw [hv]
    rfl
  | some x =>
   obtain ⟨n, a⟩ := x
   rw [hv] at hU
   simp only at hU
   have hR2 : RES = if 64 < n then none else z0y b none n a := by
    rw [← hRES]
    cases p with
    | none => cases hv
    | some a =>
     simp only [Option.bind_some] at hv ⊢
     unfold z1k
     rw [hv]
     rfl
   have hal : a ≤ b.length := by
    obtain ⟨y, _, hy⟩ := Option.bind_eq_some_iff.1 hv
    exact (z21 hy).2.2
   by_cases hc : n ≤ 64 ∧ n + a ≤ b.length
   ·rw [if_pos hc] at hU
    injection hU with hU1 hU2
    subst hU1
    subst hU2
    rw [if_neg (by omega)] at hR2
    exact ⟨fun a' h => by injection h with h; subst h; exact hR2, by simp, hc.1⟩
   ·rw [if_neg hc] at hU
    injection hU with hU1 hU2
    subst hU1
    subst hU2
    refine ⟨by simp, fun _ => ⟨?_, rfl⟩, by omega⟩
    rw [hR2]
    split
    ·rfl
    ·exact zj6 hal (by omega)
 refine ⟨fun E st' => But1 r st st' ∧ E 0 = ptr r ∧ E 3 = Val.i c ∧ ∃ (i : Nat) (l : List TombD) (lv : Value) (ts : List Value) (p' : Option Int), E 5 = Val.i i ∧ i ≤ c ∧ l.length = i ∧ E 4 = lv ∧ Vec st' (.ty 1) 8 lv ts i ∧ Fresh (without r st) lv ∧ z13 st' ts l ∧ RefAt st' r bv p' ∧ (∀ a, p' = some a → (z0y b (z1m l) (c - i) a).map (fun q => (l ++ q.1, q.2)) = RES) ∧ (p' = none → RES = none ∧ c = 0),
  fun E _ => match E 5 with | .int _ i => c - i.toNat | _ => 0, ⟨st1, .rfl' _, hB1, by simp [go_sem], by simp [go_sem], 0, [], .slice none 0 0, [], p1, by simp [go_sem], by omega, rfl, by simp [go_sem], Vec.nil, Fresh.none, fun j x hj => by simp at hj, hr1, fun a h => by rw [hT1 a h]; show Option.map _ (z0y b none c a) = _; cases z0y b none c a <;> simp, hT2⟩, ?_⟩
 clear hr1 hb1 hB1 hT1 hT2 hU
 rintro E st2 ⟨hk2, e0, e3, i, l, lv, ts, p', e5, hi, hll, e4, hV, hF, hT, hr2, hX1, hX2⟩
 have hb2 := hb.but hg hk2 hr0
 obtain ⟨a2, bad2, hr2', hp2⟩ := hr2.cell
 unfold refC at hr2'
 by_cases hlt : i < c
 rotate_left
 ·have hlt' : ((i : Int) < c) = False := eq_false (by omega)
  obtain ⟨lb, lc, hlv⟩ := hV.slice
  cases bad2 with
  | true =>
   simp only [if_true] at hp2
   have hn := (hX2 hp2).1
   simp [go_sem, e0, e3, e4, e5, hlt', hr2']
   rw [hn]
   subst hp2
   exact ⟨hk2, rfl, hr2⟩
  | false =>
   simp only [Bool.false_eq_true, if_false] at hp2
   have hx := hX1 a2 hp2
   rw [show c - i = 0 by omega] at hx
   simp [z0y] at hx
   simp [go_sem, e0, e3, e4, e5, hlt', hr2']
   rw [← hx]
   subst hp2
   exact ⟨hk2, lv, ts, rfl, hll ▸ hV.reg.toF Free.ty, hT, hr2⟩
 have hlt' : ((i : Int) < c) = True := eq_true (by omega)
 cases bad2 with
 | true =>
  simp only [if_true] at hp2
  have := (hX2 hp2).2
  omega
 | false =>
 simp only [Bool.false_eq_true, if_false] at hp2
 subst hp2
 have hx := hX1 a2 rfl
 clear hX1 hX2
 have hwi := wrS i (by omega)
 obtain ⟨q, hq⟩ : ∃ q, c - i = q + 1 := ⟨c - i - 1, by omega⟩
 rw [hq] at hx
 unfold z0y z3p at hx
 simp [go_sem, e0, e3, e4, e5, hlt, hlt', hr2']
 unfold NewP
 intro tm htm
 refine ⟨.own tm 0 86, ?_⟩
 simp [go_sem, e0, e3, e4, e5]
 have hne : tm ≠ r := Ne.symm (ne_of_new hr2' htm)
 have htms : st tm = none := by
  cases hz : st tm with
  | none => rfl
  | some o => have := hk2 _ _ hne hz; rw [htm] at this; cases this
 have hc3 := upd_same st2 tm (.cells true [Val.i 0, Val.i 0, .string ⟨#[]⟩, .string ⟨#[]⟩, .slice none 0 0, .slice none 0 0, Val.i 0, Val.i 0] 8 (.own tm 0 86))
 have hr3 := hr2.upd (b := tm) (o := .cells true [Val.i 0, Val.i 0, .string ⟨#[]⟩, .string ⟨#[]⟩, .slice none 0 0, .slice none 0 0, Val.i 0, Val.i 0] 8 (.own tm 0 86)) hne
 have hk3 := hk2.add (b := tm) (o := .cells true [Val.i 0, Val.i 0, .string ⟨#[]⟩, .string ⟨#[]⟩, .slice none 0 0, .slice none 0 0, Val.i 0, Val.i 0] 8 (.own tm 0 86)) htm
 have hN3 := (New.refl st2).add (b := tm) (o := .cells true [Val.i 0, Val.i 0, .string ⟨#[]⟩, .string ⟨#[]⟩, .slice none 0 0, .slice none 0 0, Val.i 0, Val.i 0] 8 (.own tm 0 86)) htm
 generalize upd st2 tm (.cells true [Val.i 0, Val.i 0, .string ⟨#[]⟩, .string ⟨#[]⟩, .slice none 0 0, .slice none 0 0, Val.i 0, Val.i 0] 8 (.own tm 0 86)) = st3 at *
 have hV3 := hV.new' hN3
 have hT3 : z13 st3 ts l := fun j y hj => (hT j y hj).mono fun _ _ _ _ hx => hx.new hN3
 refine (z22 hr3 (hb.but hg hk3 hr0) hg hl).mono ?_
 rintro e st4 ⟨hB4, rfl, hr4⟩
 have hc4 := hB4.get hc3 hne
 have hk4 := hk3.trans hB4
 simp [go_sem, e0, e3, e4, e5, hc4]
 obtain ⟨a4, bad4, hr4', _⟩ := hr4.cell
 have hcc := hr4.upd (b := tm) (o := .cells true [Val.i (unzz (numR b (some a2)).1), Val.i 0, .string ⟨#[]⟩, .string ⟨#[]⟩, .slice none 0 0, .slice none 0 0, Val.i 0, Val.i 0] 8 (.own tm 0 86)) hne
 refine (z22 hcc (hb.but hg (hk4.putNew htms) hr0) hg hl).mono ?_
 rintro e st5 ⟨hB5, rfl, hr5⟩
 have hc5 := hB5.get (upd_same st4 tm _) hne
 have hk5 := (hk4.putNew htms).trans hB5
 simp [go_sem, e0, e3, e4, e5, hc5]
 refine (z22 (hr5.upd hne) (hb.but hg (hk5.putNew htms) hr0) hg hl).mono ?_
 rintro e st6 ⟨hB6, rfl, hr6⟩
 have hc6 := hB6.get (upd_same st5 tm _) hne
 have hk6 := (hk5.putNew htms).trans hB6
 simp [go_sem, e0, e3, e4, e5, hc6]
 refine (zg6 (hr6.upd hne) (hb.but hg (hk6.putNew htms) hr0) hg hl).mono ?_
 rintro e st7 ⟨hB7, x0, x1, x2, x3, x4, rfl, ⟨o0, o1, o2, o3, o4⟩, hR7⟩
 have hc7 := hB7.get (upd_same st6 tm _) hne
 have hk7 := (hk6.putNew htms).trans hB7
 have u0 := o0
 have u1 := o1
 have u2 := o2
 have u3 := o3
 have u4 := o4
 unfold Value.oneCell' at u0 u1 u2 u3 u4
 have kf : Keep Free st3 st7 := (((((hr3.free hB4).trans (z17 hc4)).trans ((hr4.upd hne).free hB5)).trans (z17 hc5)).trans ((hr5.upd hne).free hB6)).trans ((z17 hc6).trans ((hr6.upd hne).free hB7))
 have hch := z7u b 3 (some a2)
 simp only [Option.bind_some] at hch
 rw [hch] at hx
 simp only [intsR] at hx
 generalize numR b (some a2) = N1 at *
 generalize numR b N1.2 = N2 at *
 generalize numR b N2.2 = N3 at *
 simp [go_sem, e0, e3, e4, e5, hc7, u0, u1, u2, u3, u4]
 have hc8 := upd_same st7 tm (.cells true [Val.i (unzz N1.1), x0, x1, x2, x3, x4, Val.i (unzz N2.1), Val.i (unzz N3.1)] 8 (.own tm 0 86))
 have hB8 := But1.put (o := .cells true [Val.i (unzz N1.1), x0, x1, x2, x3, x4, Val.i (unzz N2.1), Val.i (unzz N3.1)] 8 (.own tm 0 86)) (But1.refl tm st7)
 have hk8 := hk7.putNew (o := .cells true [Val.i (unzz N1.1), x0, x1, x2, x3, x4, Val.i (unzz N2.1), Val.i (unzz N3.1)] 8 (.own tm 0 86)) htms
 generalize upd st7 tm (.cells true [Val.i (unzz N1.1), x0, x1, x2, x3, x4, Val.i (unzz N2.1), Val.i (unzz N3.1)] 8 (.own tm 0 86)) = st8 at *
 have kf8 := kf.trans (hB8.free hc7)
 have fin : ∀ {st' : Heap}, But1 r st st' → RefAt st' r bv none → RES = none → TGetR st r bv RES (.returned (.slice none 0 0)) st' := by
  intro st' h1 h2 h3
  rw [h3]
  exact ⟨h1, rfl, h2⟩
 cases hm : N3.2.bind (getMatM b) with
 | none =>
  rw [hm] at hR7
  have hr8 := RefAt.mv (p := none) hR7 fun o ho ht => hB8.get ho (Ne.symm hne)
  obtain ⟨a8, hr8'⟩ := id hr8
  unfold refC at hr8'
  have hn : RES = none := by
   rw [← hx]
   cases h3 : N3.2 with
   | none => rfl
   | some a3 =>
    rw [h3] at hm
    simp only [Option.bind_some] at hm
    simp [hm]
  refine draw [0, 1, 2, 3, 4, 5, 6, 7, 8, 9, 10, 11, 12, 13, 15, 16, 17, 18, 19, 14, 20, 21, 22, 23] (by kernel_rfl) ?_
  simp [go_sem, e0, e3, e4, e5, hr8']
  exact fin hk8.put ⟨a8, upd_same _ _ _⟩ hn
 | some y =>
  obtain ⟨m, a7⟩ := y
  rw [hm] at hR7
  obtain ⟨hM7, hR7⟩ := hR7
  have hr8 := hR7.mv fun o ho ht => hB8.get ho (Ne.symm hne)
  have hr8' := hr8
  change st8 r = some (refC bv a7 false r) at hr8'
  unfold refC at hr8'
  obtain ⟨a3, h3, hgm⟩ : ∃ a3, N3.2 = some a3 ∧ getMatM b a3 = some (m, a7) := by
   obtain ⟨a3, h1, h2⟩ := Option.bind_eq_some_iff.1 hm
   exact ⟨a3, h1, h2⟩
  have hnice := getMat_nice hgm
  rw [h3] at hx
  simp only [Option.map_some, Option.bind_some, hgm, List.getD_cons_zero, List.getD_cons_succ] at hx
  have hM8 : MatAt st8 [x0, x1, x2, x3, x4] m := MatAt.mono (fun _ _ _ _ hx => hx.but hB8 hc7) _ _ hM7
  have htA : z2i st8 [Val.i (unzz N1.1), x0, x1, x2, x3, x4, Val.i (unzz N2.1), Val.i (unzz N3.1)] ⟨unzz N1.1, m, unzz N2.1, unzz N3.1⟩ := ⟨_, hM8, rfl⟩
  have hV8 := hV3.keep kf8 Free.ty
  have hT8 : z13 st8 ts l := fun j y hj => (hT3 j y hj).mono fun _ _ _ _ hx => hx.free kf8
  refine draw [0, 1, 2, 3, 4, 5, 6, 7, 8, 9, 10, 11, 12, 13, 15, 16, 17, 18, 19, 14, 20, 21, 22, 23] (by kernel_rfl) ?_
  simp [go_sem, e0, e3, e4, e5, hr8', hc8]
  refine (zcf hnice htA).mono ?_
  rintro e st9 ⟨rfl, hN9⟩
  have hc9 := hN9 _ _ hc8
  have hr9 := hN9 _ _ hr8'
  have hV9 := hV8.new' hN9
  have hT9 : z13 st9 ts l := fun j y hj => (hT8 j y hj).mono fun _ _ _ _ hx => hx.new hN9
  have htA9 := htA.mono fun _ _ _ _ hx => hx.new hN9
  have hk9 := hk8.trans (hN9.but r)
  by_cases hok : z1g ⟨unzz N1.1, m, unzz N2.1, unzz N3.1⟩
  rotate_left
  ·have hok' := eq_false hok
   rw [if_neg (by intro h; exact hok h.1)] at hx
   simp at hx
   simp [go_sem, e0, e3, e4, e5, hok', hr9]
   exact fin hk9.put ⟨a7, upd_same _ _ _⟩ hx.symm
  have hok' := eq_true hok
  have hprev : (i = 0 ∧ l = []) ∨ (0 < i ∧ ∃ x, l[i - 1]? = some x ∧ z1m l = some x.seq) := by
   rcases Nat.eq_zero_or_pos i with h0 | h0
   ·exact .inl ⟨h0, List.eq_nil_of_length_eq_zero (by omega)⟩
   ·refine .inr ⟨h0, l[i - 1], List.getElem?_eq_getElem (by omega), ?_⟩
    unfold z1m
    rw [List.getLast?_eq_getElem?, show l.length - 1 = i - 1 by omega, List.getElem?_eq_getElem (by omega)]
    rfl
  rcases hprev with ⟨h0, hl0⟩ | ⟨h0, x, hxx, hls⟩
  ·have hi0 : (0 < i) = False := eq_false (by omega)
   rw [if_pos ⟨hok, by rw [hl0]; simp [z1m]⟩] at hx
   simp [go_sem, hok', e0, e3, e4, e5, hi0, hc9, u0, u1, u2, u3, u4]
   unfold NewS
   intro nb hnb
   refine ⟨.own nb 0 87, ?_⟩
   simp [go_sem, e4]
   have hN10 := (New.refl st9).add (b := nb) (o := .cells true [Val.i (unzz N1.1), x0, x1, x2, x3, x4, Val.i (unzz N2.1), Val.i (unzz N3.1)] 8 (.own nb 0 87)) hnb
   refine AppI_new (st0 := without r st) (g := .ty 1) (m := 1) (ys := [Val.i (unzz N1.1), x0, x1, x2, x3, x4, Val.i (unzz N2.1), Val.i (unzz N3.1)]) si75 (hV9.new' hN10) hF (z2y.2 (hk9.trans (hN10.but r))) ?_ (by simp [o0, o1, o2, o3, o4]; exact ⟨rfl, rfl, rfl⟩) (by omega) ?_
   ·simp [z06, z0i, upd_same, cellsOf]
   intro base cap11 st11 hV11 hF11 hN11 hE11
   have hk11 := z2y.1 hN11
   have hr11 := hE11.keep _ _ (hN10 _ _ hr9) (by simp [HObj.tag])
   simp [go_sem, e0, e3, e4, e5, hwi]
   have hmono : ∀ size v xs len, RegF st9 size v xs len → RegF st11 size v xs len := fun _ _ _ _ hx => (hx.new hN10).ext hE11
   refine ⟨_, .rfl' _, ⟨hk11, i + 1, by omega, by omega, l ++ [⟨unzz N1.1, m, unzz N2.1, unzz N3.1⟩], by simp [hll], _, hV11, hF11, ?_, some a7, hr11, fun a h => ?_, fun h => by cases h⟩, by omega⟩
   ·exact z13.append (by rw [hV.1]; omega) (fun j y hj => (hT9 j y hj).mono hmono) (htA9.mono hmono) rfl
   ·injection h with h
    subst h
    rw [← hx, show c - (i + 1) = q by omega]
    have : z1m (l ++ [⟨unzz N1.1, m, unzz N2.1, unzz N3.1⟩]) = some (unzz N1.1) := by simp [z1m]
    rw [this]
    cases hh : z0y b (some (unzz N1.1)) q a7 <;> simp [hh]
  ·have hi0 : (0 < i) = True := eq_true h0
   have hwm : IntKind.i64.wrap ((i : Int) - 1) = ((i - 1 : Nat) : Int) := by rw [z03 (by omega) (by omega)]; omega
   obtain ⟨mb, off, cap, rw_, zs, mm, g', hv9, hs9, hget⟩ := z1d (hV9.reg.toF Free.ty) (by omega)
   subst hv9
   obtain ⟨hlen, hcell, hc⟩ := hget (i - 1) (by omega)
   obtain ⟨ms, hms, hcs⟩ := hT (i - 1) x hxx
   have hc0 := hc 0 (by omega)
   rw [hcs] at hc0
   simp at hc0
   have hlt1 : i - 1 < i := by omega
   have hlt1' : (((i - 1 : Nat) : Int) < i) = True := eq_true (by omega)
   by_cases hseq : x.seq < unzz N1.1
   rotate_left
   ·have hseq' : (unzz N1.1 ≤ x.seq) = True := eq_true (by omega)
    rw [if_neg (by rw [hls]; simp; omega)] at hx
    simp at hx
    simp [go_sem, hok', e0, e3, e4, e5, hi0, hc9, hwm, hs9, hlen, hc0, hlt1, hlt1', hseq', hr9]
    exact fin hk9.put ⟨a7, upd_same _ _ _⟩ hx.symm
   have hseq' : (unzz N1.1 ≤ x.seq) = False := eq_false (by omega)
   rw [if_pos ⟨hok, by rw [hls]; simpa using hseq⟩] at hx
   simp [go_sem, hok', e0, e3, e4, e5, hi0, hc9, hwm, hs9, hlen, hc0, hlt1, hlt1', hseq', u0, u1, u2, u3, u4]
   unfold NewS
   intro nb hnb
   refine ⟨.own nb 0 87, ?_⟩
   simp [go_sem, e4]
   have hN10 := (New.refl st9).add (b := nb) (o := .cells true [Val.i (unzz N1.1), x0, x1, x2, x3, x4, Val.i (unzz N2.1), Val.i (unzz N3.1)] 8 (.own nb 0 87)) hnb
   refine AppI_new (st0 := without r st) (g := .ty 1) (m := 1) (ys := [Val.i (unzz N1.1), x0, x1, x2, x3, x4, Val.i (unzz N2.1), Val.i (unzz N3.1)]) si75 (hV9.new' hN10) hF (z2y.2 (hk9.trans (hN10.but r))) ?_ (by simp [o0, o1, o2, o3, o4]; exact ⟨rfl, rfl, rfl⟩) (by omega) ?_
   ·simp [z06, z0i, upd_same, cellsOf]
   intro base cap11 st11 hV11 hF11 hN11 hE11
   have hk11 := z2y.1 hN11
   have hr11 := hE11.keep _ _ (hN10 _ _ hr9) (by simp [HObj.tag])
   simp [go_sem, e0, e3, e4, e5, hwi]
   have hmono : ∀ size v xs len, RegF st9 size v xs len → RegF st11 size v xs len := fun _ _ _ _ hx => (hx.new hN10).ext hE11
   refine ⟨_, .rfl' _, ⟨hk11, i + 1, by omega, by omega, l ++ [⟨unzz N1.1, m, unzz N2.1, unzz N3.1⟩], by simp [hll], _, hV11, hF11, ?_, some a7, hr11, fun a h => ?_, fun h => by cases h⟩, by omega⟩
   ·exact z13.append (by rw [hV.1]; omega) (fun j y hj => (hT9 j y hj).mono hmono) (htA9.mono hmono) rfl
   ·injection h with h
    subst h
    rw [← hx, show c - (i + 1) = q by omega]
    have : z1m (l ++ [⟨unzz N1.1, m, unzz N2.1, unzz N3.1⟩]) = some (unzz N1.1) := by simp [z1m]
    rw [this]
    cases hh : z0y b (some (unzz N1.1)) q a7 <;> simp [hh]
end
end Go.Proofs.YtahgfnbkkfpcnaaGreat
