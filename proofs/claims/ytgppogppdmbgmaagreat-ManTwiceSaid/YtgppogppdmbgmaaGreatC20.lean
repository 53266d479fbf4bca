/- Names of files; what is said of a block; tombs: whether they may be. -/
import Derived.Test.YtgppogppdmbgmaaGreatC15
import Derived.Test.YtgppogppdmbgmaaGreatC16
import Derived.Test.YtgppogppdmbgmaaGreatC17
import Derived.Test.YtgppogppdmbgmaaGreatC19
import Derived.Test.YtgppogppdmbgmaaGreatC10
set_option linter.unusedVariables false
set_option linter.unusedSimpArgs false
set_option maxRecDepth 100000
set_option maxHeartbeats 4000000
namespace Go.Proofs.YtgppogppdmbgmaaGreat
open Go.RowKit (Below)
structure MetaD where
  id : Int
  level : Int
  day : Int
  lo : Int
  hi : Int
  done : Int
  rows : Int
def MetaD.ints (x : MetaD) : List Int := [x.id, x.level, x.day, x.lo, x.hi, x.done, x.rows]
def MetaD.cells (x : MetaD) : List Value := [Val.i x.id, Val.i x.level, Val.i x.day, Val.i x.lo, Val.i x.hi, Val.i x.done, Val.i x.rows]
def nameOKM (n : Int) : Prop := 0 ≤ n ∧ n ≤ 99999999
instance (n : Int) : Decidable (nameOKM n) := by unfold nameOKM; infer_instance
def metaOK (x : MetaD) : Prop := nameOKM x.id ∧ (0 ≤ x.level ∧ x.level ≤ 3) ∧ 0 ≤ x.day ∧ x.day ≤ 127258290 ∧ 1 ≤ x.lo ∧ x.lo ≤ x.hi ∧ x.hi ≤ x.done ∧ x.done ≤ 1099511627776 ∧ 1 ≤ x.rows
instance (x : MetaD) : Decidable (metaOK x) := by unfold metaOK; infer_instance
structure TombD where
  seq : Int
  m : Mat
  fro : Int
  to : Int
def TombAt (st : Heap) (cs : List Value) (t : TombD) : Prop := ∃ ms, MatAt st ms t.m ∧ cs = Val.i t.seq :: (ms ++ [Val.i t.fro, Val.i t.to])
def alignedM (fro to : Int) : Prop := 0 ≤ fro ∧ fro < to ∧ to ≤ 1099511634240 ∧ fro % 8640 = 0 ∧ to % 8640 = 0
instance (fro to : Int) : Decidable (alignedM fro to) := by unfold alignedM; infer_instance
def tombOK (t : TombD) : Prop := (1 ≤ t.seq ∧ t.seq ≤ 1099511627776) ∧ alignedM t.fro t.to ∧ checkM t.m = true
instance (t : TombD) : Decidable (tombOK t) := by unfold tombOK; infer_instance
theorem bytesV_set (bs : Bs) (j : Nat) (q : Int) (h0 : 0 ≤ q) (h1 : q < 256) : (bytesV bs).set j (.int .u8 q) = bytesV (bs.set j (UInt8.ofNat q.toNat)) := by
  unfold bytesV
  rw [List.map_set]
  have : (UInt8.ofNat q.toNat).toNat = q.toNat := by simp; omega
  rw [this, Int.toNat_of_nonneg h0]
section
variable {W0 : World} {st : Heap}
theorem plainName_spec {s : ByteArray} {n : Int} (hs : s.size < 100) : ICalls Tryz.prog W0 218 #[.string s, Val.i n] st fun e st' => (∃ r : ByteArray, e = .returned (.string r) ∧ (nameOKM n → r ≠ ⟨#[]⟩) ∧ (¬ nameOKM n → r = ⟨#[]⟩)) ∧ New st st' := by
  refine enter (args := [_, _]) Tryz.func218 rfl ?_
  by_cases h1 : n < 0
  · have q1 := eq_true h1
    simp [Tryz.f218, go_sem, q1, nameOKM]
    first | exact New.refl _ | exact ⟨by omega, New.refl _⟩
  have q1 := eq_false h1
  by_cases h2 : 99999999 < n
  · have q2 := eq_true h2
    simp [Tryz.f218, go_sem, q1, q2, nameOKM]
    first | exact New.refl _ | exact ⟨by omega, New.refl _⟩
  have q2 := eq_false h2
  have hok : nameOKM n := ⟨by omega, by omega⟩
  simp [Tryz.f218, go_sem, q1, q2, hok]
  have q3 : (s.size ≤ 9223372036854775799) = True := eq_true (by omega)
  simp [go_sem, q3]
  unfold NewB
  intro bb bc hbb hbc
  refine ⟨.own bb 0 83, ?_⟩
  obtain ⟨s8, hs8⟩ : ∃ s8, s ++ (⟨#[48, 48, 48, 48, 48, 48, 48, 48]⟩ : ByteArray) = s8 := ⟨_, rfl⟩
  have hsz : s8.size = s.size + 8 := by rw [← hs8]; simp; rfl
  rw [hs8] at hbc ⊢
  have hwl : IntKind.i64.wrap ((s8.size : Int) - 1) = ((s8.size - 1 : Nat) : Int) := by rw [wrap_id (by omega) (by omega)]; omega
  simp [go_sem, hwl]
  have hN0 : New st (upd st bb (.cells true (bytesV s8.data.toList) bc (.own bb 0 83))) := (New.refl _).add hbb
  refine ⟨fun E st' => New st st' ∧ E 5 = .slice (some ⟨bb, 0, none⟩) s8.size bc ∧ ∃ (t : Nat) (k : Int) (bs : Bs), t ≤ 8 ∧ 0 ≤ k ∧ k < 10 ^ t ∧ E 1 = Val.i k ∧ E 6 = Val.i ((s.size : Int) + t - 1) ∧ bs.length = s8.size ∧ st' bb = some (.cells true (bytesV bs) bc (.own bb 0 83)),
    fun E _ => match E 1 with | .int _ k => k.toNat | _ => 0, ⟨_, .rfl' _, hN0, by simp [go_sem], 8, n, s8.data.toList, by omega, by omega, by simp; omega, by simp [go_sem], by simp [go_sem]; omega, by simp, upd_same _ _ _⟩, ?_⟩
  rintro E st2 ⟨hk2, e5, t, k, bs, ht, hk0, hk1, e1, e6, hbl, hs2⟩
  by_cases hpos : 0 < k
  · have hpos' := eq_true hpos
    obtain ⟨t, rfl⟩ : ∃ t', t = t' + 1 := by
      cases t with
      | zero => simp at hk1; omega
      | succ t => exact ⟨t, rfl⟩
    have hj : (s.size : Int) + ((t + 1 : Nat) : Int) - 1 = ((s.size + t : Nat) : Int) := by omega
    rw [hj] at e6
    obtain ⟨p, hp⟩ : ∃ p, s.size + t = p := ⟨_, rfl⟩
    rw [hp] at e6
    have hjl : p < bs.length := by omega
    have hjb : p < s8.size := by omega
    have hm : Int.tmod k 10 = k % 10 := Int.tmod_eq_emod_of_nonneg hk0
    have hq : Int.tdiv k 10 = k / 10 := Int.tdiv_eq_ediv_of_nonneg hk0
    have hpw : (10 : Int) ^ (t + 1) = 10 * 10 ^ t := by rw [Int.pow_succ]; omega
    have hk3 : k < 10000000000 := by
      have h10 : (10 : Int) ^ (t + 1) ≤ 10 ^ 8 := by
        have : t = 0 ∨ t = 1 ∨ t = 2 ∨ t = 3 ∨ t = 4 ∨ t = 5 ∨ t = 6 ∨ t = 7 := by omega
        rcases this with rfl | rfl | rfl | rfl | rfl | rfl | rfl | rfl <;> decide
      have : (10 : Int) ^ 8 = 100000000 := by decide
      omega
    have hw2 : IntKind.i64.wrap (k / 10) = k / 10 := wrap_id (by omega) (by omega)
    have hwj : IntKind.i64.wrap ((p : Int) - 1) = (s.size : Int) + t - 1 := by rw [wrap_id (by omega) (by omega)]; omega
    obtain ⟨b, hb⟩ : ∃ b : UInt8, bs[p]? = some b := ⟨_, List.getElem?_eq_getElem hjl⟩
    have hgb : (bytesV bs)[p]? = some (.int .u8 b.toNat) := by simp [bytesV, hb]
    have hgb2 : ∀ (h : p < (bytesV bs).length), (bytesV bs)[p] = .int .u8 b.toNat := fun h => by
      have := List.getElem?_eq_getElem h
      rw [hgb] at this
      exact (Option.some.inj this).symm
    have hlb : (bytesV bs).length = s8.size := by simp [bytesV, hbl]
    have hbcn : p < bc := by omega
    have hple : p ≤ s8.size := by omega
    simp [go_sem, e1, e5, e6, hpos', hs2, hm, hq, hw2, hgb, hgb2, hlb, hjb, hbcn, hwj, hple]
    generalize hq0 : IntKind.u8.wrap ((b.toNat : Int) + IntKind.u8.wrap (k % 10)) = q0
    have hqb : 0 ≤ q0 ∧ q0 < 256 := by
      rw [← hq0, IntKind.wrap_u8]
      omega
    rw [bytesV_set _ _ _ hqb.1 hqb.2]
    exact ⟨_, .rfl' _, ⟨hk2.put hbb, t, by omega, k / 10, by omega, by omega, rfl, rfl, _, by simp [hbl], upd_same _ _ _⟩, by omega⟩
  · have hpos' := eq_false hpos
    have hV : Vec st2 (.own bb 0 83) 1 (.slice (some ⟨bb, 0, none⟩) s8.size bc) (bytesV bs) s8.size := Vec.new (by simp [bytesV, hbl]) hbc hs2 (by omega)
    have htx := textOf_reg hV.reg
    simp [go_sem, e1, e5, e6, hpos', hs2, htx]
    refine ⟨?_, hk2⟩
    intro h
    rw [h] at hbl
    simp at hbl
    omega
theorem calRes_any {l : Int} : ICalls Tryz.prog W0 138 #[Val.i l] st fun e st' => (∃ v : Int, e = .returned (Val.i v) ∧ (0 < v ↔ 0 ≤ l ∧ l ≤ 3)) ∧ New st st' := by
  refine enter (args := [_]) Tryz.func138 rfl ?_
  by_cases h1 : l < 0
  · have q1 := eq_true h1
    simp [Tryz.f138, go_sem, q1]
    unfold NewP
    intro tb htb
    refine ⟨.ty 0, ?_⟩
    simp [go_sem, q1]
    exact ⟨by omega, (New.refl _).add htb⟩
  have q1 := eq_false h1
  by_cases h2 : 4 ≤ l
  · have q2 := eq_true h2
    simp [Tryz.f138, go_sem, q1, q2]
    unfold NewP
    intro tb htb
    refine ⟨.ty 0, ?_⟩
    simp [go_sem, q1, q2]
    exact ⟨by omega, (New.refl _).add htb⟩
  have hi : l = 0 ∨ l = 1 ∨ l = 2 ∨ l = 3 := by omega
  rcases hi with rfl | rfl | rfl | rfl
  all_goals
    simp [Tryz.f138, go_sem]
    unfold NewP
    intro tb htb
    refine ⟨.ty 0, ?_⟩
    simp [go_sem]
    exact (New.refl _).add htb
theorem walName_spec {n : Int} : ICalls Tryz.prog W0 168 #[Val.i n] st fun e st' => (∃ r : ByteArray, e = .returned (.string r) ∧ (nameOKM n → r ≠ ⟨#[]⟩) ∧ (¬ nameOKM n → r = ⟨#[]⟩)) ∧ New st st' := by
  refine enter (args := [_]) Tryz.func168 rfl ?_
  simp [Tryz.f168, go_sem]
  refine (plainName_spec (by decide)).mono ?_
  rintro e st' ⟨⟨r, rfl, h1, h2⟩, h3⟩
  simp [go_sem]
  exact ⟨⟨h1, h2⟩, h3⟩
theorem blockName_spec {n : Int} : ICalls Tryz.prog W0 169 #[Val.i n] st fun e st' => (∃ r : ByteArray, e = .returned (.string r) ∧ (nameOKM n → r ≠ ⟨#[]⟩) ∧ (¬ nameOKM n → r = ⟨#[]⟩)) ∧ New st st' := by
  refine enter (args := [_]) Tryz.func169 rfl ?_
  simp [Tryz.f169, go_sem]
  refine (plainName_spec (by decide)).mono ?_
  rintro e st' ⟨⟨r, rfl, h1, h2⟩, h3⟩
  simp [go_sem]
  exact ⟨⟨h1, h2⟩, h3⟩
theorem blockMay_spec {x : MetaD} : ICalls Tryz.prog W0 170 #[.agg #[Val.i x.id, Val.i x.level, Val.i x.day, Val.i x.lo, Val.i x.hi, Val.i x.done, Val.i x.rows]] st fun e st' => e = .returned (.bool (decide (metaOK x))) ∧ New st st' := by
  refine enter (args := [_]) Tryz.func170 rfl ?_
  refine IW_cut (fun E' st' => ∃ ta, New st st' ∧ E' 1 = ptr ta ∧ st' ta = some (.cells true [Val.i x.id, Val.i x.level, Val.i x.day, Val.i x.lo, Val.i x.hi, Val.i x.done, Val.i x.rows] 7 (.ty 0))) ?_ ?_
  · simp [go_sem]
    unfold NewP
    intro tb htb
    refine ⟨.ty 0, ?_⟩
    simp [go_sem]
    exact (New.refl _).add htb
  rintro E1 st1 ⟨ta, hk1, e1, hta⟩
  simp [go_sem, e1, hta]
  refine blockName_spec.mono ?_
  rintro e st2 ⟨⟨r, rfl, hr1, hr2⟩, hk2⟩
  have hta := hk2 _ _ hta
  have hk3 := hk1.trans hk2
  by_cases hn : nameOKM x.id
  rotate_left
  · have := hr2 hn
    subst this
    have hno : ¬ metaOK x := fun h => hn h.1
    simp [go_sem, e1, hta, hno]
    exact hk3
  have q_n := eq_false (hr1 hn)
  simp [go_sem, e1, hta, q_n]
  refine calRes_any.mono ?_
  rintro e st4 ⟨⟨v, rfl, hv⟩, hk4⟩
  have hta := hk4 _ _ hta
  have hk3 := hk3.trans hk4
  by_cases c0 : 0 < v
  rotate_left
  · have q_c0 := eq_false c0
    have hno : ¬ metaOK x := fun h => by unfold metaOK at h; omega
    simp [go_sem, e1, hta, hno, q_n, q_c0]
    exact hk3
  have q_c0 := eq_true c0
  by_cases c1 : 0 ≤ x.day
  rotate_left
  · have q_c1 := eq_false c1
    have hno : ¬ metaOK x := fun h => by unfold metaOK at h; omega
    simp [go_sem, e1, hta, hno, q_n, q_c0, q_c1]
    exact hk3
  have q_c1 := eq_true c1
  by_cases c2 : x.day ≤ 127258290
  rotate_left
  · have q_c2 := eq_false c2
    have hno : ¬ metaOK x := fun h => by unfold metaOK at h; omega
    simp [go_sem, e1, hta, hno, q_n, q_c0, q_c1, q_c2]
    exact hk3
  have q_c2 := eq_true c2
  by_cases c3 : 1 ≤ x.lo
  rotate_left
  · have q_c3 := eq_false c3
    have hno : ¬ metaOK x := fun h => by unfold metaOK at h; omega
    simp [go_sem, e1, hta, hno, q_n, q_c0, q_c1, q_c2, q_c3]
    exact hk3
  have q_c3 := eq_true c3
  by_cases c4 : x.lo ≤ x.hi
  rotate_left
  · have q_c4 := eq_false c4
    have hno : ¬ metaOK x := fun h => by unfold metaOK at h; omega
    simp [go_sem, e1, hta, hno, q_n, q_c0, q_c1, q_c2, q_c3, q_c4]
    exact hk3
  have q_c4 := eq_true c4
  by_cases c5 : x.hi ≤ x.done
  rotate_left
  · have q_c5 := eq_false c5
    have hno : ¬ metaOK x := fun h => by unfold metaOK at h; omega
    simp [go_sem, e1, hta, hno, q_n, q_c0, q_c1, q_c2, q_c3, q_c4, q_c5]
    exact hk3
  have q_c5 := eq_true c5
  by_cases c6 : x.done ≤ 1099511627776
  rotate_left
  · have q_c6 := eq_false c6
    have hno : ¬ metaOK x := fun h => by unfold metaOK at h; omega
    simp [go_sem, e1, hta, hno, q_n, q_c0, q_c1, q_c2, q_c3, q_c4, q_c5, q_c6]
    exact hk3
  have q_c6 := eq_true c6
  by_cases c7 : 1 ≤ x.rows
  rotate_left
  · have q_c7 := eq_false c7
    have hno : ¬ metaOK x := fun h => by unfold metaOK at h; omega
    simp [go_sem, e1, hta, hno, q_n, q_c0, q_c1, q_c2, q_c3, q_c4, q_c5, q_c6, q_c7]
    exact hk3
  have q_c7 := eq_true c7
  have hyes : metaOK x := ⟨by assumption, by omega, by omega, by omega, by omega, by omega, by omega, by omega, by omega⟩
  simp [go_sem, e1, hta, hyes, q_n, q_c0, q_c1, q_c2, q_c3, q_c4, q_c5, q_c6, q_c7]
  exact hk3
theorem aligned_spec {fro to : Int} : ICalls Tryz.prog W0 219 #[Val.i fro, Val.i to] st fun e st' => e = .returned (.bool (decide (alignedM fro to))) ∧ st' = st := by
  refine enter (args := [_, _]) Tryz.func219 rfl ?_
  by_cases c0 : 0 ≤ fro
  rotate_left
  · have q_c0 := eq_false c0
    have hno : ¬ alignedM fro to := fun h => by unfold alignedM at h; omega
    simp [Tryz.f219, go_sem, hno, q_c0]
  have q_c0 := eq_true c0
  by_cases c1 : fro < to
  rotate_left
  · have q_c1 := eq_false c1
    have hno : ¬ alignedM fro to := fun h => by unfold alignedM at h; omega
    simp [Tryz.f219, go_sem, hno, q_c0, q_c1]
  have q_c1 := eq_true c1
  have m1 : Int.tmod fro 8640 = fro % 8640 := Int.tmod_eq_emod_of_nonneg c0
  have m2 : Int.tmod to 8640 = to % 8640 := Int.tmod_eq_emod_of_nonneg (by omega)
  by_cases c2 : to ≤ 1099511634240
  rotate_left
  · have q_c2 := eq_false c2
    have hno : ¬ alignedM fro to := fun h => by unfold alignedM at h; omega
    simp [Tryz.f219, go_sem, hno, q_c0, q_c1, m1, m2, q_c2]
  have q_c2 := eq_true c2
  by_cases c3 : fro % 8640 = 0
  rotate_left
  · have q_c3 := eq_false c3
    have hno : ¬ alignedM fro to := fun h => by unfold alignedM at h; omega
    simp [Tryz.f219, go_sem, hno, q_c0, q_c1, m1, m2, q_c2, q_c3]
  have q_c3 := eq_true c3
  by_cases c4 : to % 8640 = 0
  rotate_left
  · have q_c4 := eq_false c4
    have hno : ¬ alignedM fro to := fun h => by unfold alignedM at h; omega
    simp [Tryz.f219, go_sem, hno, q_c0, q_c1, m1, m2, q_c2, q_c3, q_c4]
  have q_c4 := eq_true c4
  have hyes : alignedM fro to := ⟨by omega, by omega, by omega, by omega, by omega⟩
  simp [Tryz.f219, go_sem, hyes, q_c0, q_c1, m1, m2, q_c2, q_c3, q_c4]
theorem tombCheck_spec {t : TombD} {cs : List Value} (h : TombAt st cs t) : ICalls Tryz.prog W0 171 #[.agg cs.toArray] st fun e st' => e = .returned (.bool (decide (tombOK t))) ∧ New st st' := by
  obtain ⟨ms, hm, rfl⟩ := h
  obtain ⟨seq, m, fro, to⟩ := t
  match m with
  | .mk op name value vals kids =>
  have hm0 := hm
  unfold MatAt at hm
  obtain ⟨vv, kv, ks, rfl, hv, hk', hkids⟩ := hm
  obtain ⟨vb, vc, rfl⟩ := hv.slice
  obtain ⟨kb, kc, rfl⟩ := hk'.slice
  refine enter (args := [_]) Tryz.func171 rfl ?_
  refine IW_cut (fun E' st' => ∃ ta, New st st' ∧ E' 1 = ptr ta ∧ st' ta = some (.cells true [Val.i seq, Val.i op, .string name, .string value, .slice vb vals.length vc, .slice kb kids.length kc, Val.i fro, Val.i to] 8 (.ty 0))) ?_ ?_
  · simp [go_sem]
    unfold NewP
    intro tb htb
    refine ⟨.ty 0, ?_⟩
    simp [go_sem]
    exact (New.refl _).add htb
  rintro E1 st1 ⟨ta, hk1, e1, hta⟩
  unfold tombOK
  simp only
  by_cases c0 : 1 ≤ seq
  rotate_left
  · have q0 := eq_false c0
    simp [go_sem, e1, hta, q0]
    exact hk1
  have q0 := eq_true c0
  by_cases c1 : seq ≤ 1099511627776
  rotate_left
  · have q1 := eq_false c1
    simp [go_sem, e1, hta, q0, q1]
    exact hk1
  have q1 := eq_true c1
  simp [go_sem, e1, hta, q0, q1]
  refine aligned_spec.mono ?_
  rintro e st2 ⟨rfl, rfl⟩
  by_cases c2 : alignedM fro to
  rotate_left
  · have q2 := eq_false c2
    simp [go_sem, e1, hta, q2]
    exact hk1
  have q2 := eq_true c2
  simp [go_sem, e1, hta, q2]
  refine (matCheck_spec _ (hm0.new hk1)).mono ?_
  rintro e st3 ⟨rfl, hk3⟩
  simp [go_sem, e1]
  exact hk1.trans hk3
end
end Go.Proofs.YtgppogppdmbgmaaGreat
set_option linter.unusedVariables false
set_option linter.unusedSimpArgs false
set_option maxRecDepth 100000
set_option maxHeartbeats 8000000
namespace Go.Proofs.YtgppogppdmbgmaaGreat
open Go.RowKit (Below)
/-- A row's elements, where they lie. -/
theorem rows_get {st : Heap} {size len : Nat} {v : Value} {ys : List Value} (h : RegF st size v ys len) (hl : 0 < len) : ∃ mb off cap rw zs m g, v = .slice (some ⟨mb, off, none⟩) len cap ∧ st mb = some (.cells rw zs m g) ∧
    ∀ j, j < len → off + j * size + size ≤ zs.length ∧ (zs.drop (off + j * size)).take size = (ys.drop (j * size)).take size ∧ ∀ c, c < size → zs[off + j * size + c]? = ((ys.drop (j * size)).take size)[c]? := by
  obtain ⟨g, hg, hlen, base, cap, rfl, hc, hreg⟩ := h
  rcases hreg with h0 | ⟨mb, off, rw_, zs, m, rfl, hs, hp, ho⟩
  · omega
  refine ⟨mb, off, cap, rw_, zs, m, g, rfl, hs, fun j hj => ?_⟩
  obtain ⟨t, ht⟩ := hp
  have hl2 : ys.length + t.length = zs.length - off := by
    have := congrArg List.length ht
    rw [List.length_append, List.length_drop] at this
    exact this
  have hm : j * size + size ≤ len * size := by rw [← Nat.succ_mul]; exact Nat.mul_le_mul_right _ hj
  have a1 : j * size ≤ ys.length := by omega
  have a2 : size ≤ (ys.drop (j * size)).length := by rw [List.length_drop]; omega
  have hcell : (zs.drop (off + j * size)).take size = (ys.drop (j * size)).take size := by
    rw [← List.drop_drop, ← ht, List.drop_append_of_le_length a1, List.take_append_of_le_length a2]
  refine ⟨by omega, hcell, fun c hc => ?_⟩
  rw [← hcell, List.getElem?_take, if_pos hc, List.getElem?_drop]
structure ManD where
  seq : Int
  log : Int
  next : Int
  now : Int
  blocks : List MetaD
  tombs : List TombD
def MetasAt (ys : List Value) (xs : List MetaD) : Prop := ∀ i x, xs[i]? = some x → (ys.drop (i * 7)).take 7 = x.cells
def TombsAt (st : Heap) (ys : List Value) (xs : List TombD) : Prop := ∀ i x, xs[i]? = some x → TombAt st ((ys.drop (i * 8)).take 8) x
def ManAt (st : Heap) (cs : List Value) (m : ManD) : Prop := ∃ bv tv bs ts, cs = [Val.i m.seq, Val.i m.log, Val.i m.next, Val.i m.now, bv, tv] ∧ RegF st 7 bv bs m.blocks.length ∧ MetasAt bs m.blocks ∧ RegF st 8 tv ts m.tombs.length ∧ TombsAt st ts m.tombs
theorem TombAt.mono {st st' : Heap} (hR : ∀ size v xs len, RegF st size v xs len → RegF st' size v xs len) {cs : List Value} {t : TombD} (h : TombAt st cs t) : TombAt st' cs t := by
  obtain ⟨ms, h1, h2⟩ := h
  exact ⟨ms, MatAt.mono hR _ _ h1, h2⟩
theorem ManAt.mono {st st' : Heap} (hR : ∀ size v xs len, RegF st size v xs len → RegF st' size v xs len) {cs : List Value} {m : ManD} (h : ManAt st cs m) : ManAt st' cs m := by
  obtain ⟨bv, tv, bs, ts, h1, h2, h3, h4, h5⟩ := h
  exact ⟨bv, tv, bs, ts, h1, hR _ _ _ _ h2, h3, hR _ _ _ _ h4, fun i x hx => (h5 i x hx).mono hR⟩
theorem ManAt.new {st st' : Heap} (hk : New st st') {cs : List Value} {m : ManD} (h : ManAt st cs m) : ManAt st' cs m := h.mono (fun _ _ _ _ h => h.new hk)
def prevOf (l : List Int) (i : Nat) : Option Int := if i = 0 then none else l[i - 1]?
def aboveM (p : Option Int) (x : Int) : Bool := match p with | none => true | some q => decide (q < x)
def blocksM (next seq : Int) : Option Int → List MetaD → Bool
  | _, [] => true
  | p, x :: r => decide (metaOK x) && decide (x.id < next) && decide (x.done ≤ seq) && aboveM p x.id && blocksM next seq (some x.id) r
def tombsM (seq : Int) : Option Int → List TombD → Bool
  | _, [] => true
  | p, x :: r => decide (tombOK x) && decide (x.seq ≤ seq) && aboveM p x.seq && tombsM seq (some x.seq) r
def headOK (m : ManD) : Prop := 0 ≤ m.seq ∧ m.seq ≤ 1099511627776 ∧ nameOKM m.log ∧ nameOKM m.next ∧ 0 ≤ m.now ∧ m.now < 1099511627776 ∧ m.blocks.length ≤ 900 ∧ m.tombs.length ≤ 64
instance (m : ManD) : Decidable (headOK m) := by unfold headOK; infer_instance
def manM (m : ManD) : Bool := decide (headOK m) && blocksM m.next m.seq none m.blocks && tombsM m.seq none m.tombs
section
variable {W0 : World} {st : Heap}
theorem manCheck_spec {cs : List Value} {m : ManD} (h : ManAt st cs m) : ICalls Tryz.prog W0 97 #[.agg cs.toArray] st fun e st' => e = .returned (.bool (manM m)) ∧ New st st' := by
  obtain ⟨bv, tv, bs, ts, rfl, hb, hbs, ht, hts⟩ := h
  obtain ⟨bb, bc, rfl⟩ := hb.slice
  obtain ⟨tb, tc, rfl⟩ := ht.slice
  refine enter (args := [_]) Tryz.func97 rfl ?_
  generalize hRES : manM m = RES
  unfold manM at hRES
  refine IW_cut (fun E' st' => ∃ tm, New st st' ∧ E' 1 = ptr tm ∧ st' tm = some (.cells true [Val.i m.seq, Val.i m.log, Val.i m.next, Val.i m.now, .slice bb m.blocks.length bc, .slice tb m.tombs.length tc] 6 (.ty 0))) ?_ ?_
  · simp [go_sem]
    unfold NewP
    intro tm htm
    refine ⟨.ty 0, ?_⟩
    simp [go_sem]
    exact (New.refl _).add htm
  rintro E1 st1 ⟨tm, hk1, e1, htm⟩
  have hno : ¬ headOK m → RES = false := fun h => by rw [← hRES, decide_eq_false h]; simp
  refine IW_cut' (fun E' st' => headOK m ∧ New st st' ∧ E' 1 = ptr tm ∧ st' tm = some (.cells true [Val.i m.seq, Val.i m.log, Val.i m.next, Val.i m.now, .slice bb m.blocks.length bc, .slice tb m.tombs.length tc] 6 (.ty 0))) ?_ ?_
  · by_cases c0 : m.seq < 0
    · have q_c0 := eq_true c0
      have := hno (fun h => by unfold headOK at h; omega)
      subst this
      simp [go_sem, e1, htm, q_c0]
      exact hk1
    have q_c0 := eq_false c0
    by_cases c1 : 1099511627776 < m.seq
    · have q_c1 := eq_true c1
      have := hno (fun h => by unfold headOK at h; omega)
      subst this
      simp [go_sem, e1, htm, q_c0, q_c1]
      exact hk1
    have q_c1 := eq_false c1
    simp [go_sem, e1, htm, q_c0, q_c1]
    refine walName_spec.mono ?_
    rintro e stn0 ⟨⟨r0, rfl, ha0, hb0⟩, hkx0⟩
    have htm := hkx0 _ _ htm
    have hkn0 := hk1.trans hkx0
    by_cases n0 : nameOKM m.log
    rotate_left
    · have := hb0 n0
      subst this
      have := hno (fun h => n0 h.2.2.1)
      subst this
      simp [go_sem, e1, htm]
      exact hkn0
    have q_n0 := eq_false (ha0 n0)
    simp [go_sem, e1, htm, q_n0]
    refine blockName_spec.mono ?_
    rintro e stn1 ⟨⟨r1, rfl, ha1, hb1⟩, hkx1⟩
    have htm := hkx1 _ _ htm
    have hkn1 := hkn0.trans hkx1
    by_cases n1 : nameOKM m.next
    rotate_left
    · have := hb1 n1
      subst this
      have := hno (fun h => n1 h.2.2.2.1)
      subst this
      simp [go_sem, e1, htm]
      exact hkn1
    have q_n1 := eq_false (ha1 n1)
    by_cases d0 : m.now < 0
    · have q_d0 : (m.now < 0) = True := eq_true (by omega)
      have := hno (fun h => by unfold headOK at h; omega)
      subst this
      simp [go_sem, e1, htm, q_n1, q_d0]
      exact hkn1
    have q_d0 : (m.now < 0) = False := eq_false (by omega)
    by_cases d1 : 1099511627776 ≤ m.now
    · have q_d1 : (1099511627776 ≤ m.now) = True := eq_true (by omega)
      have := hno (fun h => by unfold headOK at h; omega)
      subst this
      simp [go_sem, e1, htm, q_n1, q_d0, q_d1]
      exact hkn1
    have q_d1 : (1099511627776 ≤ m.now) = False := eq_false (by omega)
    by_cases d2 : 900 < m.blocks.length
    · have q_d2 : ((900 : Int) < m.blocks.length) = True := eq_true (by omega)
      have := hno (fun h => by unfold headOK at h; omega)
      subst this
      simp [go_sem, e1, htm, q_n1, q_d0, q_d1, q_d2]
      exact hkn1
    have q_d2 : ((900 : Int) < m.blocks.length) = False := eq_false (by omega)
    by_cases d3 : 64 < m.tombs.length
    · have q_d3 : ((64 : Int) < m.tombs.length) = True := eq_true (by omega)
      have := hno (fun h => by unfold headOK at h; omega)
      subst this
      simp [go_sem, e1, htm, q_n1, q_d0, q_d1, q_d2, q_d3]
      exact hkn1
    have q_d3 : ((64 : Int) < m.tombs.length) = False := eq_false (by omega)
    simp [go_sem, e1, htm, q_n1, q_d0, q_d1, q_d2, q_d3]
    exact ⟨⟨by omega, by omega, n0, n1, by omega, by omega, by omega, by omega⟩, hkn1⟩
  clear htm hk1 e1
  rintro E2 st2 ⟨hhead, hk2, e1, htm⟩
  rw [decide_eq_true hhead] at hRES
  simp only [Bool.true_and] at hRES
  clear hno
  obtain ⟨hh1, hh2, hh3, hh4, hh5, hh6, hh7, hh8⟩ := hhead
  refine IW_cut' (fun E' st' => tombsM m.seq none m.tombs = RES ∧ New st st' ∧ E' 1 = ptr tm ∧ st' tm = some (.cells true [Val.i m.seq, Val.i m.log, Val.i m.next, Val.i m.now, .slice bb m.blocks.length bc, .slice tb m.tombs.length tc] 6 (.ty 0))) ?_ ?_
  · simp [go_sem, e1, htm]
    refine ⟨fun E st' => New st st' ∧ E 1 = ptr tm ∧ E 50 = .slice bb m.blocks.length bc ∧ E 51 = Val.i m.blocks.length ∧ st' tm = some (.cells true [Val.i m.seq, Val.i m.log, Val.i m.next, Val.i m.now, .slice bb m.blocks.length bc, .slice tb m.tombs.length tc] 6 (.ty 0)) ∧ ∃ i : Nat, E 52 = Val.i i ∧ i ≤ m.blocks.length ∧ (blocksM m.next m.seq (prevOf (m.blocks.map (·.id)) i) (m.blocks.drop i) && tombsM m.seq none m.tombs) = RES,
      fun E _ => match E 52 with | .int _ i => m.blocks.length - i.toNat | _ => 0, ⟨st2, .rfl' _, hk2, by simp [go_sem, e1], by simp [go_sem], by simp [go_sem], htm, 0, by simp [go_sem], by omega, by simpa [prevOf] using hRES⟩, ?_⟩
    clear hk2 htm e1 hRES
    rintro E st5 ⟨hk5, e1, e50, e51, htm, i, ei, hi, hrec⟩
    by_cases hlt : i < m.blocks.length
    · have hlt' : ((i : Int) < m.blocks.length) = True := eq_true (by omega)
      have hwi : IntKind.i64.wrap ((i : Int) + 1) = ((i + 1 : Nat) : Int) := by rw [wrap_id (by omega) (by omega)]; omega
      obtain ⟨mb, off, cap, rw_, zs, mm, g, hv, hs, hget⟩ := rows_get (hb.new hk5) (by omega)
      injection hv with v1 v2 v3
      subst v1; subst v3
      obtain ⟨hlen, hcell, hc⟩ := hget i hlt
      have hx : m.blocks[i]? = some m.blocks[i] := List.getElem?_eq_getElem hlt
      have hd : m.blocks.drop i = m.blocks[i] :: m.blocks.drop (i + 1) := List.drop_eq_getElem_cons hlt
      have hprev : prevOf (m.blocks.map (·.id)) (i + 1) = some m.blocks[i].id := by simp [prevOf, hx]
      rw [hd] at hrec
      rw [hbs i _ hx] at hcell
      unfold blocksM at hrec
      have hprev0 : i ≠ 0 → ∃ q, prevOf (m.blocks.map (·.id)) i = some q ∧ zs[off + (i - 1) * 7]? = some (Val.i q) := by
        intro h0
        have h1 : i - 1 < m.blocks.length := by omega
        obtain ⟨-, -, hc1⟩ := hget (i - 1) h1
        have hx1 : m.blocks[i - 1]? = some m.blocks[i - 1] := List.getElem?_eq_getElem h1
        refine ⟨m.blocks[i - 1].id, by simp [prevOf, h0, hx1], ?_⟩
        have := hc1 0 (by omega)
        rw [hbs _ _ hx1] at this
        simpa [MetaD.cells] using this
      generalize m.blocks[i] = x at *
      unfold MetaD.cells at hcell
      simp [go_sem, e1, e50, e51, ei, htm, hlt', hlt, hs, hlen, hcell]
      unfold NewP
      intro tx htx
      refine ⟨.ty 0, ?_⟩
      have htn : tm ≠ tx := ne_of_new htm htx
      have hmn : mb ≠ tx := ne_of_new hs htx
      simp [go_sem, e1, e50, e51, ei, htm, hlt', hlt, hs, hlen, hcell, htn, hmn]
      have HN9 : New st5 (upd st5 tx (.cells true [Val.i x.id, Val.i x.level, Val.i x.day, Val.i x.lo, Val.i x.hi, Val.i x.done, Val.i x.rows] 7 (.ty 0))) := (New.refl _).add htx
      refine draw [0, 1, 2, 3, 4, 6, 5, 7, 8, 9, 10, 11, 13, 12, 14, 15, 16, 17, 18, 19, 20, 21, 23, 25, 26, 22, 24, 27, 28, 29, 30, 31, 32] (by kernel_rfl) ?_
      simp [go_sem, e1, e50, e51, ei]
      refine blockMay_spec.mono ?_
      rintro e st6 ⟨rfl, hk6⟩
      have htx6 := hk6 _ _ (upd_same st5 tx _)
      have htm6 := hk6 _ _ (HN9 _ _ htm)
      have hs6 := hk6 _ _ (HN9 _ _ hs)
      have hk7 := hk5.trans (HN9.trans hk6)
      clear hk6 HN9 htm hs
      by_cases c0 : metaOK x
      rotate_left
      · have q0 := eq_false c0
        have : RES = false := by rw [← hrec]; simp [c0]
        subst this
        simp [go_sem, e1, e50, e51, ei, htx6, htm6, hs6, hlt', hlt, q0]
        exact hk7
      have q0 := eq_true c0
      by_cases c1 : m.next ≤ x.id
      · have q_c1 := eq_true c1
        have g_c1 : ¬ x.id < m.next := by omega
        have : RES = false := by rw [← hrec]; simp [g_c1]
        subst this
        simp [go_sem, e1, e50, e51, ei, htx6, htm6, hs6, hlt', hlt, q0, q_c1]
        exact hk7
      have q_c1 := eq_false c1
      have g_c1 : x.id < m.next := by omega
      by_cases c2 : m.seq < x.done
      · have q_c2 := eq_true c2
        have g_c2 : ¬ x.done ≤ m.seq := by omega
        have : RES = false := by rw [← hrec]; simp [g_c2]
        subst this
        simp [go_sem, e1, e50, e51, ei, htx6, htm6, hs6, hlt', hlt, q0, q_c1, q_c2]
        exact hk7
      have q_c2 := eq_false c2
      have g_c2 : x.done ≤ m.seq := by omega
      by_cases h0 : i = 0
      · have qi : ((0 : Int) < i) = False := eq_false (by omega)
        have qi2 : (0 < i) = False := eq_false (by omega)
        have hp0 : prevOf (m.blocks.map (·.id)) i = none := by rw [h0]; rfl
        rw [hp0] at hrec
        simp [go_sem, e1, e50, e51, ei, htx6, htm6, hs6, hlt', hlt, q0, q_c1, q_c2, qi, qi2, hwi]
        exact ⟨_, .rfl' _, ⟨hk7, htm6, i + 1, by omega, by omega, by rw [hprev]; simpa [aboveM, c0, g_c1, g_c2] using hrec⟩, by omega⟩
      · have qi : ((0 : Int) < i) = True := eq_true (by omega)
        have qi2 : (0 < i) = True := eq_true (by omega)
        have hwm : IntKind.i64.wrap ((i : Int) - 1) = ((i - 1 : Nat) : Int) := by rw [wrap_id (by omega) (by omega)]; omega
        obtain ⟨q, hq, hzq⟩ := hprev0 h0
        rw [hq] at hrec
        have hlm : i - 1 < m.blocks.length := by omega
        by_cases c9 : x.id ≤ q
        · have q9 := eq_true c9
          have g9 : ¬ q < x.id := by omega
          have : RES = false := by rw [← hrec]; simp [aboveM, g9]
          subst this
          simp [go_sem, e1, e50, e51, ei, htx6, htm6, hs6, hlt', hlt, q0, q_c1, q_c2, qi, qi2, hwm, hlm, hzq, q9]
          exact hk7
        · have q9 := eq_false c9
          have g9 : q < x.id := by omega
          simp [go_sem, e1, e50, e51, ei, htx6, htm6, hs6, hlt', hlt, q0, q_c1, q_c2, qi, qi2, hwm, hlm, hzq, q9, hwi]
          exact ⟨_, .rfl' _, ⟨hk7, htm6, i + 1, by omega, by omega, by rw [hprev]; simpa [aboveM, g9, c0, g_c1, g_c2] using hrec⟩, by omega⟩
    · have hlt' : ((i : Int) < m.blocks.length) = False := eq_false (by omega)
      have : i = m.blocks.length := by omega
      subst this
      rw [List.drop_length] at hrec
      unfold blocksM at hrec
      simp only [Bool.true_and] at hrec
      simp [go_sem, e1, e50, e51, ei, htm]
      exact ⟨hrec, hk5⟩
  clear htm hk2 e1 hRES
  rintro E3 st3 ⟨hRES, hk3, e1, htm⟩
  simp [go_sem, e1, htm]
  refine ⟨fun E st' => New st st' ∧ E 1 = ptr tm ∧ E 92 = .slice tb m.tombs.length tc ∧ E 93 = Val.i m.tombs.length ∧ st' tm = some (.cells true [Val.i m.seq, Val.i m.log, Val.i m.next, Val.i m.now, .slice bb m.blocks.length bc, .slice tb m.tombs.length tc] 6 (.ty 0)) ∧ ∃ i : Nat, E 94 = Val.i i ∧ i ≤ m.tombs.length ∧ tombsM m.seq (prevOf (m.tombs.map (·.seq)) i) (m.tombs.drop i) = RES,
    fun E _ => match E 94 with | .int _ i => m.tombs.length - i.toNat | _ => 0, ⟨st3, .rfl' _, hk3, by simp [go_sem, e1], by simp [go_sem], by simp [go_sem], htm, 0, by simp [go_sem], by omega, by simpa [prevOf] using hRES⟩, ?_⟩
  clear hk3 htm e1 hRES
  rintro E st5 ⟨hk5, e1, e50, e51, htm, i, ei, hi, hrec⟩
  by_cases hlt : i < m.tombs.length
  · have hlt' : ((i : Int) < m.tombs.length) = True := eq_true (by omega)
    have hwi : IntKind.i64.wrap ((i : Int) + 1) = ((i + 1 : Nat) : Int) := by rw [wrap_id (by omega) (by omega)]; omega
    obtain ⟨mb, off, cap, rw_, zs, mm, g, hv, hs, hget⟩ := rows_get (ht.new hk5) (by omega)
    injection hv with v1 v2 v3
    subst v1; subst v3
    obtain ⟨hlen, hcell, hc⟩ := hget i hlt
    have hx : m.tombs[i]? = some m.tombs[i] := List.getElem?_eq_getElem hlt
    have hd : m.tombs.drop i = m.tombs[i] :: m.tombs.drop (i + 1) := List.drop_eq_getElem_cons hlt
    have hprev : prevOf (m.tombs.map (·.seq)) (i + 1) = some m.tombs[i].seq := by simp [prevOf, hx]
    rw [hd] at hrec
    have hti := (hts i _ hx).mono (fun _ _ _ _ h => h.new hk5)
    rw [← hcell] at hti
    unfold tombsM at hrec
    have hprev0 : i ≠ 0 → ∃ q, prevOf (m.tombs.map (·.seq)) i = some q ∧ zs[off + (i - 1) * 8]? = some (Val.i q) := by
      intro h0
      have h1 : i - 1 < m.tombs.length := by omega
      obtain ⟨-, -, hc1⟩ := hget (i - 1) h1
      have hx1 : m.tombs[i - 1]? = some m.tombs[i - 1] := List.getElem?_eq_getElem h1
      refine ⟨m.tombs[i - 1].seq, by simp [prevOf, h0, hx1], ?_⟩
      have := hc1 0 (by omega)
      obtain ⟨ms, -, hcs⟩ := hts _ _ hx1
      rw [hcs] at this
      simpa using this
    generalize m.tombs[i] = x at *
    obtain ⟨ms, hms, hcs⟩ := hti
    have hms0 := hms
    obtain ⟨sq, mat, fro, to⟩ := x
    obtain ⟨op, name, value, vals, kids⟩ := mat
    unfold MatAt at hms
    obtain ⟨vv, kv, ks, rfl, hv', hk', hkids⟩ := hms
    obtain ⟨vb', vc', rfl⟩ := hv'.slice
    obtain ⟨kb', kc', rfl⟩ := hk'.slice
    simp only [List.cons_append, List.nil_append] at hcs
    simp [go_sem, e1, e50, e51, ei, htm, hlt', hlt, hs, hlen, hcs]
    unfold NewP
    intro tx htx
    refine ⟨.ty 0, ?_⟩
    have htn : tm ≠ tx := ne_of_new htm htx
    have hmn : mb ≠ tx := ne_of_new hs htx
    simp [go_sem, e1, e50, e51, ei, htm, hlt', hlt, hs, hlen, hcs, htn, hmn]
    have HN9 : New st5 (upd st5 tx (.cells true [Val.i sq, Val.i op, .string name, .string value, .slice vb' vals.length vc', .slice kb' kids.length kc', Val.i fro, Val.i to] 8 (.ty 0))) := (New.refl _).add htx
    refine draw [0, 1, 2, 3, 4, 6, 5, 7, 8, 9, 10, 11, 12, 13, 14, 16, 18, 19, 15, 17, 20, 21, 22, 23, 24, 25] (by kernel_rfl) ?_
    simp [go_sem, e1, e50, e51, ei]
    refine (tombCheck_spec ⟨_, hms0.new HN9, rfl⟩).mono ?_
    rintro e st6 ⟨rfl, hk6⟩
    have htx6 := hk6 _ _ (upd_same st5 tx _)
    have htm6 := hk6 _ _ (HN9 _ _ htm)
    have hs6 := hk6 _ _ (HN9 _ _ hs)
    have hk7 := hk5.trans (HN9.trans hk6)
    clear hk6 HN9 htm hs
    by_cases c0 : tombOK (TombD.mk sq (.mk op name value vals kids) fro to)
    rotate_left
    · have q0 := eq_false c0
      have : RES = false := by rw [← hrec]; simp [c0]
      subst this
      simp [go_sem, e1, e50, e51, ei, htx6, htm6, hs6, hlt', hlt, q0]
      exact hk7
    have q0 := eq_true c0
    by_cases c1 : m.seq < sq
    · have q_c1 := eq_true c1
      have g_c1 : ¬ sq ≤ m.seq := by omega
      have : RES = false := by rw [← hrec]; simp [g_c1]
      subst this
      simp [go_sem, e1, e50, e51, ei, htx6, htm6, hs6, hlt', hlt, q0, q_c1]
      exact hk7
    have q_c1 := eq_false c1
    have g_c1 : sq ≤ m.seq := by omega
    by_cases h0 : i = 0
    · have qi : ((0 : Int) < i) = False := eq_false (by omega)
      have qi2 : (0 < i) = False := eq_false (by omega)
      have hp0 : prevOf (m.tombs.map (·.seq)) i = none := by rw [h0]; rfl
      rw [hp0] at hrec
      simp [go_sem, e1, e50, e51, ei, htx6, htm6, hs6, hlt', hlt, q0, q_c1, qi, qi2, hwi]
      exact ⟨_, .rfl' _, ⟨hk7, htm6, i + 1, by omega, by omega, by rw [hprev]; simpa [aboveM, c0, g_c1] using hrec⟩, by omega⟩
    · have qi : ((0 : Int) < i) = True := eq_true (by omega)
      have qi2 : (0 < i) = True := eq_true (by omega)
      have hwm : IntKind.i64.wrap ((i : Int) - 1) = ((i - 1 : Nat) : Int) := by rw [wrap_id (by omega) (by omega)]; omega
      obtain ⟨q, hq, hzq⟩ := hprev0 h0
      rw [hq] at hrec
      have hlm : i - 1 < m.tombs.length := by omega
      by_cases c9 : sq ≤ q
      · have q9 := eq_true c9
        have g9 : ¬ q < sq := by omega
        have : RES = false := by rw [← hrec]; simp [aboveM, g9]
        subst this
        simp [go_sem, e1, e50, e51, ei, htx6, htm6, hs6, hlt', hlt, q0, q_c1, qi, qi2, hwm, hlm, hzq, q9]
        exact hk7
      · have q9 := eq_false c9
        have g9 : q < sq := by omega
        simp [go_sem, e1, e50, e51, ei, htx6, htm6, hs6, hlt', hlt, q0, q_c1, qi, qi2, hwm, hlm, hzq, q9, hwi]
        exact ⟨_, .rfl' _, ⟨hk7, htm6, i + 1, by omega, by omega, by rw [hprev]; simpa [aboveM, g9, c0, g_c1] using hrec⟩, by omega⟩
  · have hlt' : ((i : Int) < m.tombs.length) = False := eq_false (by omega)
    have : i = m.tombs.length := by omega
    subst this
    rw [List.drop_length] at hrec
    unfold tombsM at hrec
    subst hrec
    simp [go_sem, e1, e50, e51, ei, htm]
    exact hk5
end
end Go.Proofs.YtgppogppdmbgmaaGreat
set_option linter.unusedVariables false
set_option linter.unusedSimpArgs false
set_option maxRecDepth 100000
namespace Go.Proofs.YtgppogppdmbgmaaGreat
open Go.ChangeShapes Go.WideShapes Go.ChangeAt Go.RowKit
theorem took_one {cs : List Value} {o : Nat} {v : Value} (h : (cs.drop o).take 1 = [v]) : cs[o]? = some v := by
  have := congrArg (·[0]?) h
  simpa using this
theorem opens_matcher : ∀ (fuel : Nat), Opens 28 5 (fun st cs m => MatAt st cs m) fuel := by
  intro fuel
  induction fuel using Nat.strongRecOn with
  | _ fuel ih =>
  intro H enc W cs x hx hr
  obtain ⟨hl, n, rfl, hf⟩ := opens_struct Tryz.underlying28 hx hr
  have hl5 : cs.length = 5 := hl.trans (by kernel_rfl)
  refine ⟨hl5, ?_⟩
  obtain ⟨y0, h0, r0⟩ := hf 0 _ rfl
  obtain ⟨y1, h1, r1⟩ := hf 1 _ rfl
  obtain ⟨y2, h2, r2⟩ := hf 2 _ rfl
  obtain ⟨y3, h3, r3⟩ := hf 3 _ rfl
  obtain ⟨y4, h4, r4⟩ := hf 4 _ rfl
  obtain ⟨_, op, k0, _⟩ := opens_int Tryz.underlying3 n H enc W _ _ h0 r0
  obtain ⟨_, name, k1, _⟩ := opens_text Tryz.underlying9 n H enc W _ _ h1 r1
  obtain ⟨_, value, k2, _⟩ := opens_text Tryz.underlying9 n H enc W _ _ h2 r2
  obtain ⟨_, vals, vb, vc, vys, k3, vreg, _, vel⟩ := opens_slice (n := 1) (bytes := 16) Tryz.underlying25 (by kernel_rfl) (by omega) (by kernel_rfl) (fun f _ => opens_text Tryz.underlying9 f) H enc W _ _ h3 r3
  obtain ⟨_, kids, kb, kc, kys, k4, kreg, _, kel⟩ := opens_slice (n := 5) (bytes := 88) Tryz.underlying26 (by kernel_rfl) (by omega) (by kernel_rfl) (fun f hf => ih f (by omega)) H enc W _ _ h4 r4
  have e3 := texts_of (by simpa using vreg.1) vel
  subst e3
  refine ⟨.mk op name value vals kids, ?_⟩
  unfold MatAt
  refine ⟨.slice vb vals.length vc, .slice kb kids.length kc, kys, ?_, ⟨_, by intro g x r; simp, vreg⟩, ⟨_, by intro g x r; simp, kreg⟩, kids_of kids kys kreg.1 kel⟩
  have c0 := took_one k0
  have c1 := took_one k1
  have c2 := took_one k2
  have c3 := took_one k3
  have c4 := took_one k4
  match cs, hl5 with
  | [x0, x1, x2, x3, x4], _ => simp at c0 c1 c2 c3 c4; subst c0; subst c1; subst c2; subst c3; subst c4; rfl
def MetaW (_ : Heap) (cs : List Value) (x : MetaD) : Prop := cs = x.cells ∧ ∀ z ∈ x.ints, -2 ^ 63 ≤ z ∧ z < 2 ^ 63
theorem opens_meta (fuel : Nat) : Opens 187 7 MetaW fuel := fun H enc W cs x hx hr => by
  obtain ⟨hl, n, rfl, hf⟩ := opens_struct Tryz.underlying187 hx hr
  have hl7 : cs.length = 7 := hl.trans (by kernel_rfl)
  refine ⟨hl7, ?_⟩
  obtain ⟨y0, h0, r0⟩ := hf 0 _ rfl
  obtain ⟨y1, h1, r1⟩ := hf 1 _ rfl
  obtain ⟨y2, h2, r2⟩ := hf 2 _ rfl
  obtain ⟨y3, h3, r3⟩ := hf 3 _ rfl
  obtain ⟨y4, h4, r4⟩ := hf 4 _ rfl
  obtain ⟨y5, h5, r5⟩ := hf 5 _ rfl
  obtain ⟨y6, h6, r6⟩ := hf 6 _ rfl
  obtain ⟨_, a0, k0, w0⟩ := opens_int Tryz.underlying3 n H enc W _ _ h0 r0
  obtain ⟨_, a1, k1, w1⟩ := opens_int Tryz.underlying3 n H enc W _ _ h1 r1
  obtain ⟨_, a2, k2, w2⟩ := opens_int Tryz.underlying3 n H enc W _ _ h2 r2
  obtain ⟨_, a3, k3, w3⟩ := opens_int Tryz.underlying3 n H enc W _ _ h3 r3
  obtain ⟨_, a4, k4, w4⟩ := opens_int Tryz.underlying3 n H enc W _ _ h4 r4
  obtain ⟨_, a5, k5, w5⟩ := opens_int Tryz.underlying3 n H enc W _ _ h5 r5
  obtain ⟨_, a6, k6, w6⟩ := opens_int Tryz.underlying3 n H enc W _ _ h6 r6
  have c0 := took_one k0
  have c1 := took_one k1
  have c2 := took_one k2
  have c3 := took_one k3
  have c4 := took_one k4
  have c5 := took_one k5
  have c6 := took_one k6
  refine ⟨⟨a0, a1, a2, a3, a4, a5, a6⟩, ?_, ?_⟩
  · match cs, hl7 with
    | [x0, x1, x2, x3, x4, x5, x6], _ => simp at c0 c1 c2 c3 c4 c5 c6; subst c0; subst c1; subst c2; subst c3; subst c4; subst c5; subst c6; rfl
  · have b0 := bounds_i64 w0
    have b1 := bounds_i64 w1
    have b2 := bounds_i64 w2
    have b3 := bounds_i64 w3
    have b4 := bounds_i64 w4
    have b5 := bounds_i64 w5
    have b6 := bounds_i64 w6
    intro z hz
    simp [MetaD.ints] at hz
    omega
theorem opens_tomb (fuel : Nat) : Opens 155 8 (fun st cs t => TombAt st cs t) fuel := fun H enc W cs x hx hr => by
  obtain ⟨hl, n, rfl, hf⟩ := opens_struct Tryz.underlying155 hx hr
  have hl8 : cs.length = 8 := hl.trans (by kernel_rfl)
  refine ⟨hl8, ?_⟩
  obtain ⟨y0, h0, r0⟩ := hf 0 _ rfl
  obtain ⟨y1, h1, r1⟩ := hf 1 _ rfl
  obtain ⟨y2, h2, r2⟩ := hf 2 _ rfl
  obtain ⟨y3, h3, r3⟩ := hf 3 _ rfl
  obtain ⟨_, seq, k0, _⟩ := opens_int Tryz.underlying3 n H enc W _ _ h0 r0
  obtain ⟨_, m, k1⟩ := opens_matcher n H enc W _ _ h1 r1
  obtain ⟨_, fro, k2, _⟩ := opens_int Tryz.underlying3 n H enc W _ _ h2 r2
  obtain ⟨_, to, k3, _⟩ := opens_int Tryz.underlying3 n H enc W _ _ h3 r3
  have c0 := took_one k0
  have c2 := took_one k2
  have c3 := took_one k3
  refine ⟨⟨seq, m, fro, to⟩, _, k1, ?_⟩
  match cs, hl8 with
  | [x0, x1, x2, x3, x4, x5, x6, x7], _ => simp at c0 c2 c3; subst c0; subst c2; subst c3; rfl
def ManW' (st : Heap) (cs : List Value) (m : ManD) : Prop := ManAt st cs m ∧ (∀ x ∈ m.blocks, ∀ z ∈ x.ints, -2 ^ 63 ≤ z ∧ z < 2 ^ 63)
theorem opens_man (fuel : Nat) : Opens 81 6 ManW' fuel := fun H enc W cs x hx hr => by
  obtain ⟨hl, n, rfl, hf⟩ := opens_struct Tryz.underlying81 hx hr
  have hl6 : cs.length = 6 := hl.trans (by kernel_rfl)
  refine ⟨hl6, ?_⟩
  obtain ⟨y0, h0, r0⟩ := hf 0 _ rfl
  obtain ⟨y1, h1, r1⟩ := hf 1 _ rfl
  obtain ⟨y2, h2, r2⟩ := hf 2 _ rfl
  obtain ⟨y3, h3, r3⟩ := hf 3 _ rfl
  obtain ⟨y4, h4, r4⟩ := hf 4 _ rfl
  obtain ⟨y5, h5, r5⟩ := hf 5 _ rfl
  obtain ⟨_, seq, k0, _⟩ := opens_int Tryz.underlying3 n H enc W _ _ h0 r0
  obtain ⟨_, log, k1, _⟩ := opens_int Tryz.underlying3 n H enc W _ _ h1 r1
  obtain ⟨_, next, k2, _⟩ := opens_int Tryz.underlying3 n H enc W _ _ h2 r2
  obtain ⟨_, now, k3, _⟩ := opens_int Tryz.underlying3 n H enc W _ _ h3 r3
  obtain ⟨_, blocks, bb, bc, bs, k4, breg, _, bel⟩ := opens_slice (n := 7) (bytes := 56) Tryz.underlying78 (by kernel_rfl) (by omega) (by kernel_rfl) (fun f _ => opens_meta f) H enc W _ _ h4 r4
  obtain ⟨_, tombs, tb, tc, ts, k5, treg, _, tel⟩ := opens_slice (n := 8) (bytes := 112) Tryz.underlying79 (by kernel_rfl) (by omega) (by kernel_rfl) (fun f _ => opens_tomb f) H enc W _ _ h5 r5
  have c0 := took_one k0
  have c1 := took_one k1
  have c2 := took_one k2
  have c3 := took_one k3
  have c4 := took_one k4
  have c5 := took_one k5
  refine ⟨⟨seq, log, next, now, blocks, tombs⟩, ⟨_, _, bs, ts, ?_, ⟨_, by intro g x r; simp, breg⟩, fun i x hi => (bel i x hi).1, ⟨_, by intro g x r; simp, treg⟩, fun i x hi => tel i x hi⟩, fun x hx => ?_⟩
  · match cs, hl6 with
    | [x0, x1, x2, x3, x4, x5], _ => simp at c0 c1 c2 c3 c4 c5; subst c0; subst c1; subst c2; subst c3; subst c4; subst c5; rfl
  · obtain ⟨i, hi⟩ := List.mem_iff_getElem?.1 hx
    exact (bel i x hi).2
theorem fits_of {m : ManD} (h : ∀ x ∈ m.blocks, ∀ z ∈ x.ints, -2 ^ 63 ≤ z ∧ z < 2 ^ 63) : ∀ x ∈ m.blocks, x.rows < 2 ^ 63 := fun x hx => (h x hx x.rows (by simp [MetaD.ints])).2
end Go.Proofs.YtgppogppdmbgmaaGreat
set_option linter.unusedVariables false
set_option linter.unusedSimpArgs false
set_option maxRecDepth 100000
namespace Go.Proofs.YtgppogppdmbgmaaGreat
open Go.ChangeShapes Go.WideShapes Go.ChangeAt Go.RowKit
theorem opened_mans {H : Type} {enc : TypeId × Value → H} {W : World} {a0 : Option Addr} {len cap : Nat} {d0 : DataW H} {p : List MemPlace} {ts : List TypeId} {ds : List (DataW H)}
    (h0 : DataW.Trod enc Tryz.prog W 0 (fun _ => true) true 116 (.slice a0 len cap) d0 p) (j : Nat) (hw : (DataW.weightsEach Tryz.prog ts ds).all (· ≤ reachBytes) = true) (ht : ts[j]? = some 116) (hd : ds[j]? = some d0) :
    ∃ (l : List ManD) (ys : List Value), l.length = len ∧ Reg (snap W) (.ty 0) 6 (.slice a0 l.length cap) ys l.length ∧ l.length < 2 ^ 50 ∧ ∀ (i : Nat) m, l[i]? = some m → ManW' (snap W) ((ys.drop (i * 6)).take 6) m := by
  obtain ⟨l, base, cap', ys, he, hreg, hb, hel⟩ := opened (n := 1) (A := SliceAt ManW' 6 80) (fun f => opens_slice (n := 6) (bytes := 80) Tryz.underlying116 (by kernel_rfl) (by omega) (by kernel_rfl) (fun f _ => opens_man f)) h0 j hw ht hd
  have he' : Value.slice a0 len cap = .slice base l.length cap' := by simpa [Value.cells] using he
  injection he' with e1 e2 e3
  subst e1
  subst e2
  subst e3
  exact ⟨l, ys, rfl, hreg, by omega, hel⟩
end Go.Proofs.YtgppogppdmbgmaaGreat
