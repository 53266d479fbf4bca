/- The file system's small functions: what each call does. -/
import Derived.Test.YtadgciaclhjjkaaGreatCTab
import Derived.Test.YtadgciaclhjjkaaGreatC08
set_option linter.unusedVariables false
set_option linter.unusedSimpArgs false
set_option maxRecDepth 100000
namespace Go.Proofs.YtadgciaclhjjkaaGreat
open Go.RowKit (Below)

/-- What a call looks at by itself. -/
structure Ctl where
  calls : Int
  armed : Bool
  kind : Int
  after : Int
  off : Bool
def Ctl.call (c : Ctl) : Int × Ctl :=
  if c.off = true then (15, { c with calls := W (c.calls + 1) })
  else if c.armed = false then (0, { c with calls := W (c.calls + 1) })
  else if c.after > 0 then (0, { c with calls := W (c.calls + 1), after := W (c.after - 1) })
  else if c.kind = 0 then (15, { c with calls := W (c.calls + 1), armed := false, off := true })
  else (c.kind, { c with calls := W (c.calls + 1), armed := false })
/-- The cells of a file system. -/
def fsC (sm nm : Nat) (ts : Value) (born : Int) (c : Ctl) : List Value :=
  [.map (some sm), .map (some nm), ts, Val.i born, Val.i c.calls, .bool c.armed, Val.i c.kind, Val.i c.after, .bool c.off]
structure VUnit where
  cut : Bool
  size : Nat
  b : Bs
structure VFile where
  born : Nat
  sure : Bs
  pend : List VUnit
  now : Bs
structure VTurn where
  kind : Int
  name : ByteArray
  to : ByteArray
  file : Option Nat
structure VFS where
  sure : List (ByteArray × Nat)
  now : List (ByteArray × Nat)
  turns : List VTurn
  files : List VFile
  c : Ctl
def unitsAt (st : Heap) (g : Tg) : List VUnit → List Value → Prop
  | [], [] => True
  | u :: us, a :: b :: c :: cs => a = .bool u.cut ∧ b = Val.i u.size ∧ Reg st g 1 c (bytesV u.b) u.b.length ∧ unitsAt st g us cs
  | _, _ => False
theorem unitsAt.keep {st st' : Heap} {g : Tg} {p : Tg → Prop} (hk : Keep p st st') (hp : p g) : ∀ (us : List VUnit) (cs : List Value), unitsAt st g us cs → unitsAt st' g us cs
  | [], [], h => h
  | u :: us, a :: b :: c :: cs, h => ⟨h.1, h.2.1, h.2.2.1.keep hk hp, unitsAt.keep hk hp us cs h.2.2.2⟩
theorem unitsAt.of_ext {st st' : Heap} {g : Tg} (hg : ∀ k rw ys n, st k = some (.cells rw ys n g) → ∃ zs, st' k = some (.cells rw (ys ++ zs) n g)) : ∀ (us : List VUnit) (cs : List Value), unitsAt st g us cs → unitsAt st' g us cs
  | [], [], h => h
  | u :: us, a :: b :: c :: cs, h => ⟨h.1, h.2.1, h.2.2.1.of_ext hg, unitsAt.of_ext hg us cs h.2.2.2⟩
theorem unitsAt.append {st : Heap} {g : Tg} : ∀ (us us' : List VUnit) (cs cs' : List Value), unitsAt st g us cs → unitsAt st g us' cs' → unitsAt st g (us ++ us') (cs ++ cs')
  | [], us', [], cs', _, h' => h'
  | u :: us, us', a :: b :: c :: cs, cs', h, h' => ⟨h.1, h.2.1, h.2.2.1, unitsAt.append us us' cs cs' h.2.2.2 h'⟩
def FileAt (st : Heap) (f i a : Nat) (F : VFile) : Prop := ∃ sv pv nv us, st a = some (.cells true [Val.i F.born, sv, pv, nv] 4 (.own f i 1)) ∧ Reg st (.own f i 3) 1 sv (bytesV F.sure) F.sure.length ∧ unitsAt st (.own f i 4) F.pend us ∧ Vec st (.own f i 2) 3 pv us F.pend.length ∧ Vec st (.own f i 3) 1 nv (bytesV F.now) F.now.length
theorem FileAt.keep {st st' : Heap} {f i a : Nat} {F : VFile} {p : Tg → Prop} (hk : Keep p st st') (hp : ∀ r, 1 ≤ r → r ≤ 4 → p (.own f i r)) (h : FileAt st f i a F) : FileAt st' f i a F := by
  obtain ⟨sv, pv, nv, us, h1, h2, h3, h4, h5⟩ := h
  exact ⟨sv, pv, nv, us, hk.get h1 (hp _ (by omega) (by omega)), h2.keep hk (hp _ (by omega) (by omega)), unitsAt.keep hk (hp _ (by omega) (by omega)) _ _ h3, h4.keep hk (hp _ (by omega) (by omega)), h5.keep hk (hp _ (by omega) (by omega))⟩

section
variable {W0 : World} {st : Heap} {R : Ending → Heap → Prop}
theorem call_spec {f sm nm : Nat} {ts : Value} {born : Int} {c : Ctl} {g : Tg} (h : st f = some (.cells true (fsC sm nm ts born c) 9 g))
    (hr : R (.returned (Val.i c.call.1)) (upd st f (.cells true (fsC sm nm ts born c.call.2) 9 g))) : ICalls Tryz.prog W0 149 #[ptr f] st R := by
  refine enter (args := [_]) Tryz.func149 rfl ?_
  unfold fsC at h hr
  obtain ⟨calls, armed, kind, after, off⟩ := c
  simp only [Ctl.call] at hr
  simp [Tryz.f149, go_sem, h]
  cases off <;> cases armed <;> simp [go_sem, h]
  · simpa using hr
  · by_cases ha : 0 < after
    · simpa [go_sem, ha] using hr
    · by_cases hk : kind = 0
      · simpa [go_sem, ha, hk] using hr
      · simpa [go_sem, ha, hk] using hr
  · simpa using hr
  · simpa using hr
theorem fileAppend_spec {f i a : Nat} {F : VFile} {bv : Value} {b : Bs} (h : FileAt st f i a F) (hb : srcCells 1 st bv = some (b.length, bytesV b)) (hs1 : F.now.length + b.length < 2 ^ 40) (hs2 : F.pend.length < 2 ^ 40) :
    ICalls Tryz.prog W0 81 #[ptr a, bv] st fun e st' => e = .returned (.tuple #[]) ∧ FileAt st' f i a { F with pend := F.pend ++ [⟨false, 0, b⟩], now := F.now ++ b } ∧ Keep (fun g => ∀ r, 1 ≤ r → r ≤ 4 → g ≠ .own f i r) st st' := by
  obtain ⟨sv, pv, nv, us, h1, h2, h3, h4, h5⟩ := h
  refine enter (args := [_, _]) Tryz.func81 rfl ?_
  simp [Tryz.f81, go_sem]
  unfold NewS
  intro b0 hb0
  refine ⟨.own f i 4, ?_⟩
  simp [go_sem]
  refine AppI_vec (g := .own f i 4) si40 (Vec.new (xs := []) rfl (Nat.le_refl 0) (upd_same _ _ _) (Nat.zero_le _)) (srcCells_le (.new _ hb0) hb) (bytesV_one _) (by omega) ?_
  intro s1 c1 st1 hv1 he1
  simp only [List.nil_append, Nat.zero_add] at hv1 ⊢
  have k1 : Keep (fun g => g ≠ .own f i 4) st st1 := (Keep.rfl'.new hb0).trans (he1.toKeep (by simp))
  have g1 : ∀ k rw ys n, st k = some (.cells rw ys n (.own f i 4)) → ∃ zs, st1 k = some (.cells rw (ys ++ zs) n (.own f i 4)) := fun k rw ys n hk => he1.grow k rw ys n (by rw [upd_ne _ _ (ne_of_new hk hb0)]; exact hk)
  have h1' := k1.get h1 (by simp)
  have h2' := h2.keep k1 (by simp)
  have h3' := unitsAt.of_ext g1 _ _ h3
  have h4' := h4.keep k1 (by simp)
  have h5' := h5.keep k1 (by simp)
  simp [go_sem, h1']
  unfold NewS
  intro b1 hb1
  refine ⟨.ty 0, ?_⟩
  simp [go_sem]
  have n1 : Heap.Le st1 (upd st1 b1 (.cells true [.bool false, .int .i64 0, .slice s1 b.length c1] 3 (.ty 0))) := .new _ hb1
  have k2 : Keep (fun _ => True) st1 (upd st1 b1 (.cells true [.bool false, .int .i64 0, .slice s1 b.length c1] 3 (.ty 0))) := Keep.rfl'.new hb1
  refine AppI_vec (g := .own f i 2) (m := 1) (ys := [.bool false, .int .i64 0, .slice s1 b.length c1]) si179 (h4'.keep k2 trivial) ?_ (by simp [Value.oneCell']) (by omega) ?_
  · simp [srcCells, lkN_mk, upd_same, cellsOf]
  intro s2 c2 st2 hv2 he2
  have k3 : Keep (fun g => g ≠ .own f i 2) st1 st2 := (Keep.imp (fun _ _ => trivial) k2).trans (he2.toKeep (by simp))
  have h1'' := k3.get h1' (by simp)
  have h2'' := h2'.keep k3 (by simp)
  have h3'' := unitsAt.keep k3 (by simp) _ _ h3'
  have h5'' := h5'.keep k3 (by simp)
  have hv1' := hv1.keep k3 (by simp)
  simp [go_sem, h1'']
  have k4 : Keep (fun g => g ≠ .own f i 1) st2 (upd st2 a (.cells true [Val.i F.born, sv, .slice s2 (F.pend.length + 1) c2, nv] 4 (.own f i 1))) := Keep.rfl'.old h1'' (by simp [HObj.tag])
  refine AppI_vec (g := .own f i 3) si40 (h5''.keep k4 (by simp)) (hv1'.keep k4 (by simp)).src (bytesV_one _) (by omega) ?_
  intro s3 c3 st3 hv3 he3
  have k5 : Keep (fun g => g ≠ .own f i 3) _ st3 := he3.toKeep (by simp)
  have h1a := k5.get (upd_same _ _ _) (by simp)
  simp [go_sem, h1a]
  have k6 : Keep (fun g => g ≠ .own f i 1) st3 (upd st3 a (.cells true [Val.i F.born, sv, .slice s2 (F.pend.length + 1) c2, .slice s3 (F.now.length + b.length) c3] 4 (.own f i 1))) := Keep.rfl'.old h1a (by simp [HObj.tag])
  refine ⟨⟨sv, _, _, us ++ [.bool false, .int .i64 0, .slice s1 b.length c1], upd_same _ _ _, ?_, ?_, ?_, ?_⟩, ?_⟩
  · exact ((h2''.keep k4 (by simp)).of_ext he3.grow).keep k6 (by simp)
  · exact unitsAt.append _ _ _ _ (unitsAt.keep k6 (by simp) _ _ (unitsAt.keep k5 (by simp) _ _ (unitsAt.keep k4 (by simp) _ _ h3''))) ⟨rfl, rfl, (((hv1'.keep k4 (by simp)).keep k5 (by simp)).keep k6 (by simp)).reg, trivial⟩
  · simpa using ((hv2.keep k4 (by simp)).keep k5 (by simp)).keep k6 (by simp)
  · simpa [bytesV_append] using hv3.keep k6 (by simp)
  · exact ((((k1.imp (fun g h => h 4 (by omega) (by omega))).trans (k3.imp (fun g h => h 2 (by omega) (by omega)))).trans (k4.imp (fun g h => h 1 (by omega) (by omega)))).trans (k5.imp (fun g h => h 3 (by omega) (by omega)))).trans (k6.imp (fun g h => h 1 (by omega) (by omega)))
end
end Go.Proofs.YtadgciaclhjjkaaGreat
set_option linter.unusedVariables false
set_option linter.unusedSimpArgs false
set_option maxRecDepth 100000
set_option maxHeartbeats 1000000
namespace Go.Proofs.YtadgciaclhjjkaaGreat
open Go.RowKit (Below)

def vputM (n : Nat) : Bs := if n < 128 then [UInt8.ofNat n] else UInt8.ofNat (n % 128 + 128) :: vputM (n / 128)
termination_by n
def vgetL (b : Bs) : (k : Nat) → (at_ v : Nat) → Option (Nat × Nat)
  | 0, _, _ => none
  | k + 1, at_, v => match b[at_]? with
    | none => none
    | some x => if k = 0 ∧ 1 < x.toNat then none
        else if x.toNat < 128 then (if k < 9 ∧ x.toNat = 0 then none else some (v + x.toNat % 128 * 128 ^ (9 - k), at_ + 1))
        else vgetL b k (at_ + 1) (v + x.toNat % 128 * 128 ^ (9 - k))
def vgetM (b : Bs) (at_ : Int) : Option (Nat × Nat) := if at_ < 0 then none else vgetL b 10 at_.toNat 0
def vgetV : Option (Nat × Nat) → Value
  | some (v, at_) => .tuple #[.int .u64 v, Val.i at_, .bool true]
  | none => .tuple #[.int .u64 0, Val.i 0, .bool false]
def zz (v : Int) : Nat := if 0 ≤ v then (2 * v).toNat else (-2 * v - 1).toNat
def unzz (u : Nat) : Int := if u % 2 = 0 then (u / 2 : Nat) else -((u / 2 : Nat) : Int) - 1
def vgetIntM (b : Bs) (at_ : Int) : Option (Int × Nat) := (vgetM b at_).map fun p => (unzz p.1, p.2)
def vgetIntV : Option (Int × Nat) → Value
  | some (v, at_) => .tuple #[Val.i v, Val.i at_, .bool true]
  | none => .tuple #[Val.i 0, Val.i 0, .bool false]
theorem pow128 (i : Nat) : 128 ^ i = 2 ^ (7 * i) := by rw [show (128 : Nat) = 2 ^ 7 from rfl, ← Nat.pow_mul]
theorem vgetL_bound {b : Bs} : ∀ {k at_ v : Nat} {r : Nat × Nat}, k ≤ 10 → v < 128 ^ (10 - k) → vgetL b k at_ v = some r → r.1 < 2 ^ 64 ∧ at_ < r.2 ∧ r.2 ≤ b.length
  | 0, _, _, _, _, _, h => by cases h
  | k + 1, at_, v, r, hk, hv, h => by
    unfold vgetL at h
    split at h
    · cases h
    · rename_i x hx
      have hlt := (List.getElem?_eq_some_iff.1 hx).1
      have hx8 := x.toNat_lt
      have h9 : 10 - (k + 1) = 9 - k := by omega
      rw [h9] at hv
      have hp : (128 : Nat) ^ (9 - k) > 0 := Nat.pow_pos (by decide)
      split at h
      · cases h
      · rename_i h1
        split at h
        · split at h
          · cases h
          · injection h with h
            subst h
            refine ⟨?_, by simp, hlt⟩
            simp only
            by_cases hk0 : k = 0
            · subst hk0
              have : x.toNat ≤ 1 := by omega
              have h2 : x.toNat % 128 * 128 ^ (9 - 0) ≤ 1 * 128 ^ 9 := Nat.mul_le_mul_right _ (by omega)
              have h3 : (128 : Nat) ^ (9 - 0) = 9223372036854775808 := by decide
              have h4 : (128 : Nat) ^ 9 = 9223372036854775808 := by decide
              omega
            · have h2 : x.toNat % 128 * 128 ^ (9 - k) ≤ 127 * 128 ^ (9 - k) := Nat.mul_le_mul_right _ (by omega)
              have h3 : (128 : Nat) ^ (9 - k) ≤ 128 ^ 8 := Nat.pow_le_pow_right (by decide) (by omega)
              have h4 : (128 : Nat) ^ 8 = 72057594037927936 := by decide
              omega
        · have h2 : x.toNat % 128 * 128 ^ (9 - k) ≤ 127 * 128 ^ (9 - k) := Nat.mul_le_mul_right _ (by omega)
          by_cases hk0 : k = 0
          · subst hk0
            cases h
          · have h3 : 10 - k = 9 - k + 1 := by omega
            have h4 : (128 : Nat) ^ (10 - k) = 128 ^ (9 - k) * 128 := by rw [h3, Nat.pow_succ]
            have := vgetL_bound (by omega) (by omega) h
            omega
theorem vgetM_bound {b : Bs} {at_ : Int} {r : Nat × Nat} (h : vgetM b at_ = some r) : r.1 < 2 ^ 64 ∧ at_ < r.2 ∧ r.2 ≤ b.length := by
  unfold vgetM at h
  split at h
  · cases h
  · have := vgetL_bound (by omega) (by decide) h
    omega
theorem vputM_len (n : Nat) (h : n < 2 ^ 64) : (vputM n).length ≤ 10 ∧ 1 ≤ (vputM n).length := by
  have key : ∀ (k n : Nat), n < 128 ^ k → 1 ≤ k → (vputM n).length ≤ k ∧ 1 ≤ (vputM n).length := by
    intro k
    induction k with
    | zero => intro n _ h; omega
    | succ k ih =>
      intro n hn _
      unfold vputM
      split
      · simp
      · rename_i hge
        rw [Nat.pow_succ] at hn
        have h1 : n / 128 < 128 ^ k := Nat.div_lt_of_lt_mul (by rw [Nat.mul_comm]; exact hn)
        have hk : 1 ≤ k := by
          rcases Nat.eq_zero_or_pos k with rfl | h
          · simp at hn; omega
          · exact h
        have := ih (n / 128) h1 hk
        simp only [List.length_cons]
        omega
  exact key 10 n (Nat.lt_trans h (by decide)) (by decide)
theorem ofNat_u8 (n : Nat) (h : n < 256) : ((UInt8.ofNat n).toNat : Int) = n := by
  simp; omega
section
variable {W0 : World} {st : Heap}
theorem vown_spec {bv : Value} {b : Bs} {g : Tg} (h : Reg st g 1 bv (bytesV b) b.length) : ICalls Tryz.prog W0 117 #[bv] st fun e st' => ∃ base, e = .returned (.slice base b.length b.length) ∧ Reg st g 1 (.slice base b.length b.length) (bytesV b) b.length ∧ st' = st := by
  obtain ⟨base, cap, rfl⟩ := h.slice
  have hc := h.cap
  refine enter (args := [_]) Tryz.func117 rfl ?_
  simp [Tryz.f117, go_sem, hc]
  exact h.tight
theorem vput_spec {base : Option Addr} {b : Bs} {g0 : Tg} (g : Tg) {n : Nat} (h : Reg st g0 1 (.slice base b.length b.length) (bytesV b) b.length) (hn : n < 2 ^ 64) (hl : b.length < 2 ^ 40) :
    ICalls Tryz.prog W0 116 #[.slice base b.length b.length, Val.u n] st fun e st' => ∃ v, e = .returned v ∧ Vec st' g 1 v (bytesV (b ++ vputM n)) (b ++ vputM n).length ∧ Fresh st v ∧ New st st' := by
  refine enter (args := [_, _]) Tryz.func116 rfl ?_
  simp [Tryz.f116, go_sem]
  have hpl := vputM_len n hn
  refine ⟨fun E st' => New st st' ∧ ∃ (c : Bs) (m : Nat) (v : Value), E 0 = v ∧ E 1 = Val.u m ∧ m < 2 ^ 64 ∧ c ++ vputM m = b ++ vputM n ∧ ((v = .slice base b.length b.length ∧ c = b ∧ Reg st' g0 1 v (bytesV c) c.length) ∨ (Vec st' g 1 v (bytesV c) c.length ∧ Fresh st v)),
    fun E _ => match E 1 with | .int _ m => m.toNat | _ => 0, ⟨st, .rfl' _, New.refl _, b, n, _, by simp [go_sem], by simp [go_sem], hn, rfl, .inl ⟨rfl, rfl, h⟩⟩, ?_⟩
  rintro E st' ⟨hk, c, m, v, e0, e1, hm, hcm, hv⟩
  have hclen : c.length + (vputM m).length = b.length + (vputM n).length := by rw [← List.length_append, hcm, List.length_append]
  have hml := vputM_len m hm
  have hsl : ∃ cb cc, v = .slice cb c.length cc := by
    rcases hv with ⟨rfl, rfl, _⟩ | ⟨hv, _⟩
    · exact ⟨_, _, rfl⟩
    · exact hv.slice
  obtain ⟨cb, cc, rfl⟩ := hsl
  by_cases hge : 128 ≤ m
  · have hge' : (128 : Int) ≤ m := by omega
    have hw : IntKind.u8.wrap (m : Int) = m % 256 := by rw [IntKind.wrap_u8]
    have hor := bits_or128 ((m : Int) % 256) (by omega) (by omega)
    simp [go_sem, e0, e1, hge', hw, hor]
    unfold NewS
    intro b1 hb1
    refine ⟨.ty 0, ?_⟩
    simp [go_sem]
    have hmm : ((m : Int) % 128 + 128) = ((UInt8.ofNat (m % 128 + 128)).toNat : Int) := by rw [ofNat_u8 _ (by omega)]; omega
    rw [hmm]
    have k1 : New st' (upd st' b1 (.cells true [.int .u8 ((UInt8.ofNat (m % 128 + 128)).toNat : Int)] 1 (.ty 0))) := (New.refl _).add hb1
    have hsrc : srcCells 1 (upd st' b1 (.cells true [.int .u8 ((UInt8.ofNat (m % 128 + 128)).toNat : Int)] 1 (.ty 0))) (.slice (some ⟨b1, 0, none⟩) 1 1) = some (1, bytesV [UInt8.ofNat (m % 128 + 128)]) := by
      simp [srcCells, lkN_mk, upd_same, cellsOf, bytesV]
    have hun : vputM m = UInt8.ofNat (m % 128 + 128) :: vputM (m / 128) := by
      rw [vputM]; exact if_neg (by omega)
    have hfin : ∀ (nb : Option Addr) (nc : Nat) (st2 : Heap), Vec st2 g 1 (.slice nb (c.length + 1) nc) (bytesV c ++ bytesV [UInt8.ofNat (m % 128 + 128)]) (c.length + 1) → Fresh st (.slice nb (c.length + 1) nc) → New st st2 → ∃ (c' : Bs) (m' : Nat), (m : Int) / 128 = m' ∧ m' < 2 ^ 64 ∧ c' ++ vputM m' = b ++ vputM n ∧ (Vec st2 g 1 (.slice nb (c.length + 1) nc) (bytesV c') c'.length ∧ Fresh st (.slice nb (c.length + 1) nc)) := by
      intro nb nc st2 hv2 hf2 hk2
      refine ⟨c ++ [UInt8.ofNat (m % 128 + 128)], m / 128, by omega, by omega, ?_, ?_, hf2⟩
      · rw [← hcm, hun]; simp
      · simpa [bytesV_append] using hv2
    rcases hv with ⟨hveq, rfl, hr⟩ | ⟨hv, hfr⟩
    · injection hveq with q1 q2 q3; subst q1; subst q3
      refine AppI_tight g si40 (hr.new k1) (hk.trans k1) hsrc (by omega) (by omega) ?_
      intro nb nc st2 hv2 hf2 hk2 _
      have hfd : ((m : Int).fdiv 128) = (m : Int) / 128 := by rw [Int.fdiv_eq_ediv_of_nonneg _ (by omega)]
      simp [go_sem, e0, e1, hfd]
      refine ⟨st2, .rfl' _, ⟨hk2, ?_⟩, by omega⟩
      obtain ⟨c', m', h1, h2, h3, h4⟩ := hfin nb nc st2 hv2 hf2 hk2
      exact ⟨c', m', h1, h2, h3, h4⟩
    · refine AppI_new si40 (hv.new' k1) hfr (hk.trans k1) hsrc (bytesV_one _) (by omega) ?_
      intro nb nc st2 hv2 hf2 hk2 _
      have hfd : ((m : Int).fdiv 128) = (m : Int) / 128 := by rw [Int.fdiv_eq_ediv_of_nonneg _ (by omega)]
      simp [go_sem, e0, e1, hfd]
      refine ⟨st2, .rfl' _, ⟨hk2, ?_⟩, by omega⟩
      obtain ⟨c', m', h1, h2, h3, h4⟩ := hfin nb nc st2 hv2 hf2 hk2
      exact ⟨c', m', h1, h2, h3, .inr h4⟩
  · have hge' : ¬ (128 : Int) ≤ m := by omega
    have hw : IntKind.u8.wrap (m : Int) = m := by rw [IntKind.wrap_u8]; omega
    simp [go_sem, e0, e1, hge', hw]
    unfold NewS
    intro b1 hb1
    refine ⟨.ty 0, ?_⟩
    simp [go_sem]
    have hmm : (m : Int) = ((UInt8.ofNat m).toNat : Int) := by rw [ofNat_u8 _ (by omega)]
    rw [hmm]
    have k1 : New st' (upd st' b1 (.cells true [.int .u8 ((UInt8.ofNat m).toNat : Int)] 1 (.ty 0))) := (New.refl _).add hb1
    have hsrc : srcCells 1 (upd st' b1 (.cells true [.int .u8 ((UInt8.ofNat m).toNat : Int)] 1 (.ty 0))) (.slice (some ⟨b1, 0, none⟩) 1 1) = some (1, bytesV [UInt8.ofNat m]) := by
      simp [srcCells, lkN_mk, upd_same, cellsOf, bytesV]
    have hun : vputM m = [UInt8.ofNat m] := by rw [vputM]; exact if_pos (by omega)
    have hl1 : (b ++ vputM n).length = c.length + 1 := by rw [← hcm, hun]; simp
    have hb1' : bytesV (b ++ vputM n) = bytesV c ++ bytesV [UInt8.ofNat m] := by rw [← hcm, hun, bytesV_append]
    rcases hv with ⟨hveq, rfl, hr⟩ | ⟨hv, hfr⟩
    · injection hveq with q1 q2 q3; subst q1; subst q3
      refine AppI_tight g si40 (hr.new k1) (hk.trans k1) hsrc (by omega) (by omega) ?_
      intro nb nc st2 hv2 hf2 hk2 _
      simp [go_sem]
      refine ⟨?_, hf2, hk2⟩
      rw [← List.length_append, hl1, hb1']; exact hv2
    · refine AppI_new si40 (hv.new' k1) hfr (hk.trans k1) hsrc (bytesV_one _) (by omega) ?_
      intro nb nc st2 hv2 hf2 hk2 _
      simp [go_sem]
      refine ⟨?_, hf2, hk2⟩
      rw [← List.length_append, hl1, hb1']; exact hv2
theorem vPut_spec {bv : Value} {b : Bs} {g0 : Tg} (g : Tg) {n : Nat} (h : Reg st g0 1 bv (bytesV b) b.length) (hn : n < 2 ^ 64) (hl : b.length < 2 ^ 40) :
    ICalls Tryz.prog W0 52 #[bv, Val.u n] st fun e st' => ∃ v, e = .returned v ∧ Vec st' g 1 v (bytesV (b ++ vputM n)) (b ++ vputM n).length ∧ Fresh st v ∧ New st st' := by
  refine enter (args := [_, _]) Tryz.func52 rfl ?_
  simp [Tryz.f52, go_sem]
  refine (vown_spec h).mono ?_
  rintro e st1 ⟨base, rfl, hr, rfl⟩
  simp [go_sem]
  refine (vput_spec g hr hn hl).mono ?_
  rintro e st2 ⟨v, rfl, h1, h2, h3⟩
  simp [go_sem]
  exact ⟨by simpa using h1, h2, h3⟩
theorem zz_lt {v : Int} (h0 : -2 ^ 63 ≤ v) (h1 : v < 2 ^ 63) : zz v < 2 ^ 64 := by unfold zz; split <;> omega
theorem vPutInt_spec {bv : Value} {b : Bs} {g0 : Tg} (g : Tg) {n : Int} (h : Reg st g0 1 bv (bytesV b) b.length) (h0 : -2 ^ 63 ≤ n) (h1 : n < 2 ^ 63) (hl : b.length < 2 ^ 40) :
    ICalls Tryz.prog W0 53 #[bv, Val.i n] st fun e st' => ∃ v, e = .returned v ∧ Vec st' g 1 v (bytesV (b ++ vputM (zz n))) (b ++ vputM (zz n)).length ∧ Fresh st v ∧ New st st' := by
  refine enter (args := [_, _]) Tryz.func53 rfl ?_
  have hz : bits .xor .u64 (IntKind.u64.wrap (IntKind.u64.wrap n * 2)) (IntKind.u64.wrap (n.fdiv 9223372036854775808)) = (zz n : Int) := by
    rw [Int.fdiv_eq_ediv_of_nonneg _ (by omega)]
    by_cases hn : 0 ≤ n
    · have e1 : n / 9223372036854775808 = 0 := by omega
      have e2 : IntKind.u64.wrap (IntKind.u64.wrap n * 2) = 2 * n := by rw [IntKind.wrap_u64, IntKind.wrap_u64]; omega
      have e3 : IntKind.u64.wrap 0 = 0 := by rw [IntKind.wrap_u64]; omega
      rw [e1, e2, e3, xor_zero64 _ (by omega) (by omega)]
      unfold zz; rw [if_pos hn]; omega
    · have e1 : n / 9223372036854775808 = -1 := by omega
      have e2 : IntKind.u64.wrap (IntKind.u64.wrap n * 2) = 18446744073709551616 + 2 * n := by rw [IntKind.wrap_u64, IntKind.wrap_u64]; omega
      have e3 : IntKind.u64.wrap (-1) = 18446744073709551615 := by rw [IntKind.wrap_u64]; omega
      rw [e1, e2, e3, xor_ones64 _ (by omega) (by omega)]
      unfold zz; rw [if_neg hn]; omega
  simp [Tryz.f53, go_sem, hz]
  refine (vPut_spec g h (zz_lt h0 h1) hl).mono ?_
  rintro e st2 ⟨v, rfl, h1, h2, h3⟩
  simp [go_sem]
  exact ⟨by simpa using h1, h2, h3⟩
theorem vGet_spec {bv : Value} {b : Bs} {g0 : Tg} {at_ : Int} (h : Reg st g0 1 bv (bytesV b) b.length) (hl : b.length < 2 ^ 60) :
    ICalls Tryz.prog W0 60 #[bv, Val.i at_] st fun e st' => e = .returned (vgetV (vgetM b at_)) ∧ st' = st := by
  obtain ⟨base, cap, rfl⟩ := h.slice
  refine enter (args := [_, _]) Tryz.func60 rfl ?_
  unfold vgetM
  by_cases h0 : at_ < 0
  · simp [Tryz.f60, go_sem, h0, vgetV]
  · obtain ⟨a, rfl⟩ := Int.eq_ofNat_of_zero_le (show 0 ≤ at_ by omega)
    rw [if_neg h0, show (a : Int).toNat = a by omega]
    generalize hres : vgetL b 10 a 0 = res
    simp [Tryz.f60, go_sem, h0]
    refine ⟨fun E st' => st' = st ∧ E 0 = .slice base b.length cap ∧ ∃ (i at' v : Nat), E 1 = Val.i at' ∧ E 8 = Val.i i ∧ E 7 = Val.u v ∧ i ≤ 10 ∧ v < 128 ^ i ∧ vgetL b (10 - i) at' v = res,
      fun E _ => match E 8 with | .int _ i => 10 - i.toNat | _ => 0, ⟨st, .rfl' _, rfl, by simp [go_sem], 0, a, 0, by simp [go_sem], by simp [go_sem], by simp [go_sem], by omega, by decide, hres⟩, ?_⟩
    rintro E st' ⟨rfl, e0, i, at', v, e1, e8, e7, hi, hv, hrec⟩
    by_cases hi10 : i < 10
    · have hi10' : (i : Int) < 10 := by omega
      obtain ⟨k, hk⟩ : ∃ k, 10 - i = k + 1 := ⟨9 - i, by omega⟩
      have hki : 9 - k = i := by omega
      rw [hk] at hrec
      unfold vgetL at hrec
      rw [hki] at hrec
      by_cases hlt : at' < b.length
      · have hlt' : (at' : Int) < b.length := by omega
        obtain ⟨blk, off, rfl, hg⟩ := src_get h.src (by omega)
        have hg := hg at' (by omega)
        obtain ⟨x, hx⟩ : ∃ x, b[at']? = some x := ⟨_, List.getElem?_eq_getElem hlt⟩
        have hgx : (bytesV b)[at']? = some (.int .u8 x.toNat) := by simp [bytesV, hx]
        rw [hgx] at hg
        have hx8 := x.toNat_lt
        rw [hx] at hrec
        simp only at hrec
        generalize x.toNat = c at *
        have hw1 : IntKind.i64.wrap ((at' : Int) + 1) = ((at' + 1 : Nat) : Int) := by rw [wrap_id (by omega) (by omega)]; omega
        have hwi : IntKind.i64.wrap ((i : Int) + 1) = ((i + 1 : Nat) : Int) := by rw [wrap_id (by omega) (by omega)]; omega
        by_cases hbad : i = 9 ∧ 1 < c
        · rw [if_pos ⟨by omega, hbad.2⟩] at hrec
          obtain ⟨rfl, hbad⟩ := hbad
          have hbad' : (1 : Int) < c := by omega
          simp [go_sem, e0, e1, e8, e7, hlt, hg, hw1, hbad']
          rw [← hrec]; simp [vgetV]
        · rw [if_neg (by omega)] at hrec
          have hand := bits_and127 (c : Int) (by omega) (by omega)
          have hwx : IntKind.u64.wrap ((c : Int) % 128) = (c : Int) % 128 := wraps_u64 _ (by omega) (by omega)
          have hw7 : IntKind.i64.wrap (7 * (i : Int)) = 7 * (i : Int) := wrap_id (by omega) (by omega)
          have hmin : min (7 * i) 64 = 7 * i := by omega
          have hpow : ((2 : Int) ^ (7 * i)) = ((128 ^ i : Nat) : Int) := by rw [pow128]; simp
          have hterm : c % 128 * 128 ^ i < 2 ^ 64 ∧ v + c % 128 * 128 ^ i < 2 ^ 64 ∧ (i ≠ 9 → v + c % 128 * 128 ^ i < 128 ^ (i + 1)) := by
            by_cases hk0 : i = 9
            · subst hk0
              have h2 : c % 128 * 128 ^ 9 ≤ 1 * 128 ^ 9 := Nat.mul_le_mul_right _ (by omega)
              have h4 : (128 : Nat) ^ 9 = 9223372036854775808 := by decide
              exact ⟨by omega, by omega, fun h => absurd rfl h⟩
            · have h2 : c % 128 * 128 ^ i ≤ 127 * 128 ^ i := Nat.mul_le_mul_right _ (by omega)
              have h3 : (128 : Nat) ^ i ≤ 128 ^ 8 := Nat.pow_le_pow_right (by decide) (by omega)
              have h4 : (128 : Nat) ^ 8 = 72057594037927936 := by decide
              have h5 : (128 : Nat) ^ (i + 1) = 128 ^ i * 128 := by rw [Nat.pow_succ]
              exact ⟨by omega, by omega, fun _ => by omega⟩
          obtain ⟨ht1, ht2, ht3⟩ := hterm
          obtain ⟨T, hT⟩ : ∃ T, c % 128 * 128 ^ i = T := ⟨_, rfl⟩
          have hcast : ((c : Int) % 128 * ((128 ^ i : Nat) : Int)) = (T : Int) := by rw [← hT]; simp
          have hTm : T % 2 ^ (7 * i) = 0 := by rw [← hT, pow128]; exact Nat.mul_mod_left _ _
          rw [hT] at hrec ht1 ht2 ht3
          have hws : IntKind.u64.wrap ((c : Int) % 128 * 2 ^ (7 * i)) = (T : Int) := by rw [hpow, hcast]; exact wraps_u64 _ (by omega) (by omega)
          have hor : bits .or .u64 (v : Int) (T : Int) = ((v + T : Nat) : Int) := by
            rw [bits_join64 (7 * i) _ _ (by omega) (by rw [pow128] at hv; exact_mod_cast hv) (by omega) (by exact_mod_cast hTm) (by omega) (by omega)]
            omega
          have hn7 : ¬ 7 * (i : Int) < 0 := by omega
          have htn : (7 * (i : Int)).toNat = 7 * i := by omega
          have hmin2 : min (7 * (i : Int)).toNat IntKind.u64.bits = 7 * i := by rw [htn]; show min _ 64 = _; omega
          have hmin3 : min (7 * i) 64 = 7 * i := by omega
          have hgo : (((i : Int) = 9) = True ∨ ((i : Int) = 9) = False) ∧ (((1 : Int) < c) = True ∨ ((1 : Int) < c) = False) ∧ (((i : Int) = 9) = True → ((1 : Int) < c) = False) := by
            refine ⟨?_, ?_, ?_⟩
            · by_cases h : (i : Int) = 9
              · exact .inl (eq_true h)
              · exact .inr (eq_false h)
            · by_cases h : (1 : Int) < c
              · exact .inl (eq_true h)
              · exact .inr (eq_false h)
            · intro h
              have h := of_eq_true h
              exact eq_false (by omega)
          obtain ⟨q9, q1, q91⟩ := hgo
          by_cases hc : c < 128
          · have qc : ((c : Int) < 128) = True := eq_true (by omega)
            rw [if_pos hc] at hrec
            by_cases hz : 0 < i ∧ c = 0
            · rw [if_pos ⟨by omega, hz.2⟩] at hrec
              have qi : (0 < i) = True := eq_true (by omega)
              have qz : (c = 0) = True := eq_true (by omega)
              have hres' : Value.tuple #[.int .u64 0, Val.i 0, .bool false] = vgetV res := by rw [← hrec]; rfl
              rcases q9 with q9 | q9
              · have q1 := q91 q9
                simp [go_sem, e0, e1, e8, e7, hi10', hlt, hg, hw1, hwi, hand, hwx, hw7, hn7, hmin3, htn, hws, hor, q9, qc, q1, qi, qz]
                exact hres'
              · simp [go_sem, e0, e1, e8, e7, hi10', hlt, hg, hw1, hwi, hand, hwx, hw7, hn7, hmin3, htn, hws, hor, q9, qc, qi, qz]
                exact hres'
            · rw [if_neg (by omega)] at hrec
              have hres' : Value.tuple #[.int .u64 ((v + T : Nat) : Int), Val.i ((at' + 1 : Nat) : Int), .bool true] = vgetV res := by rw [← hrec]; rfl
              by_cases hi0 : 0 < i
              · have qi : (0 < i) = True := eq_true (by omega)
                have qz : (c = 0) = False := eq_false (by omega)
                rcases q9 with q9 | q9
                · have q1 := q91 q9
                  simp [go_sem, e0, e1, e8, e7, hi10', hlt, hg, hw1, hwi, hand, hwx, hw7, hn7, hmin3, htn, hws, hor, q9, qc, q1, qi, qz]
                  exact hres'
                · simp [go_sem, e0, e1, e8, e7, hi10', hlt, hg, hw1, hwi, hand, hwx, hw7, hn7, hmin3, htn, hws, hor, q9, qc, qi, qz]
                  exact hres'
              · have qi : (0 < i) = False := eq_false (by omega)
                have q9 : ((i : Int) = 9) = False := eq_false (by omega)
                simp [go_sem, e0, e1, e8, e7, hi10', hlt, hg, hw1, hwi, hand, hwx, hw7, hn7, hmin3, htn, hws, hor, q9, qc, qi]
                exact hres'
          · have qc : ((c : Int) < 128) = False := eq_false (by omega)
            rw [if_neg hc] at hrec
            have hi9 : i ≠ 9 := by omega
            have q9 : ((i : Int) = 9) = False := eq_false (by omega)
            simp [go_sem, e0, e1, e8, e7, hi10', hlt, hg, hw1, hwi, hand, hwx, hw7, hn7, hmin3, htn, hws, hor, q9, qc]
            refine ⟨st', .rfl' _, ⟨rfl, i + 1, at' + 1, by omega, by omega, v + T, by omega, by omega, ht3 hi9, ?_⟩, by omega⟩
            rw [← hrec, show 10 - (i + 1) = k by omega]
      · have hlt' : ¬ (at' : Int) < b.length := by omega
        rw [List.getElem?_eq_none (by omega)] at hrec
        simp [go_sem, e0, e1, e8, e7, hlt, hi10']
        rw [← hrec]
        simp [vgetV]
    · have : i = 10 := by omega
      subst this
      simp [go_sem, e0, e1, e8, e7]
      rw [← hrec]
      simp [vgetL, vgetV]
end
end Go.Proofs.YtadgciaclhjjkaaGreat
