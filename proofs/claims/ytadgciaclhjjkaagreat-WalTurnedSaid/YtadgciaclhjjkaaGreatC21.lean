/- Manifests decoded: the walk. -/
import Derived.Test.YtadgciaclhjjkaaGreatC20
set_option linter.unusedVariables false
set_option linter.unusedSimpArgs false
set_option maxRecDepth 100000
set_option maxHeartbeats 8000000
namespace Go.Proofs.YtadgciaclhjjkaaGreat
open Go.RowKit (Below)
theorem frameGetM_err {b : Bs} {a k : Int} (h : frameGetM b a = .error k) : k ≠ 0 := by
  unfold frameGetM at h
  split at h
  · injection h with h; omega
  split at h
  · injection h with h; omega
  split at h
  · injection h with h; omega
  split at h
  · injection h with h; omega
  split at h
  · injection h with h; omega
  · cases h
theorem frameGetM_len {b body : Bs} {a : Int} {e : Nat} (h : frameGetM b a = .ok (body, e)) : body.length ≤ 1048576 := by
  unfold frameGetM at h
  split at h
  · cases h
  split at h
  · cases h
  split at h
  · cases h
  split at h
  · cases h
  split at h
  · cases h
  · injection h with h
    injection h with h1 h2
    subst h1
    rw [List.length_take]
    omega
section
variable {W0 : World} {st : Heap}
theorem eqBytes_spec {av bv : Value} {a b : Bs} {g1 g2 : Tg} (ha : Reg st g1 1 av (bytesV a) a.length) (hb : Reg st g2 1 bv (bytesV b) b.length) (hla : a.length < 2 ^ 60) (hlb : b.length < 2 ^ 60) :
    ICalls Tryz.prog W0 225 #[av, bv] st fun e st' => e = .returned (.bool (decide (a = b))) ∧ st' = st := by
  obtain ⟨ab, ac, rfl⟩ := ha.slice
  obtain ⟨bb, bc, rfl⟩ := hb.slice
  refine enter (args := [_, _]) Tryz.func225 rfl ?_
  by_cases hl : a.length = b.length
  rotate_left
  · have hl' : ((a.length : Int) = b.length) = False := eq_false (by omega)
    have hne : a ≠ b := by rintro rfl; exact hl rfl
    simp [Tryz.f225, go_sem, hl', hl, hne]
  have hl' : ((a.length : Int) = b.length) = True := eq_true (by omega)
  simp [Tryz.f225, go_sem, hl', hl]
  refine ⟨fun E st' => st' = st ∧ E 0 = .slice ab a.length ac ∧ E 1 = .slice bb b.length bc ∧ E 12 = Val.i b.length ∧ ∃ i : Nat, E 13 = Val.i i ∧ i ≤ a.length ∧ a.take i = b.take i,
    fun E _ => match E 13 with | .int _ i => a.length - i.toNat | _ => 0, ⟨st, .rfl' _, rfl, by simp [go_sem, hl], by simp [go_sem], by simp [go_sem], 0, by simp [go_sem], by omega, by simp⟩, ?_⟩
  rintro E st' ⟨rfl, e0, e1, e12, i, e13, hi, heq⟩
  by_cases hlt : i < b.length
  · have hlt' : ((i : Int) < b.length) = True := eq_true (by omega)
    have hlta : i < a.length := by omega
    have hlta' : ((i : Int) < a.length) = True := eq_true (by omega)
    have hwi : IntKind.i64.wrap ((i : Int) + 1) = ((i + 1 : Nat) : Int) := by rw [wrap_id (by omega) (by omega)]; omega
    obtain ⟨blk, off, rfl, hg⟩ := src_get ha.src (by omega)
    obtain ⟨blk', off', rfl, hg'⟩ := src_get hb.src (by omega)
    have hgi := hg i (by omega)
    have hgi' := hg' i (by omega)
    have hai : a[i]? = some a[i] := List.getElem?_eq_getElem hlta
    have hbi : b[i]? = some b[i] := List.getElem?_eq_getElem hlt
    have hva : (bytesV a)[i]? = some (.int .u8 a[i].toNat) := by simp [bytesV, hai]
    have hvb : (bytesV b)[i]? = some (.int .u8 b[i].toNat) := by simp [bytesV, hbi]
    rw [hva] at hgi
    rw [hvb] at hgi'
    have hta : a.take (i + 1) = a.take i ++ [a[i]] := by rw [List.take_add_one, hai]; rfl
    have htb : b.take (i + 1) = b.take i ++ [b[i]] := by rw [List.take_add_one, hbi]; rfl
    simp [go_sem, e0, e1, e12, e13, hlt, hlt']
    refine draw [0, 1, 2, 4, 5, 6, 3, 7, 8] (by kernel_rfl) ?_
    by_cases hx : a[i] = b[i]
    · have hx' : ((a[i].toNat : Int) = b[i].toNat) = True := eq_true (by rw [hx])
      simp [go_sem, e0, e1, e12, e13, hlt, hlt', hlta, hlta', hgi, hgi', hx', hwi]
      exact ⟨st', .rfl' _, ⟨rfl, i + 1, by omega, by omega, by rw [hta, htb, heq, hx]⟩, by omega⟩
    · have hx' : ((a[i].toNat : Int) = b[i].toNat) = False := eq_false (by intro h; exact hx (UInt8.toNat_inj.1 (by omega)))
      have hne : a ≠ b := by
        intro h
        apply hx
        subst h
        rfl
      simp [go_sem, e0, e1, e12, e13, hlt, hlt', hlta, hlta', hgi, hgi', hx', hwi, hne]
  · have hlt' : ((i : Int) < b.length) = False := eq_false (by omega)
    have : i = b.length := by omega
    subst this
    rw [List.take_length, ← hl, List.take_length] at heq
    simp [go_sem, e0, e1, e12, e13, hlt', heq]
end
end Go.Proofs.YtadgciaclhjjkaaGreat
set_option linter.unusedVariables false
set_option linter.unusedSimpArgs false
set_option maxRecDepth 100000
set_option maxHeartbeats 8000000
namespace Go.Proofs.YtadgciaclhjjkaaGreat
open Go.RowKit (Below)
/-- These bytes stand at that place. -/
def Pre (s b : Bs) (a : Nat) : Prop := s <+: b.drop a
theorem Pre.split {s t b : Bs} {a : Nat} (h : Pre (s ++ t) b a) : Pre s b a ∧ Pre t b (a + s.length) := by
  obtain ⟨u, hu⟩ := h
  refine ⟨⟨t ++ u, by rw [← List.append_assoc, hu]⟩, ⟨u, ?_⟩⟩
  rw [← List.drop_drop, ← hu, List.append_assoc, List.drop_left]
theorem Pre.get {s b : Bs} {a i : Nat} {x : UInt8} (h : Pre s b a) (hx : s[i]? = some x) : b[a + i]? = some x := by
  obtain ⟨u, hu⟩ := h
  have hi := (List.getElem?_eq_some_iff.1 hx).1
  rw [← List.getElem?_drop, ← hu, List.getElem?_append_left hi, hx]
theorem Pre.nil {b : Bs} {a : Nat} : Pre [] b a := List.nil_prefix
theorem Pre.len {s b : Bs} {a : Nat} (h : Pre s b a) (ha : a ≤ b.length) : a + s.length ≤ b.length := by
  obtain ⟨u, hu⟩ := h
  have := congrArg List.length hu
  simp at this
  omega
theorem vgetL_put {b : Bs} : ∀ (k n a v : Nat), k ≤ 9 → n * 128 ^ (9 - k) < 2 ^ 64 → (k = 9 ∨ 0 < n) → Pre (vputM n) b a → vgetL b (k + 1) a v = some (v + n * 128 ^ (9 - k), a + (vputM n).length) := by
  intro k
  induction k with
  | zero =>
    intro n a v _ hn h0 hp
    have hn2 : n < 2 := by
      have : n * 9223372036854775808 < 18446744073709551616 := hn
      omega
    have hv : vputM n = [UInt8.ofNat n] := by unfold vputM; rw [if_pos (by omega)]
    rw [hv] at hp ⊢
    have hx := hp.get (i := 0) rfl
    have htn : (UInt8.ofNat n).toNat = n := by simp; omega
    unfold vgetL
    rw [Nat.add_zero] at hx
    rw [hx]
    simp only [htn]
    rw [if_neg (by omega), if_pos (by omega), if_neg (by omega)]
    simp [Nat.mod_eq_of_lt (show n < 128 by omega)]
  | succ k ih =>
    intro n a v hk hn h0 hp
    by_cases hlt : n < 128
    · have hv : vputM n = [UInt8.ofNat n] := by unfold vputM; rw [if_pos hlt]
      rw [hv] at hp ⊢
      have hx := hp.get (i := 0) rfl
      have htn : (UInt8.ofNat n).toNat = n := by simp; omega
      unfold vgetL
      rw [Nat.add_zero] at hx
      rw [hx]
      simp only [htn]
      rw [if_neg (by omega), if_pos hlt, if_neg (by omega)]
      simp [Nat.mod_eq_of_lt hlt]
    · have hv : vputM n = UInt8.ofNat (n % 128 + 128) :: vputM (n / 128) := by rw [vputM, if_neg hlt]
      rw [hv] at hp ⊢
      have hx := hp.get (i := 0) rfl
      have htn : (UInt8.ofNat (n % 128 + 128)).toNat = n % 128 + 128 := by simp; omega
      have hp' : Pre (vputM (n / 128)) b (a + 1) := (Pre.split (s := [UInt8.ofNat (n % 128 + 128)]) hp).2
      have hpow : (128 : Nat) ^ (9 - k) = 128 * 128 ^ (9 - (k + 1)) := by
        rw [show 9 - k = 9 - (k + 1) + 1 by omega, Nat.pow_succ, Nat.mul_comm]
      have hb : n / 128 * 128 ^ (9 - k) ≤ n * 128 ^ (9 - (k + 1)) := by
        rw [hpow, ← Nat.mul_assoc]
        exact Nat.mul_le_mul_right _ (Nat.div_mul_le_self n 128)
      have hr := ih (n / 128) (a + 1) (v + n % 128 * 128 ^ (9 - (k + 1))) (by omega) (by omega) (.inr (by omega)) hp'
      unfold vgetL
      rw [Nat.add_zero] at hx
      rw [hx]
      simp only [htn]
      rw [if_neg (by omega), if_neg (by omega)]
      have h128 : (n % 128 + 128) % 128 = n % 128 := by omega
      rw [h128, hr]
      refine congrArg some (Prod.ext ?_ ?_)
      · show v + n % 128 * 128 ^ (9 - (k + 1)) + n / 128 * 128 ^ (9 - k) = v + n * 128 ^ (9 - (k + 1))
        rw [hpow, Nat.add_assoc, ← Nat.mul_assoc, ← Nat.add_mul]
        congr 2
        omega
      · simp only [List.length_cons]; omega
theorem vget_put {b : Bs} {n a : Nat} (hn : n < 2 ^ 64) (hp : Pre (vputM n) b a) : vgetM b (a : Int) = some (n, a + (vputM n).length) := by
  unfold vgetM
  rw [if_neg (by omega), Int.toNat_natCast, vgetL_put 9 n a 0 (by omega) (by simpa using hn) (.inl rfl) hp]
  simp
theorem unzz_zz (v : Int) : unzz (zz v) = v := by
  unfold unzz zz
  split <;> split <;> omega
theorem vgetInt_put {b : Bs} {v : Int} {a : Nat} (h0 : -2 ^ 63 ≤ v) (h1 : v < 2 ^ 63) (hp : Pre (intB v) b a) : vgetIntM b (a : Int) = some (v, a + (intB v).length) := by
  unfold vgetIntM
  rw [vget_put (zz_lt h0 h1) hp]
  simp only [Option.map_some, unzz_zz]
  rfl
theorem num_put {b : Bs} {n a most : Nat} (hn : n ≤ most) (hm : most < 2 ^ 64) (hp : Pre (vputM n) b a) : numM b (a : Int) most = some (n, a + (vputM n).length) := by
  unfold numM
  rw [vget_put (by omega) hp]
  simp [hn]
theorem txt_put {b : Bs} {s : ByteArray} {a most : Nat} (hn : s.size ≤ most) (hm : most < 2 ^ 40) (hp : Pre (textB s) b a) (ha : a ≤ b.length) : txtM b (a : Int) most = some (s, a + (textB s).length) := by
  unfold textB at hp
  obtain ⟨h1, h2⟩ := hp.split
  have hl1 := h1.len ha
  have hl2 := h2.len hl1
  unfold txtM vgetTextM
  rw [vget_put (by omega) h1]
  simp only
  have hsz : s.data.toList.length = s.size := by simp
  rw [if_neg (by omega)]
  simp only [Option.map_some]
  obtain ⟨u, hu⟩ := h2
  have : (b.drop (a + (vputM s.size).length)).take s.size = s.data.toList := by
    rw [← hu, ← hsz, List.take_left]
  rw [this]
  refine congrArg some (Prod.ext ?_ ?_)
  · simp
  · unfold textB
    simp only [List.length_append]
    omega
theorem txts_put {b : Bs} : ∀ {l : List ByteArray} {a : Nat}, (∀ v ∈ l, v.size ≤ 64) → Pre ((l.map textB).flatten) b a → a ≤ b.length → txtsM b l.length (a : Int) = some (l, ((a + ((l.map textB).flatten).length : Nat) : Int))
  | [], a, _, _, _ => by simp [txtsM]
  | v :: l, a, hb, hp, ha => by
    rw [List.map_cons, List.flatten_cons] at hp
    obtain ⟨h1, h2⟩ := hp.split
    have ih := txts_put (l := l) (a := a + (textB v).length) (fun w hw => hb w (by simp [hw])) h2 (h1.len ha)
    rw [List.length_cons]
    unfold txtsM
    rw [txt_put (hb v (by simp)) (by omega) h1 ha]
    simp only [Option.bind_some]
    rw [ih]
    simp only [Option.map_some, List.map_cons, List.flatten_cons, List.length_append]
    rw [Nat.add_assoc]
theorem aloneM_parts {op : Int} {name value : ByteArray} {vals : List ByteArray} {nk : Nat} (h : aloneM op name value vals nk = true) :
    (op = 0 ∧ name = ⟨#[]⟩ ∧ value = ⟨#[]⟩ ∧ vals = [] ∧ nk = 0) ∨ ((op = 1 ∨ op = 2 ∨ op = 3) ∧ vals = [] ∧ nk = 0) ∨ (op = 4 ∧ value = ⟨#[]⟩ ∧ nk = 0) ∨ ((op = 5 ∨ op = 6) ∧ name = ⟨#[]⟩ ∧ value = ⟨#[]⟩ ∧ vals = []) ∨ (op = 7 ∧ name = ⟨#[]⟩ ∧ value = ⟨#[]⟩ ∧ vals = [] ∧ nk = 1) := by
  unfold aloneM at h
  simp only at h
  split at h
  · simp only [Bool.and_eq_true, decide_eq_true_eq] at h
    exact .inl ⟨‹_›, h.1.1.1, h.1.1.2, List.eq_nil_of_length_eq_zero h.1.2, h.2⟩
  split at h
  · simp only [Bool.and_eq_true, decide_eq_true_eq] at h
    exact .inr (.inl ⟨‹_›, List.eq_nil_of_length_eq_zero h.2, h.1.2⟩)
  split at h
  · simp only [Bool.and_eq_true, decide_eq_true_eq] at h
    exact .inr (.inr (.inl ⟨‹_›, h.1.2, h.1.1.2⟩))
  split at h
  · simp only [Bool.and_eq_true, decide_eq_true_eq] at h
    exact .inr (.inr (.inr (.inl ⟨‹_›, h.1.1, h.1.2, List.eq_nil_of_length_eq_zero h.2⟩)))
  split at h
  · simp only [Bool.and_eq_true, decide_eq_true_eq] at h
    exact .inr (.inr (.inr (.inr ⟨‹_›, h.1.1.1, h.1.1.2, List.eq_nil_of_length_eq_zero h.1.2, h.2⟩)))
  · cases h
mutual
theorem readM_put {B : Bs} : ∀ (m : Mat) (deep : Nat) (n b : Int) (a : Nat), n ≤ 64 → (holdsM m deep n b).1 = true → Pre (putM m) B a → a ≤ B.length → readM B (9 - deep) (a : Int) n = some (m, ((a + (putM m).length : Nat) : Int), (holdsM m deep n b).2.1)
  | .mk op name value vals kids, deep, n, b, a, hn, h, hp, ha => by
    have hs := (holdsM_small (.mk op name value vals kids) deep n b hn h).1
    unfold holdsM at h ⊢
    split at h
    · cases h
    rename_i h1
    rw [if_neg h1]
    split at h
    · cases h
    rename_i h2
    rw [if_neg h2]
    have hal : aloneM op name value vals kids.length = true := by
      cases hh : aloneM op name value vals kids.length with
      | true => rfl
      | false => exact absurd (.inr (.inr hh)) h1
    unfold SmallM at hs
    obtain ⟨ho0, ho1, z1, z2, z3, z4, z5, z6⟩ := hs
    obtain ⟨o, rfl⟩ := Int.eq_ofNat_of_zero_le ho0
    have hwo : IntKind.u64.wrap (o : Int) = (o : Int) := wraps_u64 _ (by omega) (by omega)
    obtain ⟨d, hd⟩ : ∃ d, 9 - deep = d + 1 := ⟨8 - deep, by omega⟩
    have hd' : 9 - (deep + 1) = d := by omega
    have ih := fun (a' : Nat) => readsF_put (B := B) kids (deep + 1) (n - 1) (b - (name.size + value.size : Nat) - sizesM vals) a' (by omega) h
    rw [hd'] at ih
    generalize kidsM kids (deep + 1) (n - 1) (b - (name.size + value.size : Nat) - sizesM vals) = KM at *
    rw [hd]
    unfold readM
    rw [if_neg (by omega)]
    unfold putM at hp ⊢
    rw [hwo, Int.toNat_natCast] at hp ⊢
    obtain ⟨hp1, hp2⟩ := hp.split
    have ha1 := hp1.len ha
    unfold headM
    rw [num_put (by omega) (by omega) hp1]
    simp only [Option.bind_some]
    rw [List.length_append]
    generalize hA : a + (vputM o).length = A at *
    have hAl : ∀ x : Nat, a + ((vputM o).length + x) = A + x := fun x => by omega
    rw [hAl]
    rcases aloneM_parts hal with ⟨q1, rfl, rfl, rfl, q5⟩ | ⟨q1, rfl, q3⟩ | ⟨q1, rfl, q3⟩ | ⟨q1, rfl, rfl, rfl⟩ | ⟨q1, rfl, rfl, rfl, q5⟩
    · have hk0 : kids = [] := List.eq_nil_of_length_eq_zero q5
      have ho : o = 0 := by omega
      subst ho
      have ih0 := ih A
      rw [hk0] at ih0 ⊢
      have := ih0 (by unfold putsM; exact Pre.nil) (by omega)
      simp only [List.length_nil] at this
      simp
      rw [this]
      simp [putsM]
    · have hk0 : kids = [] := List.eq_nil_of_length_eq_zero q3
      have ho : o = 1 ∨ o = 2 ∨ o = 3 := by omega
      rw [if_pos q1] at hp2 ⊢
      obtain ⟨hp3, hp4⟩ := hp2.split
      have ha3 := hp3.len ha1
      have ih0 := ih (A + (textB name).length + (textB value).length)
      rw [hk0] at ih0 ⊢
      have := ih0 (by unfold putsM; exact Pre.nil) (by have := hp4.len ha3; omega)
      simp only [List.length_nil] at this
      simp only [ho, if_true]
      rw [txt_put (by omega) (by omega) hp3 ha1]
      simp only [Option.bind_some]
      rw [txt_put (by omega) (by omega) hp4 ha3]
      simp only [Option.map_some, Option.bind_some]
      rw [this]
      simp only [Option.map_some, List.length_append]
      rw [Nat.add_assoc]
      simp [putsM]
      try omega
    · have hk0 : kids = [] := List.eq_nil_of_length_eq_zero q3
      have ho : o = 4 := by omega
      subst ho
      rw [if_neg (by omega), if_pos (by omega)] at hp2 ⊢
      obtain ⟨hp3, hp4⟩ := hp2.split
      have ha3 := hp3.len ha1
      obtain ⟨hp5, hp6⟩ := hp4.split
      have ha5 := hp5.len ha3
      have ih0 := ih (A + (textB name).length + (vputM vals.length).length + ((vals.map textB).flatten).length)
      rw [hk0] at ih0 ⊢
      have := ih0 (by unfold putsM; exact Pre.nil) (by have := hp6.len ha5; omega)
      simp only [List.length_nil] at this
      simp
      rw [txt_put (by omega) (by omega) hp3 ha1]
      simp only [Option.bind_some]
      rw [num_put (by omega) (by omega) hp5]
      simp only [Option.bind_some]
      rw [txts_put z4 hp6 ha5]
      simp only [Option.map_some, Option.bind_some]
      rw [this]
      simp [putsM]
      try omega
    · have ho : o = 5 ∨ o = 6 := by omega
      rw [if_neg (by omega), if_neg (by omega), if_pos (by omega)] at hp2
      obtain ⟨hp3, hp4⟩ := hp2.split
      have ha3 := hp3.len ha1
      have := ih (A + (vputM kids.length).length) hp4 ha3
      have n1 : ¬ (o = 1 ∨ o = 2 ∨ o = 3) := by omega
      have n2 : ¬ o = 4 := by omega
      have n3 : ¬ ((o : Int) = 1 ∨ (o : Int) = 2 ∨ (o : Int) = 3) := by omega
      have n4 : ¬ (o : Int) = 4 := by omega
      rw [if_neg n1, if_neg n2, if_pos ho, if_neg n3, if_neg n4, if_pos q1]
      rw [num_put (by omega) (by omega) hp3]
      simp only [Option.map_some, Option.bind_some]
      rw [this]
      simp only [Option.map_some, List.length_append]
      rw [Nat.add_assoc]
    · have ho : o = 7 := by omega
      subst ho
      rw [if_neg (by omega), if_neg (by omega), if_neg (by omega)] at hp2 ⊢
      simp only [List.nil_append] at hp2 ⊢
      have := ih A hp2 ha1
      rw [q5] at this
      simp
      rw [this]
      simp
theorem readsF_put {B : Bs} : ∀ (ms : List Mat) (deep : Nat) (n b : Int) (a : Nat), n ≤ 64 → (kidsM ms deep n b).1 = true → Pre (putsM ms) B a → a ≤ B.length → readsF (readM B (9 - deep)) ms.length (a : Int) n = some (ms, ((a + (putsM ms).length : Nat) : Int), (kidsM ms deep n b).2.1)
  | [], deep, n, b, a, hn, h, hp, ha => by unfold putsM kidsM; simp [readsF]
  | k :: ks, deep, n, b, a, hn, h, hp, ha => by
    unfold putsM at hp ⊢
    obtain ⟨hp1, hp2⟩ := hp.split
    have hb := holdsM_bound k deep n b
    unfold kidsM at h ⊢
    have i1 := fun hh => readM_put k deep n b a hn hh hp1 ha
    generalize holdsM k deep n b = H at *
    obtain ⟨ok, n', b'⟩ := H
    cases ok with
    | false => cases h
    | true =>
      simp only at h i1 hb ⊢
      have i2 := readsF_put ks deep n' b' (a + (putM k).length) (by omega) h hp2 (hp1.len ha)
      rw [List.length_cons]
      unfold readsF
      rw [i1 trivial]
      simp only [Option.bind_some]
      rw [i2]
      simp only [Option.map_some, List.length_append]
      rw [Nat.add_assoc]
end
theorem getMat_put {B : Bs} {m : Mat} {a : Nat} (h : checkM m = true) (hp : Pre (putM m) B a) (ha : a ≤ B.length) : getMatM B (a : Int) = some (m, ((a + (putM m).length : Nat) : Int)) := by
  unfold getMatM
  have := readM_put m 1 64 4096 a (by omega) h hp ha
  rw [show (9 : Nat) - 1 = 8 from rfl] at this
  rw [this]
  simp [h]
theorem le4_back {c : Nat} (h : c < 2 ^ 32) : le4R (le4 c) = c := by
  unfold le4 le4R
  simp only
  have e1 : (UInt8.ofNat (c % 256)).toNat = c % 256 := by simp
  have e2 : (UInt8.ofNat (c / 256 % 256)).toNat = c / 256 % 256 := by simp
  have e3 : (UInt8.ofNat (c / 65536 % 256)).toNat = c / 65536 % 256 := by simp
  have e4 : (UInt8.ofNat (c / 16777216 % 256)).toNat = c / 16777216 % 256 := by simp
  rw [e1, e2, e3, e4]
  omega
end Go.Proofs.YtadgciaclhjjkaaGreat
