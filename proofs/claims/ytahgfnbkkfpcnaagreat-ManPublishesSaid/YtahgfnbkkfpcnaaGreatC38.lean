/- What was encoded is decoded: plain laws. -/
import Derived.Test.YtahgfnbkkfpcnaaGreatC37
import Derived.Test.YtahgfnbkkfpcnaaGreatC20
set_option linter.unusedVariables false
set_option linter.unusedSimpArgs false
set_option maxRecDepth 100000
set_option maxHeartbeats 8000000
namespace Go.Proofs.YtahgfnbkkfpcnaaGreat
open Go.RowKit (Below)
def Pre (s b : Bs) (a : Nat) : Prop := s <+: b.drop a
theorem Pre.split {s t b : Bs} {a : Nat} (h : Pre (s ++ t) b a) : Pre s b a ∧ Pre t b (a + s.length) := by
 obtain ⟨u, hu⟩ := h
 refine ⟨⟨t ++ u, by rw [← List.append_assoc, hu]⟩, ⟨u, ?_⟩⟩
 rw [← List.drop_drop, ← hu, List.append_assoc, List.drop_left]
theorem Pre.get {s b : Bs} {a i : Nat} {x : UInt8} (h : Pre s b a) (hx : s[i]? = some x) : b[a + i]? = some x := by
 obtain ⟨u, hu⟩ := h
 have hi := (List.getElem?_eq_some_iff.1 hx).1
 rw [← List.getElem?_drop, ← hu, List.getElem?_append_left hi, hx]
theorem Pre.nil {b : Bs} {a : Nat} : Pre [] b a := List.nil_prefix
theorem Pre.len {s b : Bs} {a : Nat} (h : Pre s b a) (ha : a ≤ b.length) : a + s.length ≤ b.length := by
 obtain ⟨u, hu⟩ := h
 have := congrArg List.length hu
 simp at this
 omega
theorem zei {b : Bs} : ∀ (k n a v : Nat), k ≤ 9 → n * 128 ^ (9 - k) < 2 ^ 64 → (k = 9 ∨ 0 < n) → Pre (vputM n) b a → vgetL b (k + 1) a v = some (v + n * 128 ^ (9 - k), a + (vputM n).length) := by
 intro k
 induction k with
 | zero =>
  intro n a v _ hn h0 hp
  have hn2 : n < 2 := by
   have : n * 9223372036854775808 < 18446744073709551616 := hn
   omega
  have hv : vputM n = [UInt8.ofNat n] := by unfold vputM; rw [if_pos (by omega)]
  rw [hv] at hp ⊢
  have hx := hp.get (i := 0) rfl
  have htn : (UInt8.ofNat n).toNat = n := by simp; omega
  unfold vgetL
  rw [Nat.add_zero] at hx
  rw [hx]
  simp only [htn]
  rw [if_neg (by omega), if_pos (by omega), if_neg (by omega)]
  simp [Nat.mod_eq_of_lt (show n < 128 by omega)]
 | succ k ih =>
  intro n a v hk hn h0 hp
  by_cases hlt : n < 128
  ·have hv : vputM n = [UInt8.ofNat n] := by unfold vputM; rw [if_pos hlt]
   rw [hv] at hp ⊢
   have hx := hp.get (i := 0) rfl
   have htn : (UInt8.ofNat n).toNat = n := by simp; omega
   unfold vgetL
   rw [Nat.add_zero] at hx
   rw [hx]
   simp only [htn]
   rw [if_neg (by omega), if_pos hlt, if_neg (by omega)]
   simp [Nat.mod_eq_of_lt hlt]
  ·have hv : vputM n = UInt8.ofNat (n % 128 + 128) :: vputM (n / 128) := by rw [vputM, if_neg hlt]
   rw [hv] at hp ⊢
   have hx := hp.get (i := 0) rfl
   have htn : (UInt8.ofNat (n % 128 + 128)).toNat = n % 128 + 128 := by simp; omega
   have hp' : Pre (vputM (n / 128)) b (a + 1) := (Pre.split (s := [UInt8.ofNat (n % 128 + 128)]) hp).2
   have hpow : (128 : Nat) ^ (9 - k) = 128 * 128 ^ (9 - (k + 1)) := by
    rw [show 9 - k = 9 - (k + 1) + 1 by omega, Nat.pow_succ, Nat.mul_comm]
   have hb : n / 128 * 128 ^ (9 - k) ≤ n * 128 ^ (9 - (k + 1)) := by
    rw [hpow, ← Nat.mul_assoc]
    exact Nat.mul_le_mul_right _ (Nat.div_mul_le_self n 128)
   have hr := ih (n / 128) (a + 1) (v + n % 128 * 128 ^ (9 - (k + 1))) (by omega) (by omega) (.inr (by omega)) hp'
   unfold vgetL
   rw [Nat.add_zero] at hx
   rw [hx]
   simp only [htn]
   rw [if_neg (by omega), if_neg (by omega)]
   have h128 : (n % 128 + 128) % 128 = n % 128 := by omega
   rw [h128, hr]
   refine congrArg some (Prod.ext ?_ ?_)
   ·show v + n % 128 * 128 ^ (9 - (k + 1)) + n / 128 * 128 ^ (9 - k) = v + n * 128 ^ (9 - (k + 1))
    rw [hpow, Nat.add_assoc, ← Nat.mul_assoc, ← Nat.add_mul]
    congr 2
    omega
   ·simp only [List.length_cons]; omega
theorem z4o {b : Bs} {n a : Nat} (hn : n < 2 ^ 64) (hp : Pre (vputM n) b a) : vgetM b (a : Int) = some (n, a + (vputM n).length) := by
 unfold vgetM
 rw [if_neg (by omega), Int.toNat_natCast, zei 9 n a 0 (by omega) (by simpa using hn) (.inl rfl) hp]
 simp
theorem unzz_zz (v : Int) : unzz (zz v) = v := by
 unfold unzz zz
 split <;> split <;> omega
theorem ziy {b : Bs} {v : Int} {a : Nat} (h0 : -2 ^ 63 ≤ v) (h1 : v < 2 ^ 63) (hp : Pre (intB v) b a) : z2a b (a : Int) = some (v, a + (intB v).length) := by
 unfold z2a
 rw [z4o (zz_lt h0 h1) hp]
 simp only [Option.map_some, unzz_zz]
 rfl
theorem z74 {b : Bs} : ∀ {l : List Int} {a : Nat}, (∀ v ∈ l, -2 ^ 63 ≤ v ∧ v < 2 ^ 63) → Pre (l.flatMap intB) b a → intsM b l.length (a : Int) = some (l, ((a + (l.flatMap intB).length : Nat) : Int))
 | [], a, _, _ => by simp [intsM]
 | v :: l, a, hb, hp => by
  rw [List.flatMap_cons] at hp
  obtain ⟨h1, h2⟩ := hp.split
  obtain ⟨hv0, hv1⟩ := hb v (by simp)
  have ih := z74 (l := l) (a := a + (intB v).length) (fun w hw => hb w (by simp [hw])) h2
  rw [List.length_cons]
  unfold intsM
  rw [ziy hv0 hv1 h1]
  simp only [Option.bind_some]
  rw [ih]
  simp only [Option.map_some, List.flatMap_cons, List.length_append]
  rw [Nat.add_assoc]
theorem z9d {b : Bs} {n a most : Nat} (hn : n ≤ most) (hm : most < 2 ^ 64) (hp : Pre (vputM n) b a) : numM b (a : Int) most = some (n, a + (vputM n).length) := by
 unfold numM
 rw [z4o (by omega) hp]
 simp [hn]
theorem z7c {b : Bs} {s : ByteArray} {a most : Nat} (hn : s.size ≤ most) (hm : most < 2 ^ 40) (hp : Pre (textB s) b a) (ha : a ≤ b.length) : txtM b (a : Int) most = some (s, a + (textB s).length) := by
 unfold textB at hp
 obtain ⟨h1, h2⟩ := hp.split
 have hl1 := h1.len ha
 have hl2 := h2.len hl1
 unfold txtM z31
 rw [z4o (by omega) h1]
 simp only
 have hsz : s.data.toList.length = s.size := by simp
 rw [if_neg (by omega)]
 simp only [Option.map_some]
 obtain ⟨u, hu⟩ := h2
 have : (b.drop (a + (vputM s.size).length)).take s.size = s.data.toList := by
  rw [← hu, ← hsz, List.take_left]
 rw [this]
 refine congrArg some (Prod.ext ?_ ?_)
 ·simp
 ·unfold textB
  simp only [List.length_append]
  omega
theorem zdh {b : Bs} : ∀ {l : List ByteArray} {a : Nat}, (∀ v ∈ l, v.size ≤ 64) → Pre ((l.map textB).flatten) b a → a ≤ b.length → txtsM b l.length (a : Int) = some (l, ((a + ((l.map textB).flatten).length : Nat) : Int))
 | [], a, _, _, _ => by simp [txtsM]
 | v :: l, a, hb, hp, ha => by
  rw [List.map_cons, List.flatten_cons] at hp
  obtain ⟨h1, h2⟩ := hp.split
  have ih := zdh (l := l) (a := a + (textB v).length) (fun w hw => hb w (by simp [hw])) h2 (h1.len ha)
  rw [List.length_cons]
  unfold txtsM
  rw [z7c (hb v (by simp)) (by omega) h1 ha]
  simp only [Option.bind_some]
  rw [ih]
  simp only [Option.map_some, List.map_cons, List.flatten_cons, List.length_append]
  rw [Nat.add_assoc]
theorem zir {op : Int} {name value : ByteArray} {vals : List ByteArray} {nk : Nat} (h : z0p op name value vals nk = true) :
  (op = 0 ∧ name = ⟨#[]⟩ ∧ value = ⟨#[]⟩ ∧ vals = [] ∧ nk = 0) ∨ ((op = 1 ∨ op = 2 ∨ op = 3) ∧ vals = [] ∧ nk = 0) ∨ (op = 4 ∧ value = ⟨#[]⟩ ∧ nk = 0) ∨ ((op = 5 ∨ op = 6) ∧ name = ⟨#[]⟩ ∧ value = ⟨#[]⟩ ∧ vals = []) ∨ (op = 7 ∧ name = ⟨#[]⟩ ∧ value = ⟨#[]⟩ ∧ vals = [] ∧ nk = 1) := by
 unfold z0p at h
 simp only at h
 split at h
 ·simp only [Bool.and_eq_true, decide_eq_true_eq] at h
  exact .inl ⟨‹_›, h.1.1.1, h.1.1.2, List.eq_nil_of_length_eq_zero h.1.2, h.2⟩
 split at h
 ·simp only [Bool.and_eq_true, decide_eq_true_eq] at h
  exact .inr (.inl ⟨‹_›, List.eq_nil_of_length_eq_zero h.2, h.1.2⟩)
 split at h
 ·simp only [Bool.and_eq_true, decide_eq_true_eq] at h
  exact .inr (.inr (.inl ⟨‹_›, h.1.2, h.1.1.2⟩))
 split at h
 ·simp only [Bool.and_eq_true, decide_eq_true_eq] at h
  exact .inr (.inr (.inr (.inl ⟨‹_›, h.1.1, h.1.2, List.eq_nil_of_length_eq_zero h.2⟩)))
 split at h
 ·simp only [Bool.and_eq_true, decide_eq_true_eq] at h
  exact .inr (.inr (.inr (.inr ⟨‹_›, h.1.1.1, h.1.1.2, List.eq_nil_of_length_eq_zero h.1.2, h.2⟩)))
 ·cases h
mutual
theorem zas {B : Bs} : ∀ (m : Mat) (deep : Nat) (n b : Int) (a : Nat), n ≤ 64 → (z0n m deep n b).1 = true → Pre (putM m) B a → a ≤ B.length → readM B (9 - deep) (a : Int) n = some (m, ((a + (putM m).length : Nat) : Int), (z0n m deep n b).2.1)
 | .mk op name value vals kids, deep, n, b, a, hn, h, hp, ha => by
  have hs := (z63 (.mk op name value vals kids) deep n b hn h).1
  unfold z0n at h ⊢
  split at h
  ·cases h
  rename_i h1
  rw [if_neg h1]
  split at h
  ·cases h
  rename_i h2
  rw [if_neg h2]
  have hal : z0p op name value vals kids.length = true := by
   cases hh : z0p op name value vals kids.length with
   | true => rfl
   | false => exact absurd (.inr (.inr hh)) h1
  unfold z2x at hs
  obtain ⟨ho0, ho1, z1, z2, z3, z4, z5, z6⟩ := hs
  obtain ⟨o, rfl⟩ := Int.eq_ofNat_of_zero_le ho0
  have hwo : IntKind.u64.wrap (o : Int) = (o : Int) := z0c _ (by omega) (by omega)
  obtain ⟨d, hd⟩ : ∃ d, 9 - deep = d + 1 := ⟨8 - deep, by omega⟩
  have hd' : 9 - (deep + 1) = d := by omega
  have ih := fun (a' : Nat) => zay (B := B) kids (deep + 1) (n - 1) (b - (name.size + value.size : Nat) - z0e vals) a' (by omega) h
  rw [hd'] at ih
  generalize kidsM kids (deep + 1) (n - 1) (b - (name.size + value.size : Nat) - z0e vals) = KM at *
  rw [hd]
  unfold readM
  rw [if_neg (by omega)]
  unfold putM at hp ⊢
  rw [hwo, Int.toNat_natCast] at hp ⊢
  obtain ⟨hp1, hp2⟩ := hp.split
  have ha1 := hp1.len ha
  unfold headM
  rw [z9d (by omega) (by omega) hp1]
  simp only [Option.bind_some]
  rw [List.length_append]
  generalize hA : a + (vputM o).length = A at *
  have hAl : ∀ x : Nat, a + ((vputM o).length + x) = A + x := fun x => by omega
  rw [hAl]
  rcases zir hal with ⟨q1, rfl, rfl, rfl, q5⟩ | ⟨q1, rfl, q3⟩ | ⟨q1, rfl, q3⟩ | ⟨q1, rfl, rfl, rfl⟩ | ⟨q1, rfl, rfl, rfl, q5⟩
  ·have hk0 : kids = [] := List.eq_nil_of_length_eq_zero q5
   have ho : o = 0 := by omega
   subst ho
   have ih0 := ih A
   rw [hk0] at ih0 ⊢
   have := ih0 (by unfold putsM; exact Pre.nil) (by omega)
   simp only [List.length_nil] at this
   simp
   rw [this]
   simp [putsM]
  ·have hk0 : kids = [] := List.eq_nil_of_length_eq_zero q3
   have ho : o = 1 ∨ o = 2 ∨ o = 3 := by omega
   rw [if_pos q1] at hp2 ⊢
   obtain ⟨hp3, hp4⟩ := hp2.split
   have ha3 := hp3.len ha1
   have ih0 := ih (A + (textB name).length + (textB value).length)
   rw [hk0] at ih0 ⊢
   have := ih0 (by unfold putsM; exact Pre.nil) (by have := hp4.len ha3; omega)
   simp only [List.length_nil] at this
   simp only [ho, if_true]
   rw [z7c (by omega) (by omega) hp3 ha1]
   simp only [Option.bind_some]
   rw [z7c (by omega) (by omega) hp4 ha3]
   simp only [Option.map_some, Option.bind_some]
   rw [this]
   simp only [Option.map_some, List.length_append]
   rw [Nat.add_assoc]
   simp [putsM]
   try omega
  ·have hk0 : kids = [] := List.eq_nil_of_length_eq_zero q3
   have ho : o = 4 := by omega
   subst ho
   rw [if_neg (by omega), if_pos (by omega)] at hp2 ⊢
   obtain ⟨hp3, hp4⟩ := hp2.split
   have ha3 := hp3.len ha1
   obtain ⟨hp5, hp6⟩ := hp4.split
   have ha5 := hp5.len ha3
   have ih0 := ih (A + (textB name).length + (vputM vals.length).length + ((vals.map textB).flatten).length)
   rw [hk0] at ih0 ⊢
   have := ih0 (by unfold putsM; exact Pre.nil) (by have := hp6.len ha5; omega)
   simp only [List.length_nil] at this
   simp
   rw [z7c (by omega) (by omega) hp3 ha1]
   simp only [Option.bind_some]
   rw [z9d (by omega) (by omega) hp5]
   simp only [Option.bind_some]
   rw [zdh z4 hp6 ha5]
   simp only [Option.map_some, Option.bind_some]
   rw [this]
   simp [putsM]
   try omega
  ·have ho : o = 5 ∨ o = 6 := by omega
   rw [if_neg (by omega), if_neg (by omega), if_pos (by omega)] at hp2
   obtain ⟨hp3, hp4⟩ := hp2.split
   have ha3 := hp3.len ha1
   have := ih (A + (vputM kids.length).length) hp4 ha3
   have n1 : ¬ (o = 1 ∨ o = 2 ∨ o = 3) := by omega
   have n2 : ¬ o = 4 := by omega
   have n3 : ¬ ((o : Int) = 1 ∨ (o : Int) = 2 ∨ (o : Int) = 3) := by omega
   have n4 : ¬ (o : Int) = 4 := by omega
   rw [if_neg n1, if_neg n2, if_pos ho, if_neg n3, if_neg n4, if_pos q1]
   rw [z9d (by omega) (by omega) hp3]
   simp only [Option.map_some, Option.bind_some]
   rw [this]
   simp only [Option.map_some, List.length_append]
   rw [Nat.add_assoc]
  ·have ho : o = 7 := by omega
   subst ho
   rw [if_neg (by omega), if_neg (by omega), if_neg (by omega)] at hp2 ⊢
   simp only [List.nil_append] at hp2 ⊢
   have := ih A hp2 ha1
   rw [q5] at this
   simp
   rw [this]
   simp
theorem zay {B : Bs} : ∀ (ms : List Mat) (deep : Nat) (n b : Int) (a : Nat), n ≤ 64 → (kidsM ms deep n b).1 = true → Pre (putsM ms) B a → a ≤ B.length → z0j (readM B (9 - deep)) ms.length (a : Int) n = some (ms, ((a + (putsM ms).length : Nat) : Int), (kidsM ms deep n b).2.1)
 | [], deep, n, b, a, hn, h, hp, ha => by unfold putsM kidsM; simp [z0j]
 | k :: ks, deep, n, b, a, hn, h, hp, ha => by
  unfold putsM at hp ⊢
  obtain ⟨hp1, hp2⟩ := hp.split
  have hb := z3k k deep n b
  unfold kidsM at h ⊢
  have i1 := fun hh => zas k deep n b a hn hh hp1 ha
  generalize z0n k deep n b = H at *
  obtain ⟨ok, n', b'⟩ := H
  cases ok with
  | false => cases h
  | true =>
   simp only at h i1 hb ⊢
   have i2 := zay ks deep n' b' (a + (putM k).length) (by omega) h hp2 (hp1.len ha)
   rw [List.length_cons]
   unfold z0j
   rw [i1 trivial]
   simp only [Option.bind_some]
   rw [i2]
   simp only [Option.map_some, List.length_append]
   rw [Nat.add_assoc]
end
theorem zey {B : Bs} {m : Mat} {a : Nat} (h : z1n m = true) (hp : Pre (putM m) B a) (ha : a ≤ B.length) : getMatM B (a : Int) = some (m, ((a + (putM m).length : Nat) : Int)) := by
 unfold getMatM
 have := zas m 1 64 4096 a (by omega) h hp ha
 rw [show (9 : Nat) - 1 = 8 from rfl] at this
 rw [this]
 simp [h]
theorem tomb_put {B : Bs} {t : TombD} {a : Nat} (h : z1g t) (hp : Pre (tombB t) B a) (ha : a ≤ B.length) : z3p B (a : Int) = some (t, ((a + (tombB t).length : Nat) : Int)) := by
 obtain ⟨⟨h1, h2⟩, h3, h4⟩ := h
 unfold z0r at h3
 have he : tombB t = [t.seq, t.fro, t.to].flatMap intB ++ putM t.m := by simp [tombB]
 rw [he] at hp ⊢
 obtain ⟨hp1, hp2⟩ := hp.split
 unfold z3p
 have hi := z74 (l := [t.seq, t.fro, t.to]) (by
  intro v hv
  simp at hv
  rcases hv with rfl | rfl | rfl <;> omega) hp1
 rw [show (3 : Nat) = [t.seq, t.fro, t.to].length from rfl, hi]
 simp only [Option.bind_some]
 rw [zey h4 hp2 (hp1.len ha)]
 simp only [Option.map_some, List.length_append]
 rw [Nat.add_assoc]
 simp
theorem zb4 {B : Bs} {seq : Int} : ∀ {l : List TombD} {prev : Option Int} {a : Nat}, z1l seq prev l = true → Pre (l.flatMap tombB) B a → a ≤ B.length → z0y B prev l.length (a : Int) = some (l, ((a + (l.flatMap tombB).length : Nat) : Int))
 | [], prev, a, _, _, _ => by simp [z0y]
 | t :: l, prev, a, h, hp, ha => by
  unfold z1l at h
  simp only [Bool.and_eq_true, decide_eq_true_eq] at h
  obtain ⟨⟨⟨h1, h2⟩, h3⟩, h4⟩ := h
  rw [List.flatMap_cons] at hp
  obtain ⟨hp1, hp2⟩ := hp.split
  rw [List.length_cons]
  unfold z0y
  rw [tomb_put h1 hp1 ha]
  simp only [Option.bind_some]
  have hprev : ∀ q ∈ prev, q < t.seq := by
   intro q hq
   cases prev with
   | none => cases hq
   | some p =>
    injection hq with hq; subst hq
    unfold z1t at h3
    simpa using h3
  rw [if_pos ⟨h1, hprev⟩, zb4 h4 hp2 (hp1.len ha)]
  simp only [Option.map_some, List.flatMap_cons, List.length_append]
  rw [Nat.add_assoc]
theorem z9v {B : Bs} : ∀ {l : List MetaD} {a : Nat}, (∀ x ∈ l, ∀ v ∈ x.ints, -2 ^ 63 ≤ v ∧ v < 2 ^ 63) → Pre (l.flatMap metaB) B a → z0u B l.length (a : Int) = some (l, ((a + (l.flatMap metaB).length : Nat) : Int))
 | [], a, _, _ => by simp [z0u]
 | x :: l, a, h, hp => by
  rw [List.flatMap_cons] at hp
  obtain ⟨hp1, hp2⟩ := hp.split
  rw [List.length_cons]
  unfold z0u
  have hi := z74 (l := x.ints) (a := a) (b := B) (h x (by simp)) hp1
  rw [show (7 : Nat) = x.ints.length from rfl, hi]
  simp only [Option.bind_some]
  have ih := z9v (l := l) (a := a + (metaB x).length) (fun y hy => h y (by simp [hy])) hp2
  have hx : metaL x.ints = x := rfl
  show Option.map _ (z0u B l.length ((a + (metaB x).length : Nat) : Int)) = _
  rw [ih]
  simp only [Option.map_some, List.flatMap_cons, List.length_append, hx]
  rw [Nat.add_assoc]
theorem zej {m : ManD} (h : manM m = true) (hf : z2j m) : z1p (bodyM m) = some m := by
 obtain ⟨hh, hb, ht⟩ := manM_parts h
 have h0 := hh
 obtain ⟨h1, h2, h3, h4, h5, h6, h7, h8⟩ := hh
 unfold z0m at h3 h4
 have he : bodyM m = [m.seq, m.log, m.next, m.now].flatMap intB ++ (vputM m.blocks.length ++ (m.blocks.flatMap metaB ++ (vputM m.tombs.length ++ m.tombs.flatMap tombB))) := by
  unfold bodyM z3d
  simp
 obtain ⟨B, hB⟩ : ∃ B, bodyM m = B := ⟨_, rfl⟩
 have hp : Pre (bodyM m) B 0 := by rw [hB]; exact ⟨[], by simp⟩
 have hlen := congrArg List.length hB
 rw [hB]
 rw [he] at hp hlen
 obtain ⟨hp1, hp2⟩ := hp.split
 obtain ⟨hp3, hp4⟩ := hp2.split
 obtain ⟨hp5, hp6⟩ := hp4.split
 obtain ⟨hp7, hp8⟩ := hp6.split
 have hts : z1l m.seq none m.tombs = true := by
  unfold manM at h
  simp only [Bool.and_eq_true] at h
  exact h.2
 have hmb : ∀ x ∈ m.blocks, ∀ v ∈ x.ints, -2 ^ 63 ≤ v ∧ v < 2 ^ 63 := by
  intro x hx v hv
  have h1 := hb x hx
  have h2 := hf x hx
  unfold z0b z0m at h1
  simp [MetaD.ints] at hv
  omega
 unfold z1p
 have hi := z74 (l := [m.seq, m.log, m.next, m.now]) (a := 0) (b := B) (by
  intro v hv
  simp at hv
  rcases hv with rfl | rfl | rfl | rfl <;> omega) hp1
 have hi' : intsM B 4 0 = some ([m.seq, m.log, m.next, m.now], ((0 + ([m.seq, m.log, m.next, m.now].flatMap intB).length : Nat) : Int)) := hi
 rw [hi']
 simp only [Option.bind_some]
 rw [z4o (by omega) hp3]
 simp only [Option.bind_some]
 rw [if_neg (by omega), z9v hmb hp5]
 simp only [Option.bind_some]
 unfold z1k
 rw [z4o (by omega) hp7]
 simp only [Option.bind_some]
 rw [if_neg (by omega)]
 rw [zb4 hts hp8 (by simp only [List.length_append] at hlen; omega)]
 simp only [Option.bind_some]
 rw [if_pos]
 ·simp
 ·simp only [List.length_append] at hlen
  omega
theorem zda {c : Nat} (h : c < 2 ^ 32) : le4R (le4 c) = c := by
 unfold le4 le4R
 simp only
 have e1 : (UInt8.ofNat (c % 256)).toNat = c % 256 := by simp
 have e2 : (UInt8.ofNat (c / 256 % 256)).toNat = c / 256 % 256 := by simp
 have e3 : (UInt8.ofNat (c / 65536 % 256)).toNat = c / 65536 % 256 := by simp
 have e4 : (UInt8.ofNat (c / 16777216 % 256)).toNat = c / 16777216 % 256 := by simp
 rw [e1, e2, e3, e4]
 omega
theorem zgz {body rest : Bs} (h1 : 1 ≤ body.length) (h2 : body.length ≤ 1048576) : z18 (z0d body ++ rest) 0 = .ok (body, (z0d body).length) := by
 have hc := z6r body
 obtain ⟨B, hB⟩ : ∃ B, z0d body ++ rest = B := ⟨_, rfl⟩
 have hp : Pre (z0d body) B 0 := by rw [← hB]; exact ⟨rest, rfl⟩
 unfold z0d at hp
 obtain ⟨hp1, hp2⟩ := hp.split
 obtain ⟨hp3, hp4⟩ := hp2.split
 have hl4 : (le4 (crcM body)).length = 4 := rfl
 have hv := z4o (a := 0) (n := body.length) (by omega) hp1
 have hfl : (z0d body).length = (vputM body.length).length + 4 + body.length := by unfold z0d; simp only [List.length_append, hl4]; omega
 have hvl := z14 body.length (by omega)
 rw [hl4] at hp4
 have hBl := congrArg List.length hB
 rw [List.length_append] at hBl
 rw [hB]
 unfold z18
 rw [if_neg (by omega), if_neg (by omega)]
 have hv' : vgetM B 0 = some (body.length, 0 + (vputM body.length).length) := hv
 rw [hv']
 simp only
 rw [if_neg (by omega)]
 have e1 : (B.drop (0 + (vputM body.length).length + 4)).take body.length = body := by
  obtain ⟨u, hu⟩ := hp4
  rw [← hu, List.take_left]
 have e2 : (B.drop (0 + (vputM body.length).length)).take 4 = le4 (crcM body) := by
  obtain ⟨u, hu⟩ := hp3
  rw [← hu, show (4 : Nat) = (le4 (crcM body)).length from rfl, List.take_left]
 rw [e1, e2, zda hc]
 simp
 omega
theorem zes {m : ManD} (h : manM m = true) (hf : z2j m) : z1o (z0d (bodyM m)) = some m := by
 have hbl := z3e h hf
 unfold z1o
 have := zgz (body := bodyM m) (rest := []) hbl.1 (by omega)
 rw [List.append_nil] at this
 rw [this]
 simp [zej h hf, h]
def tmpN : ByteArray := ⟨#[109, 97, 110, 105, 102, 101, 115, 116, 46, 116, 109, 112]⟩
def manN : ByteArray := ⟨#[109, 97, 110, 105, 102, 101, 115, 116]⟩
def VFS.syncD (S : VFS) : Int × VFS := match syncM S.turns S.sure with
 | some d => (S.c.call.1, if S.c.call.1 = 0 then { sure := d, now := S.now, turns := [], files := S.files, c := S.c.call.2 } else S.ctl S.c.call.2)
 | none => (0, S)
def z1b (b : Bs) : Nat → VFS → Int × VFS
 | 0, S => S.create tmpN
 | 1, S => S.append tmpN b
 | 2, S => S.syncF tmpN
 | 3, S => S.rename tmpN manN
 | _, S => S.syncD
def pubGo (b : Bs) : List Nat → Int → VFS → Int × VFS
 | [], e, S => (e, S)
 | i :: r, _, S => if (z1b b i S).1 = 0 then pubGo b r 0 (z1b b i S).2 else z1b b i S
def PubOK (b : Bs) : List Nat → VFS → Prop
 | [], _ => True
 | i :: r, S => S.small ∧ (i = 4 → ∃ d, syncM S.turns S.sure = some d) ∧ ((z1b b i S).1 = 0 → PubOK b r (z1b b i S).2)
section
variable {W0 : World} {st : Heap}
theorem zfs {f c : Nat} {S : VFS} (h : FSAt st f S) (hs : S.small) (hc : st c = some (.cells true [ptr f] 1 (.ty 0))) :
  z00 Tryz.prog W0 103 #[ptr c] st fun e st' => e = .returned (Val.i (S.create tmpN).1) ∧ FSAt st' f (S.create tmpN).2 ∧ Keep (Out f) st st' := by
 refine enter (args := [_]) Tryz.func103 rfl ?_
 simp [Tryz.f103, go_sem, hc]
 refine (zex (n := tmpN) h hs).mono ?_
 rintro e st2 ⟨rfl, h2, hk2⟩
 simp [go_sem]
 exact ⟨h2, hk2⟩
theorem zi3 {f c d : Nat} {S : VFS} {b : Bs} {bv : Value} {g : Tg} (h : FSAt st f S) (hs : S.small) (hc : st c = some (.cells true [ptr f] 1 (.ty 0))) (hd : st d = some (.cells true [bv] 1 (.ty 0))) (hb : Reg st g 1 bv (bytesV b) b.length) (hg : Out f g) (hbl : b.length < 2 ^ 40) :
  z00 Tryz.prog W0 105 #[ptr c, ptr d] st fun e st' => e = .returned (Val.i (S.append tmpN b).1) ∧ FSAt st' f (S.append tmpN b).2 ∧ Keep (Out f) st st' := by
 obtain ⟨bb, bc, rfl⟩ := hb.slice
 refine enter (args := [_, _]) Tryz.func105 rfl ?_
 simp [Tryz.f105, go_sem, hc, hd]
 refine (zgb (n := tmpN) h hs hb hg hbl).mono ?_
 rintro e st2 ⟨rfl, h2, hk2⟩
 simp [go_sem]
 exact ⟨h2, hk2⟩
theorem zhm {f c : Nat} {S : VFS} (h : FSAt st f S) (hc : st c = some (.cells true [ptr f] 1 (.ty 0))) :
  z00 Tryz.prog W0 107 #[ptr c] st fun e st' => e = .returned (Val.i (S.syncF tmpN).1) ∧ FSAt st' f (S.syncF tmpN).2 ∧ Keep (Out f) st st' := by
 refine enter (args := [_]) Tryz.func107 rfl ?_
 simp [Tryz.f107, go_sem, hc]
 refine (zge (n := tmpN) h).mono ?_
 rintro e st2 ⟨rfl, h2, hk2⟩
 simp [go_sem]
 exact ⟨h2, hk2⟩
theorem zfr {f c : Nat} {S : VFS} (h : FSAt st f S) (hs : S.small) (hc : st c = some (.cells true [ptr f] 1 (.ty 0))) :
  z00 Tryz.prog W0 109 #[ptr c] st fun e st' => e = .returned (Val.i (S.rename tmpN manN).1) ∧ FSAt st' f (S.rename tmpN manN).2 ∧ Keep (Out f) st st' := by
 refine enter (args := [_]) Tryz.func109 rfl ?_
 simp [Tryz.f109, go_sem, hc]
 refine (ziw (n := tmpN) (m := manN) h hs).mono ?_
 rintro e st2 ⟨rfl, h2, hk2⟩
 simp [go_sem]
 exact ⟨h2, hk2⟩
theorem zef {f : Nat} {S : VFS} {d : Dir} (h : FSAt st f S) (hs : S.small) (hd : syncM S.turns S.sure = some d) :
  z00 Tryz.prog W0 111 #[ptr f] st fun e st' => e = .returned (Val.i S.syncD.1) ∧ FSAt st' f S.syncD.2 ∧ Keep (Out f) st st' := by
 refine (zfm h hs hd).mono ?_
 rintro e st2 ⟨rfl, h2, hk2⟩
 have : S.syncD = (S.c.call.1, if S.c.call.1 = 0 then { sure := d, now := S.now, turns := [], files := S.files, c := S.c.call.2 } else S.ctl S.c.call.2) := by unfold VFS.syncD; rw [hd]
 rw [this]
 exact ⟨rfl, h2, hk2⟩
theorem zbr {f : Nat} {S : VFS} {cs : List Value} {m : ManD} (h : FSAt st f S) (hm : ManAt st cs m) (hf : z2j m) (hok : manM m = true → PubOK (z0d (bodyM m)) [0, 1, 2, 3, 4] S) :
  z00 Tryz.prog W0 37 #[ptr f, .agg cs.toArray] st fun e st' => (if manM m = true then e = .returned (Val.i (pubGo (z0d (bodyM m)) [0, 1, 2, 3, 4] 0 S).1) ∧ FSAt st' f (pubGo (z0d (bodyM m)) [0, 1, 2, 3, 4] 0 S).2 else e = .returned (Val.i 5) ∧ FSAt st' f S) ∧ Keep (Out f) st st' := by
 have hm0 := hm
 obtain ⟨bv, tv, bs, ts, rfl, hb, hbs, ht, hts⟩ := hm
 obtain ⟨bb, bc, rfl⟩ := hb.slice
 obtain ⟨tb, tc, rfl⟩ := ht.slice
 refine enter (args := [_, _]) Tryz.func37 rfl ?_
 simp [Tryz.f37, go_sem]
 unfold NewP
 intro c hc
 refine ⟨.ty 0, ?_⟩
 simp [go_sem]
 unfold NewP
 intro tm htm
 refine ⟨.ty 0, ?_⟩
 have n1 : c ≠ tm := by rintro rfl; rw [upd_same] at htm; cases htm
 simp [go_sem, n1]
 generalize hst2 : upd (upd st c _) tm _ = st2
 have hN2 : New st st2 := by rw [← hst2]; exact ((New.refl _).add hc).add htm
 have hc2 : st2 c = some (.cells true [ptr f] 1 (.ty 0)) := by rw [← hst2, upd_ne _ _ n1, upd_same]
 refine (zal (.ty 0) (hm0.new hN2) hf).mono ?_
 rintro e st3 ⟨hk3, hR⟩
 have hc3 := hk3 _ _ hc2
 have hN3 := hN2.trans hk3
 cases hmm : manM m with
 | false =>
  rw [if_neg (by rw [hmm]; simp)] at hR
  subst hR
  simp [go_sem]
  unfold NewP
  intro d hd
  refine ⟨.ty 0, ?_⟩
  simp [go_sem]
  have hN4 := hN3.add (o := .cells true [.slice none 0 0] 1 (.ty 0)) hd
  exact ⟨h.keep (hN4.to fun _ => True) (by simp), hN4.to _⟩
 | true =>
  rw [if_pos hmm] at hR
  obtain ⟨v, rfl, hV, hF⟩ := hR
  obtain ⟨vb, vc, rfl⟩ := hV.reg.slice
  simp [go_sem]
  unfold NewP
  intro d hd
  refine ⟨.ty 0, ?_⟩
  simp [go_sem]
  have hcd : c ≠ d := ne_of_new hc3 hd
  have hd4 := upd_same st3 d (.cells true [.slice vb (z0d (bodyM m)).length vc] 1 (.ty 0))
  generalize hst4 : upd st3 d _ = st4 at hd4 ⊢
  have hN34 : New st3 st4 := by rw [← hst4]; exact (New.refl _).add hd
  have hc4 := hN34 _ _ hc3
  have hV4 := (hV.new' hN34).reg
  have hN4 := hN3.trans hN34
  simp [go_sem, hc4]
  unfold NewS
  intro nb hnb
  refine ⟨.ty 0, ?_⟩
  simp [go_sem]
  have hok1 := hok hmm
  have hbl := z3e hmm hf
  have hfl : (z0d (bodyM m)).length < 2 ^ 40 := by
   have h2 := z14 (bodyM m).length (by omega)
   unfold z0d le4
   simp only [List.length_append, List.length_cons, List.length_nil]
   omega
  obtain ⟨RES, hRES⟩ : ∃ R, pubGo (z0d (bodyM m)) [0, 1, 2, 3, 4] 0 S = R := ⟨_, rfl⟩
  rw [hRES]
  generalize z0d (bodyM m) = B at *
  have hrow0 := upd_same st4 nb (.cells true [.func (.func 103) #[] #[ptr c], .func (.func 105) #[] #[ptr c, ptr d], .func (.func 107) #[] #[ptr c], .func (.func 109) #[] #[ptr c], .func (.func 111) #[ptr f] #[]] 5 (.ty 0))
  generalize hst5 : upd st4 nb _ = st5 at hrow0 ⊢
  have hN45 : New st4 st5 := by rw [← hst5]; exact (New.refl _).add hnb
  have hN5 := hN4.trans hN45
  have hkb : Keep (Out f) st st5 := hN5.to _
  have hf5 : FSAt st5 f S := h.keep (hN5.to fun _ => True) (by simp)
  have w0 : IntKind.i64.wrap 0 = 0 := z03 (by omega) (by omega)
  have w1 : IntKind.i64.wrap 1 = 1 := z03 (by omega) (by omega)
  have w2 : IntKind.i64.wrap 2 = 2 := z03 (by omega) (by omega)
  have w3 : IntKind.i64.wrap 3 = 3 := z03 (by omega) (by omega)
  have w4 : IntKind.i64.wrap 4 = 4 := z03 (by omega) (by omega)
  have w5 : IntKind.i64.wrap 5 = 5 := z03 (by omega) (by omega)
  have hV5 := hV4.new hN45
  refine ⟨fun E st' => Keep (Out f) st5 st' ∧ E 25 = .slice (some ⟨nb, 0, none⟩) 5 5 ∧ E 26 = Val.i 5 ∧ ∃ i : Nat, E 27 = Val.i i ∧ i ≤ 5 ∧ E 6 = Val.i 0 ∧ ∃ S', FSAt st' f S' ∧ PubOK B ([0, 1, 2, 3, 4].drop i) S' ∧ pubGo B ([0, 1, 2, 3, 4].drop i) 0 S' = RES,
   fun E _ => match E 27 with | .int _ i => 5 - i.toNat | _ => 0, ⟨st5, .rfl' _, .rfl', by simp [go_sem], by simp [go_sem], 0, by simp [go_sem], by omega, by simp [go_sem], S, hf5, hok1, hRES⟩, ?_⟩
  rintro E st6 ⟨hk6, e25, e26, i, e27, hi, e6, S', hf6, hok', hgo⟩
  have ho0 : Out f (.ty 0) := by intro x r; simp
  have hrow := hk6.get hrow0 ho0
  have hc6 := hk6.get (hN45 _ _ hc4) ho0
  have hd6 := hk6.get (hN45 _ _ hd4) ho0
  have hV6 := hV5.keep hk6 ho0
  have hic : i = 0 ∨ i = 1 ∨ i = 2 ∨ i = 3 ∨ i = 4 ∨ i = 5 := by omega
  have hBl : B.length < 2 ^ 40 := hfl
  rcases hic with rfl | rfl | rfl | rfl | rfl | rfl
  ·obtain ⟨hsm, hsd, hnx⟩ := hok'
   simp [go_sem, e25, e26, e27, hrow]
   refine (zfs hf6 hsm hc6).mono ?_
   rintro e st7 ⟨rfl, hf7, hk7⟩
   simp only [List.drop_zero, List.drop_succ_cons, pubGo] at hgo
   have hk67 := hk6.trans hk7
   by_cases hz : (z1b B 0 S').1 = 0
   ·rw [if_pos hz] at hgo
    have hz' : (S'.create tmpN).1 = 0 := hz
    simp [go_sem, hz', e25, e26, e27, w0, w1, w2, w3, w4, w5]
    refine ⟨_, .rfl' _, hk67, 1, by omega, by omega, _, hf7, hnx hz, hgo⟩
   ·rw [if_neg hz] at hgo
    have hz' : ((S'.create tmpN).1 = 0) = False := eq_false hz
    simp [go_sem, hz', e25, e26, e27]
    rw [← hgo]
    exact ⟨⟨rfl, hf7⟩, hkb.trans hk67⟩
  ·obtain ⟨hsm, hsd, hnx⟩ := hok'
   simp [go_sem, e25, e26, e27, hrow]
   refine (zi3 hf6 hsm hc6 hd6 hV6 (by intro x r; simp) hBl).mono ?_
   rintro e st7 ⟨rfl, hf7, hk7⟩
   simp only [List.drop_zero, List.drop_succ_cons, pubGo] at hgo
   have hk67 := hk6.trans hk7
   by_cases hz : (z1b B 1 S').1 = 0
   ·rw [if_pos hz] at hgo
    have hz' : (S'.append tmpN B).1 = 0 := hz
    simp [go_sem, hz', e25, e26, e27, w0, w1, w2, w3, w4, w5]
    refine ⟨_, .rfl' _, hk67, 2, by omega, by omega, _, hf7, hnx hz, hgo⟩
   ·rw [if_neg hz] at hgo
    have hz' : ((S'.append tmpN B).1 = 0) = False := eq_false hz
    simp [go_sem, hz', e25, e26, e27]
    rw [← hgo]
    exact ⟨⟨rfl, hf7⟩, hkb.trans hk67⟩
  ·obtain ⟨hsm, hsd, hnx⟩ := hok'
   simp [go_sem, e25, e26, e27, hrow]
   refine (zhm hf6 hc6).mono ?_
   rintro e st7 ⟨rfl, hf7, hk7⟩
   simp only [List.drop_zero, List.drop_succ_cons, pubGo] at hgo
   have hk67 := hk6.trans hk7
   by_cases hz : (z1b B 2 S').1 = 0
   ·rw [if_pos hz] at hgo
    have hz' : (S'.syncF tmpN).1 = 0 := hz
    simp [go_sem, hz', e25, e26, e27, w0, w1, w2, w3, w4, w5]
    refine ⟨_, .rfl' _, hk67, 3, by omega, by omega, _, hf7, hnx hz, hgo⟩
   ·rw [if_neg hz] at hgo
    have hz' : ((S'.syncF tmpN).1 = 0) = False := eq_false hz
    simp [go_sem, hz', e25, e26, e27]
    rw [← hgo]
    exact ⟨⟨rfl, hf7⟩, hkb.trans hk67⟩
  ·obtain ⟨hsm, hsd, hnx⟩ := hok'
   simp [go_sem, e25, e26, e27, hrow]
   refine (zfr hf6 hsm hc6).mono ?_
   rintro e st7 ⟨rfl, hf7, hk7⟩
   simp only [List.drop_zero, List.drop_succ_cons, pubGo] at hgo
   have hk67 := hk6.trans hk7
   by_cases hz : (z1b B 3 S').1 = 0
   ·rw [if_pos hz] at hgo
    have hz' : (S'.rename tmpN manN).1 = 0 := hz
    simp [go_sem, hz', e25, e26, e27, w0, w1, w2, w3, w4, w5]
    refine ⟨_, .rfl' _, hk67, 4, by omega, by omega, _, hf7, hnx hz, hgo⟩
   ·rw [if_neg hz] at hgo
    have hz' : ((S'.rename tmpN manN).1 = 0) = False := eq_false hz
    simp [go_sem, hz', e25, e26, e27]
    rw [← hgo]
    exact ⟨⟨rfl, hf7⟩, hkb.trans hk67⟩
  ·obtain ⟨hsm, hsd, hnx⟩ := hok'
   simp [go_sem, e25, e26, e27, hrow]
   refine (zef hf6 hsm (hsd rfl).choose_spec).mono ?_
   rintro e st7 ⟨rfl, hf7, hk7⟩
   simp only [List.drop_zero, List.drop_succ_cons, pubGo] at hgo
   have hk67 := hk6.trans hk7
   by_cases hz : (z1b B 4 S').1 = 0
   ·rw [if_pos hz] at hgo
    have hz' : S'.syncD.1 = 0 := hz
    simp [go_sem, hz', e25, e26, e27, w0, w1, w2, w3, w4, w5]
    refine ⟨_, .rfl' _, hk67, 5, by omega, by omega, _, hf7, hnx hz, hgo⟩
   ·rw [if_neg hz] at hgo
    have hz' : (S'.syncD.1 = 0) = False := eq_false hz
    simp [go_sem, hz', e25, e26, e27]
    rw [← hgo]
    exact ⟨⟨rfl, hf7⟩, hkb.trans hk67⟩
  ·simp only [List.drop_succ_cons, List.drop_zero, pubGo] at hgo
   subst hgo
   simp [go_sem, e25, e26, e27, e6]
   exact ⟨hf6, hkb.trans hk6⟩
end
def z34 : List Value := [Val.i 0, Val.i 0, Val.i 0, Val.i 0, .slice none 0 0, .slice none 0 0]
def loadM (S : VFS) : Except Int ManD := match aget S.now manN with
 | none => .error 3
 | some i => match S.files[i]? with
  | none => .error 3
  | some F => match z1o F.now with
   | some m => .ok m
   | none => .error 13
def z3z (b : Bs) : VFS := ⟨[(manN, 0)], [(manN, 0)], [], [⟨0, b, [], b⟩], ⟨5, false, 0, 0, false⟩⟩
def pubS1 : VFS := ⟨[], [(tmpN, 0)], [⟨0, tmpN, ⟨#[]⟩, some 0⟩], [⟨0, [], [], []⟩], ⟨1, false, 0, 0, false⟩⟩
def pubS2 (b : Bs) : VFS := ⟨[], [(tmpN, 0)], [⟨0, tmpN, ⟨#[]⟩, some 0⟩], [⟨0, [], [⟨false, 0, b⟩], b⟩], ⟨2, false, 0, 0, false⟩⟩
def pubS3 (b : Bs) : VFS := ⟨[], [(tmpN, 0)], [⟨0, tmpN, ⟨#[]⟩, some 0⟩], [⟨0, b, [], b⟩], ⟨3, false, 0, 0, false⟩⟩
def pubS4 (b : Bs) : VFS := ⟨[], [(manN, 0)], [⟨0, tmpN, ⟨#[]⟩, some 0⟩, ⟨1, tmpN, manN, none⟩], [⟨0, b, [], b⟩], ⟨4, false, 0, 0, false⟩⟩
theorem pub_new {b : Bs} (hb : b.length ≤ 1073741824) : PubOK b [0, 1, 2, 3, 4] VFS.new ∧ pubGo b [0, 1, 2, 3, 4] 0 VFS.new = (0, z3z b) := by
 have w1 : W 1 = 1 := by decide
 have w2 : W 2 = 2 := by decide
 have w3 : W 3 = 3 := by decide
 have w4 : W 4 = 4 := by decide
 have w5 : W 5 = 5 := by decide
 have o1 : z0a tmpN = true := by decide
 have o2 : z0a manN = true := by decide
 have hne : (manN == tmpN) = false := by decide
 have htt : (tmpN == tmpN) = true := by decide
 have e0 : z1b b 0 VFS.new = (0, pubS1) := by
  simp [z1b, VFS.new, VFS.create, Ctl.call, o1, aget, afind, aset, w1, pubS1]
 have e1 : z1b b 1 pubS1 = (0, pubS2 b) := by
  simp [z1b, VFS.append, Ctl.call, o1, aget, afind, htt, w2, pubS1, pubS2, VFS.lenOf, VFS.put, VFile.app, hb]
 have e2 : z1b b 2 (pubS2 b) = (0, pubS3 b) := by
  simp [z1b, VFS.syncF, Ctl.call, o1, aget, afind, htt, w3, pubS2, pubS3, VFS.ctl, VFile.synced, List.modify]
 have e3 : z1b b 3 (pubS3 b) = (0, pubS4 b) := by
  simp [z1b, VFS.rename, Ctl.call, o1, o2, aget, afind, aset, adel, htt, w4, pubS3, pubS4, VFS.turn]
 have hs : syncM (pubS4 b).turns (pubS4 b).sure = some [(manN, 0)] := by
  simp [pubS4, syncM, VTurn.does, aget, afind, aset, adel, htt]
 have e4 : z1b b 4 (pubS4 b) = (0, z3z b) := by
  show VFS.syncD (pubS4 b) = _
  unfold VFS.syncD
  rw [hs]
  simp [pubS4, z3z, Ctl.call, w5]
 constructor
 ·refine ⟨?_, by simp, fun _ => ?_⟩
  ·simp [VFS.small, VFS.new]
  rw [e0]
  refine ⟨?_, by simp, fun _ => ?_⟩
  ·simp [VFS.small, pubS1]
  rw [e1]
  refine ⟨?_, by simp, fun _ => ?_⟩
  ·simp [VFS.small, pubS2]; omega
  rw [e2]
  refine ⟨?_, by simp, fun _ => ?_⟩
  ·simp [VFS.small, pubS3]; omega
  rw [e3]
  refine ⟨?_, fun _ => ⟨_, hs⟩, fun _ => ?_⟩
  ·simp [VFS.small, pubS4]; omega
  trivial
 ·simp only [pubGo, e0, e1, e2, e3, e4]
  simp
section
variable {W0 : World} {st : Heap}
theorem z8e {f : Nat} {S : VFS} (h : FSAt st f S) (hs : S.small) : z00 Tryz.prog W0 46 #[ptr f] st fun e st' => Keep (fun _ => True) st st' ∧ match loadM S with
  | .error k => e = .returned (.tuple #[.agg z34.toArray, Val.i k])
  | .ok m => ∃ cs : List Value, e = .returned (.tuple #[.agg cs.toArray, Val.i 0]) ∧ ManAt st' cs m := by
 refine enter (args := [_]) Tryz.func46 rfl ?_
 simp [Tryz.f46, go_sem]
 unfold NewP
 intro to hto
 refine ⟨.own to 1 93, ?_⟩
 simp [go_sem]
 have hto1 := upd_same st to (.cells true z34 6 (.own to 1 93))
 have hst : ∃ st1, st1 = upd st to (.cells true z34 6 (.own to 1 93)) := ⟨_, rfl⟩
 obtain ⟨st1, hst1⟩ := hst
 rw [← hst1] at hto1
 have hN1 : New st st1 := by rw [hst1]; exact (New.refl _).add hto
 have hgo : upd st to (.cells true [Val.i 0, Val.i 0, Val.i 0, Val.i 0, .slice none 0 0, .slice none 0 0] 6 (.own to 1 93)) = st1 := hst1.symm
 rw [hgo]
 have hf1 : FSAt st1 f S := h.keep (hN1.to fun _ => True) (by simp)
 refine (zcq (n := manN) hf1 (fun F hF => (hs.2.2 F hF).2.1)).mono ?_
 rintro e st2 ⟨hk2, hR⟩
 have hto2 := hk2.get hto1 trivial
 have hk02 : Keep (fun _ => True) st st2 := (hN1.to _).trans hk2
 have fin : ∀ {st' : Heap} {xs : List Value}, Keep (fun _ => True) st st' → Keep (fun _ => True) st (upd st' to (.cells true xs 6 (.own to 1 93))) := by
  intro st' xs hk k o g ho ht hp
  rw [upd_ne _ _ (ne_of_new ho hto)]
  exact hk k o g ho ht hp
 unfold loadM
 cases hg : aget S.now manN with
 | none =>
  rw [hg] at hR
  simp only at hR
  subst hR
  unfold z34 at hto2 ⊢
  simp [go_sem, hto2]
  refine z0l ?_
  simp [go_sem]
  exact fin hk02
 | some i =>
  rw [hg] at hR
  obtain ⟨F, b, c, hFi, rfl, hV⟩ := hR
  simp only [hFi]
  have hFl : F.now.length < 2 ^ 40 := (hs.2.2 F (List.mem_of_getElem? hFi)).2.1
  simp [go_sem]
  refine (zjp hV.reg hFl).mono ?_
  rintro e st3 ⟨hk3, hR⟩
  have hto3 := hk3 _ _ hto2
  have hk03 : Keep (fun _ => True) st st3 := hk02.trans (hk3.to _)
  cases hd : z1o F.now with
  | none =>
   rw [hd] at hR
   simp only at hR
   subst hR
   unfold z34 at hto3
   simp [go_sem]
   unfold NewP
   intro t6 ht6
   refine ⟨.ty 0, ?_⟩
   have n6 : to ≠ t6 := ne_of_new hto3 ht6
   have n6' := Ne.symm n6
   simp [go_sem, hto3, n6, n6']
   refine z0l ?_
   simp [go_sem]
   refine ⟨fin (hk03.new ht6), ?_⟩
   rfl
  | some m =>
   rw [hd] at hR
   obtain ⟨bv, tv, bs, ts, rfl, hmV, hmF, hmM, hmt, hmT⟩ := hR
   obtain ⟨mb, mc, rfl⟩ := hmV.reg.slice
   obtain ⟨tb, tc, rfl⟩ := hmt.slice
   unfold z34 at hto3
   simp [go_sem]
   unfold NewP
   intro t6 ht6
   refine ⟨.ty 0, ?_⟩
   have n6 : to ≠ t6 := ne_of_new hto3 ht6
   have n6' := Ne.symm n6
   have hN6 := (New.refl st3).add (b := t6) (o := .cells true [Val.i m.seq, Val.i m.log, Val.i m.next, Val.i m.now, .slice mb m.blocks.length mc, .slice tb m.tombs.length tc] 6 (.ty 0)) ht6
   have hto6 := hN6 _ _ hto3
   simp [go_sem, hto3, n6, n6']
   refine z0l ?_
   simp [go_sem]
   have hB := But1.put (o := .cells true [Val.i m.seq, Val.i m.log, Val.i m.next, Val.i m.now, .slice mb m.blocks.length mc, .slice tb m.tombs.length tc] 6 (.own to 1 93)) (But1.refl to (upd st3 t6 (.cells true [Val.i m.seq, Val.i m.log, Val.i m.next, Val.i m.now, .slice mb m.blocks.length mc, .slice tb m.tombs.length tc] 6 (.ty 0))))
   refine ⟨fin (hk03.new ht6), _, _, bs, ts, rfl, ((hmV.new' hN6).reg.toF Free.ty).but hB hto6, hmM, (hmt.new hN6).but hB hto6, fun i x hx => (hmT i x hx).mono fun _ _ _ _ hh => (hh.new hN6).but hB hto6⟩
def firstM : ManD := ⟨0, 1, 1, 0, [], []⟩
def firstC : List Value := [Val.i 0, Val.i 1, Val.i 1, Val.i 0, .slice none 0 0, .slice none 0 0]
theorem zdc (st : Heap) : ManAt st firstC firstM := ⟨.slice none 0 0, .slice none 0 0, [], [], rfl, RegF.nil, by intro i x hi; simp [firstM] at hi, RegF.nil, by intro i x hi; simp [firstM] at hi⟩
theorem first_ok : manM firstM = true := by decide
theorem z87 : z2j firstM := by intro x hx; simp [firstM] at hx
theorem first_spec : z00 Tryz.prog W0 98 #[] st fun e st' => e = .returned (.agg firstC.toArray) ∧ New st st' := by
 refine enter (args := []) Tryz.func98 rfl ?_
 simp [Tryz.f98, go_sem]
 unfold NewP
 intro to hto
 refine ⟨.ty 0, ?_⟩
 simp [go_sem]
 refine z29 ?_
 simp [go_sem]
 exact ⟨rfl, (New.refl _).add hto⟩
theorem ziv : z00 Tryz.prog W0 33 #[] st fun e st' => e = .returned (.bool true) ∧ Keep Free st st' := by
 have hbl := z3e first_ok z87
 obtain ⟨B, hB⟩ : ∃ B, z0d (bodyM firstM) = B := ⟨_, rfl⟩
 have hfl : B.length ≤ 600000 := by
  have h2 := z14 (bodyM firstM).length (by omega)
  rw [← hB]
  unfold z0d le4
  simp only [List.length_append, List.length_cons, List.length_nil]
  omega
 have hdec : z1o B = some firstM := by rw [← hB]; exact zes first_ok z87
 obtain ⟨hpok, hpgo⟩ := pub_new (b := B) (by omega)
 have hload : loadM (z3z B) = .ok firstM := by
  have htt : (manN == manN) = true := by decide
  simp [loadM, z3z, aget, afind, htt, hdec]
 have hsE : (z3z B).small := by simp [VFS.small, z3z]; omega
 have hsN : VFS.new.small := by simp [VFS.small, VFS.new]
 have hloadN : loadM VFS.new = .error 3 := by simp [loadM, VFS.new, aget, afind]
 have fr : ∀ f, ∀ g, Free g → Out f g := fun f g hg x r => hg f x r
 have tr : ∀ g, Free g → True := fun _ _ => trivial
 refine enter (args := []) Tryz.func33 rfl ?_
 simp [Tryz.f33, go_sem]
 refine z8r.mono ?_
 rintro e st1 ⟨f, rfl, hfn, hf1, hk1⟩
 simp [go_sem]
 refine first_spec.mono ?_
 rintro e st2 ⟨rfl, hk2⟩
 simp [go_sem]
 refine (zbr (hf1.keep (hk2.to fun _ => True) (by simp)) (zdc st2) z87 (fun _ => by rw [hB]; exact hpok)).mono ?_
 rintro e st3 ⟨hR, hk3⟩
 rw [if_pos first_ok, hB, hpgo] at hR
 obtain ⟨rfl, hf3⟩ := hR
 simp [go_sem]
 refine (zav hf3).mono ?_
 rintro e st4 ⟨rfl, rfl⟩
 have h5 : (z3z B).c.calls = 5 := rfl
 simp [go_sem, h5]
 refine (z8e hf3 hsE).mono ?_
 rintro e st5 ⟨hk5, hR⟩
 rw [hload] at hR
 obtain ⟨cs5, rfl, hm5⟩ := hR
 obtain ⟨bv, tv, bs, ts, rfl, hb5, hbs5, ht5, hts5⟩ := hm5
 obtain ⟨bb, bc, rfl⟩ := hb5.slice
 obtain ⟨tb, tc, rfl⟩ := ht5.slice
 simp [go_sem]
 unfold NewP
 intro t2 ht2
 refine ⟨.ty 0, ?_⟩
 simp [go_sem]
 have ht26 := upd_same st5 t2 (.cells true [Val.i firstM.seq, Val.i firstM.log, Val.i firstM.next, Val.i firstM.now, .slice bb firstM.blocks.length bc, .slice tb firstM.tombs.length tc] 6 (.ty 0))
 generalize hst6 : upd st5 t2 _ = st6 at ht26 ⊢
 have hN6 : New st5 st6 := by rw [← hst6]; exact (New.refl _).add ht2
 refine z8r.mono ?_
 rintro e st7 ⟨f2, rfl, hf2n, hf7, hk7⟩
 simp [go_sem]
 refine (z8e hf7 hsN).mono ?_
 rintro e st8 ⟨hk8, hR⟩
 rw [hloadN] at hR
 simp only at hR
 subst hR
 have ht27 := hk7.get ht26 trivial
 have ht28 := hk8.get ht27 trivial
 unfold z34
 simp [go_sem]
 unfold NewP
 intro t4 ht4
 refine ⟨.ty 0, ?_⟩
 have n24 : t2 ≠ t4 := ne_of_new ht28 ht4
 have hl1 : firstM.log = 1 := rfl
 simp [go_sem, n24, ht28, hl1]
 refine first_spec.mono ?_
 rintro e st9 ⟨rfl, hk9⟩
 simp [go_sem]
 refine (z92 (zdc st9)).mono ?_
 rintro e st10 ⟨rfl, hk10⟩
 simp [go_sem, first_ok]
 have K1 : Keep Free st st1 := hk1.imp tr
 have K2 : Keep Free st1 st2 := hk2.to _
 have K3 : Keep Free st2 st4 := hk3.imp (fr f)
 have K5 : Keep Free st4 st5 := hk5.imp tr
 have K6 : Keep Free st5 st6 := hN6.to _
 have K7 : Keep Free st6 st7 := hk7.imp tr
 have K8 : Keep Free st7 st8 := hk8.imp tr
 exact ((((((((K1.trans K2).trans K3).trans K5).trans K6).trans K7).trans K8).new ht4).trans (hk9.to _)).trans (hk10.to _)
end
end Go.Proofs.YtahgfnbkkfpcnaaGreat
