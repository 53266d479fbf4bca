/- Sorting few strings by a comparison: an insertion sort, as it goes. -/
import Derived.Test.YtahgfnbkkfpcnaaGreatC17
import Derived.Test.YtahgfnbkkfpcnaaGreatC09
import Derived.Test.YtahgfnbkkfpcnaaGreatC20
import Derived.Test.YtahgfnbkkfpcnaaGreatC19
set_option linter.unusedVariables false
set_option linter.unusedSimpArgs false
set_option maxRecDepth 100000
set_option maxHeartbeats 1000000
namespace Go.Proofs.YtahgfnbkkfpcnaaGreat
open Go.RowKit (Below)
def swapM {α : Type} (l : List α) (j : Nat) : List α :=
 match l[j]?, l[j - 1]? with
 | some x, some y => (l.set j y).set (j - 1) x
 | _, _ => l
def downM {α : Type} (lt : α → α → Bool) : Nat → List α → List α
 | 0, l => l
 | j + 1, l => match l[j + 1]?, l[j]? with
  | some x, some y => if lt x y = true then downM lt j (swapM l (j + 1)) else l
  | _, _ => l
def z1w {α : Type} (lt : α → α → Bool) (l : List α) : Nat → Nat → List α
 | 0, _ => l
 | fuel + 1, i => z1w lt (downM lt i l) fuel (i + 1)
theorem zjs {α : Type} (l : List α) (j : Nat) : (swapM l j).length = l.length := by
 unfold swapM
 split <;> simp
theorem zin {α : Type} {l : List α} {j : Nat} {x : α} (h : x ∈ swapM l j) : x ∈ l := by
 unfold swapM at h
 split at h
 ·rename_i a b ha hb
  rcases List.mem_or_eq_of_mem_set h with h | h
  ·rcases List.mem_or_eq_of_mem_set h with h | h
   ·exact h
   ·rw [h]; exact List.mem_of_getElem? hb
  ·rw [h]; exact List.mem_of_getElem? ha
 ·exact h
section
variable {W0 : World} {st : Heap}
end
section
variable {W0 : World} {st : Heap}
theorem zg8 {n : Int} (h0 : 0 ≤ n) (h1 : n ≤ 12) : z00 Tryz.prog W0 242 #[.int .u64 n] st fun e st' => (∃ k, e = .returned (.int .i64 k)) ∧ st' = st := by
 refine enter (args := [_]) Tryz.func242 rfl ?_
 have c1 : ¬ (4294967296 : Int) ≤ n := by omega
 have c2 : ¬ (65536 : Int) ≤ n := by omega
 have c3 : ¬ (256 : Int) ≤ n := by omega
 have c4 : IntKind.u8.wrap n = n := by rw [IntKind.wrap_u8]; omega
 have c5 : n < 256 := by omega
 simp [Tryz.f242, go_sem, c1, c2, c3, c4, c5, h0]
theorem Len_few {n : Int} (h0 : 0 ≤ n) (h1 : n ≤ 12) : z00 Tryz.prog W0 188 #[.int .u64 n] st fun e st' => (∃ k, e = .returned (.int .i64 k)) ∧ st' = st := by
 refine enter (args := [_]) Tryz.func188 rfl ?_
 simp [Tryz.f188, go_sem]
 refine (zg8 h0 h1).mono ?_
 rintro e st' ⟨⟨k, rfl⟩, rfl⟩
 simp [go_sem]
end
def z0x {α : Type} (lt : α → α → Bool) (l : List α) : Prop := l.Pairwise fun a b => lt b a = false
theorem zbh {α : Type} {lt : α → α → Bool} (ok : LtOK lt) : ∀ (n : Nat) (A B : List α) (x : α), A.length = n → ∃ A', downM lt n (A ++ x :: B) = A' ++ B ∧ A'.Perm (A ++ [x]) ∧ (z0x lt A → z0x lt A')
 | 0, A, B, x, h => by
  have : A = [] := List.eq_nil_of_length_eq_zero h
  subst this
  exact ⟨[x], rfl, by simp, fun _ => by simp [z0x]⟩
 | n + 1, A, B, x, h => by
  rcases List.eq_nil_or_concat A with rfl | ⟨A0, y, rfl⟩
  ·simp at h
  ·have hl : A0.length = n := by simpa using h
   subst hl
   simp only [List.concat_eq_append, List.append_assoc, List.cons_append, List.nil_append]
   have h1 : (A0 ++ y :: x :: B)[A0.length + 1]? = some x := by rw [List.getElem?_append_right (by omega)]; simp
   have h2 : (A0 ++ y :: x :: B)[A0.length]? = some y := by simp
   unfold downM
   rw [h1, h2]
   simp only
   cases hxy : lt x y with
   | true =>
    rw [if_pos rfl]
    have hs : swapM (A0 ++ y :: x :: B) (A0.length + 1) = A0 ++ x :: y :: B := by
     unfold swapM
     simp only [Nat.add_sub_cancel]
     rw [h1, h2]
     simp only
     rw [List.set_append_right _ _ (by omega), List.set_append_right _ _ (by omega)]
     simp
    rw [hs]
    obtain ⟨A', e1, e2, e3⟩ := zbh ok A0.length A0 (y :: B) x rfl
    refine ⟨A' ++ [y], by rw [e1]; simp, ?_, fun hA => ?_⟩
    ·refine (e2.append_right [y]).trans ?_
     simp only [List.append_assoc, List.cons_append, List.nil_append]
     exact List.Perm.append_left _ (List.Perm.swap _ _ _)
    ·unfold z0x at hA e3 ⊢
     rw [List.pairwise_append] at hA ⊢
     refine ⟨e3 hA.1, by simp, fun z hz w hw => ?_⟩
     simp at hw
     subst hw
     have := e2.mem_iff.1 hz
     rcases List.mem_append.1 this with hz | hz
     ·exact hA.2.2 z hz _ (by simp)
     ·simp at hz; subst hz; exact ok.asymm _ _ hxy
   | false =>
    rw [if_neg (by simp)]
    refine ⟨A0 ++ [y, x], by simp, List.Perm.refl _, fun hA => ?_⟩
    unfold z0x at hA ⊢
    have hA0 := hA
    rw [List.pairwise_append] at hA
    rw [show A0 ++ [y, x] = (A0 ++ [y]) ++ [x] by simp, List.pairwise_append]
    refine ⟨hA0, by simp, fun z hz w hw => ?_⟩
    simp at hw
    subst hw
    rcases List.mem_append.1 hz with hz | hz
    ·exact ok.trans z y w (hA.2.2 z hz y (by simp)) hxy
    ·simp at hz; subst hz; exact hxy
theorem zbx {α : Type} {lt : α → α → Bool} (ok : LtOK lt) : ∀ (fuel i : Nat) (A B : List α), A.length = i → B.length = fuel → z0x lt A → z0x lt (z1w lt (A ++ B) fuel i) ∧ (z1w lt (A ++ B) fuel i).Perm (A ++ B)
 | 0, i, A, B, _, hB, hA => by
  have : B = [] := List.eq_nil_of_length_eq_zero hB
  subst this
  simpa [z1w] using hA
 | fuel + 1, i, A, x :: B, hi, hB, hA => by
  obtain ⟨A', e1, e2, e3⟩ := zbh ok i A B x hi
  unfold z1w
  rw [e1]
  have hl : A'.length = i + 1 := by rw [e2.length_eq]; simp [hi]
  obtain ⟨h1, h2⟩ := zbx ok fuel (i + 1) A' B hl (by simpa using hB) (e3 hA)
  refine ⟨h1, h2.trans ?_⟩
  have := e2.append_right B
  simpa using this
theorem isort_ok {α : Type} {lt : α → α → Bool} (ok : LtOK lt) (l : List α) : z0x lt (z1w lt l (l.length - 1) 1) ∧ (z1w lt l (l.length - 1) 1).Perm l := by
 match l with
 | [] => exact ⟨by simp [z1w, z0x], by simp [z1w]⟩
 | a :: l => exact zbx ok l.length 1 [a] l rfl rfl (by simp [z0x])
theorem z0x.unique {α : Type} {lt : α → α → Bool} {l l' : List α} (h : z0x lt l) (h' : z0x lt l') (hp : l.Perm l') (ht : ∀ a b, a ∈ l → b ∈ l → lt a b = false → lt b a = false → a = b) : l = l' :=
 List.Perm.eq_of_pairwise (le := fun a b => lt b a = false) (fun a b ha hb h1 h2 => ht a b ha (hp.mem_iff.2 hb) h2 h1) h h' hp
theorem zar (a b : ByteArray) : ((a == b) = true) ↔ a = b := by
 cases a; cases b
 rename_i x y
 show ((x == y) = true) ↔ _
 simp
theorem zd4 (k : ByteArray) : ∀ (l : Dir) (i n : Nat), afind k l (i + n) = (afind k l i).map fun p => (p.1 + n, p.2)
 | [], _, _ => rfl
 | e :: l, i, n => by
  unfold afind
  split
  ·rfl
  ·rw [show i + n + 1 = i + 1 + n by omega]; exact zd4 k l (i + 1) n
theorem z8f (e : ByteArray × Nat) (l : Dir) (k : ByteArray) : afind k (e :: l) 0 = if k = e.1 then some (0, e.2) else (afind k l 0).map fun p => (p.1 + 1, p.2) := by
 conv => lhs; unfold afind
 by_cases h : k = e.1
 ·rw [if_pos ((zar _ _).2 h), if_pos h]
 ·rw [if_neg (by rw [zar]; exact h), if_neg h, zd4 k l 0 1]
theorem zdq (k : ByteArray) : aget [] k = none := rfl
theorem zbc (e : ByteArray × Nat) (l : Dir) (k : ByteArray) : aget (e :: l) k = if k = e.1 then some e.2 else aget l k := by
 unfold aget
 rw [z8f]
 by_cases h : k = e.1
 ·rw [if_pos h, if_pos h]; rfl
 ·rw [if_neg h, if_neg h, Option.map_map]; rfl
theorem zap (k : ByteArray) (x : Nat) : aset [] k x = [(k, x)] := rfl
theorem zc6 (e : ByteArray × Nat) (l : Dir) (k : ByteArray) (x : Nat) : aset (e :: l) k x = if k = e.1 then (k, x) :: l else e :: aset l k x := by
 unfold aset
 rw [z8f]
 by_cases h : k = e.1
 ·rw [if_pos h, if_pos h]; rfl
 ·rw [if_neg h, if_neg h]
  cases afind k l 0 <;> rfl
theorem zaj (k : ByteArray) : adel [] k = [] := rfl
theorem zc2 (e : ByteArray × Nat) (l : Dir) (k : ByteArray) : adel (e :: l) k = if k = e.1 then l else e :: adel l k := by
 unfold adel
 rw [z8f]
 by_cases h : k = e.1
 ·rw [if_pos h, if_pos h]; rfl
 ·rw [if_neg h, if_neg h]
  cases afind k l 0 <;> rfl
abbrev Names (l : Dir) : Prop := (l.map (·.1)).Nodup
theorem z67 {k : ByteArray} {x : Nat} : ∀ {l : Dir}, Names l → (aget l k = some x ↔ (k, x) ∈ l)
 | [], _ => by simp [zdq]
 | e :: l, h => by
  obtain ⟨h1, h2⟩ := List.nodup_cons.1 h
  rw [zbc, List.mem_cons]
  by_cases hk : k = e.1
  ·rw [if_pos hk]
   constructor
   ·intro h; injection h with h; subst h; left; cases e; simp at hk; rw [hk]
   ·rintro (h | h)
    ·rw [← h]
    ·exact absurd (List.mem_map.2 ⟨_, h, hk⟩) h1
  ·rw [if_neg hk, z67 h2]
   constructor
   ·exact .inr
   ·rintro (h | h)
    ·rw [← h] at hk; exact absurd rfl hk
    ·exact h
theorem aget_none {k : ByteArray} : ∀ {l : Dir}, aget l k = none ↔ ∀ x, (k, x) ∉ l
 | [] => by simp [zdq]
 | e :: l => by
  rw [zbc]
  by_cases hk : k = e.1
  ·rw [if_pos hk]; simp; exact ⟨e.2, fun h => absurd (by rw [hk]) h⟩
  ·rw [if_neg hk, aget_none]
   refine forall_congr' fun x => ?_
   rw [List.mem_cons]
   constructor
   ·rintro h (h' | h')
    ·rw [← h'] at hk; exact hk rfl
    ·exact h h'
   ·exact fun h h' => h (.inr h')
theorem z61 {k : ByteArray} {p : ByteArray × Nat} : ∀ {l : Dir}, Names l → (p ∈ adel l k ↔ p ∈ l ∧ p.1 ≠ k)
 | [], _ => by simp [zaj]
 | e :: l, h => by
  obtain ⟨h1, h2⟩ := List.nodup_cons.1 h
  rw [zc2, List.mem_cons]
  by_cases hk : k = e.1
  ·rw [if_pos hk]
   constructor
   ·intro hp; exact ⟨.inr hp, fun e' => h1 (List.mem_map.2 ⟨_, hp, e'.trans hk⟩)⟩
   ·rintro ⟨rfl | hp, hn⟩
    ·exact absurd hk.symm hn
    ·exact hp
  ·rw [if_neg hk, List.mem_cons, z61 h2]
   constructor
   ·rintro (rfl | ⟨hp, hn⟩)
    ·exact ⟨.inl rfl, Ne.symm hk⟩
    ·exact ⟨.inr hp, hn⟩
   ·rintro ⟨rfl | hp, hn⟩
    ·exact .inl rfl
    ·exact .inr ⟨hp, hn⟩
theorem z3g {k : ByteArray} {x : Nat} {p : ByteArray × Nat} : ∀ {l : Dir}, Names l → (p ∈ aset l k x ↔ p = (k, x) ∨ p ∈ l ∧ p.1 ≠ k)
 | [], _ => by simp [zap]
 | e :: l, h => by
  obtain ⟨h1, h2⟩ := List.nodup_cons.1 h
  rw [zc6, List.mem_cons]
  by_cases hk : k = e.1
  ·rw [if_pos hk, List.mem_cons]
   constructor
   ·rintro (hp | hp)
    ·exact .inl hp
    ·exact .inr ⟨.inr hp, fun e' => h1 (List.mem_map.2 ⟨_, hp, e'.trans hk⟩)⟩
   ·rintro (hp | ⟨rfl | hp, hn⟩)
    ·exact .inl hp
    ·exact absurd hk.symm hn
    ·exact .inr hp
  ·rw [if_neg hk, List.mem_cons, z3g h2]
   constructor
   ·rintro (rfl | hp | ⟨hp, hn⟩)
    ·exact .inr ⟨.inl rfl, Ne.symm hk⟩
    ·exact .inl hp
    ·exact .inr ⟨.inr hp, hn⟩
   ·rintro (hp | ⟨rfl | hp, hn⟩)
    ·exact .inr (.inl hp)
    ·exact .inl rfl
    ·exact .inr (.inr ⟨hp, hn⟩)
theorem z5b {k : ByteArray} : ∀ {l : Dir}, Names l → Names (adel l k)
 | [], _ => by simp [zaj, Names]
 | e :: l, h => by
  obtain ⟨h1, h2⟩ := List.nodup_cons.1 h
  rw [zc2]
  split
  ·exact h2
  ·refine List.nodup_cons.2 ⟨?_, z5b h2⟩
   intro hm
   obtain ⟨p, hp, he⟩ := List.mem_map.1 hm
   exact h1 (by rw [← he]; exact List.mem_map.2 ⟨p, ((z61 h2).1 hp).1, rfl⟩)
theorem z99 {k : ByteArray} {x : Nat} : ∀ {l : Dir}, Names l → Names (aset l k x)
 | [], _ => by simp [zap, Names]
 | e :: l, h => by
  obtain ⟨h1, h2⟩ := List.nodup_cons.1 h
  rw [zc6]
  split
  ·rename_i hk
   exact List.nodup_cons.2 ⟨by rw [hk]; exact h1, h2⟩
  ·rename_i hk
   refine List.nodup_cons.2 ⟨?_, z99 h2⟩
   intro hm
   obtain ⟨p, hp, he⟩ := List.mem_map.1 hm
   rcases (z3g h2).1 hp with rfl | ⟨hp, _⟩
   ·exact hk he
   ·exact h1 (by rw [← he]; exact List.mem_map.2 ⟨p, hp, rfl⟩)
/-! ### Directories -/
def encD (d : Dir) : RDir := d.map fun p => (p.1, (p.2 : Int))
def z3w (l : RDir) : Prop := (l.map (·.1)).Nodup
def DirSim (d : Dir) (l : RDir) : Prop := Names d ∧ (encD d).Perm l
def rget (n : ByteArray) : RDir → Option Int
 | [] => none
 | p :: l => if strEq p.1 n = true then some p.2 else rget n l
theorem z8d (d : Dir) : (encD d).map (·.1) = d.map (·.1) := by simp [encD]
theorem zbk {d : Dir} {n : ByteArray} {z : Int} : (n, z) ∈ encD d ↔ ∃ x : Nat, z = x ∧ (n, x) ∈ d := by
 simp only [encD, List.mem_map, Prod.mk.injEq]
 constructor
 ·rintro ⟨p, hp, rfl, rfl⟩; exact ⟨p.2, rfl, hp⟩
 ·rintro ⟨x, rfl, hx⟩; exact ⟨_, hx, rfl, rfl⟩
theorem DirSim.names {d : Dir} {l : RDir} (h : DirSim d l) : z3w l := by
 have := (h.2.map (·.1)).nodup_iff.1 (by rw [z8d]; exact h.1)
 exact this
theorem DirSim.mk {d : Dir} {l : RDir} (h1 : Names d) (h2 : z3w l) (h3 : ∀ n z, (n, z) ∈ l ↔ ∃ x : Nat, z = x ∧ (n, x) ∈ d) : DirSim d l := by
 have nd : ∀ {α : Type} {l : List (ByteArray × α)}, (l.map (·.1)).Nodup → l.Nodup := fun h => (List.pairwise_map.1 h).imp fun h e => h (by rw [e])
 refine ⟨h1, (List.perm_ext_iff_of_nodup (nd (by rw [z8d]; exact h1)) (nd h2)).2 fun p => ?_⟩
 rw [show p = (p.1, p.2) from rfl, zbk, h3]
theorem DirSim.mem {d : Dir} {l : RDir} (h : DirSim d l) (n : ByteArray) (z : Int) : (n, z) ∈ l ↔ ∃ x : Nat, z = x ∧ (n, x) ∈ d := by
 rw [← h.2.mem_iff, zbk]
theorem DirSim.len {d : Dir} {l : RDir} (h : DirSim d l) : d.length = l.length := by rw [← h.2.length_eq]; simp [encD]
theorem z9j {n : ByteArray} {z : Int} : ∀ {l : RDir}, z3w l → (rget n l = some z ↔ (n, z) ∈ l)
 | [], _ => by simp [rget]
 | p :: l, h => by
  obtain ⟨h1, h2⟩ := List.nodup_cons.1 (show ((p.1) :: l.map (·.1)).Nodup from h)
  unfold rget
  by_cases e : strEq p.1 n = true
  ·rw [if_pos e]
   have e' := (strEq_iff _ _).1 e
   subst e'
   constructor
   ·intro hz; injection hz with hz; subst hz; exact List.mem_cons_self
   ·intro hm
    rcases List.mem_cons.1 hm with hm | hm
    ·rw [← hm]
    ·exact absurd (List.mem_map.2 ⟨_, hm, rfl⟩) h1
  ·rw [if_neg e, z9j h2, List.mem_cons]
   constructor
   ·exact .inr
   ·rintro (hm | hm)
    ·exact absurd ((strEq_iff _ _).2 (by rw [← hm])) e
    ·exact hm
theorem DirSim.get {d : Dir} {l : RDir} (h : DirSim d l) (n : ByteArray) : rget n l = Option.map (fun x : Nat => (x : Int)) (aget d n) := by
 cases hg : aget d n with
 | some x =>
  rw [Option.map_some, z9j h.names, h.mem]
  exact ⟨x, rfl, (z67 h.1).1 hg⟩
 | none =>
  cases hr : rget n l with
  | none => rfl
  | some z =>
   obtain ⟨x, -, hx⟩ := (h.mem n z).1 ((z9j h.names).1 hr)
   exact absurd hx (aget_none.1 hg x)
theorem zcv {n : ByteArray} {l : RDir} (h : z3w l) : z3w (z0f n l) := List.Nodup.sublist (List.Sublist.map _ List.filter_sublist) h
theorem z91 {n m : ByteArray} {z : Int} {l : RDir} : (m, z) ∈ z0f n l ↔ (m, z) ∈ l ∧ m ≠ n := by
  unfold z0f
  rw [List.mem_filter]
  cases h : strEq m n with
  | true => have := (strEq_iff _ _).1 h; simp [h, this]
  | false => have : m ≠ n := fun e => by rw [(strEq_iff _ _).2 e] at h; cases h
             simp [h, this]
theorem zib {l : RDir} {n : ByteArray} {z : Int} (h : z3w l) (hn : ∀ y, (n, y) ∉ l) : z3w (l ++ [(n, z)]) := by
 unfold z3w
 rw [List.map_append]
 refine List.nodup_append.2 ⟨h, by simp, fun a ha b hb => ?_⟩
 obtain ⟨p, hp, rfl⟩ := List.mem_map.1 ha
 simp at hb
 subst hb
 rintro rfl
 exact hn p.2 hp
theorem DirSim.del {d : Dir} {l : RDir} (h : DirSim d l) (n : ByteArray) : DirSim (adel d n) (z0f n l) := by
 refine .mk (z5b h.1) (zcv h.names) fun m z => ?_
 rw [z91, h.mem]
 constructor
 ·rintro ⟨⟨x, rfl, hx⟩, hn⟩; exact ⟨x, rfl, (z61 h.1).2 ⟨hx, hn⟩⟩
 ·rintro ⟨x, rfl, hx⟩; obtain ⟨h1, h2⟩ := (z61 h.1).1 hx; exact ⟨⟨x, rfl, h1⟩, h2⟩
theorem DirSim.set {d : Dir} {l : RDir} (h : DirSim d l) (n : ByteArray) (x : Nat) : DirSim (aset d n x) (z0f n l ++ [(n, (x : Int))]) := by
 refine .mk (z99 h.1) (zib (zcv h.names) fun y hy => (z91.1 hy).2 rfl) fun m z => ?_
 rw [List.mem_append, z91, h.mem, List.mem_singleton]
 constructor
 ·rintro (⟨⟨y, rfl, hy⟩, hn⟩ | hm)
  ·exact ⟨y, rfl, (z3g h.1).2 (.inr ⟨hy, hn⟩)⟩
  ·injection hm with h1 h2; subst h1; exact ⟨x, h2, (z3g h.1).2 (.inl rfl)⟩
 ·rintro ⟨y, rfl, hy⟩
  rcases (z3g h.1).1 hy with e | ⟨e1, e2⟩
  ·injection e with e1 e2; subst e1; subst e2; exact .inr rfl
  ·exact .inl ⟨⟨y, rfl, e1⟩, e2⟩
theorem z5g (n : ByteArray) : ∀ (l : RDir) (i : Nat), (rget n l = none ∧ rfind n l i = -1) ∨ ∃ (j : Nat) (p : ByteArray × Int), l[j]? = some p ∧ rget n l = some p.2 ∧ rfind n l i = ((i + j : Nat) : Int)
 | [], i => .inl ⟨rfl, rfl⟩
 | p :: l, i => by
  unfold rget rfind
  by_cases e : strEq p.1 n = true
  ·rw [if_pos e, if_pos e]
   exact .inr ⟨0, p, rfl, rfl, rfl⟩
  ·rw [if_neg e, if_neg e]
   rcases z5g n l (i + 1) with h | ⟨j, q, h1, h2, h3⟩
   ·exact .inl h
   ·exact .inr ⟨j + 1, q, by simpa using h1, h2, by rw [h3]; omega⟩
/-! ### Turns -/
def z4e (t : VTurn) (r : RTn) : Prop := t.kind = r.kind ∧ t.name = r.name ∧ t.to = r.to ∧ (t.kind = 0 → ∃ i : Nat, t.file = some i ∧ r.file = i)
theorem z4e.does {t : VTurn} {r : RTn} (h : z4e t r) {d d' : Dir} {l : RDir} (hd : DirSim d l) (ht : t.does d = some d') : DirSim d' (r.does l) := by
 obtain ⟨h1, h2, h3, h4⟩ := h
 unfold VTurn.does at ht
 unfold RTn.does
 rw [← h1, ← h2, ← h3]
 by_cases k0 : t.kind = 0
 ·rw [if_pos k0] at ht ⊢
  obtain ⟨i, e1, e2⟩ := h4 k0
  rw [e1] at ht
  injection ht with ht
  subst ht
  rw [e2]
  exact hd.set _ _
 rw [if_neg k0] at ht ⊢
 by_cases k1 : t.kind = 1
 ·rw [if_pos k1] at ht ⊢
  obtain ⟨i, e1, e2⟩ := Option.map_eq_some_iff.1 ht
  subst e2
  have hg := hd.get t.name
  rw [e1] at hg
  rcases z5g t.name l 0 with ⟨z1, z2⟩ | ⟨j, p, z1, z2, z3⟩
  ·rw [z1] at hg; cases hg
  ·rw [z2] at hg
   injection hg with hg
   rw [z3, show (((0 + j : Nat) : Int)).toNat = j by omega, z1]
   simp only [Option.map_some, Option.getD_some]
   rw [hg]
   cases e : strEq t.name t.to with
   | true =>
    rw [if_neg (by simp)]
    have e' := (strEq_iff _ _).1 e
    rw [← e']
    refine .mk (z99 (z5b hd.1)) hd.names fun n z => ?_
    rw [hd.mem]
    refine exists_congr fun x => and_congr_right fun hz => ?_
    rw [z3g (z5b hd.1), z61 hd.1]
    have hm := (z67 hd.1).1 e1
    constructor
    ·intro hx
     by_cases hn : n = t.name
     ·subst hn
      have := (z67 hd.1).2 hx
      rw [e1] at this
      injection this with this
      subst this
      exact .inl rfl
     ·exact .inr ⟨⟨hx, hn⟩, hn⟩
    ·rintro (hx | ⟨⟨hx, _⟩, _⟩)
     ·injection hx with a b; subst a; subst b; exact hm
     ·exact hx
   | false =>
    rw [if_pos ⟨by omega, rfl⟩]
    exact (hd.del _).set _ _
 rw [if_neg k1] at ht ⊢
 by_cases k2 : t.kind = 2
 ·rw [if_pos k2] at ht ⊢
  injection ht with ht
  subst ht
  exact hd.del _
 ·rw [if_neg k2] at ht ⊢
  injection ht with ht
  subst ht
  exact hd
inductive TurnsSim : List VTurn → List RTn → Prop where
 | nil : TurnsSim [] []
 | cons {t r ts rs} : z4e t r → TurnsSim ts rs → TurnsSim (t :: ts) (r :: rs)
theorem TurnsSim.snoc {t : VTurn} {r : RTn} (ht : z4e t r) : ∀ {ts : List VTurn} {rs : List RTn}, TurnsSim ts rs → TurnsSim (ts ++ [t]) (rs ++ [r])
 | _, _, .nil => .cons ht .nil
 | _, _, .cons h hs => .cons h (hs.snoc ht)
theorem TurnsSim.does : ∀ {ts : List VTurn} {rs : List RTn} {d d' : Dir} {l : RDir}, TurnsSim ts rs → DirSim d l → syncM ts d = some d' → DirSim d' (z25 l rs)
 | _, _, d, d', l, .nil, hd, h => by
  injection h with h; subst h; exact hd
 | _, _, d, d', l, .cons ht hs, hd, h => by
  unfold syncM at h
  obtain ⟨d1, h1, h2⟩ := Option.bind_eq_some_iff.1 h
  have := TurnsSim.does hs (ht.does hd h1) h2
  exact this
theorem zca : ∀ (ts : List VTurn) (t : VTurn) (d : Dir), syncM (ts ++ [t]) d = (syncM ts d).bind t.does
 | [], t, d => by
  show (t.does d).bind (syncM []) = (some d).bind t.does
  cases h : t.does d <;> simp [h, syncM]
 | x :: ts, t, d => by
  rw [List.cons_append, syncM, syncM]
  cases x.does d with
  | none => rfl
  | some e => exact zca ts t e
end Go.Proofs.YtahgfnbkkfpcnaaGreat
