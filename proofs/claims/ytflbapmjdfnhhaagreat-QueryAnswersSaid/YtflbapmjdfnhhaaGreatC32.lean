/- The sketch of names: the least hashes, as a list that rises. Plain. -/
import Derived.Test.YtflbapmjdfnhhaaGreatC22
import Derived.Test.YtflbapmjdfnhhaaGreatC09
import Derived.Test.YtflbapmjdfnhhaaGreatC29
import Derived.Test.YtflbapmjdfnhhaaGreatC31
set_option linter.unusedVariables false
set_option linter.unusedSimpArgs false
namespace Go.Proofs.YtflbapmjdfnhhaaGreat
def insS : List Nat → Nat → List Nat
  | [], h => [h]
  | x :: l, h => if h < x then h :: x :: l else if h = x then x :: l else x :: insS l h
/-- A hash is taken: the least 1024 stay. -/
def insK (S : List Nat) (h : Nat) : List Nat := (insS S h).take 1024
def mergeK (S l : List Nat) : List Nat := l.foldl insK S
abbrev Asc (l : List Nat) : Prop := l.Pairwise (· < ·)
theorem ascK_iff : ∀ l : List Nat, ascK l = true ↔ Asc l
  | [] => by simp [ascK]
  | [a] => by simp [ascK]
  | a :: b :: l => by
    have ih := ascK_iff (b :: l)
    simp only [ascK, Bool.and_eq_true, decide_eq_true_eq, ih, Asc, List.pairwise_cons]
    constructor
    · rintro ⟨h1, h2, h3⟩
      refine ⟨fun x hx => ?_, h2, h3⟩
      rcases List.mem_cons.1 hx with rfl | hx
      · exact h1
      · have := h2 x hx; omega
    · rintro ⟨h1, h2⟩
      exact ⟨h1 b (by simp), h2⟩
theorem mem_insS : ∀ (l : List Nat) (h x : Nat), x ∈ insS l h ↔ x = h ∨ x ∈ l
  | [], h, x => by simp [insS]
  | y :: l, h, x => by
    unfold insS
    split
    · simp
    · split
      · rename_i h1 h2
        subst h2
        simp
      · simp only [List.mem_cons, mem_insS l h x]
        constructor <;> (rintro (h | h | h) <;> simp [h])
theorem asc_insS : ∀ (l : List Nat) (h : Nat), Asc l → Asc (insS l h)
  | [], h, _ => by simp [insS, Asc]
  | y :: l, h, hl => by
    have hl' := List.pairwise_cons.1 hl
    unfold insS
    split
    · refine List.pairwise_cons.2 ⟨fun x hx => ?_, hl⟩
      rcases List.mem_cons.1 hx with rfl | hx
      · assumption
      · have := hl'.1 x hx; omega
    · split
      · exact hl
      · refine List.pairwise_cons.2 ⟨fun x hx => ?_, asc_insS l h hl'.2⟩
        rcases (mem_insS l h x).1 hx with rfl | hx
        · omega
        · exact hl'.1 x hx
theorem insS_mem : ∀ (l : List Nat) (h : Nat), Asc l → h ∈ l → insS l h = l
  | [], h, _, hm => by simp at hm
  | y :: l, h, hl, hm => by
    have hl' := List.pairwise_cons.1 hl
    unfold insS
    rcases List.mem_cons.1 hm with rfl | hm
    · rw [if_neg (by omega), if_pos rfl]
    · have := hl'.1 h hm
      rw [if_neg (by omega), if_neg (by omega), insS_mem l h hl'.2 hm]
theorem insS_perm : ∀ (l : List Nat) (h : Nat), Asc l → h ∉ l → (insS l h).Perm (h :: l)
  | [], h, _, _ => List.Perm.refl _
  | y :: l, h, hl, hm => by
    have hl' := List.pairwise_cons.1 hl
    unfold insS
    split
    · exact List.Perm.refl _
    · split
      · rename_i h1 h2
        subst h2
        simp at hm
      · refine (List.Perm.cons y (insS_perm l h hl'.2 (fun h' => hm (by simp [h'])))).trans (List.Perm.swap _ _ _)
theorem insS_last : ∀ (l : List Nat) (h : Nat), (∀ x ∈ l, x < h) → insS l h = l ++ [h]
  | [], h, _ => rfl
  | y :: l, h, hl => by
    have := hl y (by simp)
    unfold insS
    rw [if_neg (by omega), if_neg (by omega), insS_last l h fun x hx => hl x (by simp [hx])]
    rfl
theorem asc_nodup {l : List Nat} (h : Asc l) : l.Nodup := h.imp fun h e => by omega
theorem asc_unique : ∀ {a b : List Nat}, Asc a → Asc b → a.Perm b → a = b
  | [], b, _, _, hp => hp.nil_eq
  | x :: a, [], _, _, hp => by have := hp.length_eq; simp at this
  | x :: a, y :: b, ha, hb, hp => by
    have ha' := List.pairwise_cons.1 ha
    have hb' := List.pairwise_cons.1 hb
    have h1 : x ∈ y :: b := hp.subset (by simp)
    have h2 : y ∈ x :: a := hp.symm.subset (by simp)
    have hxy : x = y := by
      rcases List.mem_cons.1 h1 with h1 | h1
      · exact h1
      · rcases List.mem_cons.1 h2 with h2 | h2
        · exact h2.symm
        · have := ha'.1 y h2; have := hb'.1 x h1; omega
    subst hxy
    rw [asc_unique ha'.2 hb'.2 (List.Perm.cons_inv hp)]
/-- The greatest one. -/
def IsTop (ks : List Nat) (t : Nat) : Prop := (∀ x ∈ ks, x ≤ t) ∧ (t ∈ ks ∨ t = 0)
structure KState (ks S : List Nat) : Prop where
  perm : ks.Perm S
  asc : Asc S
  len : S.length ≤ 1024
def hashL (ks : List Nat) (top h : Nat) : List Nat := if h ∈ ks then ks else if ks.length = 1024 ∧ top < h then ks else if 1024 < (ks ++ [h]).length then (ks ++ [h]).erase top else ks ++ [h]
theorem take_last {T : List Nat} {top : Nat} (hT : Asc T) (hl : T.length = 1025) (hm : top ∈ T) (hx : ∀ x ∈ T, x ≤ top) : T = T.take 1024 ++ [top] ∧ top ∉ T.take 1024 := by
  have h1 : T = T.take 1024 ++ T.drop 1024 := (List.take_append_drop _ _).symm
  have h2 : (T.drop 1024).length = 1 := by simp [hl]
  obtain ⟨z, hz⟩ := List.length_eq_one_iff.1 h2
  rw [hz] at h1
  have hz' : z ∈ T := by rw [h1]; simp
  have hp : ∀ x ∈ T.take 1024, x < z := by
    have := hT
    rw [h1] at this
    have := (List.pairwise_append.1 this).2.2
    exact fun x hx => this x hx z (by simp)
  have hzt : z = top := by
    rw [h1] at hm
    rcases List.mem_append.1 hm with h | h
    · have := hp _ h
      have := hx z hz'
      omega
    · have : top = z := by simpa using h
      exact this.symm
  subst hzt
  exact ⟨h1, fun h => by have := hp _ h; omega⟩
theorem hash_state {ks S : List Nat} {top h : Nat} (hs : KState ks S) (ht : ks.length = 1024 → IsTop ks top) : KState (hashL ks top h) (insK S h) := by
  obtain ⟨hp, ha, hl⟩ := hs
  have hlen := hp.length_eq
  unfold hashL insK
  by_cases hm : h ∈ ks
  · rw [if_pos hm, insS_mem S h ha (hp.subset hm), List.take_of_length_le hl]
    exact ⟨hp, ha, hl⟩
  have hmS : h ∉ S := fun h' => hm (hp.symm.subset h')
  have hins := insS_perm S h ha hmS
  have hins_l := hins.length_eq
  simp only [List.length_cons] at hins_l
  have hperm : (ks ++ [h]).Perm (insS S h) := by
    refine List.Perm.trans ?_ hins.symm
    exact (List.perm_append_comm (l₁ := ks) (l₂ := [h])).trans (List.Perm.cons h hp)
  rw [if_neg hm]
  by_cases hf : ks.length = 1024
  · have htop := ht hf
    have htm : top ∈ ks := by
      rcases htop.2 with h1 | h1
      · exact h1
      · subst h1
        match ks, hf with
        | x :: ks, _ =>
          have := htop.1 x (by simp)
          have : x = 0 := by omega
          subst this
          simp
    by_cases hc : top < h
    · rw [if_pos ⟨hf, hc⟩, insS_last S h fun x hx => by have := htop.1 x (hp.symm.subset hx); omega]
      rw [show (1024 : Nat) = S.length by omega, List.take_left]
      exact ⟨hp, ha, hl⟩
    · rw [if_neg (fun h' => hc h'.2), if_pos (by simp; omega)]
      have hT := asc_insS S h ha
      obtain ⟨h1, h2⟩ := take_last hT (by omega) ((mem_insS S h top).2 (.inr (hp.subset htm))) (fun x hx => by
        rcases (mem_insS S h x).1 hx with rfl | hx
        · omega
        · exact htop.1 x (hp.symm.subset hx))
      refine ⟨?_, (hT.sublist (List.take_sublist _ _)), by simp; omega⟩
      refine (hperm.erase top).trans ?_
      conv => lhs; rw [h1]
      rw [List.erase_append_right _ h2]
      simp
  · rw [if_neg (fun h' => hf h'.1), if_neg (by simp; omega), List.take_of_length_le (by omega)]
    exact ⟨hperm, asc_insS S h ha, by omega⟩
/-! The map's entries. -/
def kvU (ks : List Nat) : KV := ks.map fun (h : Nat) => (.int .u64 (h : Int), Val.i 1)
theorem mfind_u : ∀ (ks : List Nat) (h i : Nat), mfind (.int .u64) (.int .u64 (h : Int)) (kvU ks) i = if h ∈ ks then some (some (i + ks.idxOf h, Val.i 1)) else some none
  | [], h, i => by simp [kvU, mfind]
  | x :: ks, h, i => by
    have ih := mfind_u ks h (i + 1)
    show (match Instr.sameNow (.int .u64) (.int .u64 (h : Int)) (.int .u64 (x : Int)) with | some true => _ | some false => _ | none => _) = _
    have hs : Instr.sameNow (.int .u64) (.int .u64 (h : Int)) (.int .u64 (x : Int)) = some ((h : Int) == (x : Int)) := by simp [Instr.sameNow]
    rw [hs]
    by_cases hx : h = x
    · subst hx
      simp [List.idxOf_cons]
    · have : ((h : Int) == (x : Int)) = false := by simp; omega
      rw [this]
      simp only
      show mfind _ _ (kvU ks) (i + 1) = _
      rw [ih]
      have hx' : (x == h) = false := by simp; omega
      by_cases hm : h ∈ ks
      · rw [if_pos hm, if_pos (by simp [hm]), List.idxOf_cons, hx']
        simp only [cond_false]
        congr 3
        omega
      · rw [if_neg hm, if_neg (by simp [hm, hx])]
theorem mset_u (ks : List Nat) (h : Nat) (hm : h ∉ ks) : mset (.int .u64) (.int .u64 (h : Int)) (Val.i 1) (kvU ks) = some (kvU (ks ++ [h])) := by
  unfold mset
  rw [mfind_u, if_neg hm]
  simp [kvU]
theorem eraseIdx_mapU {α β : Type} (f : α → β) : ∀ (l : List α) (i : Nat), (l.map f).eraseIdx i = (l.eraseIdx i).map f
  | [], i => by simp
  | x :: l, 0 => by simp
  | x :: l, i + 1 => by simp [eraseIdx_mapU f l i]
theorem mdel_u (ks : List Nat) (h : Nat) : mdel (.int .u64) (.int .u64 (h : Int)) (kvU ks) = some (kvU (ks.erase h)) := by
  unfold mdel
  rw [mfind_u]
  by_cases hm : h ∈ ks
  · rw [if_pos hm]
    simp only [Nat.zero_add, kvU]
    rw [List.erase_eq_eraseIdx_of_idxOf (i := List.idxOf h ks) rfl, eraseIdx_mapU]
  · rw [if_neg hm]
    simp only
    rw [List.erase_of_not_mem hm]
end Go.Proofs.YtflbapmjdfnhhaaGreat
set_option linter.unusedVariables false
set_option linter.unusedSimpArgs false
set_option maxRecDepth 100000
set_option maxHeartbeats 400000
namespace Go.Proofs.YtflbapmjdfnhhaaGreat
open Go.RowKit (Below)
def Off2 (r m : Nat) (st st' : Heap) : Prop := ∀ k o, k ≠ r → k ≠ m → st k = some o → st' k = some o
theorem Off2.refl (r m : Nat) (st : Heap) : Off2 r m st st := fun _ _ _ _ h => h
theorem Off2.trans {r m : Nat} {a b c : Heap} (h : Off2 r m a b) (h' : Off2 r m b c) : Off2 r m a c := fun k o h1 h2 hk => h' k o h1 h2 (h k o h1 h2 hk)
theorem New.off2 {st st' : Heap} (h : New st st') (r m : Nat) : Off2 r m st st' := fun k o _ _ hk => h k o hk
theorem Off2.put1 {r m : Nat} {st0 st : Heap} {o : HObj} (h : Off2 r m st0 st) : Off2 r m st0 (upd st r o) := fun k x h1 h2 hk => by rw [upd_ne _ _ h1]; exact h k x h1 h2 hk
theorem Off2.put2 {r m : Nat} {st0 st : Heap} {o : HObj} (h : Off2 r m st0 st) : Off2 r m st0 (upd st m o) := fun k x h1 h2 hk => by rw [upd_ne _ _ h2]; exact h k x h1 h2 hk
def KmvAt (st : Heap) (r m : Nat) (ks : List Nat) : Prop := ∃ (top : Nat) (g1 g2 : Tg), st r = some (.cells true [.map (some m), .int .u64 (top : Int)] 2 g1) ∧ st m = some (.map g2 (kvU ks)) ∧ ks.Nodup ∧ ks.length ≤ 1024 ∧ (∀ x ∈ ks, x < 2 ^ 64) ∧ top < 2 ^ 64 ∧ (ks.length = 1024 → IsTop ks top)
theorem KmvAt.ne {st : Heap} {r m : Nat} {ks : List Nat} (h : KmvAt st r m ks) : r ≠ m := by
  obtain ⟨top, g1, g2, h1, h2, _⟩ := h
  rintro rfl
  rw [h1] at h2
  cases h2
theorem KmvAt.keep {st st' : Heap} {r m : Nat} {ks : List Nat} (h : KmvAt st r m ks) (hr : ∀ o, st r = some o → st' r = some o) (hm : ∀ o, st m = some o → st' m = some o) : KmvAt st' r m ks := by
  obtain ⟨top, g1, g2, h1, h2, h3⟩ := h
  exact ⟨top, g1, g2, hr _ h1, hm _ h2, h3⟩
/-- How many were told. -/
def iterN (o : Option HObj) : Nat := match o with | some (.other (.mapIter _ _ seen _)) => seen.size | _ => 0
theorem Iter.num {st : Heap} {m b : Nat} {es L : KV} (h : Iter st m b es L) : iterN (st b) = L.length := by
  obtain ⟨ents, clock, seen, Ls, h1, h2, h3, h4, h5, h6, rfl⟩ := h
  rw [h3]
  have := congrArg List.length h4
  simpa [iterN] using this
theorem Iter.at {st : Heap} {m b : Nat} {es L : KV} (h : Iter st m b es L) : ∃ o, st b = some (.other o) := by
  obtain ⟨ents, clock, seen, Ls, q1, q2, q3, q4⟩ := h
  exact ⟨_, q3⟩
theorem kvU_append (a b : List Nat) : kvU (a ++ b) = kvU a ++ kvU b := by simp [kvU]
theorem kvU_length (a : List Nat) : (kvU a).length = a.length := by simp [kvU]
theorem kvU_mem {ks : List Nat} {k v : Value} (h : (k, v) ∈ kvU ks) : ∃ x ∈ ks, k = .int .u64 (x : Int) ∧ v = Val.i 1 := by
  obtain ⟨x, hx, he⟩ := List.mem_map.1 h
  injection he with h1 h2
  exact ⟨x, hx, h1.symm, h2.symm⟩
theorem kvU_perm {a b : List Nat} (h : (kvU a).Perm (kvU b)) : a.Perm b := by
  have := h.map (fun p : Value × Value => match p.1 with | .int _ n => n.toNat | _ => 0)
  simpa [kvU, List.map_map, Function.comp_def] using this
theorem IsTop.mem {ks : List Nat} {t : Nat} (h : IsTop ks t) (hl : 0 < ks.length) : t ∈ ks := by
  rcases h.2 with h1 | h1
  · exact h1
  · match ks, hl with
    | x :: ks, _ =>
      have := h.1 x (by simp)
      have : x = 0 := by omega
      rw [h1, this]
      simp
section
variable {W0 : World} {st : Heap}
theorem greatest_spec {r m : Nat} {x : Value} {ks : List Nat} {g1 g2 : Tg} (hr : st r = some (.cells true [.map (some m), x] 2 g1)) (hm : st m = some (.map g2 (kvU ks))) (hb : ∀ x ∈ ks, x < 2 ^ 64) : ICalls Tryz.prog W0 116 #[ptr r] st fun e st' => (∃ t : Nat, e = .returned (.int .u64 (t : Int)) ∧ t < 2 ^ 64 ∧ IsTop ks t) ∧ New st st' := by
  refine enter (args := [_]) Tryz.func116 rfl ?_
  simp [Tryz.f116, go_sem, hr]
  refine RangeI_start hm ?_
  intro b st1 hb1 hi ho
  simp [go_sem]
  have hmb := ne_of_new hm hb1
  refine ⟨fun E st' => E 9 = ptr' b ∧ ∃ (ls : List Nat) (t : Nat), Iter st' m b (kvU ks) (kvU ls) ∧ E 3 = .int .u64 (t : Int) ∧ t < 2 ^ 64 ∧ IsTop ls t ∧ (∀ k, k ≠ m → k ≠ b → st' k = st k), fun E st' => ks.length - iterN (st' b), ⟨st1, .rfl' _, by simp [go_sem], [], 0, hi, by simp [go_sem], by omega, ⟨by simp, .inr rfl⟩, ho⟩, ?_⟩
  rintro E st' ⟨e9, ls, t, hi, e3, ht, htop, ho'⟩
  have hnum := hi.num
  rw [kvU_length] at hnum
  simp [go_sem, e9]
  refine NextI_step g2 hmb hi ?_ ?_
  · intro hp
    have hp' := kvU_perm hp
    simp [go_sem, e3]
    refine ⟨⟨t, rfl, ht, fun x hx => htop.1 x (hp'.symm.subset hx), htop.2.imp (fun h => hp'.subset h) id⟩, ?_⟩
    intro k o hk
    by_cases hkm : k = m
    · subst hkm
      rw [hm] at hk; injection hk with hk; subst hk
      exact upd_same _ _ _
    · rw [upd_ne _ _ hkm, ho' k hkm (ne_of_new hk hb1)]
      exact hk
  · intro k v st2 hmem hi2 ho2
    obtain ⟨x, hx, rfl, rfl⟩ := kvU_mem hmem
    have hxb := hb x hx
    have hlen := hi2.len
    have hnum2 := hi2.num
    simp [go_sem, e9]
    refine EntryI_last hi2 ?_
    have hL : kvU ls ++ [(Value.int .u64 (x : Int), Val.i 1)] = kvU (ls ++ [x]) := by rw [kvU_append]; rfl
    rw [hL] at hi2 hlen hnum2
    rw [kvU_length, kvU_length, List.length_append] at hlen
    rw [kvU_length, List.length_append] at hnum2
    simp only [List.length_cons, List.length_nil] at hlen hnum2
    have ho3 : ∀ k, k ≠ m → k ≠ b → st2 k = st k := fun k h1 h2 => (ho2 k h2).trans (ho' k h1 h2)
    by_cases c : x ≤ t
    · have q : ((x : Int) ≤ (t : Int)) = True := eq_true (by omega)
      simp [go_sem, e3, e9, q, c]
      exact ⟨st2, .rfl' _, ⟨ls ++ [x], hi2, t, rfl, ht, ⟨fun y hy => by
        rcases List.mem_append.1 hy with hy | hy
        · exact htop.1 y hy
        · simp at hy; omega, htop.2.imp (fun h => by simp [h]) id⟩, ho3⟩, by omega⟩
    · have q : ((x : Int) ≤ (t : Int)) = False := eq_false (by omega)
      simp [go_sem, e3, e9, q, c]
      exact ⟨st2, .rfl' _, ⟨ls ++ [x], hi2, x, rfl, hxb, ⟨fun y hy => by
        rcases List.mem_append.1 hy with hy | hy
        · have := htop.1 y hy; omega
        · simp at hy; omega, .inl (by simp)⟩, ho3⟩, by omega⟩
theorem Hash_spec {r m h : Nat} {ks : List Nat} (hk : KmvAt st r m ks) (hh : h < 2 ^ 64) : ICalls Tryz.prog W0 101 #[ptr r, .int .u64 (h : Int)] st fun e st' => e = .returned (.tuple #[]) ∧ (∃ ks', KmvAt st' r m ks' ∧ ∀ S, KState ks S → KState ks' (insK S h)) ∧ Off2 r m st st' := by
  have hne := hk.ne
  have hk0 := hk
  obtain ⟨top, g1, g2, hr, hm, hnd, hlen, hb, htb, htop⟩ := hk
  have hst : ∀ S, KState ks S → KState (hashL ks top h) (insK S h) := fun S hS => hash_state hS htop
  refine enter (args := [_, _]) Tryz.func101 rfl ?_
  have hf0 := mfind_u ks h 0
  have hl : (kvU ks).length = ks.length := kvU_length ks
  by_cases c1 : h ∈ ks
  · rw [if_pos c1] at hf0
    have : hashL ks top h = ks := by unfold hashL; rw [if_pos c1]
    rw [this] at hst
    simp [Tryz.f101, go_sem, eqB, hr, hm, hf0]
    exact ⟨⟨ks, hk0, hst⟩, Off2.refl _ _ _⟩
  rw [if_neg c1] at hf0
  by_cases c2 : ks.length = 1024 ∧ top < h
  · have : hashL ks top h = ks := by unfold hashL; rw [if_neg c1, if_pos c2]
    rw [this] at hst
    have q2 : ((top : Int) < (h : Int)) = True := eq_true (by omega)
    simp [Tryz.f101, go_sem, eqB, hr, hm, hf0, hl, c2.1, q2, c2.2]
    exact ⟨⟨ks, hk0, hst⟩, Off2.refl _ _ _⟩
  have hms := mset_u ks h c1
  have hl1 : (kvU (ks ++ [h])).length = ks.length + 1 := by rw [kvU_length]; simp
  have hnd1 : (ks ++ [h]).Nodup := by
    rw [List.nodup_append]
    exact ⟨hnd, by simp, fun a ha b hb' => by simp at hb'; rintro rfl; rw [hb'] at ha; exact c1 ha⟩
  have hb1 : ∀ x ∈ ks ++ [h], x < 2 ^ 64 := fun x hx => by
    rcases List.mem_append.1 hx with hx | hx
    · exact hb x hx
    · simp at hx; omega
  have hgate : (ks.length = 1024) = False ∨ (ks.length = 1024 ∧ ¬ top < h) := by
    by_cases c : ks.length = 1024
    · exact .inr ⟨c, fun h' => c2 ⟨c, h'⟩⟩
    · exact .inl (eq_false c)
  have hr1 : upd st m (.map g2 (kvU (ks ++ [h]))) r = some (.cells true [.map (some m), .int .u64 (top : Int)] 2 g1) := by rw [upd_ne _ _ hne]; exact hr
  by_cases c3 : ks.length = 1024
  · -- full: the greatest one leaves
    have hlast : hashL ks top h = (ks ++ [h]).erase top := by unfold hashL; rw [if_neg c1, if_neg c2, if_pos (by simp; omega)]
    rw [hlast] at hst
    have q2 : ((top : Int) < (h : Int)) = False := eq_false (by omega)
    have q2' : (top < h) = False := eq_false (by omega)
    have q3 : ((1024 : Int) < (ks.length : Int) + 1) = True := eq_true (by omega)
    have htm : top ∈ ks := (htop c3).mem (by omega)
    have hel : ((ks ++ [h]).erase top).length = 1024 := by
      rw [List.length_erase_of_mem (by simp [htm])]
      simp [c3]
    have hmd := mdel_u (ks ++ [h]) top
    have hl2 : (kvU ((ks ++ [h]).erase top)).length = 1024 := by rw [kvU_length, hel]
    simp [Tryz.f101, go_sem, eqB, hr, hm, hf0, hl, c3, q2, q2', hms, hr1, hl1, upd_same, hne, upd_ne, q3]
    refine draw [0, 1, 2, 4, 5, 6, 3, 7, 8] (by kernel_rfl) ?_
    simp [go_sem, hr, hne, upd_ne, upd_same, upd_upd, hmd, hl2]
    have hbe : ∀ x ∈ (ks ++ [h]).erase top, x < 2 ^ 64 := fun x hx => hb1 x (List.erase_subset hx)
    have hre : upd st m (.map g2 (kvU ((ks ++ [h]).erase top))) r = some (.cells true [.map (some m), .int .u64 (top : Int)] 2 g1) := by rw [upd_ne _ _ hne]; exact hr
    refine (greatest_spec hre (upd_same _ _ _) hbe).mono ?_
    rintro e st2 ⟨⟨t, rfl, ht, htt⟩, k2⟩
    have hr2 := k2 _ _ hre
    have hm2 := k2 _ _ (upd_same st m (.map g2 (kvU ((ks ++ [h]).erase top))))
    simp [go_sem, hr2]
    refine ⟨⟨_, ⟨t, g1, g2, upd_same _ _ _, by rw [upd_ne _ _ (Ne.symm hne)]; exact hm2, hnd1.erase _, by omega, hbe, ht, fun _ => htt⟩, hst⟩, ?_⟩
    exact ((Off2.refl r m st).put2.trans (k2.off2 r m)).put1
  · have hlast : hashL ks top h = ks ++ [h] := by unfold hashL; rw [if_neg c1, if_neg c2, if_neg (by simp; omega)]
    rw [hlast] at hst
    have q3 : ((1024 : Int) < (ks.length : Int) + 1) = False := eq_false (by omega)
    have q1 : ((ks.length : Int) = 1024) = False := eq_false (by omega)
    by_cases c4 : ks.length + 1 = 1024
    · have q4 : ((ks.length : Int) + 1 = 1024) = True := eq_true (by omega)
      simp [Tryz.f101, go_sem, eqB, hr, hm, hf0, hl, c3, q1, hms, hr1, hl1, upd_same, hne, upd_ne, q3, q4]
      refine (greatest_spec hr1 (upd_same _ _ _) hb1).mono ?_
      rintro e st2 ⟨⟨t, rfl, ht, htt⟩, k2⟩
      have hr2 := k2 _ _ hr1
      have hm2 := k2 _ _ (upd_same st m (.map g2 (kvU (ks ++ [h]))))
      simp [go_sem, hr2]
      refine ⟨⟨_, ⟨t, g1, g2, upd_same _ _ _, by rw [upd_ne _ _ (Ne.symm hne)]; exact hm2, hnd1, by simp; omega, hb1, ht, fun _ => htt⟩, hst⟩, ?_⟩
      exact ((Off2.refl r m st).put2.trans (k2.off2 r m)).put1
    · have q4 : ((ks.length : Int) + 1 = 1024) = False := eq_false (by omega)
      simp [Tryz.f101, go_sem, eqB, hr, hm, hf0, hl, c3, q1, hms, hr1, hl1, upd_same, hne, upd_ne, q3, q4]
      exact ⟨⟨_, ⟨top, g1, g2, hr1, upd_same _ _ _, hnd1, by simp; omega, hb1, htb, fun h => absurd h (by simp; omega)⟩, hst⟩, (Off2.refl r m st).put2⟩
end
end Go.Proofs.YtflbapmjdfnhhaaGreat
set_option linter.unusedVariables false
set_option linter.unusedSimpArgs false
set_option maxRecDepth 100000
set_option maxHeartbeats 400000
namespace Go.Proofs.YtflbapmjdfnhhaaGreat
open Go.RowKit (Below)
/-- What the library's sorting of so many numbers does. -/
def SortU (W0 : World) (n : Nat) : Prop := ∀ (st : Heap) (g : Tg) (v : Value) (xs : List Nat), xs.length = n → Vec st g 1 v (cellsU xs) n → (∀ x ∈ xs, x < 2 ^ 64) → ICalls Tryz.prog W0 103 #[v] st fun e st' => (∃ w, e = .returned w) ∧ ∃ ys : List Nat, ys.Perm xs ∧ ys.Pairwise (· ≤ ·) ∧ Vec st' g 1 v (cellsU ys) n ∧ ∀ k o, (∀ b off n c, v = .slice (some ⟨b, off, none⟩) n c → k ≠ b) → st k = some o → st' k = some o
theorem le_asc : ∀ {l : List Nat}, l.Pairwise (· ≤ ·) → l.Nodup → Asc l
  | [], _, _ => List.Pairwise.nil
  | x :: l, h, hn => by
    have h' := List.pairwise_cons.1 h
    have hn' := List.nodup_cons.1 hn
    refine List.pairwise_cons.2 ⟨fun y hy => ?_, le_asc h'.2 hn'.2⟩
    have h1 := h'.1 y hy
    have h2 : x ≠ y := by rintro rfl; exact hn'.1 hy
    omega
section
variable {W0 : World} {st : Heap}
theorem insertZ_spec {v : Value} : ICalls Tryz.prog W0 127 #[v, Val.i 0, Val.i 0] st fun e st' => (∃ v, e = .returned v) ∧ st' = st := by
  refine enter (args := [_, _, _]) Tryz.func127 rfl ?_
  have hw : IntKind.i64.wrap 1 = 1 := wrap_id (by omega) (by omega)
  simp [Tryz.f127, go_sem, hw]
  refine ⟨fun E st' => st' = st ∧ E 2 = Val.i 0 ∧ E 6 = Val.i 1, fun _ _ => 0, ⟨st, .rfl' _, rfl, by simp [go_sem], by simp [go_sem]⟩, ?_⟩
  rintro E st' ⟨rfl, e2, e6⟩
  simp [go_sem, e2, e6]
theorem pdqZ_spec {v : Value} {lim : Int} : ICalls Tryz.prog W0 119 #[v, Val.i 0, Val.i 0, Val.i lim] st fun e st' => (∃ v, e = .returned v) ∧ st' = st := by
  refine enter (args := [_, _, _, _]) Tryz.func119 rfl ?_
  have hw : IntKind.i64.wrap 0 = 0 := wrap_id (by omega) (by omega)
  simp [Tryz.f119, go_sem, hw]
  refine ⟨fun E st' => st' = st ∧ E 0 = v ∧ E 1 = Val.i 0 ∧ E 2 = Val.i 0, fun _ _ => 0, ⟨st, .rfl' _, rfl, by simp [go_sem], by simp [go_sem], by simp [go_sem]⟩, ?_⟩
  rintro E st' ⟨rfl, e0, e1, e2⟩
  simp [go_sem, e0, e1, e2, hw]
  refine insertZ_spec.mono ?_
  rintro e st2 ⟨⟨v, rfl⟩, rfl⟩
  simp [go_sem]
end
theorem sortU_zero {W0 : World} : SortU W0 0 := by
  intro st g v xs hx hV hb
  have : xs = [] := List.eq_nil_of_length_eq_zero hx
  subst this
  obtain ⟨w1, wb, wc, rfl, w3, w4⟩ := hV
  refine enter (args := [_]) Tryz.func103 rfl ?_
  have hw : IntKind.u64.wrap 0 = 0 := wraps_u64 _ (by omega) (by omega)
  simp [Tryz.f103, go_sem, hw]
  refine (Len_small (n := 0) (by omega) (by omega)).mono ?_
  rintro e st1 ⟨⟨k, rfl⟩, rfl⟩
  simp [go_sem]
  refine pdqZ_spec.mono ?_
  rintro e st2 ⟨⟨v, rfl⟩, rfl⟩
  simp [go_sem]
  first | exact ⟨⟨w1, wb, wc, rfl, w3, w4⟩, fun k o _ hk => hk⟩ | exact ⟨w1, wb, wc, rfl, w3, w4⟩
section
variable {W0 : World} {st : Heap}
theorem kmvMerge_spec {st0 : Heap} {r m : Nat} {ks l : List Nat} {v : Value} (hn0 : New st0 st) (hk : KmvAt st r m ks) (hv00 : RegF st0 1 v (cellsU l) l.length) (hr0 : st0 r = none) (hm0 : st0 m = none) (hll : l.length < 2 ^ 50) (hc : checkK l = true) (hlb : ∀ x ∈ l, x < 2 ^ 64) : ICalls Tryz.prog W0 79 #[ptr r, v] st fun e st' => e = .returned (Val.i 0) ∧ (∃ ks', KmvAt st' r m ks' ∧ ∀ S, KState ks S → KState ks' (mergeK S l)) ∧ Off2 r m st st' := by
  have hv0 := hv00.new hn0
  obtain ⟨tb, tc, rfl⟩ := hv00.slice
  refine enter (args := [_, _]) Tryz.func79 rfl ?_
  simp [Tryz.f79, go_sem, eqB]
  refine (kmvCheck_spec hv0 hll).mono ?_
  rintro e st1 ⟨rfl, rfl⟩
  rw [hc]
  simp [go_sem]
  refine ⟨fun E st' => E 0 = ptr r ∧ E 14 = .slice tb l.length tc ∧ E 15 = Val.i l.length ∧ ∃ (k : Nat) (ks' : List Nat), E 16 = Val.i (k : Int) ∧ k ≤ l.length ∧ KmvAt st' r m ks' ∧ (∀ S, KState ks S → KState ks' (mergeK S (l.take k))) ∧ Off2 r m st1 st', fun E _ => match E 16 with | .int _ z => l.length - z.toNat | _ => 0,
    ⟨st1, .rfl' _, by simp [go_sem], by simp [go_sem], by simp [go_sem], 0, ks, by simp [go_sem], by omega, hk, fun S hS => by simpa [mergeK] using hS, Off2.refl _ _ _⟩, ?_⟩
  rintro E st' ⟨e0, e14, e15, k, ks', e16, hkl, hk', hS, hoff⟩
  by_cases hlt : k < l.length
  · have t1 : ((k : Int) < l.length) = True := eq_true (by omega)
    have hwk : IntKind.i64.wrap ((k : Int) + 1) = (k : Int) + 1 := wrap_id (by omega) (by omega)
    have hv' : RegF st' 1 (.slice tb l.length tc) (cellsU l) l.length := hv00.new fun j o hj => hoff j o (by rintro rfl; rw [hr0] at hj; cases hj) (by rintro rfl; rw [hm0] at hj; cases hj) (hn0 j o hj)
    obtain ⟨blk, off, rfl, hg⟩ := src_get hv'.src (by omega)
    have hg1 := hg k (by omega)
    have hv1 : (cellsU l)[k]? = some (.int .u64 (l[k] : Int)) := by simp [cellsU, List.getElem?_eq_getElem hlt]
    rw [hv1] at hg1
    have hx := hlb _ (List.getElem_mem hlt)
    have htk : l.take (k + 1) = l.take k ++ [l[k]] := by rw [List.take_add_one, List.getElem?_eq_getElem hlt]; rfl
    generalize l[k] = x at *
    simp [go_sem, e0, e14, e15, e16, t1, hlt, hg1]
    refine (Hash_spec hk' hx).mono ?_
    rintro e st2 ⟨rfl, ⟨ks2, hk2, hS2⟩, hoff2⟩
    simp [go_sem, e0, e14, e15, e16, hwk]
    refine ⟨st2, .rfl' _, ⟨k + 1, by simp, by omega, ks2, hk2, fun S hS' => ?_, hoff.trans hoff2⟩, by omega⟩
    have := hS2 _ (hS S hS')
    rw [htk]
    simpa [mergeK] using this
  · have : k = l.length := by omega
    subst this
    rw [List.take_length] at hS
    simp [go_sem, e0, e14, e15, e16]
    exact ⟨⟨ks', hk', hS⟩, hoff⟩
theorem hashes_spec {r m : Nat} {ks S : List Nat} (hk : KmvAt st r m ks) (hS : KState ks S) (hsort : SortU W0 ks.length) : ICalls Tryz.prog W0 82 #[ptr r] st fun e st' => ∃ v, e = .returned v ∧ RegF st' 1 v (cellsU S) S.length ∧ Fresh st v ∧ New st st' := by
  obtain ⟨top, g1, g2, hr, hm, hnd, hlen, hb, htb, htop⟩ := hk
  refine enter (args := [_]) Tryz.func82 rfl ?_
  simp [Tryz.f82, go_sem, eqB, hr]
  refine RangeI_start hm ?_
  intro b st1 hb1 hi ho
  simp [go_sem]
  have hmb := ne_of_new hm hb1
  have hbn : ∃ o, st1 b = some (.other o) := hi.at
  obtain ⟨bo, hbo⟩ := hbn
  have hmo : ∃ o, st1 m = some (.other o) := by
    obtain ⟨ents, clock, seen, Ls, q1, q2, q3, q4⟩ := hi
    exact ⟨_, q2⟩
  obtain ⟨mo, hmo⟩ := hmo
  have hnone : ∀ k, st1 k = none → st k = none := fun k hk => by
    by_cases h1 : k = m
    · subst h1; rw [hmo] at hk; cases hk
    · by_cases h2 : k = b
      · subst h2; exact hb1
      · rw [← ho k h1 h2]; exact hk
  refine ⟨fun E st' => E 12 = ptr' b ∧ ∃ (ls : List Nat) (v : Value), Iter st' m b (kvU ks) (kvU ls) ∧ E 3 = v ∧ Vec st' (.ty 1) 1 v (cellsU ls) ls.length ∧ Fresh st1 v ∧ (∀ k, st1 k ≠ none → k ≠ b → st' k = st1 k) ∧ Dom st1 st', fun E st' => ks.length - iterN (st' b), ⟨st1, .rfl' _, by simp [go_sem], [], .slice none 0 0, hi, by simp [go_sem], Vec.nil, Fresh.none, fun _ _ _ => rfl, Dom.refl _⟩, ?_⟩
  rintro E st' ⟨e12, ls, v, hi, e3, hV, hF, hsame, hdom⟩
  have hnum := hi.num
  rw [kvU_length] at hnum
  obtain ⟨vb, vc, rfl⟩ := hV.slice
  have hvm : ∀ b' off n c, Value.slice vb ls.length vc = .slice (some ⟨b', off, none⟩) n c → b' ≠ m ∧ b' ≠ b := fun b' off n c he => by
    have := hF _ _ _ _ he
    exact ⟨(by rintro rfl; rw [hmo] at this; cases this), (by rintro rfl; rw [hbo] at this; cases this)⟩
  simp [go_sem, e12]
  refine NextI_step g2 hmb hi ?_ ?_
  · intro hp
    have hp' := kvU_perm hp
    have hl' := hp'.length_eq
    simp [go_sem, e3]
    have hV2 : Vec (upd st' m (.map g2 (kvU ks))) (.ty 1) 1 (.slice vb ls.length vc) (cellsU ls) ls.length := hV.off fun b' off n c he => upd_ne _ _ (hvm _ _ _ _ he).1
    have hV3 : Vec (upd st' m (.map g2 (kvU ks))) (.ty 1) 1 (.slice vb ls.length vc) (cellsU ls) ks.length := hl' ▸ hV2
    refine (hsort _ (.ty 1) _ ls hl' hV3 (fun x hx => hb x (hp'.subset hx))).mono ?_
    rintro e st5 ⟨⟨w, rfl⟩, ys, hys, hle, hV5, hrest⟩
    have hyS : ys = S := asc_unique (le_asc hle ((hys.trans hp').nodup_iff.2 hnd)) hS.asc ((hys.trans hp').trans hS.perm)
    subst hyS
    have hlen5 : ys.length = ks.length := (hys.trans hp').length_eq
    simp [go_sem, e3]
    have hvn : ∀ b' off n c, Value.slice vb ls.length vc = .slice (some ⟨b', off, none⟩) n c → st b' = none := fun b' off n c he => hnone _ (hF _ _ _ _ he)
    refine ⟨⟨.ty 1, (by intro g x r; simp), ?_⟩, hvn, fun k o hk => ?_⟩
    · have := hV5.reg
      rw [← hlen5] at this
      exact this
    · refine hrest k o ?_ ?_
      · intro b' off n c he hkb
        have := hvn _ _ _ _ he
        rw [← hkb, hk] at this
        cases this
      · by_cases hkm : k = m
        · subst hkm
          rw [hm] at hk; injection hk with hk; subst hk
          exact upd_same _ _ _
        · have hkb : k ≠ b := ne_of_new hk hb1
          have h1k : st1 k = some o := (ho k hkm hkb).trans hk
          rw [upd_ne _ _ hkm, hsame k (by rw [h1k]; simp) hkb]
          exact h1k
  · intro k v st2 hmem hi2 ho2
    obtain ⟨x, hx, rfl, rfl⟩ := kvU_mem hmem
    have hxb := hb x hx
    have hlen2 := hi2.len
    have hnum2 := hi2.num
    simp [go_sem, e12]
    refine EntryI_last hi2 ?_
    have hL : kvU ls ++ [(Value.int .u64 (x : Int), Val.i 1)] = kvU (ls ++ [x]) := by rw [kvU_append]; rfl
    rw [hL] at hi2 hlen2 hnum2
    rw [kvU_length, kvU_length, List.length_append] at hlen2
    rw [kvU_length, List.length_append] at hnum2
    simp only [List.length_cons, List.length_nil] at hlen2 hnum2
    have hV2 : Vec st2 (.ty 1) 1 (.slice vb ls.length vc) (cellsU ls) ls.length := hV.off fun b' off n c he => ho2 _ (hvm _ _ _ _ he).2
    have hdom2 : Dom st' st2 := fun k hk => by
      by_cases h : k = b
      · subst h
        obtain ⟨o, ho⟩ := hi2.at
        rw [ho] at hk; cases hk
      · rw [← ho2 k h]; exact hk
    simp [go_sem, e3]
    unfold NewS
    intro nb hnb
    refine ⟨.ty 1, ?_⟩
    have k3 := (New.refl st2).add (b := nb) (o := .cells true [.int .u64 (x : Int)] 1 (.ty 1)) hnb
    simp [go_sem, e3]
    refine AppI_same (st0 := st1) (g := .ty 1) (m := 1) (ys := [.int .u64 (x : Int)]) si51 (hV2.new' k3) hF ((hdom.trans hdom2).new k3) ?_ (by simp [Value.oneCell']) (by omega) ?_
    · simp [srcCells, lkN_mk, upd_same, cellsOf]
    intro base cap st4 hV4 hF4 hs4 hd4 hx4
    simp [go_sem, e12]
    have hn1 : ∀ k, st1 k ≠ none → st4 k = st2 k := fun k hk => by
      rw [hs4 k hk]
      cases h2 : st2 k with
      | none =>
        exfalso
        exact hk (hdom k (hdom2 k h2))
      | some o => exact k3 _ _ h2
    have hi4 : Iter st4 m b (kvU ks) (kvU (ls ++ [x])) := hi2.keep (hn1 m (by rw [hmo]; simp)) (hn1 b (by rw [hbo]; simp))
    have hnum4 := hi4.num
    rw [kvU_length, List.length_append] at hnum4
    simp only [List.length_cons, List.length_nil] at hnum4
    refine ⟨st4, .rfl' _, ⟨ls ++ [x], hi4, ?_, hF4, fun k h1 h2 => (hn1 k h1).trans ((ho2 k h2).trans (hsame k h1 h2)), ((hdom.trans hdom2).new k3).trans hd4⟩, by omega⟩
    have : cellsU (ls ++ [x]) = cellsU ls ++ [.int .u64 (x : Int)] := by simp [cellsU]
    rw [this]
    simpa using hV4
end
end Go.Proofs.YtflbapmjdfnhhaaGreat
set_option linter.unusedVariables false
set_option linter.unusedSimpArgs false
set_option maxRecDepth 100000
set_option maxHeartbeats 400000
namespace Go.Proofs.YtflbapmjdfnhhaaGreat
open Go.RowKit (Below)
/-- What is known while sketches are put together. -/
structure SumD where
  h : List Nat
  S : List Nat
  g : GauD
def sum0 : SumD := ⟨List.replicate 7424 0, [], ⟨0, 0, 0, 0⟩⟩
def addS (x : SumD) (s : SkD) : SumD := ⟨mergeB x.h s.hist, mergeK x.S s.hashes, mergeG x.g s.g⟩
def tellS (x : SumD) : SkD := ⟨toI (bktL x.h 7424), x.S, x.g⟩
def sumSk (l : List SkD) : SkD := tellS (l.foldl addS sum0)
structure SumOK (x : SumD) : Prop where
  hl : x.h.length = 7424
  hb : ∀ n ∈ x.h, n < 2 ^ 64
  asc : Asc x.S
  len : x.S.length ≤ 1024
  kb : ∀ n ∈ x.S, n < 2 ^ 64
  g : GauOK x.g
  cg : checkG x.g = true
theorem lessN_iff {a b : Nat} (ha : kindN a ≠ 4) (hb : kindN b ≠ 4) : lessN a b = decide (keyN a < keyN b) := by
  unfold lessN
  simp [ha, hb]
theorem checkG_merge {a b : GauD} (oa : GauOK a) (ob : GauOK b) (ha : checkG a = true) (hb : checkG b = true) : checkG (mergeG a b) = true := by
  unfold checkG at ha hb
  unfold mergeG
  by_cases ha0 : a.n = 0
  · rw [if_pos ha0] at ha
    rw [if_pos (.inl ha0)]
    have h1 : satAdd a.n b.n = b.n := by
      have := ob.n
      rw [ha0]; unfold satAdd; rw [if_neg (by omega)]; omega
    unfold checkG
    simp only [h1, if_pos ha0]
    exact hb
  · rw [if_neg ha0] at ha
    by_cases hb0 : b.n = 0
    · rw [if_pos (.inr hb0)]
      have h1 : satAdd a.n b.n = a.n := by
        have := oa.n
        rw [hb0]; unfold satAdd; rw [if_neg (by omega)]; omega
      unfold checkG
      simp only [h1, if_neg ha0]
      exact ha
    · rw [if_neg hb0] at hb
      rw [if_neg (by omega)]
      have h1 : satAdd a.n b.n ≠ 0 := by unfold satAdd; split <;> omega
      unfold checkG
      simp only [if_neg h1]
      simp only [Bool.and_eq_true, decide_eq_true_eq, Bool.not_eq_true'] at ha hb ⊢
      obtain ⟨a1, a2, a3⟩ := ha
      obtain ⟨b1, b2, b3⟩ := hb
      rw [lessN_iff a2 a1] at a3
      rw [lessN_iff b2 b1] at b3
      rw [lessN_iff b1 a1, lessN_iff a2 b2]
      simp only [decide_eq_false_iff_not, decide_eq_true_eq] at a3 b3 ⊢
      have k1 : kindN (if keyN b.lo < keyN a.lo then b.lo else a.lo) ≠ 4 := by split <;> assumption
      have k2 : kindN (if keyN a.hi < keyN b.hi then b.hi else a.hi) ≠ 4 := by split <;> assumption
      refine ⟨k1, k2, ?_⟩
      rw [lessN_iff k2 k1]
      simp only [decide_eq_false_iff_not]
      split <;> split <;> omega
theorem addB_length (h : List Nat) (p : Int × Nat) : (addB h p).length = h.length := by simp [addB]
theorem mergeB_length : ∀ (l : List (Int × Nat)) (h : List Nat), (mergeB h l).length = h.length
  | [], h => rfl
  | p :: l, h => by
    unfold mergeB
    rw [List.foldl_cons]
    exact (mergeB_length l _).trans (addB_length h p)
theorem addB_lt {h : List Nat} (p : Int × Nat) (hb : ∀ n ∈ h, n < 2 ^ 64) : ∀ n ∈ addB h p, n < 2 ^ 64 := fun n hn => by
  rcases List.mem_or_eq_of_mem_set hn with hn | rfl
  · exact hb n hn
  · exact satAdd_lt
theorem mergeB_lt : ∀ (l : List (Int × Nat)) (h : List Nat), (∀ n ∈ h, n < 2 ^ 64) → ∀ n ∈ mergeB h l, n < 2 ^ 64
  | [], h, hb => hb
  | p :: l, h, hb => by
    unfold mergeB
    rw [List.foldl_cons]
    exact mergeB_lt l _ (addB_lt p hb)
theorem insK_facts {S : List Nat} {h : Nat} (ha : Asc S) (hb : ∀ x ∈ S, x < 2 ^ 64) (hh : h < 2 ^ 64) : Asc (insK S h) ∧ (insK S h).length ≤ 1024 ∧ ∀ x ∈ insK S h, x < 2 ^ 64 := by
  unfold insK
  refine ⟨(asc_insS S h ha).sublist (List.take_sublist _ _), by simp; omega, fun x hx => ?_⟩
  rcases (mem_insS S h x).1 ((List.take_sublist _ _).subset hx) with rfl | hx
  · exact hh
  · exact hb x hx
theorem mergeK_facts : ∀ (l S : List Nat), Asc S → S.length ≤ 1024 → (∀ x ∈ S, x < 2 ^ 64) → (∀ x ∈ l, x < 2 ^ 64) → Asc (mergeK S l) ∧ (mergeK S l).length ≤ 1024 ∧ ∀ x ∈ mergeK S l, x < 2 ^ 64
  | [], S, h1, h2, h3, _ => ⟨h1, h2, h3⟩
  | h :: l, S, h1, h2, h3, h4 => by
    unfold mergeK
    rw [List.foldl_cons]
    obtain ⟨a, b, c⟩ := insK_facts h1 h3 (h4 h (by simp))
    exact mergeK_facts l _ a b c fun x hx => h4 x (by simp [hx])
theorem sum0_ok : SumOK sum0 := ⟨List.length_replicate, fun n hn => by rw [List.eq_of_mem_replicate hn]; omega, List.Pairwise.nil, by simp [sum0], by simp [sum0], ⟨by simp [sum0], by simp [sum0], by simp [sum0], by simp [sum0]⟩, rfl⟩
theorem addS_ok {x : SumD} {s : SkD} (hx : SumOK x) (ok : SkOK s) (hc : checkS s = true) : SumOK (addS x s) := by
  unfold checkS at hc
  simp only [Bool.and_eq_true] at hc
  obtain ⟨a, b, c⟩ := mergeK_facts s.hashes x.S hx.asc hx.len hx.kb ok.hashes
  exact ⟨(mergeB_length _ _).trans hx.hl, mergeB_lt _ _ hx.hb, a, b, c, mergeG_ok hx.g ok.g, checkG_merge hx.g ok.g hx.cg hc.2.2⟩
theorem bktL_check (h : List Nat) : ∀ k, k ≤ 7424 → ∀ p : Int, (p < 0 → True) → checkB (-1) (toI (bktL h k)) = true ∧ ∀ x ∈ bktL h k, x.1 < k
  | 0, _, _, _ => ⟨rfl, by simp [bktL]⟩
  | k + 1, hk, p, _ => by
    obtain ⟨h1, h2⟩ := bktL_check h k (by omega) p (fun _ => trivial)
    rw [bktL_succ]
    split
    · rename_i hp
      refine ⟨?_, fun x hx => ?_⟩
      · have key : ∀ (l : List (Nat × Nat)) (q : Int), checkB q (toI l) = true → q < (k : Int) → (∀ x ∈ l, x.1 < k) → checkB q (toI (l ++ [(k, h.getD k 0)])) = true := by
          intro l
          induction l with
          | nil =>
            intro q _ hq _
            have e1 : ¬ ((k : Int) ≤ q) := by omega
            have e2 : ¬ (7424 ≤ (k : Int)) := by omega
            have e3 : h.getD k 0 ≠ 0 := by omega
            show checkB q [((k : Int), h.getD k 0)] = true
            simp only [checkB, e1, e2, e3, decide_false, Bool.false_or, Bool.not_false, Bool.true_and]
          | cons y l ih =>
            intro q hq hqk hl
            have hq' : checkB q (((y.1 : Int), y.2) :: toI l) = true := hq
            show checkB q (((y.1 : Int), y.2) :: toI (l ++ [(k, h.getD k 0)])) = true
            simp only [checkB, Bool.and_eq_true] at hq' ⊢
            have := hl y (by simp)
            exact ⟨hq'.1, ih _ hq'.2 (by omega) fun x hx => hl x (by simp [hx])⟩
        exact key _ _ h1 (by omega) h2
      · rcases List.mem_append.1 hx with hx | hx
        · have := h2 x hx; omega
        · simp at hx; rw [hx]; simp
    · exact ⟨h1, fun x hx => by have := h2 x hx; omega⟩
theorem bktL_val (h : List Nat) (hb : ∀ n ∈ h, n < 2 ^ 64) : ∀ k, ∀ x ∈ bktL h k, x.2 < 2 ^ 64
  | 0, x, hx => by simp [bktL] at hx
  | k + 1, x, hx => by
    rw [bktL_succ] at hx
    split at hx
    · rcases List.mem_append.1 hx with hx | hx
      · exact bktL_val h hb k x hx
      · simp at hx
        rw [hx]
        simp only
        cases hk : h[k]? with
        | none => simp
        | some n =>
          simp only [Option.getD_some]
          exact hb n (List.mem_of_getElem? hk)
    · exact bktL_val h hb k x hx
theorem tellS_ok {x : SumD} (hx : SumOK x) : SkOK (tellS x) ∧ checkS (tellS x) = true := by
  have hl := bktL_length x.h 7424
  refine ⟨⟨?_, ?_, hx.kb, ?_, hx.g⟩, ?_⟩
  · intro y hy
    obtain ⟨z, hz, rfl⟩ := List.mem_map.1 hy
    exact bktL_val _ hx.hb _ z hz
  · simp only [tellS, toI_length]
    omega
  · have := hx.len
    simp only [tellS]
    omega
  · unfold checkS tellS
    simp only [Bool.and_eq_true]
    refine ⟨(bktL_check x.h 7424 (by omega) 0 (fun _ => trivial)).1, ?_, hx.cg⟩
    unfold checkK
    have := hx.len
    simp only [Bool.and_eq_true, decide_eq_true_eq]
    exact ⟨this, (ascK_iff _).2 hx.asc⟩
section
variable {W0 : World} {st : Heap}
theorem skCheck_spec {cs : List Value} {s : SkD} (h : SkAt st cs s) (ok : SkOK s) : ICalls Tryz.prog W0 74 #[.agg cs.toArray] st fun e st' => e = .returned (.bool (checkS s)) ∧ New st st' := by
  have h0 := h
  obtain ⟨hv, kv, rfl, h1, h2⟩ := h
  obtain ⟨o1, o2, o3, o4, o5⟩ := ok
  generalize hres : checkS s = res
  unfold checkS at hres
  obtain ⟨hist, hashes, g⟩ := s
  obtain ⟨hb, hc, rfl⟩ := h1.slice
  obtain ⟨kb, kc, rfl⟩ := h2.slice
  simp only at hres o1 o2 o3 o4 o5 h1 h2
  refine enter (args := [_]) Tryz.func74 rfl ?_
  simp [Tryz.f74, go_sem]
  unfold NewP
  intro a ha
  refine ⟨.ty 1, ?_⟩
  have k1 := (New.refl st).add (b := a) (o := .cells true [.slice hb hist.length hc, .slice kb hashes.length kc, Val.u g.n, Val.u g.nans, Val.u g.lo, Val.u g.hi] 6 (.ty 1)) ha
  have g1 := upd_same st a (.cells true [.slice hb hist.length hc, .slice kb hashes.length kc, Val.u g.n, Val.u g.nans, Val.u g.lo, Val.u g.hi] 6 (.ty 1))
  generalize upd st a (.cells true [.slice hb hist.length hc, .slice kb hashes.length kc, Val.u g.n, Val.u g.nans, Val.u g.lo, Val.u g.hi] 6 (.ty 1)) = st1 at *
  simp [go_sem, g1]
  refine (histCheck_spec (h1.new k1) (by omega)).mono ?_
  rintro e st2 ⟨rfl, k2⟩
  have g2 := k2 _ _ g1
  cases c1 : checkB (-1) hist with
  | false =>
    rw [c1, Bool.false_and] at hres
    subst hres
    simp [go_sem]
    exact k1.trans k2
  | true =>
  rw [c1, Bool.true_and] at hres
  simp [go_sem, g2]
  refine (kmvCheck_spec (h2.new (k1.trans k2)) (by omega)).mono ?_
  rintro e st3 ⟨rfl, rfl⟩
  cases c2 : checkK hashes with
  | false =>
    rw [c2, Bool.false_and] at hres
    subst hres
    simp [go_sem]
    exact k1.trans k2
  | true =>
  rw [c2, Bool.true_and] at hres
  simp [go_sem, g2]
  refine ICalls.mono (by simpa [GauD.cells] using gaugeCheck_spec (W0 := W0) (st := st3) o5) ?_
  rintro e st4 ⟨rfl, k4⟩
  subst hres
  simp [go_sem]
  exact (k1.trans k2).trans k4
end
end Go.Proofs.YtflbapmjdfnhhaaGreat
