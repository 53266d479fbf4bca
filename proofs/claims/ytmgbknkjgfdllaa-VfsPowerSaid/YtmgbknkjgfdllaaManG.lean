/- Matchers: whether they may be. -/
import Derived.Test.YtmgbknkjgfdllaaManF
set_option linter.unusedVariables false
set_option linter.unusedSimpArgs false
set_option maxRecDepth 100000
set_option maxHeartbeats 2000000
namespace Go.Proofs.Ytmgbknkjgfdllaa
open Go.RowKit (Below)

def sizesM (l : List ByteArray) : Nat := (l.map (·.size)).sum
mutual
def holdsM : Mat → Nat → Int → Int → Bool × Int × Int
  | .mk op name value vals kids, deep, n, b =>
    if 8 < deep ∨ n - 1 < 0 ∨ aloneM op name value vals kids.length = false then (false, n - 1, b)
    else if b - (name.size + value.size : Nat) - sizesM vals < 0 then (false, n - 1, b - (name.size + value.size : Nat) - sizesM vals)
    else kidsM kids (deep + 1) (n - 1) (b - (name.size + value.size : Nat) - sizesM vals)
def kidsM : List Mat → Nat → Int → Int → Bool × Int × Int
  | [], _, n, b => (true, n, b)
  | k :: ks, deep, n, b => match holdsM k deep n b with
    | (true, n', b') => kidsM ks deep n' b'
    | (false, n', b') => (false, n', b')
end
def checkM (m : Mat) : Bool := (holdsM m 1 64 4096).1
mutual
theorem holdsM_bound : ∀ (m : Mat) (deep : Nat) (n b : Int), (holdsM m deep n b).2.1 ≤ n - 1 ∧ (holdsM m deep n b).2.2 ≤ b ∧ ((holdsM m deep n b).1 = true → 0 ≤ (holdsM m deep n b).2.1 ∧ 0 ≤ (holdsM m deep n b).2.2)
  | .mk op name value vals kids, deep, n, b => by
    unfold holdsM
    split
    · simp
    · split
      · simp; omega
      · have := kidsM_bound kids (deep + 1) (n - 1) (b - (name.size + value.size : Nat) - sizesM vals)
        rename_i h1 h2
        refine ⟨by omega, by omega, fun h => this.2.2 h (by omega) (by omega)⟩
theorem kidsM_bound : ∀ (ms : List Mat) (deep : Nat) (n b : Int), (kidsM ms deep n b).2.1 ≤ n ∧ (kidsM ms deep n b).2.2 ≤ b ∧ ((kidsM ms deep n b).1 = true → 0 ≤ n → 0 ≤ b → 0 ≤ (kidsM ms deep n b).2.1 ∧ 0 ≤ (kidsM ms deep n b).2.2)
  | [], deep, n, b => by unfold kidsM; simp; intro h1 h2; exact ⟨h1, h2⟩
  | k :: ks, deep, n, b => by
    unfold kidsM
    have h1 := holdsM_bound k deep n b
    split
    · rename_i n' b' h
      rw [h] at h1
      simp only at h1
      obtain ⟨t1, t2, t3⟩ := kidsM_bound ks deep n' b'
      obtain ⟨u1, u2, u3⟩ := h1
      refine ⟨by omega, by omega, fun hh h2 h3 => t3 hh (u3 trivial).1 (u3 trivial).2⟩
    · rename_i n' b' h
      rw [h] at h1
      obtain ⟨u1, u2, u3⟩ := h1
      exact ⟨by omega, u2, fun hh => by simp at hh⟩
end
theorem aloneM_bound {op : Int} {name value : ByteArray} {vals : List ByteArray} {nk : Nat} (h : aloneM op name value vals nk = true) : name.size ≤ 32 ∧ value.size ≤ 64 ∧ vals.length ≤ 16 ∧ ∀ v ∈ vals, v.size ≤ 64 := by
  have hl : labelM name.data.toList = true → name.size ≤ 32 := by
    intro h
    unfold labelM at h
    simp only [Bool.and_eq_true, decide_eq_true_eq] at h
    have := h.1.1.2
    simpa using this
  have he : ∀ s : ByteArray, s = ⟨#[]⟩ → s.size = 0 := by rintro s rfl; rfl
  have hv : valuesM vals = true → vals.length ≤ 16 ∧ ∀ v ∈ vals, v.size ≤ 64 := by
    intro h
    unfold valuesM at h
    simp only [Bool.and_eq_true, decide_eq_true_eq, List.all_eq_true] at h
    exact ⟨h.1.1.2, h.1.2⟩
  have hz : ∀ {l : List ByteArray}, l.length = 0 → l.length ≤ 16 ∧ ∀ v ∈ l, v.size ≤ 64 := by
    intro l h
    have := List.eq_nil_of_length_eq_zero h
    subst this
    simp
  unfold aloneM at h
  simp only [Bool.and_eq_true, decide_eq_true_eq, if_true, if_false] at h
  split at h
  · simp only [Bool.and_eq_true, decide_eq_true_eq] at h
    have h1 := he _ h.1.1.1
    have h2 := he _ h.1.1.2
    exact ⟨by omega, by omega, hz h.1.2⟩
  split at h
  · simp only [Bool.and_eq_true, decide_eq_true_eq] at h
    exact ⟨hl h.1.1.1, h.1.1.2, hz h.2⟩
  split at h
  · simp only [Bool.and_eq_true, decide_eq_true_eq] at h
    exact ⟨hl h.1.1.1.1, h.1.1.1.2, hv h.2⟩
  split at h
  · simp only [Bool.and_eq_true, decide_eq_true_eq] at h
    have h1 := he _ h.1.1
    have h2 := he _ h.1.2
    exact ⟨by omega, by omega, hz h.2⟩
  split at h
  · simp only [Bool.and_eq_true, decide_eq_true_eq] at h
    have h1 := he _ h.1.1.1
    have h2 := he _ h.1.1.2
    exact ⟨by omega, by omega, hz h.1.2⟩
  · cases h
theorem sizesM_drop {l : List ByteArray} {i : Nat} (h : i < l.length) : sizesM (l.drop i) = l[i].size + sizesM (l.drop (i + 1)) := by
  rw [List.drop_eq_getElem_cons h]; rfl
theorem sizesM_bound {l : List ByteArray} (h : ∀ v ∈ l, v.size ≤ 64) : sizesM l ≤ 64 * l.length := by
  induction l with
  | nil => simp [sizesM]
  | cons v l ih =>
    have h1 := h v (by simp)
    have h2 := ih fun w hw => h w (by simp [hw])
    simp only [sizesM, List.map_cons, List.sum_cons, List.length_cons] at h2 ⊢
    omega
def roomC (n b : Int) (r : Nat) : HObj := .cells true [Val.i n, Val.i b] 2 (.own r 0 60)
section
variable {W0 : World}
/-- What holds leaves. -/
def HoldsR (st : Heap) (r : Nat) (R : Bool × Int × Int) (e : Ending) (st' : Heap) : Prop := e = .returned (.bool R.1) ∧ st' r = some (roomC R.2.1 R.2.2 r) ∧ But1 r st st'
theorem holds_spec (m : Mat) : ∀ {st : Heap} {cs : List Value} {r deep : Nat} {n b : Int}, MatAt st cs m → st r = some (roomC n b r) → 0 ≤ n → n < 2 ^ 40 → 0 ≤ b → b < 2 ^ 40 → deep ≤ 100 →
    ICalls Try.prog W0 128 #[ptr r, .agg cs.toArray, Val.i deep] st (HoldsR st r (holdsM m deep n b)) := by
  intro st cs r deep n b hm hr hn0 hn1 hb0 hb1 hdeep
  match m with
  | .mk op name value vals kids =>
  have hm0 := hm
  unfold MatAt at hm
  obtain ⟨vv, kv, ks, rfl, hv, hk, hkids⟩ := hm
  obtain ⟨vb, vc, rfl⟩ := hv.slice
  obtain ⟨kb, kc, rfl⟩ := hk.slice
  generalize hRES : holdsM (.mk op name value vals kids) deep n b = RES
  unfold holdsM at hRES
  have hwn : IntKind.i64.wrap (n - 1) = n - 1 := wrap_id (by omega) (by omega)
  refine enter (args := [_, _, _]) Try.func128 rfl ?_
  refine IW_cut (fun E' st' => ∃ tb, But1 r st st' ∧ tb ≠ r ∧ E' 0 = ptr r ∧ E' 2 = Val.i deep ∧ E' 4 = ptr tb ∧ st' tb = some (.cells true [Val.i op, .string name, .string value, .slice vb vals.length vc, .slice kb kids.length kc] 5 (.ty 0)) ∧ st' r = some (roomC n b r)) ?_ ?_
  · simp [go_sem]
    unfold NewP
    intro tb htb
    refine ⟨.ty 0, ?_⟩
    have hne : tb ≠ r := Ne.symm (ne_of_new hr htb)
    have hne' := Ne.symm hne
    simp [go_sem, hne, hne', hr]
    exact ⟨(But1.refl _ _).add htb, tb, hne, rfl, upd_same _ _ _⟩
  rintro E1 st1 ⟨tb, hk1, hne, e0, e2, e4, ht, hr1⟩
  refine IW_cut (fun E' st' => But1 r st st' ∧ E' 0 = ptr r ∧ E' 2 = Val.i deep ∧ E' 4 = ptr tb ∧ st' tb = some (.cells true [Val.i op, .string name, .string value, .slice vb vals.length vc, .slice kb kids.length kc] 5 (.ty 0)) ∧ st' r = some (roomC (n - 1) b r)) ?_ ?_
  · simp [go_sem, e0, e2, e4, hr1, roomC, hwn, hne]
    exact ⟨hk1.put, ht⟩
  clear hr1 ht hk1 e0 e2 e4
  rintro E2 st2 ⟨hk2, e0, e2, e4, ht, hr2⟩
  have hRb : ∀ x, RegF st 1 x (vals.map .string) vals.length → RegF st2 1 x (vals.map .string) vals.length := fun x h => h.but hk2 hr
  refine IW_cut' (fun E' st' => (¬ (8 < deep ∨ n - 1 < 0 ∨ aloneM op name value vals kids.length = false)) ∧ But1 r st st' ∧ E' 0 = ptr r ∧ E' 2 = Val.i deep ∧ E' 4 = ptr tb ∧ st' tb = some (.cells true [Val.i op, .string name, .string value, .slice vb vals.length vc, .slice kb kids.length kc] 5 (.ty 0)) ∧ st' r = some (roomC (n - 1) b r)) ?_ ?_
  · by_cases h1 : 8 < deep
    · have q1 : ((8 : Int) < deep) = True := eq_true (by omega)
      rw [if_pos (.inl h1)] at hRES
      subst hRES
      simp [go_sem, e0, e2, e4, q1]
      exact ⟨rfl, hr2, hk2⟩
    have q1 : ((8 : Int) < deep) = False := eq_false (by omega)
    by_cases h2 : n - 1 < 0
    · have q2 : (n - 1 < 0) = True := eq_true h2
      rw [if_pos (.inr (.inl h2))] at hRES
      subst hRES
      have hr2' := hr2
      unfold roomC at hr2'
      simp [go_sem, e0, e2, e4, q1, hr2', q2]
      exact ⟨rfl, hr2, hk2⟩
    have q2 : (n - 1 < 0) = False := eq_false h2
    have hr2' := hr2
    unfold roomC at hr2'
    simp [go_sem, e0, e2, e4, q1, hr2', q2, ht]
    refine (alone_spec (ks := ks) (hRb _ hv) (hk.but hk2 hr)).mono ?_
    rintro e st3 ⟨rfl, hn3⟩
    have hne2 : tb ≠ r := hne
    cases hal : aloneM op name value vals kids.length with
    | true =>
      simp [go_sem, e0, e2, e4]
      exact ⟨by omega, hk2.trans (hn3.but r), hn3 _ _ ht, hn3 _ _ hr2⟩
    | false =>
      rw [if_pos (.inr (.inr hal))] at hRES
      subst hRES
      simp [go_sem, e0, e2, e4]
      exact ⟨rfl, hn3 _ _ hr2, hk2.trans (hn3.but r)⟩
  clear hr2 ht hk2 e0 e2 e4 hRb
  rintro E3 st3 ⟨hcond, hk3, e0, e2, e4, ht, hr3⟩
  rw [if_neg hcond] at hRES
  have hal : aloneM op name value vals kids.length = true := by
    cases h : aloneM op name value vals kids.length with
    | true => rfl
    | false => exact absurd (.inr (.inr h)) hcond
  obtain ⟨z1, z2, z3, z4⟩ := aloneM_bound hal
  have z5 := sizesM_bound z4
  have hnv : IntKind.i64.wrap ((name.size : Int) + value.size) = (name.size : Int) + value.size := wrap_id (by omega) (by omega)
  have hbv : IntKind.i64.wrap (b - ((name.size : Int) + value.size)) = b - ((name.size : Int) + value.size) := wrap_id (by omega) (by omega)
  refine IW_cut (fun E' st' => But1 r st st' ∧ E' 0 = ptr r ∧ E' 2 = Val.i deep ∧ E' 4 = ptr tb ∧ st' tb = some (.cells true [Val.i op, .string name, .string value, .slice vb vals.length vc, .slice kb kids.length kc] 5 (.ty 0)) ∧ st' r = some (roomC (n - 1) (b - ((name.size : Int) + value.size)) r)) ?_ ?_
  · simp [go_sem]
    refine draw [0, 1, 2, 4, 7, 3, 5, 6, 8, 9, 10, 11, 12, 13, 14] (by kernel_rfl) ?_
    unfold roomC at hr3
    simp [go_sem, e0, e2, e4, hr3, ht, hnv, hbv, hne]
    exact ⟨hk3.put, rfl⟩
  clear hr3 ht hk3 e0 e2 e4
  rintro E4 st4 ⟨hk4, e0, e2, e4, ht, hr4⟩
  obtain ⟨b1, hb1'⟩ : ∃ b1, b - ((name.size : Int) + value.size) = b1 := ⟨_, rfl⟩
  rw [hb1'] at hr4
  have hb2 : b - (name.size + value.size : Nat) - sizesM vals = b1 - sizesM vals := by omega
  rw [hb2] at hRES
  refine IW_cut (fun E' st' => But1 r st st' ∧ E' 0 = ptr r ∧ E' 2 = Val.i deep ∧ E' 4 = ptr tb ∧ st' tb = some (.cells true [Val.i op, .string name, .string value, .slice vb vals.length vc, .slice kb kids.length kc] 5 (.ty 0)) ∧ st' r = some (roomC (n - 1) (b1 - sizesM vals) r)) ?_ ?_
  · simp [go_sem, e0, e2, e4, ht]
    refine ⟨fun E st' => But1 r st st' ∧ E 0 = ptr r ∧ E 2 = Val.i deep ∧ E 4 = ptr tb ∧ st' tb = some (.cells true [Val.i op, .string name, .string value, .slice vb vals.length vc, .slice kb kids.length kc] 5 (.ty 0)) ∧ E 47 = .slice vb vals.length vc ∧ E 48 = Val.i vals.length ∧ ∃ (i : Nat) (c : Int), E 49 = Val.i i ∧ i ≤ vals.length ∧ st' r = some (roomC (n - 1) c r) ∧ c - sizesM (vals.drop i) = b1 - sizesM vals ∧ c ≤ b1 ∧ b1 - sizesM vals ≤ c,
      fun E _ => match E 49 with | .int _ i => vals.length - i.toNat | _ => 0, ⟨st4, .rfl' _, hk4, by simp [go_sem, e0], by simp [go_sem, e2], by simp [go_sem, e4], ht, by simp [go_sem], by simp [go_sem], 0, b1, by simp [go_sem], by omega, hr4, by simp, by omega, by omega⟩, ?_⟩
    clear hr4 ht hk4 e0 e2 e4
    rintro E st5 ⟨hk5, e0, e2, e4, ht, e47, e48, i, c, e49, hi, hr5, hc, hc1, hc2⟩
    by_cases hlt : i < vals.length
    · have hlt' : ((i : Int) < vals.length) = True := eq_true (by omega)
      obtain ⟨blk, off, rfl, hg⟩ := src_get (hv.but hk5 hr).src (by omega)
      have hgi := hg i (by omega)
      have hvi : vals[i]? = some vals[i] := List.getElem?_eq_getElem hlt
      have hgv : (vals.map Value.string)[i]? = some (.string vals[i]) := by simp [hvi]
      rw [hgv] at hgi
      have hsz := sizesM_drop hlt
      have hvz := z4 vals[i] (List.getElem_mem hlt)
      generalize vals[i] = v at hgi hsz hvz
      have hwi : IntKind.i64.wrap ((i : Int) + 1) = ((i + 1 : Nat) : Int) := by rw [wrap_id (by omega) (by omega)]; omega
      have hwc : IntKind.i64.wrap (c - (v.size : Int)) = c - v.size := wrap_id (by omega) (by omega)
      have hr5' := hr5
      unfold roomC at hr5'
      simp [go_sem, e0, e2, e4, e47, e48, e49, hlt, hlt', hgi, hr5', hwi, hwc]
      refine ⟨_, .rfl' _, ⟨hk5.put, by rw [upd_ne _ _ hne]; exact ht, i + 1, by omega, by omega, c - v.size, by rw [upd_same]; rfl, by omega, by omega, by omega⟩, by omega⟩
    · have hlt' : ((i : Int) < vals.length) = False := eq_false (by omega)
      have : i = vals.length := by omega
      subst this
      have : sizesM (vals.drop vals.length) = 0 := by rw [List.drop_length]; rfl
      have hcb : c = b1 - sizesM vals := by omega
      subst hcb
      simp [go_sem, e0, e2, e4, e47, e48, e49]
      exact ⟨hk5, ht, hr5⟩
  clear hr4 ht hk4 e0 e2 e4
  rintro E5 st5 ⟨hk5, e0, e2, e4, ht, hr5⟩
  refine IW_cut' (fun E' st' => (¬ (b1 - sizesM vals < 0)) ∧ But1 r st st' ∧ E' 0 = ptr r ∧ E' 2 = Val.i deep ∧ E' 4 = ptr tb ∧ st' tb = some (.cells true [Val.i op, .string name, .string value, .slice vb vals.length vc, .slice kb kids.length kc] 5 (.ty 0)) ∧ st' r = some (roomC (n - 1) (b1 - sizesM vals) r)) ?_ ?_
  · have hr5' := hr5
    unfold roomC at hr5'
    by_cases h1 : b1 - sizesM vals < 0
    · have q1 : (b1 - sizesM vals < 0) = True := eq_true h1
      rw [if_pos h1] at hRES
      subst hRES
      simp [go_sem, e0, e2, e4, hr5', q1]
      exact ⟨rfl, hr5, hk5⟩
    · have q1 : (b1 - sizesM vals < 0) = False := eq_false h1
      simp [go_sem, e0, e2, e4, hr5', q1]
      exact ⟨hk5, ht, rfl⟩
  clear hr5 ht hk5 e0 e2 e4
  rintro E6 st6 ⟨hcond2, hk6, e0, e2, e4, ht, hr6⟩
  rw [if_neg hcond2] at hRES
  obtain ⟨b2, hb2'⟩ : ∃ b2, b1 - sizesM vals = b2 := ⟨_, rfl⟩
  rw [hb2'] at hRES hr6 hcond2
  simp [go_sem, e0, e2, e4, ht]
  have hd8 : deep ≤ 8 := by
    rcases Nat.lt_or_ge 8 deep with h | h
    · exact absurd (.inl h) hcond
    · exact h
  refine ⟨fun E st' => But1 r st st' ∧ E 0 = ptr r ∧ E 2 = Val.i deep ∧ E 69 = .slice kb kids.length kc ∧ E 70 = Val.i kids.length ∧ ∃ (i : Nat) (n' b' : Int), E 71 = Val.i i ∧ i ≤ kids.length ∧ st' r = some (roomC n' b' r) ∧ 0 ≤ n' ∧ n' < 2 ^ 40 ∧ 0 ≤ b' ∧ b' < 2 ^ 40 ∧ (i : Int) ≤ n - n' ∧ kidsM (kids.drop i) (deep + 1) n' b' = RES,
    fun E _ => match E 71 with | .int _ i => kids.length - i.toNat | _ => 0, ⟨st6, .rfl' _, hk6, by simp [go_sem, e0], by simp [go_sem, e2], by simp [go_sem], by simp [go_sem], 0, n - 1, b2, by simp [go_sem], by omega, hr6, by omega, by omega, by omega, by omega, by omega, by simpa using hRES⟩, ?_⟩
  clear hr6 ht hk6 e0 e2 e4
  rintro E st7 ⟨hk7, e0, e2, e69, e70, i, n', b', e71, hi, hr7, hn0', hn1', hb0', hb1', hin, hrec⟩
  by_cases hlt : i < kids.length
  · have hlt' : ((i : Int) < kids.length) = True := eq_true (by omega)
    have hkr := hk.but hk7 hr
    obtain ⟨g5, hg5, hl5, base5, cap5, hv5, hc5, hreg5⟩ := hkr
    injection hv5 with q1 q2 q3; subst q1; subst q3
    rcases hreg5 with h0 | ⟨blk, off, rw5, ys5, m5, rfl, hs5, hp5, ho5⟩
    · omega
    have hki : kids[i]? = some kids[i] := List.getElem?_eq_getElem hlt
    have hmem : kids[i] ∈ kids := List.getElem_mem hlt
    obtain ⟨hmi, hil⟩ := KidsAt.get (KidsAt.mono (fun _ _ _ _ h => h.but hk7 hr) _ _ hkids) hki
    have hd : kids.drop i = kids[i] :: kids.drop (i + 1) := List.drop_eq_getElem_cons hlt
    rw [hd] at hrec
    unfold kidsM at hrec
    have hcell : ((ys5.drop (off + i * 5)).take 5) = (ks.drop (i * 5)).take 5 := by
      obtain ⟨t, ht⟩ := hp5
      have a1 : i * 5 ≤ ks.length := by omega
      have a2 : 5 ≤ (ks.drop (i * 5)).length := by rw [List.length_drop]; omega
      rw [← List.drop_drop, ← ht, List.drop_append_of_le_length a1, List.take_append_of_le_length a2]
    have hlen5 : off + i * 5 + 5 ≤ ys5.length := by
      obtain ⟨t, ht⟩ := hp5
      have := congrArg List.length ht
      simp at this
      omega
    have hwi : IntKind.i64.wrap ((i : Int) + 1) = ((i + 1 : Nat) : Int) := by rw [wrap_id (by omega) (by omega)]; omega
    have hwd : IntKind.i64.wrap ((deep : Int) + 1) = ((deep + 1 : Nat) : Int) := by rw [wrap_id (by omega) (by omega)]; omega
    simp [go_sem, e0, e2, e69, e70, e71, hlt, hlt', hs5, hlen5, hcell]
    obtain ⟨⟨op', name', value', vals', kids'⟩, hkk⟩ : ∃ k, kids[i] = k := ⟨_, rfl⟩
    have hmi' := hmi
    rw [hkk] at hmi'
    unfold MatAt at hmi'
    obtain ⟨vv', kv', ks', hcs, hv', hk', -⟩ := hmi'
    obtain ⟨vb', vc', rfl⟩ := hv'.slice
    obtain ⟨kb', kc', rfl⟩ := hk'.slice
    rw [hcs] at hmi ⊢
    unfold NewP
    intro tk htk
    refine ⟨.ty 0, ?_⟩
    simp [go_sem, e0, e2, e69, e70, e71, hwd]
    have hkt : tk ≠ r := Ne.symm (ne_of_new hr7 htk)
    have hN : New st7 (upd st7 tk (.cells true [Val.i op', .string name', .string value', .slice vb' vals'.length vc', .slice kb' kids'.length kc'] 5 (.ty 0))) := (New.refl _).add htk
    have hB := holdsM_bound kids[i] (deep + 1) n' b'
    refine (holds_spec kids[i] (deep := deep + 1) (hmi.new hN) (hN _ _ hr7) hn0' hn1' hb0' hb1' (by omega)).mono ?_
    rintro e st8 ⟨rfl, hr8, hk8⟩
    generalize holdsM kids[i] (deep + 1) n' b' = H at *
    obtain ⟨ok, n8, b8⟩ := H
    obtain ⟨u1, u2, u3⟩ := hB
    simp only at u1 u2 u3 hr8 hrec
    have hk9 : But1 r st st8 := (hk7.trans (hN.but r)).trans hk8
    cases ok with
    | true =>
      obtain ⟨u4, u5⟩ := u3 rfl
      simp only at hrec
      simp [go_sem, e0, e2, e69, e70, e71, hwi]
      refine ⟨_, .rfl' _, ⟨hk9, i + 1, by omega, by omega, n8, b8, hr8, by omega, by omega, by omega, by omega, by omega, hrec⟩, by omega⟩
    | false =>
      simp only at hrec
      subst hrec
      simp [go_sem, e0, e2, e69, e70, e71]
      exact ⟨rfl, hr8, hk9⟩
  · have hlt' : ((i : Int) < kids.length) = False := eq_false (by omega)
    have : i = kids.length := by omega
    subst this
    rw [List.drop_length] at hrec
    unfold kidsM at hrec
    subst hrec
    simp [go_sem, e0, e2, e69, e70, e71]
    exact ⟨rfl, hr7, hk7⟩
termination_by SizeOf.sizeOf m
decreasing_by
  have := List.sizeOf_lt_of_mem hmem
  simp
  omega
end
end Go.Proofs.Ytmgbknkjgfdllaa
