/- Matchers: values, what a matcher may be alone. -/
import Derived.Test.YtmgbknkjgfdllaaManE
import Derived.Test.YtmgbknkjgfdllaaSepE
set_option linter.unusedVariables false
set_option linter.unusedSimpArgs false
set_option maxRecDepth 100000
set_option maxHeartbeats 2000000
namespace Go.Proofs.Ytmgbknkjgfdllaa
open Go.RowKit (Below)

theorem leT_not (a b : ByteArray) : (Op.bytesLess a.data.toList b.data.toList || strEq a b) = !ltT b a := by
  cases h : ltT b a with
  | true =>
    have h1 := ltT_ok.asymm _ _ h
    have h2 : strEq a b = false := by
      cases h3 : strEq a b with
      | false => rfl
      | true =>
        exfalso
        have : a = b := by
          unfold strEq at h3
          cases a; cases b
          simp at h3
          rw [h3]
        subst this
        rw [h] at h1; cases h1
    show (ltT a b || strEq a b) = !true
    rw [h1, h2]; rfl
  | false =>
    cases h1 : ltT a b with
    | true =>
      show (ltT a b || strEq a b) = !false
      rw [h1]; rfl
    | false =>
      have := ltT_total a b h1 h
      subst this
      show (ltT a a || strEq a a) = !false
      have : strEq a a = true := by simp [strEq]
      rw [this]; simp
section
variable {W0 : World} {st : Heap}
theorem values_spec {vv : Value} {l : List ByteArray} (h : RegF st 1 vv (l.map .string) l.length) : ICalls Try.prog W0 173 #[vv] st fun e st' => e = .returned (.bool (valuesM l)) ∧ st' = st := by
  obtain ⟨base, cap, rfl⟩ := h.slice
  refine enter (args := [_]) Try.func173 rfl ?_
  generalize hres : valuesM l = res
  unfold valuesM at hres
  by_cases h1 : l.length < 1
  · have q1 : ((l.length : Int) < 1) = True := eq_true (by omega)
    have : res = false := by rw [← hres]; have : decide (1 ≤ l.length) = false := decide_eq_false (by omega)
                             rw [this]; simp
    subst this
    simp [Try.f173, go_sem, q1]
  have q1 : ((l.length : Int) < 1) = False := eq_false (by omega)
  by_cases h2 : 16 < l.length
  · have q2 : ((16 : Int) < l.length) = True := eq_true (by omega)
    have : res = false := by rw [← hres]; have : decide (l.length ≤ 16) = false := by simp; omega
                             rw [this]; simp
    subst this
    simp [Try.f173, go_sem, q1, q2]
  have q2 : ((16 : Int) < l.length) = False := eq_false (by omega)
  have hall : ((l.drop 0).all (fun v => decide (v.size ≤ 64)) && risesT (l.drop (0 - 1))) = res := by
    rw [← hres]
    have e1 : decide (1 ≤ l.length) = true := by simp; omega
    have e2 : decide (l.length ≤ 16) = true := by simp; omega
    rw [e1, e2]; simp
  simp [Try.f173, go_sem, q1, q2]
  obtain ⟨blk, off, rfl, hg⟩ := src_get h.src (by omega)
  refine ⟨fun E st' => st' = st ∧ E 0 = .slice (some ⟨blk, off, none⟩) l.length cap ∧ E 13 = .slice (some ⟨blk, off, none⟩) l.length cap ∧ E 14 = Val.i l.length ∧ ∃ i : Nat, E 15 = Val.i i ∧ i ≤ l.length ∧ ((l.drop i).all (fun v => decide (v.size ≤ 64)) && risesT (l.drop (i - 1))) = res,
    fun E _ => match E 15 with | .int _ i => l.length - i.toNat | _ => 0, ⟨st, .rfl' _, rfl, by simp [go_sem], by simp [go_sem], by simp [go_sem], 0, by simp [go_sem], by omega, hall⟩, ?_⟩
  rintro E st' ⟨rfl, e0, e13, e14, i, e15, hi, hrec⟩
  by_cases hlt : i < l.length
  · have hlt' : ((i : Int) < l.length) = True := eq_true (by omega)
    have hgi := hg i (by omega)
    have hv : l[i]? = some l[i] := List.getElem?_eq_getElem hlt
    have hgv : (l.map Value.string)[i]? = some (.string l[i]) := by simp [hv]
    rw [hgv] at hgi
    have hd : l.drop i = l[i] :: l.drop (i + 1) := List.drop_eq_getElem_cons hlt
    rw [hd] at hrec
    simp only [List.all_cons] at hrec
    obtain ⟨v, hvv⟩ : ∃ v, l[i] = v := ⟨_, rfl⟩
    rw [hvv] at hgi hrec hd
    have hwi : IntKind.i64.wrap ((i : Int) + 1) = ((i + 1 : Nat) : Int) := by rw [wrap_id (by omega) (by omega)]; omega
    by_cases hbig : 64 < v.size
    · have p1 : ((64 : Int) < v.size) = True := eq_true (by omega)
      have : res = false := by rw [← hrec]; have : decide (v.size ≤ 64) = false := by simp; omega
                               rw [this]; simp
      subst this
      simp [go_sem, e0, e13, e14, e15, hlt, hlt', hgi, p1]
    have p1 : ((64 : Int) < v.size) = False := eq_false (by omega)
    have hsm : decide (v.size ≤ 64) = true := by simp; omega
    rw [hsm] at hrec
    simp only [Bool.true_and] at hrec
    by_cases hi0 : i = 0
    · have p2 : (0 < i) = False := eq_false (by omega)
      simp [go_sem, e0, e13, e14, e15, hlt, hlt', hgi, p1, p2, hwi]
      refine ⟨st', .rfl' _, ⟨rfl, i + 1, by omega, by omega, ?_⟩, by omega⟩
      subst hi0
      simpa using hrec
    · have p2 : (0 < i) = True := eq_true (by omega)
      have hwm : IntKind.i64.wrap ((i : Int) - 1) = ((i - 1 : Nat) : Int) := by rw [wrap_id (by omega) (by omega)]; omega
      have hltm : i - 1 < l.length := by omega
      have hgm := hg (i - 1) (by omega)
      have hp : l[i - 1]? = some l[i - 1] := List.getElem?_eq_getElem hltm
      have hgp : (l.map Value.string)[i - 1]? = some (.string l[i - 1]) := by simp [hp]
      rw [hgp] at hgm
      obtain ⟨p, hpp⟩ : ∃ p, l[i - 1] = p := ⟨_, rfl⟩
      rw [hpp] at hgm
      have hd2 : l.drop (i - 1) = p :: v :: l.drop (i + 1) := by
        rw [List.drop_eq_getElem_cons hltm, hpp, show i - 1 + 1 = i by omega, hd]
      rw [hd2] at hrec
      simp only [risesT] at hrec
      have hle := leT_not v p
      have hmI : ((i - 1 : Nat) : Int) < l.length := by omega
      cases hlt2 : ltT p v with
      | false =>
        rw [hlt2] at hrec hle
        have : res = false := by rw [← hrec]; simp
        subst this
        simp [go_sem, e0, e13, e14, e15, hlt, hlt', hgi, p1, p2, hwi, hwm, hgm, hltm, hle]
      | true =>
        rw [hlt2] at hrec hle
        simp [go_sem, e0, e13, e14, e15, hlt, hlt', hgi, p1, p2, hwi, hwm, hgm, hltm, hle]
        refine ⟨st', .rfl' _, ⟨rfl, i + 1, by omega, by omega, ?_⟩, by omega⟩
        rw [show i + 1 - 1 = i by omega, hd]
        simpa using hrec
  · have hlt' : ((i : Int) < l.length) = False := eq_false (by omega)
    have : i = l.length := by omega
    subst this
    rw [List.drop_eq_nil_of_le (Nat.le_refl _)] at hrec
    have : risesT (l.drop (l.length - 1)) = true := by
      have : (l.drop (l.length - 1)).length = 1 := by simp; omega
      match l.drop (l.length - 1), this with
      | [x], _ => rfl
    rw [this] at hrec
    simp at hrec
    subst hrec
    simp [go_sem, e0, e13, e14, e15]
theorem alone_spec {op : Int} {name value : ByteArray} {vv kv : Value} {vals : List ByteArray} {ks : List Value} {nk : Nat} (hv : RegF st 1 vv (vals.map .string) vals.length) (hk : RegF st 5 kv ks nk) :
    ICalls Try.prog W0 149 #[.agg #[Val.i op, .string name, .string value, vv, kv]] st fun e st' => e = .returned (.bool (aloneM op name value vals nk)) ∧ New st st' := by
  obtain ⟨vb, vc, rfl⟩ := hv.slice
  obtain ⟨kb, kc, rfl⟩ := hk.slice
  refine enter (args := [_]) Try.func149 rfl ?_
  obtain ⟨named, hnamed⟩ : ∃ b, (labelM name.data.toList && decide (value.size ≤ 64) && decide (nk = 0)) = b := ⟨_, rfl⟩
  obtain ⟨plain, hplain⟩ : ∃ b, (decide (name = ⟨#[]⟩) && decide (value = ⟨#[]⟩) && decide (vals.length = 0)) = b := ⟨_, rfl⟩
  have hM : aloneM op name value vals nk = if op = 0 then plain && decide (nk = 0) else if op = 1 ∨ op = 2 ∨ op = 3 then named && decide (vals.length = 0) else if op = 4 then named && decide (value = ⟨#[]⟩) && valuesM vals else if op = 5 ∨ op = 6 then plain else if op = 7 then plain && decide (nk = 1) else false := by
    unfold aloneM; rw [hnamed, hplain]
  refine IW_cut (fun E' st' => ∃ tb, New st st' ∧ E' 1 = ptr tb ∧ st' tb = some (.cells true [Val.i op, .string name, .string value, .slice vb vals.length vc, .slice kb nk kc] 5 (.ty 0))) ?_ ?_
  · simp [go_sem]
    unfold NewP
    intro tb htb
    refine ⟨.ty 0, ?_⟩
    simp [go_sem]
    exact (New.refl _).add htb
  rintro E1 st1 ⟨tb, hn, e1, ht⟩
  refine IW_cut (fun E' st' => st' = st1 ∧ E' 1 = ptr tb ∧ E' 3 = .bool named) ?_ ?_
  · simp [go_sem, e1, ht]
    refine labelName_spec.mono ?_
    rintro e st2 ⟨rfl, rfl⟩
    cases hL : labelM name.data.toList with
    | false =>
      rw [hL] at hnamed
      simp at hnamed
      subst hnamed
      simp [go_sem, e1, ht]
    | true =>
      rw [hL] at hnamed
      by_cases hB : value.size ≤ 64
      · have B : ((value.size : Int) ≤ 64) = True := eq_true (by omega)
        simp [hB] at hnamed
        simp [go_sem, e1, ht, B, hnamed]
      · have B : ((value.size : Int) ≤ 64) = False := eq_false (by omega)
        simp [hB] at hnamed
        subst hnamed
        simp [go_sem, e1, ht, B]
  rintro E2 st2 ⟨rfl, e1', e3⟩
  refine IW_cut (fun E' st' => st' = st2 ∧ E' 1 = ptr tb ∧ E' 3 = .bool named ∧ E' 4 = .bool plain) ?_ ?_
  · by_cases hD : name = ⟨#[]⟩
    · by_cases hF : value = ⟨#[]⟩
      · simp [hD, hF] at hplain
        simp [go_sem, e1', ht, e3, hD, hF, hplain]
      · simp [hD, hF] at hplain
        subst hplain
        simp [go_sem, e1', ht, e3, hD, hF]
    · simp [hD] at hplain
      subst hplain
      simp [go_sem, e1', ht, e3, hD]
  rintro E3 st3 ⟨rfl, e1, e3, e4⟩
  have fin : ∀ r, aloneM op name value vals nk = r → (Ending.returned (.bool r) = .returned (.bool (aloneM op name value vals nk)) ∧ New st st3) := fun r h => ⟨by rw [h], hn⟩
  rw [hM]
  have hF : (value = ⟨#[]⟩) = True ∨ (value = ⟨#[]⟩) = False := by
    by_cases h : value = ⟨#[]⟩
    · exact .inl (eq_true h)
    · exact .inr (eq_false h)
  have O : op = 0 ∨ op = 1 ∨ op = 2 ∨ op = 3 ∨ op = 4 ∨ op = 5 ∨ op = 6 ∨ op = 7 ∨ ((op = 0) = False ∧ (op = 1) = False ∧ (op = 2) = False ∧ (op = 3) = False ∧ (op = 4) = False ∧ (op = 5) = False ∧ (op = 6) = False ∧ (op = 7) = False) := by
    by_cases h0 : op = 0; exact .inl h0
    by_cases h1 : op = 1; exact .inr (.inl h1)
    by_cases h2 : op = 2; exact .inr (.inr (.inl h2))
    by_cases h3 : op = 3; exact .inr (.inr (.inr (.inl h3)))
    by_cases h4 : op = 4; exact .inr (.inr (.inr (.inr (.inl h4))))
    by_cases h5 : op = 5; exact .inr (.inr (.inr (.inr (.inr (.inl h5)))))
    by_cases h6 : op = 6; exact .inr (.inr (.inr (.inr (.inr (.inr (.inl h6))))))
    by_cases h7 : op = 7; exact .inr (.inr (.inr (.inr (.inr (.inr (.inr (.inl h7)))))))
    exact .inr (.inr (.inr (.inr (.inr (.inr (.inr (.inr ⟨eq_false h0, eq_false h1, eq_false h2, eq_false h3, eq_false h4, eq_false h5, eq_false h6, eq_false h7⟩)))))))
  have hv3 := hv.new hn
  rcases O with rfl | rfl | rfl | rfl | rfl | rfl | rfl | rfl | ⟨o0, o1, o2, o3, o4, o5, o6, o7⟩
  · cases plain <;> simp [go_sem, e1, e3, e4, ht] <;> exact hn
  · cases named <;> simp [go_sem, e1, e3, e4, ht] <;> exact hn
  · cases named <;> simp [go_sem, e1, e3, e4, ht] <;> exact hn
  · cases named <;> simp [go_sem, e1, e3, e4, ht] <;> exact hn
  · cases named with
    | false => simp [go_sem, e1, e3, e4, ht]; exact hn
    | true =>
      rcases hF with hF | hF
      · simp [go_sem, e1, e3, e4, ht, hF]
        refine (values_spec hv3).mono ?_
        rintro e st4 ⟨rfl, rfl⟩
        simp [go_sem]
        exact hn
      · simp [go_sem, e1, e3, e4, ht, hF]; exact hn
  · cases plain <;> simp [go_sem, e1, e3, e4, ht] <;> exact hn
  · cases plain <;> simp [go_sem, e1, e3, e4, ht] <;> exact hn
  · cases plain <;> simp [go_sem, e1, e3, e4, ht] <;> first | exact hn | exact ⟨by omega, hn⟩
  · simp [go_sem, e1, e3, e4, ht, o0, o1, o2, o3, o4, o5, o6, o7]; exact hn
end
end Go.Proofs.Ytmgbknkjgfdllaa
