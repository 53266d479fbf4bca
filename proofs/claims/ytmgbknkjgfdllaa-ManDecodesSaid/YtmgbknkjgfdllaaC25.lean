/- The document's own look at a matcher: its parts. -/
import Derived.Test.YtmgbknkjgfdllaaC20
import Derived.Test.YtmgbknkjgfdllaaC12
import Derived.Test.YtmgbknkjgfdllaaC21
set_option linter.unusedVariables false
set_option linter.unusedSimpArgs false
set_option maxRecDepth 100000
set_option maxHeartbeats 2000000
namespace Go.Proofs.Ytmgbknkjgfdllaa
open Go.RowKit (Below)
def NInv (s : ByteArray) (i : Nat) : Prop := (i = 0 ∨ ¬ (48 ≤ (s.data.toList.getD 0 0).toNat ∧ (s.data.toList.getD 0 0).toNat ≤ 57)) ∧ (s.data.toList.all fun x => okChar x.toNat) = ((s.data.toList.drop i).all fun x => okChar x.toNat)
section
variable {W0 : World} {st : Heap}
theorem refName_spec {s : ByteArray} (hs : s.size < 2 ^ 60) : ICalls Try.prog W0 151 #[.string s] st fun e st' => e = .returned (.bool (labelM s.data.toList)) ∧ st' = st := by
  refine enter (args := [_]) Try.func151 rfl ?_
  have hsz : s.data.toList.length = s.size := by simp
  generalize hres : labelM s.data.toList = res
  unfold labelM at hres
  rw [hsz] at hres
  simp [Try.f151, go_sem]
  refine ⟨fun E st' => st' = st ∧ E 0 = .string s ∧ ∃ i : Nat, E 3 = Val.i i ∧ i ≤ s.size ∧ NInv s i,
    fun E _ => match E 3 with | .int _ i => s.size - i.toNat | _ => 0, ⟨st, .rfl' _, rfl, by simp [go_sem], 0, by simp [go_sem], by omega, .inl rfl, by simp⟩, ?_⟩
  rintro E st' ⟨rfl, e0, i, e3, hi, hf, hall⟩
  by_cases hlt : i < s.size
  · have hlt' : ((i : Int) < s.size) = True := eq_true (by omega)
    have hbi := btOf_eq s i hlt
    have hwi : IntKind.i64.wrap ((i : Int) + 1) = ((i + 1 : Nat) : Int) := by rw [wrap_id (by omega) (by omega)]; omega
    have hd : s.data.toList.drop i = s.data.toList[i]'(by omega) :: s.data.toList.drop (i + 1) := List.drop_eq_getElem_cons (by omega)
    have hgc : s.data.toList.getD i 0 = s.data.toList[i]'(by omega) := by rw [List.getD_eq_getElem?_getD, List.getElem?_eq_getElem (by omega)]; rfl
    rw [hd, List.all_cons, ← hgc] at hall
    generalize hc : (s.data.toList.getD i 0).toNat = c at hbi hall
    have hbad : okChar c = false → res = false := fun h => by rw [← hres, hall, h]; simp
    have hfirst : i = 0 → 48 ≤ c → c ≤ 57 → res = false := fun h0 h1 h2 => by
      subst h0
      rw [← hres, hc]; simp [h1, h2]
    have hgo : (i = 0 → ¬ (48 ≤ c ∧ c ≤ 57)) → okChar c = true → NInv s (i + 1) := fun h1 h2 => by
      refine ⟨.inr ?_, by rw [hall, h2]; simp⟩
      rcases hf with hf | hf
      · have := h1 hf
        subst hf
        rw [hc]; exact this
      · exact hf
    by_cases u : c = 95
    · have qu : ((c : Int) = 95) = True := eq_true (by omega)
      have := hgo (fun _ => by omega) (by unfold okChar; simp [u])
      simp [go_sem, e0, e3, hlt, hlt', hbi, qu, hwi]
      exact ⟨_, .rfl' _, ⟨rfl, i + 1, by omega, by omega, this⟩, by omega⟩
    have qu : ((c : Int) = 95) = False := eq_false (by omega)
    by_cases l : 97 ≤ c ∧ c ≤ 122
    · have q1 : ((c : Int) < 97) = False := eq_false (by omega)
      have q2 : ((122 : Int) < c) = False := eq_false (by omega)
      have := hgo (fun _ => by omega) (by unfold okChar; simp [l.1, l.2])
      simp [go_sem, e0, e3, hlt, hlt', hbi, qu, q1, q2, hwi]
      exact ⟨_, .rfl' _, ⟨rfl, i + 1, by omega, by omega, this⟩, by omega⟩
    have ql : (((c : Int) < 97) = True) ∨ (((c : Int) < 97) = False ∧ ((122 : Int) < c) = True) := by
      by_cases h : c < 97
      · exact .inl (eq_true (by omega))
      · exact .inr ⟨eq_false (by omega), eq_true (by omega)⟩
    by_cases d : 48 ≤ c ∧ c ≤ 57
    · have p1 : ((c : Int) < 48) = False := eq_false (by omega)
      have p2 : ((57 : Int) < c) = False := eq_false (by omega)
      by_cases h0 : i = 0
      · have p3 : ((i : Int) = 0) = True := eq_true (by omega)
        have := hfirst h0 d.1 d.2
        subst this
        have q0 : (i = 0) = True := eq_true h0
        rcases ql with q1 | ⟨q1, q2⟩
        · simp [go_sem, e0, e3, hlt, hlt', hbi, qu, q1, p1, p2, p3, q0]
        · simp [go_sem, e0, e3, hlt, hlt', hbi, qu, q1, q2, p1, p2, p3, q0]
      · have p3 : ((i : Int) = 0) = False := eq_false (by omega)
        have := hgo (fun h => absurd h h0) (by unfold okChar; simp [d.1, d.2])
        rcases ql with q1 | ⟨q1, q2⟩
        · simp [go_sem, e0, e3, hlt, hlt', hbi, qu, q1, p1, p2, p3, h0, hwi]
          exact ⟨_, .rfl' _, ⟨rfl, i + 1, by omega, by omega, this⟩, by omega⟩
        · simp [go_sem, e0, e3, hlt, hlt', hbi, qu, q1, q2, p1, p2, p3, h0, hwi]
          exact ⟨_, .rfl' _, ⟨rfl, i + 1, by omega, by omega, this⟩, by omega⟩
    · have := hbad (by unfold okChar; simp; omega)
      subst this
      have qd : (((c : Int) < 48) = True) ∨ (((c : Int) < 48) = False ∧ ((57 : Int) < c) = True) := by
        by_cases h : c < 48
        · exact .inl (eq_true (by omega))
        · exact .inr ⟨eq_false (by omega), eq_true (by omega)⟩
      rcases ql with q1 | ⟨q1, q2⟩ <;> rcases qd with p1 | ⟨p1, p2⟩
      · simp [go_sem, e0, e3, hlt, hlt', hbi, qu, q1, p1]
      · simp [go_sem, e0, e3, hlt, hlt', hbi, qu, q1, p1, p2]
      · simp [go_sem, e0, e3, hlt, hlt', hbi, qu, q1, q2, p1]
      · simp [go_sem, e0, e3, hlt, hlt', hbi, qu, q1, q2, p1, p2]
  · have hlt' : ((i : Int) < s.size) = False := eq_false (by omega)
    have : i = s.size := by omega
    subst this
    rw [List.drop_eq_nil_of_le (by omega)] at hall
    have h1 : res = (decide (1 ≤ s.size) && decide (s.size ≤ 32)) := by
      rw [← hres, hall]
      rcases hf with hf | hf
      · have : decide (1 ≤ s.size) = false := decide_eq_false (by omega)
        rw [this]; simp
      · have : (decide (48 ≤ (s.data.toList.getD 0 0).toNat) && decide ((s.data.toList.getD 0 0).toNat ≤ 57)) = false := by
          rw [← Bool.not_eq_true, Bool.and_eq_true, decide_eq_true_eq, decide_eq_true_eq]; exact hf
        rw [this]; simp
    subst h1
    by_cases z : 1 ≤ s.size
    · have q1 : ((1 : Int) ≤ s.size) = True := eq_true (by omega)
      by_cases z2 : s.size ≤ 32
      · have q2 : ((s.size : Int) ≤ 32) = True := eq_true (by omega)
        simp [go_sem, e0, e3, q1, q2, z, z2]
      · have q2 : ((s.size : Int) ≤ 32) = False := eq_false (by omega)
        simp [go_sem, e0, e3, q1, q2, z, z2]
    · have q1 : ((1 : Int) ≤ s.size) = False := eq_false (by omega)
      simp [go_sem, e0, e3, q1, z]
theorem refValues_spec {vv : Value} {l : List ByteArray} (h : RegF st 1 vv (l.map .string) l.length) : ICalls Try.prog W0 153 #[vv] st fun e st' => e = .returned (.bool (valuesM l)) ∧ st' = st := by
  obtain ⟨base, cap, rfl⟩ := h.slice
  refine enter (args := [_]) Try.func153 rfl ?_
  generalize hres : valuesM l = res
  unfold valuesM at hres
  by_cases h1 : l.length < 1
  · have q1 : ((l.length : Int) < 1) = True := eq_true (by omega)
    have : res = false := by rw [← hres]; have : decide (1 ≤ l.length) = false := decide_eq_false (by omega)
                             rw [this]; simp
    subst this
    simp [Try.f153, go_sem, q1]
  have q1 : ((l.length : Int) < 1) = False := eq_false (by omega)
  by_cases h2 : 16 < l.length
  · have q2 : ((16 : Int) < l.length) = True := eq_true (by omega)
    have : res = false := by rw [← hres]; have : decide (l.length ≤ 16) = false := by simp; omega
                             rw [this]; simp
    subst this
    simp [Try.f153, go_sem, q1, q2]
  have q2 : ((16 : Int) < l.length) = False := eq_false (by omega)
  have hall : ((l.drop 0).all (fun v => decide (v.size ≤ 64)) && risesT (l.drop (0 - 1))) = res := by
    rw [← hres]
    have e1 : decide (1 ≤ l.length) = true := by simp; omega
    have e2 : decide (l.length ≤ 16) = true := by simp; omega
    rw [e1, e2]; simp
  simp [Try.f153, go_sem, q1, q2]
  obtain ⟨blk, off, rfl, hg⟩ := src_get h.src (by omega)
  refine ⟨fun E st' => st' = st ∧ E 0 = .slice (some ⟨blk, off, none⟩) l.length cap ∧ ∃ i : Nat, E 3 = Val.i i ∧ i ≤ l.length ∧ ((l.drop i).all (fun v => decide (v.size ≤ 64)) && risesT (l.drop (i - 1))) = res,
    fun E _ => match E 3 with | .int _ i => l.length - i.toNat | _ => 0, ⟨st, .rfl' _, rfl, by simp [go_sem], 0, by simp [go_sem], by omega, hall⟩, ?_⟩
  rintro E st' ⟨rfl, e0, i, e3, hi, hrec⟩
  by_cases hlt : i < l.length
  · have hlt' : ((i : Int) < l.length) = True := eq_true (by omega)
    have hgi := hg i (by omega)
    have hv : l[i]? = some l[i] := List.getElem?_eq_getElem hlt
    have hgv : (l.map Value.string)[i]? = some (.string l[i]) := by simp [hv]
    rw [hgv] at hgi
    have hd : l.drop i = l[i] :: l.drop (i + 1) := List.drop_eq_getElem_cons hlt
    rw [hd] at hrec
    simp only [List.all_cons] at hrec
    obtain ⟨v, hvv⟩ : ∃ v, l[i] = v := ⟨_, rfl⟩
    rw [hvv] at hgi hrec hd
    have hwi : IntKind.i64.wrap ((i : Int) + 1) = ((i + 1 : Nat) : Int) := by rw [wrap_id (by omega) (by omega)]; omega
    by_cases hbig : 64 < v.size
    · have p1 : ((64 : Int) < v.size) = True := eq_true (by omega)
      have : res = false := by rw [← hrec]; have : decide (v.size ≤ 64) = false := by simp; omega
                               rw [this]; simp
      subst this
      simp [go_sem, e0, e3, hlt, hlt', hgi, p1]
      refine draw [0, 1, 2, 3, 4, 5, 6, 7, 8, 9, 10, 11, 12, 14, 15, 16, 17, 13, 18, 19, 20, 21] (by kernel_rfl) ?_
      simp [go_sem, e0, e3, hlt, hlt', hgi, p1]
    have p1 : ((64 : Int) < v.size) = False := eq_false (by omega)
    have hsm : decide (v.size ≤ 64) = true := by simp; omega
    rw [hsm] at hrec
    simp only [Bool.true_and] at hrec
    by_cases hi0 : i = 0
    · have p2 : (0 < i) = False := eq_false (by omega)
      simp [go_sem, e0, e3, hlt, hlt', hgi, p1, p2, hwi]
      refine draw [0, 1, 2, 3, 4, 5, 6, 7, 8, 9, 10, 11, 12, 14, 15, 16, 17, 13, 18, 19, 20, 21] (by kernel_rfl) ?_
      simp [go_sem, e0, e3, hlt, hlt', hgi, p1, p2, hwi]
      refine ⟨st', .rfl' _, ⟨rfl, i + 1, by omega, by omega, ?_⟩, by omega⟩
      subst hi0
      simpa using hrec
    · have p2 : (0 < i) = True := eq_true (by omega)
      have hwm : IntKind.i64.wrap ((i : Int) - 1) = ((i - 1 : Nat) : Int) := by rw [wrap_id (by omega) (by omega)]; omega
      have hltm : i - 1 < l.length := by omega
      have hgm := hg (i - 1) (by omega)
      have hp : l[i - 1]? = some l[i - 1] := List.getElem?_eq_getElem hltm
      have hgp : (l.map Value.string)[i - 1]? = some (.string l[i - 1]) := by simp [hp]
      rw [hgp] at hgm
      obtain ⟨p, hpp⟩ : ∃ p, l[i - 1] = p := ⟨_, rfl⟩
      rw [hpp] at hgm
      have hd2 : l.drop (i - 1) = p :: v :: l.drop (i + 1) := by
        rw [List.drop_eq_getElem_cons hltm, hpp, show i - 1 + 1 = i by omega, hd]
      rw [hd2] at hrec
      simp only [risesT] at hrec
      have hle := leT_not v p
      have hmI : ((i - 1 : Nat) : Int) < l.length := by omega
      cases hlt2 : ltT p v with
      | false =>
        rw [hlt2] at hrec hle
        have : res = false := by rw [← hrec]; simp
        subst this
        simp [go_sem, e0, e3, hlt, hlt', hgi, p1, p2, hwi, hwm, hgm, hltm, hle]
        refine draw [0, 1, 2, 3, 4, 5, 6, 7, 8, 9, 10, 11, 12, 14, 15, 16, 17, 13, 18, 19, 20, 21] (by kernel_rfl) ?_
        simp [go_sem, e0, e3, hlt, hlt', hgi, p1, p2, hwi, hwm, hgm, hltm, hle]
      | true =>
        rw [hlt2] at hrec hle
        simp [go_sem, e0, e3, hlt, hlt', hgi, p1, p2, hwi, hwm, hgm, hltm, hle]
        refine draw [0, 1, 2, 3, 4, 5, 6, 7, 8, 9, 10, 11, 12, 14, 15, 16, 17, 13, 18, 19, 20, 21] (by kernel_rfl) ?_
        simp [go_sem, e0, e3, hlt, hlt', hgi, p1, p2, hwi, hwm, hgm, hltm, hle]
        refine ⟨st', .rfl' _, ⟨rfl, i + 1, by omega, by omega, ?_⟩, by omega⟩
        rw [show i + 1 - 1 = i by omega, hd]
        simpa using hrec
  · have hlt' : ((i : Int) < l.length) = False := eq_false (by omega)
    have : i = l.length := by omega
    subst this
    rw [List.drop_eq_nil_of_le (Nat.le_refl _)] at hrec
    have : risesT (l.drop (l.length - 1)) = true := by
      have : (l.drop (l.length - 1)).length = 1 := by simp; omega
      match l.drop (l.length - 1), this with
      | [x], _ => rfl
    rw [this] at hrec
    simp at hrec
    subst hrec
    simp [go_sem, e0, e3]
end
end Go.Proofs.Ytmgbknkjgfdllaa
set_option linter.unusedVariables false
set_option linter.unusedSimpArgs false
set_option maxRecDepth 100000
set_option maxHeartbeats 4000000
namespace Go.Proofs.Ytmgbknkjgfdllaa
open Go.RowKit (Below)
def sizeC (n b : Nat) (bad : Bool) (r : Nat) : HObj := .cells true [Val.i n, Val.i b, .bool bad] 3 (.own r 0 65)
theorem textS_le {b k : Nat} {bad : Bool} (h : b ≤ 4096) : (textS (b, bad) k).1 ≤ 4096 := by unfold textS; split <;> simp <;> omega
section
variable {W0 : World} {st : Heap}
theorem bare_spec {op : Int} {name value : ByteArray} {vb kb : Option Addr} {vc kc nk : Nat} {vals : List ByteArray} (one many kids : Bool) (ho : (one, many, kids) = (false, false, false) ∨ (one, many, kids) = (true, false, false) ∨ (one, many, kids) = (false, true, false) ∨ (one, many, kids) = (false, false, true)) :
    ICalls Try.prog W0 150 #[.agg #[Val.i op, .string name, .string value, .slice vb vals.length vc, .slice kb nk kc], .bool one, .bool many, .bool kids] st fun e st' => e = .returned (.bool (bareM name value vals nk one many kids)) ∧ New st st' := by
  unfold bareM
  generalize vals.length = nv
  refine enter (args := [_, _, _, _]) Try.func150 rfl ?_
  refine IW_cut (fun E' st' => ∃ tb, New st st' ∧ E' 1 = .bool one ∧ E' 2 = .bool many ∧ E' 3 = .bool kids ∧ E' 4 = ptr tb ∧ st' tb = some (.cells true [Val.i op, .string name, .string value, .slice vb nv vc, .slice kb nk kc] 5 (.ty 0))) ?_ ?_
  · simp [go_sem]
    unfold NewP
    intro tb htb
    refine ⟨.ty 0, ?_⟩
    simp [go_sem]
    exact (New.refl _).add htb
  rintro E1 st1 ⟨tb, hn, e1, e2, e3, e4, ht⟩
  by_cases hF : value = ⟨#[]⟩ <;> by_cases hD : name = ⟨#[]⟩ <;> by_cases hV : nv = 0 <;> by_cases hK : nk = 0
  all_goals
    rcases ho with h | h | h | h
    all_goals
      injection h with h1 h2
      injection h2 with h2 h3
      subst h1; subst h2; subst h3
      simp [go_sem, e1, e2, e3, e4, ht, hF, hD, hV, hK]
      try exact hn
theorem text_spec {s : ByteArray} {r n b : Nat} {bad : Bool} (hr : st r = some (sizeC n b bad r)) (hb : b ≤ 4096) (hs : s.size < 2 ^ 60) : ICalls Try.prog W0 152 #[ptr r, .string s] st fun e st' =>
    e = .returned (.tuple #[]) ∧ st' r = some (sizeC n (textS (b, bad) s.size).1 (textS (b, bad) s.size).2 r) ∧ But1 r st st' := by
  refine enter (args := [_, _]) Try.func152 rfl ?_
  unfold sizeC at hr ⊢
  have hw : IntKind.i64.wrap (4096 - (b : Int)) = 4096 - (b : Int) := wrap_id (by omega) (by omega)
  have hw2 : IntKind.i64.wrap ((b : Int) + s.size) = ((b + s.size : Nat) : Int) := by rw [wrap_id (by omega) (by omega)]; omega
  unfold textS
  by_cases h : 4096 < b + s.size
  · have q : (4096 - (b : Int) < s.size) = True := eq_true (by omega)
    simp [Try.f152, go_sem, hr, hw, q, h]
    exact But1.put (But1.refl _ _)
  · have q : (4096 - (b : Int) < s.size) = False := eq_false (by omega)
    simp [Try.f152, go_sem, hr, hw, hw2, q, h]
    exact But1.put (But1.refl _ _)
end
end Go.Proofs.Ytmgbknkjgfdllaa
