/- What is left of a file system behind a crash (nothing certain, one name at most). -/
import Derived.Test.YtgppogppdmbgmaaGreatC20
import Derived.Test.YtgppogppdmbgmaaGreatC16
import Derived.Test.YtgppogppdmbgmaaGreatC17
import Derived.Test.YtgppogppdmbgmaaGreatC18
set_option linter.unusedVariables false
set_option linter.unusedSimpArgs false
set_option maxRecDepth 100000
set_option maxHeartbeats 1000000
namespace Go.Proofs.YtgppogppdmbgmaaGreat
open Go.RowKit (Below)

theorem ba_beq (a b : ByteArray) : (a == b) = (a.data == b.data) := by
  cases a; cases b; rfl
theorem FSAt.keep' {st st' : Heap} {f : Nat} {S : VFS} {p : Tg → Prop} (hk : Keep p st st') (p0 : p (.own f 0 0)) (p5 : p (.own f 0 5)) (p6 : p (.own f 0 6)) (p7 : p (.own f 0 7)) (hp : ∀ i r, i < S.files.length → 1 ≤ r → r ≤ 4 → p (.own f i r)) (h : FSAt st f S) : FSAt st' f S := by
  obtain ⟨sm, nm, tv, ad, h1, h2, h3, h4, h5, h6⟩ := h
  exact ⟨sm, nm, tv, ad, hk.get h1 p0, hk.getM h2 p5, hk.getM h3 p6, h4.keep hk p7, fun i F hi => (h5 i F hi).keep hk (fun r hr1 hr2 => hp i r (List.getElem?_eq_some_iff.1 hi).1 hr1 hr2), h6⟩
def crashM : List VTurn → Nat → Int → Dir → Option Dir
  | [], _, _, d => some d
  | t :: ts, i, ops, d => if (i : Int) < ops then (t.does d).bind (crashM ts (i + 1) ops) else crashM ts (i + 1) ops d
theorem flatMap_get {ad : Nat → Nat} : ∀ {ts : List VTurn} {j : Nat} {t : VTurn}, ts[j]? = some t → ((ts.flatMap (encT ad)).drop (j * 4)).take 4 = encT ad t ∧ j * 4 + 4 ≤ (ts.flatMap (encT ad)).length
  | t :: ts, 0, x, h => by
    injection h with h; subst h
    simp [encT]
  | t :: ts, j + 1, x, h => by
    obtain ⟨h1, h2⟩ := flatMap_get (ad := ad) (ts := ts) (j := j) (by simpa using h)
    rw [show (j + 1) * 4 = j * 4 + 1 + 1 + 1 + 1 by omega]
    constructor
    · simpa [encT] using h1
    · simp only [List.flatMap_cons, List.length_append, encT, List.length_cons, List.length_nil] at h2 ⊢
      omega
def pick0 (picks : List Int) : Int := picks.headD 0
section
variable {W0 : World} {st : Heap}
theorem Crash_spec {f : Nat} {S : VFS} {ops : Int} {picks : List Int} {pv : Value} {gp : Tg} {d : Dir} {n : ByteArray} {i : Nat} {F : VFile} {r : Bs} (h : FSAt st f S) (hs : S.small) (hsure : S.sure.length ≤ 1) (hd : crashM S.turns 0 ops S.sure = some d) (hd1 : d = [] ∨ d = [(n, i)] ∧ S.files[i]? = some F ∧ withM F.sure F.pend (pick0 picks) = some r ∧ F.sure.length + (F.pend.map (·.b.length)).sum < 2 ^ 40)
    (hp : Reg st gp 1 pv (picks.map Val.i) picks.length) (hgp : ∀ g, Out g gp) (hpb : -2 ^ 62 < pick0 picks ∧ pick0 picks < 2 ^ 62) (hpl : picks.length < 2 ^ 40) :
    ICalls Tryz.prog W0 59 #[ptr f, Val.i ops, pv] st fun e st' => ∃ f2, e = .returned (ptr f2) ∧ (∀ rw xs n g, st f2 ≠ some (.cells rw xs n (.own g 0 0))) ∧ FSAt st' f S ∧ FSAt st' f2 (if d = [] then .new else VFS.new.lay n r) ∧ Keep (fun t => Out f t ∧ Out f2 t) st st' := by
  obtain ⟨sm, nm, tv, ad, h1, h2, h3, h4, h5, h6⟩ := h
  refine enter (args := [_, _, _]) Tryz.func59 rfl ?_
  simp [Tryz.f59, go_sem]
  unfold NewM
  intro dm hdm
  refine ⟨.own f 0 8, ?_⟩
  simp [go_sem]
  unfold NewP
  intro tb htb
  refine ⟨.own f 0 10, ?_⟩
  simp [go_sem]
  have k1 : Keep (fun _ => True) st (upd (upd st dm (.map (.own f 0 8) [])) tb (.cells true [.map (some dm)] 1 (.own f 0 10))) := (Keep.rfl'.new hdm).new htb
  have hdt : dm ≠ tb := ne_of_new (upd_same st dm _) htb
  have d1 : (upd (upd st dm (.map (.own f 0 8) [])) tb (.cells true [.map (some dm)] 1 (.own f 0 10))) dm = some (.map (.own f 0 8) []) := by rw [upd_ne _ _ hdt, upd_same]
  have t1 := upd_same (upd st dm (.map (.own f 0 8) [])) tb (.cells true [.map (some dm)] 1 (.own f 0 10))
  generalize hst1 : upd (upd st dm _) tb _ = st1 at *
  have h1a := k1.get h1 trivial
  have h2a := k1.getM h2 trivial
  simp [go_sem, h1a, fsC]
  refine RangeI_start h2a ?_
  intro b st2 hb hi ho
  simp [go_sem]
  have hsb := ne_of_new h2a hb
  have hsdm : sm ≠ dm := ne_of_new h2 hdm
  have hdb := ne_of_new d1 hb
  have hst2 : ∀ k o, st1 k = some o → k ≠ sm → k ≠ dm → st2 k = some o := fun k o hk hn _ => by rw [ho k hn (ne_of_new hk hb)]; exact hk
  have d2 : st2 dm = some (.map (.own f 0 8) []) := by rw [ho dm (Ne.symm hsdm) hdb]; exact d1
  have esl : (encM ad S.sure).length = S.sure.length := by simp [encM]
  refine ⟨fun E st' => E 0 = ptr f ∧ E 1 = Val.i ops ∧ E 2 = pv ∧ E 7 = ptr tb ∧ E 23 = ptr' b ∧ (∀ k o, st1 k = some o → k ≠ sm → k ≠ dm → st' k = some o) ∧ ∃ L, st' dm = some (.map (.own f 0 8) L) ∧ Iter st' sm b (encM ad S.sure) L,
    fun _ st' => S.sure.length - (match st' dm with | some (.map _ es) => es.length | _ => 0), ⟨st2, .rfl' _, by simp [go_sem], by simp [go_sem], by simp [go_sem], by simp [go_sem], by simp [go_sem], hst2, [], d2, hi⟩, ?_⟩
  clear hi
  rintro E st' ⟨e0, e1, e2, e7, e23, hkp, L, hdmL, hi⟩
  simp [go_sem, e23]
  refine NextI_step (.own f 0 5) hsb hi ?_ ?_
  case refine_2 =>
    intro kk v st5 hm hi2 ho2
    obtain ⟨p, hp, hpe⟩ := List.mem_map.1 hm
    injection hpe with hk hv'
    subst hk
    have hlen := hi2.len
    rw [esl] at hlen
    simp only [List.length_append, List.length_singleton] at hlen
    have hL : L = [] := List.eq_nil_of_length_eq_zero (by omega)
    subst hL
    have hdm5 : st5 dm = some (.map (.own f 0 8) []) := by rw [ho2 dm hdb]; exact hdmL
    have htb5 : st5 tb = some (.cells true [.map (some dm)] 1 (.own f 0 10)) := by
      have htsm : tb ≠ sm := by rintro rfl; rw [t1] at h2a; cases h2a
      rw [ho2 tb (ne_of_new t1 hb)]
      exact hkp tb _ t1 htsm (Ne.symm hdt)
    simp [go_sem, e23]
    refine EntryI_last hi2 ?_
    have hmset : mset .string (.string p.1) v [] = some [(.string p.1, v)] := by rfl
    simp [go_sem, e0, e1, e2, e7, e23, htb5, hdm5, hmset]
    refine ⟨_, .rfl' _, ⟨?_, [(.string p.1, v)], upd_same _ _ _, ?_⟩, ?_⟩
    · intro k o hk hn hn'
      rw [upd_ne _ _ hn', ho2 k (ne_of_new hk hb)]
      exact hkp k o hk hn hn'
    · exact Iter.keep (by simpa using hi2) (upd_ne _ _ hsdm) (upd_ne _ _ (Ne.symm hdb))
    · rw [upd_same, hdmL]
      simp
      omega
  intro hperm
  have hLs : L = encM ad S.sure := by
    match hsr : S.sure, hsure with
    | [], _ => rw [hsr] at hperm; exact List.perm_nil.1 hperm
    | [x], _ => rw [hsr] at hperm; exact List.perm_singleton.1 hperm
  subst hLs
  have hs3 : Keep (fun t => t ≠ .own f 0 8) st1 (upd st' sm (.map (.own f 0 5) (encM ad S.sure))) := by
    intro k o g hk ht hne
    by_cases hkn : k = sm
    · subst hkn; rw [h2a] at hk; injection hk with hk; subst hk; exact upd_same _ _ _
    · rw [upd_ne _ _ hkn]
      refine hkp k o hk hkn ?_
      rintro rfl; rw [d1] at hk; injection hk with hk; subst hk; injection ht with ht; exact hne ht.symm
  have d1b : (upd st' sm (.map (.own f 0 5) (encM ad S.sure))) dm = some (.map (.own f 0 8) (encM ad S.sure)) := by rw [upd_ne _ _ (Ne.symm hsdm)]; exact hdmL
  generalize hst3 : upd st' sm _ = st3 at *
  have h1b := hs3.get h1a (by simp)
  have t1b := hs3.get t1 (by simp)
  have h4b := (h4.keep k1 trivial).keep hs3 (by simp)
  obtain ⟨tvb, tvc, rfl⟩ := h4.slice
  simp [go_sem, e0, e1, e2, e7, e23, h1b, fsC]
  refine ⟨fun E st' => Keep (fun t => t ≠ .own f 0 8) st3 st' ∧ E 0 = ptr f ∧ E 1 = Val.i ops ∧ E 2 = pv ∧ E 7 = ptr tb ∧ E 35 = .slice tvb S.turns.length tvc ∧ E 36 = Val.i S.turns.length ∧ ∃ j dj, j ≤ S.turns.length ∧ E 37 = Val.i j ∧ st' dm = some (.map (.own f 0 8) (encM ad dj)) ∧ crashM (S.turns.drop j) j ops dj = some d,
    fun E _ => match E 37 with | .int _ j => S.turns.length - j.toNat | _ => 0, ⟨st3, .rfl' _, .rfl', by simp [go_sem, e0], by simp [go_sem, e1], by simp [go_sem, e2], by simp [go_sem, e7], by simp [go_sem], by simp [go_sem], 0, S.sure, Nat.zero_le _, by simp [go_sem], d1b, by simpa using hd⟩, ?_⟩
  rintro E st4 ⟨hk4, e0, e1, e2, e7, e35, e36, j, dj, hj, e37, hdj, hcr⟩
  by_cases hlt : j < S.turns.length
  · have htj : S.turns[j]? = some S.turns[j] := List.getElem?_eq_getElem hlt
    generalize S.turns[j] = t at htj
    obtain ⟨w1, w2⟩ := flatMap_get (ad := ad) htj
    have hdrop : S.turns.drop j = t :: S.turns.drop (j + 1) := by
      rw [List.drop_eq_getElem_cons hlt]
      congr 1
      rw [List.getElem?_eq_getElem hlt] at htj
      injection htj
    rw [hdrop] at hcr
    unfold crashM at hcr
    obtain ⟨hl, base, cap, hv', hc, hbase⟩ := h4b.keep hk4 (by simp)
    injection hv' with q1 q2 q3; subst q1; subst q3
    have hsl := hs.1
    have hw : IntKind.i64.wrap ((j : Int) + 1) = j + 1 := wrap_id (by omega) (by omega)
    rcases hbase with ⟨b0, n0, rfl, hb0, hn0⟩ | ⟨rfl, hc0⟩
    · obtain ⟨cs, hcs⟩ : ∃ cs, cs = S.turns.flatMap (encT ad) := ⟨_, rfl⟩
      rw [← hcs] at hb0 w1 w2
      unfold encT at w1
      simp [go_sem, e35, e36, e37, hlt, hb0, w1, w2]
      unfold NewP
      intro b5 hb5
      refine ⟨.ty 0, ?_⟩
      have k5 : ∀ o, Keep (fun _ => True) st4 (upd st4 b5 o) := fun o => Keep.rfl'.new hb5
      have t1c := hk4.get t1b (by simp)
      have hbt := ne_of_new t1c hb5
      have hbd := ne_of_new hdj hb5
      by_cases hlo : (j : Int) < ops
      · rw [if_pos hlo] at hcr
        obtain ⟨dj', hdo, hcr⟩ := Option.bind_eq_some_iff.1 hcr
        simp [go_sem, e0, e1, e2, e7, e35, e36, e37, hlo, hbt, t1c, hw]
        refine ICalls.mono (does_spec (t := t) ((k5 _).getM hdj trivial) hdo) ?_
        rintro e st6 ⟨rfl, rfl⟩
        simp [go_sem, e0, e1, e2, e7, e35, e36, e37, hw]
        refine ⟨_, .rfl' _, ⟨?_, j + 1, hlt, by omega, dj', upd_same _ _ _, hcr⟩, by omega⟩
        exact (hk4.trans ((k5 _).imp fun _ _ => trivial)).old ((k5 _).getM hdj trivial) (by simp [HObj.tag])
      · rw [if_neg hlo] at hcr
        simp [go_sem, e0, e1, e2, e7, e35, e36, e37, hlo, hw]
        refine ⟨_, .rfl' _, ⟨?_, j + 1, hlt, by omega, dj, (k5 _).getM hdj trivial, hcr⟩, by omega⟩
        exact hk4.trans ((k5 _).imp fun _ _ => trivial)
    · omega
  · have hje : j = S.turns.length := by omega
    subst hje
    rw [List.drop_length] at hcr
    injection hcr with hcr
    subst hcr
    have t1c := hk4.get t1b (by simp)
    simp [go_sem, e35, e36, e37, e7, t1c]
    refine RangeI_start hdj ?_
    intro b7 st5 hb7 hi7 ho7
    simp [go_sem, e7]
    have hdb := ne_of_new hdj hb7
    have hbut : But dm (.own f 0 9) st4 st5 := fun k o hk hn _ => by rw [ho7 k hn (ne_of_new hk hb7)]; exact hk
    refine ⟨fun E st' => E 50 = ptr' b7 ∧ E 0 = ptr f ∧ E 2 = pv ∧ E 7 = ptr tb ∧ But dm (.own f 0 9) st4 st' ∧ ∃ L v, Iter st' dm b7 (encM ad dj) L ∧ E 12 = v ∧ Vec st' (.own f 0 9) 1 v (L.map (·.1)) L.length,
      fun E st' => dj.length - (match E 12 with | .slice _ n _ => n | _ => 0), ⟨st5, .rfl' _, by simp [go_sem], by simp [go_sem, e0], by simp [go_sem, e2], by simp [go_sem, e7], hbut, [], .slice none 0 0, hi7, by simp [go_sem], Vec.nil⟩, ?_⟩
    clear e0 e1 e2 e7 e35 e36 e37
    rintro E st6 ⟨e50, e0, e2, e7, hbut, L, v, hi, e12, hv⟩
    obtain ⟨vb, vc, rfl⟩ := hv.slice
    simp [go_sem, e50]
    refine NextI_step (.own f 0 8) hdb hi ?_ ?_
    · intro hperm
      have hln : L.length = dj.length := by rw [hperm.length_eq]; simp [encM]
      have hdl : dj.length ≤ 1 := by rcases hd1 with h | ⟨h, _⟩ <;> rw [h] <;> simp
      simp [go_sem, e0, e2, e7, e12]
      refine (SortFunc_small (by omega)).mono ?_
      rintro e st7 ⟨rfl, rfl⟩
      simp [go_sem]
      refine New_spec.mono ?_
      rintro e st8 ⟨f2, rfl, hf2, hF2, kn⟩
      have kA : Keep (fun t => t ≠ .own f 0 8 ∧ t ≠ .own f 0 9) st (upd st6 dm (.map (.own f 0 8) (encM ad dj))) := by
        intro k o g hk ht hpg
        have q1 := hk4 k o g (hs3 k o g (k1 k o g hk ht trivial) ht hpg.1) ht hpg.1
        have hkn : k ≠ dm := by rintro rfl; rw [hdm] at hk; cases hk
        rw [upd_ne _ _ hkn]
        exact hbut k o q1 hkn (by rw [ht]; intro e; injection e with e; exact hpg.2 e)
      have dmA := upd_same st6 dm (.map (.own f 0 8) (encM ad dj))
      have htd : tb ≠ dm := Ne.symm hdt
      have tbA : (upd st6 dm (.map (.own f 0 8) (encM ad dj))) tb = some (.cells true [.map (some dm)] 1 (.own f 0 10)) := by
        rw [upd_ne _ _ htd]
        exact hbut tb _ t1c htd (by simp [HObj.tag])
      have hvA : Vec (upd st6 dm (.map (.own f 0 8) (encM ad dj))) (.own f 0 9) 1 (.slice vb L.length vc) (L.map (·.1)) L.length := by
        obtain ⟨z1, z2, z3, z4, z5, z6⟩ := hv
        refine ⟨z1, z2, z3, z4, z5, z6.imp ?_ id⟩
        rintro ⟨b9, n9, w1, w2, w3⟩
        obtain ⟨ents, clock, seen, Ls, q1, q2, q3, q4⟩ := hi
        exact ⟨b9, n9, w1, by rw [upd_ne _ _ (by rintro rfl; rw [q2] at w2; cases w2)]; exact w2, w3⟩
      generalize hstA : upd st6 dm _ = stA at *
      have hff : f ≠ f2 := ne_of_new (kA.get h1 (by simp)) hf2
      have kB : Keep (fun t => t ≠ .own f 0 8 ∧ t ≠ .own f 0 9) st st8 := kA.trans (kn.imp fun _ _ => trivial)
      have dmB := kn.getM dmA trivial
      have tbB := kn.get tbA trivial
      have hvB := hvA.keep kn trivial
      have hf2s : ∀ rw xs n g, st f2 ≠ some (.cells rw xs n (.own g 0 0)) := by
        intro rw xs n g hq
        have := kA.get hq (by simp)
        rw [hf2] at this
        cases this
      simp [go_sem, e0, e2, e7, e12]
      refine ⟨fun E st' => E 63 = .slice vb L.length vc ∧ E 64 = Val.i L.length ∧ E 2 = pv ∧ E 7 = ptr tb ∧ E 14 = ptr f2 ∧ Keep (Out f2) st8 st' ∧ ∃ j, j ≤ L.length ∧ E 65 = Val.i j ∧ FSAt st' f2 (if j = 0 then .new else VFS.new.lay n r),
        fun E _ => match E 65 with | .int _ j => L.length - j.toNat | _ => 0, ⟨st8, .rfl' _, by simp [go_sem, e12], by simp [go_sem], by simp [go_sem, e2], by simp [go_sem, e7], by simp [go_sem], .rfl', 0, Nat.zero_le _, by simp [go_sem], hF2⟩, ?_⟩
      clear e0 e2 e7 e12 e50
      rintro E st9 ⟨e63, e64, e2, e7, e14, k9, j, hj, e65, hF9⟩
      have kZ : Keep (fun t => t ≠ .own f 0 8 ∧ t ≠ .own f 0 9 ∧ Out f2 t) st st9 := (kB.imp fun g h => ⟨h.1, h.2.1⟩).trans (k9.imp fun g h => h.2.2)
      by_cases hlt : j < L.length
      · have hj0 : j = 0 := by omega
        subst hj0
        rcases hd1 with hd1 | ⟨hd1, hFi, hwith, hsum⟩
        · rw [hd1] at hln
          exact absurd (hln ▸ hlt) (by simp)
        · rw [hd1] at hperm
          have hL : L = [(.string n, ptr (ad i))] := List.perm_singleton.1 hperm
          subst hL
          have hv9 := hvB.keep k9 (by intro x r; simp; omega)
          obtain ⟨nb, noff, rfl, hng⟩ := src_get hv9.src (by simp)
          have hng0 := hng 0 (by simp)
          simp at hng0
          have hp9 := hp.keep kZ ⟨by simpa using hgp f 0 8, by simpa using hgp f 0 9, hgp f2⟩
          have tb9 := k9.get tbB (by intro x r; simp; omega)
          have dm9 := k9.getM dmB (by intro x r; simp; omega)
          rw [hd1] at dm9
          obtain ⟨pb, pc, rfl⟩ := hp9.slice
          have hF9i := (h5 i F hFi).keep kZ (by intro r h1 h2; refine ⟨by simp; omega, by simp; omega, ?_⟩; intro x r'; simp; omega)
          have hmf : mfind .string (.string n) (encM ad [(n, i)]) 0 = some (some (0, ptr (ad i))) := by rw [mfind_encM]; simp [afind, ba_beq]
          simp only [encM, List.map_cons, List.map_nil] at hmf dm9
          cases hpk : picks with
          | nil =>
            simp [go_sem, e63, e64, e65, e2, e7, e14, hng0, hpk, tb9, dm9, hmf]
            rw [hpk] at hwith
            refine (with_spec (.own f2 0 3) (by intro x r; simp; omega) hF9i hwith (by simp [pick0]) (by simp [pick0]) (hs.2.2 F (List.mem_of_getElem? hFi)).2.2 (hs.2.2 F (List.mem_of_getElem? hFi)).1 hsum).mono ?_
            rintro e st10 ⟨v, rfl, hv10, k10⟩
            simp [go_sem, e63, e64, e65, e2, e7, e14]
            have hF10 : FSAt st10 f2 .new := FSAt.keep' k10 (by simp) (by simp) (by simp) (by simp) (by intro i r hi; exact absurd hi (by simp [VFS.new])) (by simpa using hF9)
            refine (lay_spec (b := r) hF10 ⟨by simp [VFS.new], by simp [VFS.new], by simp [VFS.new]⟩ hv10).mono ?_
            rintro e st11 ⟨rfl, hF11, k11⟩
            simp [go_sem, e63, e64, e65, e2, e7, e14]
            refine ⟨st11, .rfl' _, ⟨hpk, (k9.trans (k10.imp fun g h => h 0 3)).trans k11, 1, by omega, by rfl, by simpa using hF11⟩, ?_⟩
            decide
          | cons x xs =>
            obtain ⟨qb, qoff, rfl, hqg⟩ := src_get hp9.src (by rw [hpk]; simp)
            have hqg0 := hqg 0 (by rw [hpk]; simp)
            simp [hpk] at hqg0
            rw [hpk] at hwith
            have hpos : 0 < picks.length := by rw [hpk]; simp
            have hne : ¬ picks = [] := by rw [hpk]; simp
            have hpx : pick0 picks = x := by rw [hpk]; rfl
            simp [go_sem, e63, e64, e65, e2, e7, e14, hng0, hqg0, tb9, dm9, hmf, hpos, hne]
            have hpx' : pick0 (x :: xs) = x := rfl
            rw [hpx] at hpb
            rw [hpx'] at hwith
            refine (with_spec (.own f2 0 3) (by intro x r; simp; omega) hF9i hwith (by omega) (by omega) (hs.2.2 F (List.mem_of_getElem? hFi)).2.2 (hs.2.2 F (List.mem_of_getElem? hFi)).1 hsum).mono ?_
            rintro e st10 ⟨v, rfl, hv10, k10⟩
            simp [go_sem, e63, e64, e65, e2, e7, e14]
            have hF10 : FSAt st10 f2 .new := FSAt.keep' k10 (by simp) (by simp) (by simp) (by simp) (by intro i r hi; exact absurd hi (by simp [VFS.new])) (by simpa using hF9)
            refine (lay_spec (b := r) hF10 ⟨by simp [VFS.new], by simp [VFS.new], by simp [VFS.new]⟩ hv10).mono ?_
            rintro e st11 ⟨rfl, hF11, k11⟩
            simp [go_sem, e63, e64, e65, e2, e7, e14]
            refine ⟨st11, .rfl' _, ⟨by rw [hpk]; rfl, (k9.trans (k10.imp fun g h => h 0 3)).trans k11, 1, by omega, by rfl, by simpa using hF11⟩, ?_⟩
            decide
      · have hjl : j = dj.length := by omega
        simp [go_sem, e63, e64, e65, hlt, e14]
        have hself : FSAt st f S := ⟨sm, nm, _, ad, h1, h2, h3, h4, h5, h6⟩
        refine ⟨⟨fun xs n g => hf2s _ xs n g, fun xs n g => hf2s _ xs n g⟩, ?_, ?_, kZ.imp fun g h => ⟨h.1 0 8, h.1 0 9, h.2⟩⟩
        · exact hself.keep' kZ (by simp [hff, Out]) (by simp [hff, Out]) (by simp [hff, Out]) (by simp [hff, Out]) (by intro i r _ h1 h2; refine ⟨by simp; omega, by simp; omega, ?_⟩; intro x r'; simp; omega)
        · rw [hjl] at hF9
          simpa using hF9
    · intro k v st7 hm hi2 ho2
      obtain ⟨p, hp, hpe⟩ := List.mem_map.1 hm
      injection hpe with hk hv'
      subst hk
      simp [go_sem, e50]
      refine EntryI_last hi2 ?_
      simp [go_sem, e12]
      unfold NewS
      intro b3 hb3
      refine ⟨.ty 0, ?_⟩
      simp [go_sem]
      have hbut2 : But dm (.own f 0 9) st4 st7 := by
        intro k o hk hn ht
        rw [ho2 k (by rintro rfl; rw [hb7] at hk; cases hk)]
        exact hbut k o hk hn ht
      have hv2 : Vec st7 (.own f 0 9) 1 (.slice vb L.length vc) (L.map (·.1)) L.length := by
        obtain ⟨z1, z2, z3, z4, z5, z6⟩ := hv
        refine ⟨z1, z2, z3, z4, z5, z6.imp ?_ id⟩
        rintro ⟨b9, n9, w1, w2, w3⟩
        have hib : ∃ o, st6 b7 = some (.other o) := by
          obtain ⟨ents, clock, seen, Ls, q1, q2, q3, q4⟩ := hi
          exact ⟨_, q3⟩
        obtain ⟨o, hio⟩ := hib
        exact ⟨b9, n9, w1, by rw [ho2 b9 (by rintro rfl; rw [hio] at w2; cases w2)]; exact w2, w3⟩
      have n3 : ∀ k o, st7 k = some o → (upd st7 b3 (.cells true [.string p.1] 1 (.ty 0))) k = some o := fun k o hk => by rw [upd_ne _ _ (ne_of_new hk hb3)]; exact hk
      have n3' : ∀ k o, st7 k = some (.other o) → (upd st7 b3 (.cells true [.string p.1] 1 (.ty 0))) k = some (.other o) := fun k o hk => n3 k _ hk
      have hlen := hi2.len
      have hml : (encM ad dj).length = dj.length := by simp [encM]
      rw [hml] at hlen
      simp only [List.length_append, List.length_singleton] at hlen
      have hdl : dj.length ≤ 1 := by rcases hd1 with h | ⟨h, _⟩ <;> rw [h] <;> simp
      refine AppI_vec (g := .own f 0 9) (m := 1) (ys := [.string p.1]) si25 (hv2.keep (Keep.rfl'.new hb3) (p := fun _ => True) trivial) ?_ (by simp [Value.oneCell']) (by omega) ?_
      · simp [srcCells, lkN_mk, upd_same, cellsOf]
      intro s5 c5 st9 hv5 he5
      simp [go_sem, e0, e2, e7, e12, e50]
      refine ⟨st9, .rfl' _, ⟨?_, L ++ [(.string p.1, v)], ?_, ?_⟩, ?_⟩
      · intro k o hk hn ht
        exact he5.keep k o (n3 k o (hbut2 k o hk hn ht)) ht
      · exact (hi2.of n3').of he5.other
      · simpa using hv5
      · have h7 : L.length + 1 ≤ dj.length := hlen
        have h8 : dj.length - (L.length + 1) < dj.length - L.length := by omega
        exact h8
end
end Go.Proofs.YtgppogppdmbgmaaGreat
set_option linter.unusedVariables false
set_option linter.unusedSimpArgs false
set_option maxRecDepth 100000
set_option maxHeartbeats 1000000
namespace Go.Proofs.YtgppogppdmbgmaaGreat
open Go.RowKit (Below)

abbrev nA : ByteArray := ⟨#[97]⟩
abbrev SA1 : VFS := ⟨[], [(nA, 0)], [⟨0, nA, ⟨#[]⟩, some 0⟩], [⟨0, [], [], []⟩], ⟨1, false, 0, 0, false⟩⟩
abbrev SA2 : VFS := ⟨[], [(nA, 0)], [⟨0, nA, ⟨#[]⟩, some 0⟩], [⟨0, [], [⟨false, 0, [120, 121]⟩], [120, 121]⟩], ⟨2, false, 0, 0, false⟩⟩
theorem create_A : VFS.new.create nA = (0, SA1) := by rfl
theorem append_A : SA1.append nA [120, 121] = (0, SA2) := by rfl
theorem crash_A1 : crashM SA2.turns 0 1 [] = some [(nA, 0)] := by rfl
theorem crash_A0 : crashM SA2.turns 0 0 [] = some [] := by rfl
theorem with_A : withM [] [⟨false, 0, [120, 121]⟩] 1 = some [120] := by rfl
theorem get_A : aget (VFS.new.lay nA [120]).now nA = some 0 := by rfl
theorem mapM_byteOf : ∀ bs : List UInt8, (bytesV bs).mapM byteOf = some bs
  | [] => rfl
  | b :: bs => by
    have h := mapM_byteOf bs
    unfold bytesV at h ⊢
    simp only [List.map_cons, List.mapM_cons, h]
    have hb : byteOf (.int .u8 b.toNat) = some b := by simp [byteOf]
    rw [hb]
    rfl
theorem textOf_reg {st : Heap} {g : Tg} {base : Option Addr} {cap : Nat} {bs : List UInt8} {n : Nat} (h : Reg st g 1 (.slice base n cap) (bytesV bs) n) : textOf st (.slice base n cap) = some ⟨bs.toArray⟩ := by
  have hlen : bs.length = n := by have := h.1; rw [bytesV_length] at this; omega
  have hs := h.src
  cases base with
  | none =>
    simp only [srcCells] at hs
    split at hs
    · rename_i h0
      subst h0
      have : bs = [] := List.eq_nil_of_length_eq_zero hlen
      subst this; rfl
    · cases hs
  | some a =>
    simp only [srcCells] at hs
    simp only [textOf]
    split
    · rename_i h0
      have : bs = [] := List.eq_nil_of_length_eq_zero (by omega)
      subst this; rfl
    · rename_i h0
      rw [if_neg h0] at hs
      obtain ⟨l, h1, h2⟩ := Option.map_eq_some_iff.1 hs
      rw [Nat.mul_one] at h1
      injection h2 with h2 h3
      subst h3
      rw [h1]
      simp [mapM_byteOf]
section
variable {W0 : World} {st : Heap}
end
end Go.Proofs.YtgppogppdmbgmaaGreat
set_option linter.unusedVariables false
set_option linter.unusedSimpArgs false
set_option maxRecDepth 100000
set_option maxHeartbeats 4000000
namespace Go.Proofs.YtgppogppdmbgmaaGreat
open Go.RowKit (Below)
structure MetaD where
  id : Int
  level : Int
  day : Int
  lo : Int
  hi : Int
  done : Int
  rows : Int
def MetaD.ints (x : MetaD) : List Int := [x.id, x.level, x.day, x.lo, x.hi, x.done, x.rows]
def MetaD.cells (x : MetaD) : List Value := [Val.i x.id, Val.i x.level, Val.i x.day, Val.i x.lo, Val.i x.hi, Val.i x.done, Val.i x.rows]
def nameOKM (n : Int) : Prop := 0 ≤ n ∧ n ≤ 99999999
instance (n : Int) : Decidable (nameOKM n) := by unfold nameOKM; infer_instance
def metaOK (x : MetaD) : Prop := nameOKM x.id ∧ (0 ≤ x.level ∧ x.level ≤ 3) ∧ 0 ≤ x.day ∧ x.day ≤ 127258290 ∧ 1 ≤ x.lo ∧ x.lo ≤ x.hi ∧ x.hi ≤ x.done ∧ x.done ≤ 1099511627776 ∧ 1 ≤ x.rows
instance (x : MetaD) : Decidable (metaOK x) := by unfold metaOK; infer_instance
structure TombD where
  seq : Int
  m : Mat
  fro : Int
  to : Int
def TombAt (st : Heap) (cs : List Value) (t : TombD) : Prop := ∃ ms, MatAt st ms t.m ∧ cs = Val.i t.seq :: (ms ++ [Val.i t.fro, Val.i t.to])
def alignedM (fro to : Int) : Prop := 0 ≤ fro ∧ fro < to ∧ to ≤ 1099511634240 ∧ fro % 8640 = 0 ∧ to % 8640 = 0
instance (fro to : Int) : Decidable (alignedM fro to) := by unfold alignedM; infer_instance
def tombOK (t : TombD) : Prop := (1 ≤ t.seq ∧ t.seq ≤ 1099511627776) ∧ alignedM t.fro t.to ∧ checkM t.m = true
instance (t : TombD) : Decidable (tombOK t) := by unfold tombOK; infer_instance
theorem bytesV_set (bs : Bs) (j : Nat) (q : Int) (h0 : 0 ≤ q) (h1 : q < 256) : (bytesV bs).set j (.int .u8 q) = bytesV (bs.set j (UInt8.ofNat q.toNat)) := by
  unfold bytesV
  rw [List.map_set]
  have : (UInt8.ofNat q.toNat).toNat = q.toNat := by simp; omega
  rw [this, Int.toNat_of_nonneg h0]
section
variable {W0 : World} {st : Heap}
theorem plainName_spec {s : ByteArray} {n : Int} (hs : s.size < 100) : ICalls Tryz.prog W0 218 #[.string s, Val.i n] st fun e st' => (∃ r : ByteArray, e = .returned (.string r) ∧ (nameOKM n → r ≠ ⟨#[]⟩) ∧ (¬ nameOKM n → r = ⟨#[]⟩)) ∧ New st st' := by
  refine enter (args := [_, _]) Tryz.func218 rfl ?_
  by_cases h1 : n < 0
  · have q1 := eq_true h1
    simp [Tryz.f218, go_sem, q1, nameOKM]
    first | exact New.refl _ | exact ⟨by omega, New.refl _⟩
  have q1 := eq_false h1
  by_cases h2 : 99999999 < n
  · have q2 := eq_true h2
    simp [Tryz.f218, go_sem, q1, q2, nameOKM]
    first | exact New.refl _ | exact ⟨by omega, New.refl _⟩
  have q2 := eq_false h2
  have hok : nameOKM n := ⟨by omega, by omega⟩
  simp [Tryz.f218, go_sem, q1, q2, hok]
  have q3 : (s.size ≤ 9223372036854775799) = True := eq_true (by omega)
  simp [go_sem, q3]
  unfold NewB
  intro bb bc hbb hbc
  refine ⟨.own bb 0 83, ?_⟩
  obtain ⟨s8, hs8⟩ : ∃ s8, s ++ (⟨#[48, 48, 48, 48, 48, 48, 48, 48]⟩ : ByteArray) = s8 := ⟨_, rfl⟩
  have hsz : s8.size = s.size + 8 := by rw [← hs8]; simp; rfl
  rw [hs8] at hbc ⊢
  have hwl : IntKind.i64.wrap ((s8.size : Int) - 1) = ((s8.size - 1 : Nat) : Int) := by rw [wrap_id (by omega) (by omega)]; omega
  simp [go_sem, hwl]
  have hN0 : New st (upd st bb (.cells true (bytesV s8.data.toList) bc (.own bb 0 83))) := (New.refl _).add hbb
  refine ⟨fun E st' => New st st' ∧ E 5 = .slice (some ⟨bb, 0, none⟩) s8.size bc ∧ ∃ (t : Nat) (k : Int) (bs : Bs), t ≤ 8 ∧ 0 ≤ k ∧ k < 10 ^ t ∧ E 1 = Val.i k ∧ E 6 = Val.i ((s.size : Int) + t - 1) ∧ bs.length = s8.size ∧ st' bb = some (.cells true (bytesV bs) bc (.own bb 0 83)),
    fun E _ => match E 1 with | .int _ k => k.toNat | _ => 0, ⟨_, .rfl' _, hN0, by simp [go_sem], 8, n, s8.data.toList, by omega, by omega, by simp; omega, by simp [go_sem], by simp [go_sem]; omega, by simp, upd_same _ _ _⟩, ?_⟩
  rintro E st2 ⟨hk2, e5, t, k, bs, ht, hk0, hk1, e1, e6, hbl, hs2⟩
  by_cases hpos : 0 < k
  · have hpos' := eq_true hpos
    obtain ⟨t, rfl⟩ : ∃ t', t = t' + 1 := by
      cases t with
      | zero => simp at hk1; omega
      | succ t => exact ⟨t, rfl⟩
    have hj : (s.size : Int) + ((t + 1 : Nat) : Int) - 1 = ((s.size + t : Nat) : Int) := by omega
    rw [hj] at e6
    obtain ⟨p, hp⟩ : ∃ p, s.size + t = p := ⟨_, rfl⟩
    rw [hp] at e6
    have hjl : p < bs.length := by omega
    have hjb : p < s8.size := by omega
    have hm : Int.tmod k 10 = k % 10 := Int.tmod_eq_emod_of_nonneg hk0
    have hq : Int.tdiv k 10 = k / 10 := Int.tdiv_eq_ediv_of_nonneg hk0
    have hpw : (10 : Int) ^ (t + 1) = 10 * 10 ^ t := by rw [Int.pow_succ]; omega
    have hk3 : k < 10000000000 := by
      have h10 : (10 : Int) ^ (t + 1) ≤ 10 ^ 8 := by
        have : t = 0 ∨ t = 1 ∨ t = 2 ∨ t = 3 ∨ t = 4 ∨ t = 5 ∨ t = 6 ∨ t = 7 := by omega
        rcases this with rfl | rfl | rfl | rfl | rfl | rfl | rfl | rfl <;> decide
      have : (10 : Int) ^ 8 = 100000000 := by decide
      omega
    have hw2 : IntKind.i64.wrap (k / 10) = k / 10 := wrap_id (by omega) (by omega)
    have hwj : IntKind.i64.wrap ((p : Int) - 1) = (s.size : Int) + t - 1 := by rw [wrap_id (by omega) (by omega)]; omega
    obtain ⟨b, hb⟩ : ∃ b : UInt8, bs[p]? = some b := ⟨_, List.getElem?_eq_getElem hjl⟩
    have hgb : (bytesV bs)[p]? = some (.int .u8 b.toNat) := by simp [bytesV, hb]
    have hgb2 : ∀ (h : p < (bytesV bs).length), (bytesV bs)[p] = .int .u8 b.toNat := fun h => by
      have := List.getElem?_eq_getElem h
      rw [hgb] at this
      exact (Option.some.inj this).symm
    have hlb : (bytesV bs).length = s8.size := by simp [bytesV, hbl]
    have hbcn : p < bc := by omega
    have hple : p ≤ s8.size := by omega
    simp [go_sem, e1, e5, e6, hpos', hs2, hm, hq, hw2, hgb, hgb2, hlb, hjb, hbcn, hwj, hple]
    generalize hq0 : IntKind.u8.wrap ((b.toNat : Int) + IntKind.u8.wrap (k % 10)) = q0
    have hqb : 0 ≤ q0 ∧ q0 < 256 := by
      rw [← hq0, IntKind.wrap_u8]
      omega
    rw [bytesV_set _ _ _ hqb.1 hqb.2]
    exact ⟨_, .rfl' _, ⟨hk2.put hbb, t, by omega, k / 10, by omega, by omega, rfl, rfl, _, by simp [hbl], upd_same _ _ _⟩, by omega⟩
  · have hpos' := eq_false hpos
    have hV : Vec st2 (.own bb 0 83) 1 (.slice (some ⟨bb, 0, none⟩) s8.size bc) (bytesV bs) s8.size := Vec.new (by simp [bytesV, hbl]) hbc hs2 (by omega)
    have htx := textOf_reg hV.reg
    simp [go_sem, e1, e5, e6, hpos', hs2, htx]
    refine ⟨?_, hk2⟩
    intro h
    rw [h] at hbl
    simp at hbl
    omega
theorem calRes_any {l : Int} : ICalls Tryz.prog W0 138 #[Val.i l] st fun e st' => (∃ v : Int, e = .returned (Val.i v) ∧ (0 < v ↔ 0 ≤ l ∧ l ≤ 3)) ∧ New st st' := by
  refine enter (args := [_]) Tryz.func138 rfl ?_
  by_cases h1 : l < 0
  · have q1 := eq_true h1
    simp [Tryz.f138, go_sem, q1]
    unfold NewP
    intro tb htb
    refine ⟨.ty 0, ?_⟩
    simp [go_sem, q1]
    exact ⟨by omega, (New.refl _).add htb⟩
  have q1 := eq_false h1
  by_cases h2 : 4 ≤ l
  · have q2 := eq_true h2
    simp [Tryz.f138, go_sem, q1, q2]
    unfold NewP
    intro tb htb
    refine ⟨.ty 0, ?_⟩
    simp [go_sem, q1, q2]
    exact ⟨by omega, (New.refl _).add htb⟩
  have hi : l = 0 ∨ l = 1 ∨ l = 2 ∨ l = 3 := by omega
  rcases hi with rfl | rfl | rfl | rfl
  all_goals
    simp [Tryz.f138, go_sem]
    unfold NewP
    intro tb htb
    refine ⟨.ty 0, ?_⟩
    simp [go_sem]
    exact (New.refl _).add htb
theorem walName_spec {n : Int} : ICalls Tryz.prog W0 168 #[Val.i n] st fun e st' => (∃ r : ByteArray, e = .returned (.string r) ∧ (nameOKM n → r ≠ ⟨#[]⟩) ∧ (¬ nameOKM n → r = ⟨#[]⟩)) ∧ New st st' := by
  refine enter (args := [_]) Tryz.func168 rfl ?_
  simp [Tryz.f168, go_sem]
  refine (plainName_spec (by decide)).mono ?_
  rintro e st' ⟨⟨r, rfl, h1, h2⟩, h3⟩
  simp [go_sem]
  exact ⟨⟨h1, h2⟩, h3⟩
theorem blockName_spec {n : Int} : ICalls Tryz.prog W0 169 #[Val.i n] st fun e st' => (∃ r : ByteArray, e = .returned (.string r) ∧ (nameOKM n → r ≠ ⟨#[]⟩) ∧ (¬ nameOKM n → r = ⟨#[]⟩)) ∧ New st st' := by
  refine enter (args := [_]) Tryz.func169 rfl ?_
  simp [Tryz.f169, go_sem]
  refine (plainName_spec (by decide)).mono ?_
  rintro e st' ⟨⟨r, rfl, h1, h2⟩, h3⟩
  simp [go_sem]
  exact ⟨⟨h1, h2⟩, h3⟩
theorem blockMay_spec {x : MetaD} : ICalls Tryz.prog W0 170 #[.agg #[Val.i x.id, Val.i x.level, Val.i x.day, Val.i x.lo, Val.i x.hi, Val.i x.done, Val.i x.rows]] st fun e st' => e = .returned (.bool (decide (metaOK x))) ∧ New st st' := by
  refine enter (args := [_]) Tryz.func170 rfl ?_
  refine IW_cut (fun E' st' => ∃ ta, New st st' ∧ E' 1 = ptr ta ∧ st' ta = some (.cells true [Val.i x.id, Val.i x.level, Val.i x.day, Val.i x.lo, Val.i x.hi, Val.i x.done, Val.i x.rows] 7 (.ty 0))) ?_ ?_
  · simp [go_sem]
    unfold NewP
    intro tb htb
    refine ⟨.ty 0, ?_⟩
    simp [go_sem]
    exact (New.refl _).add htb
  rintro E1 st1 ⟨ta, hk1, e1, hta⟩
  simp [go_sem, e1, hta]
  refine blockName_spec.mono ?_
  rintro e st2 ⟨⟨r, rfl, hr1, hr2⟩, hk2⟩
  have hta := hk2 _ _ hta
  have hk3 := hk1.trans hk2
  by_cases hn : nameOKM x.id
  rotate_left
  · have := hr2 hn
    subst this
    have hno : ¬ metaOK x := fun h => hn h.1
    simp [go_sem, e1, hta, hno]
    exact hk3
  have q_n := eq_false (hr1 hn)
  simp [go_sem, e1, hta, q_n]
  refine calRes_any.mono ?_
  rintro e st4 ⟨⟨v, rfl, hv⟩, hk4⟩
  have hta := hk4 _ _ hta
  have hk3 := hk3.trans hk4
  by_cases c0 : 0 < v
  rotate_left
  · have q_c0 := eq_false c0
    have hno : ¬ metaOK x := fun h => by unfold metaOK at h; omega
    simp [go_sem, e1, hta, hno, q_n, q_c0]
    exact hk3
  have q_c0 := eq_true c0
  by_cases c1 : 0 ≤ x.day
  rotate_left
  · have q_c1 := eq_false c1
    have hno : ¬ metaOK x := fun h => by unfold metaOK at h; omega
    simp [go_sem, e1, hta, hno, q_n, q_c0, q_c1]
    exact hk3
  have q_c1 := eq_true c1
  by_cases c2 : x.day ≤ 127258290
  rotate_left
  · have q_c2 := eq_false c2
    have hno : ¬ metaOK x := fun h => by unfold metaOK at h; omega
    simp [go_sem, e1, hta, hno, q_n, q_c0, q_c1, q_c2]
    exact hk3
  have q_c2 := eq_true c2
  by_cases c3 : 1 ≤ x.lo
  rotate_left
  · have q_c3 := eq_false c3
    have hno : ¬ metaOK x := fun h => by unfold metaOK at h; omega
    simp [go_sem, e1, hta, hno, q_n, q_c0, q_c1, q_c2, q_c3]
    exact hk3
  have q_c3 := eq_true c3
  by_cases c4 : x.lo ≤ x.hi
  rotate_left
  · have q_c4 := eq_false c4
    have hno : ¬ metaOK x := fun h => by unfold metaOK at h; omega
    simp [go_sem, e1, hta, hno, q_n, q_c0, q_c1, q_c2, q_c3, q_c4]
    exact hk3
  have q_c4 := eq_true c4
  by_cases c5 : x.hi ≤ x.done
  rotate_left
  · have q_c5 := eq_false c5
    have hno : ¬ metaOK x := fun h => by unfold metaOK at h; omega
    simp [go_sem, e1, hta, hno, q_n, q_c0, q_c1, q_c2, q_c3, q_c4, q_c5]
    exact hk3
  have q_c5 := eq_true c5
  by_cases c6 : x.done ≤ 1099511627776
  rotate_left
  · have q_c6 := eq_false c6
    have hno : ¬ metaOK x := fun h => by unfold metaOK at h; omega
    simp [go_sem, e1, hta, hno, q_n, q_c0, q_c1, q_c2, q_c3, q_c4, q_c5, q_c6]
    exact hk3
  have q_c6 := eq_true c6
  by_cases c7 : 1 ≤ x.rows
  rotate_left
  · have q_c7 := eq_false c7
    have hno : ¬ metaOK x := fun h => by unfold metaOK at h; omega
    simp [go_sem, e1, hta, hno, q_n, q_c0, q_c1, q_c2, q_c3, q_c4, q_c5, q_c6, q_c7]
    exact hk3
  have q_c7 := eq_true c7
  have hyes : metaOK x := ⟨by assumption, by omega, by omega, by omega, by omega, by omega, by omega, by omega, by omega⟩
  simp [go_sem, e1, hta, hyes, q_n, q_c0, q_c1, q_c2, q_c3, q_c4, q_c5, q_c6, q_c7]
  exact hk3
theorem aligned_spec {fro to : Int} : ICalls Tryz.prog W0 219 #[Val.i fro, Val.i to] st fun e st' => e = .returned (.bool (decide (alignedM fro to))) ∧ st' = st := by
  refine enter (args := [_, _]) Tryz.func219 rfl ?_
  by_cases c0 : 0 ≤ fro
  rotate_left
  · have q_c0 := eq_false c0
    have hno : ¬ alignedM fro to := fun h => by unfold alignedM at h; omega
    simp [Tryz.f219, go_sem, hno, q_c0]
  have q_c0 := eq_true c0
  by_cases c1 : fro < to
  rotate_left
  · have q_c1 := eq_false c1
    have hno : ¬ alignedM fro to := fun h => by unfold alignedM at h; omega
    simp [Tryz.f219, go_sem, hno, q_c0, q_c1]
  have q_c1 := eq_true c1
  have m1 : Int.tmod fro 8640 = fro % 8640 := Int.tmod_eq_emod_of_nonneg c0
  have m2 : Int.tmod to 8640 = to % 8640 := Int.tmod_eq_emod_of_nonneg (by omega)
  by_cases c2 : to ≤ 1099511634240
  rotate_left
  · have q_c2 := eq_false c2
    have hno : ¬ alignedM fro to := fun h => by unfold alignedM at h; omega
    simp [Tryz.f219, go_sem, hno, q_c0, q_c1, m1, m2, q_c2]
  have q_c2 := eq_true c2
  by_cases c3 : fro % 8640 = 0
  rotate_left
  · have q_c3 := eq_false c3
    have hno : ¬ alignedM fro to := fun h => by unfold alignedM at h; omega
    simp [Tryz.f219, go_sem, hno, q_c0, q_c1, m1, m2, q_c2, q_c3]
  have q_c3 := eq_true c3
  by_cases c4 : to % 8640 = 0
  rotate_left
  · have q_c4 := eq_false c4
    have hno : ¬ alignedM fro to := fun h => by unfold alignedM at h; omega
    simp [Tryz.f219, go_sem, hno, q_c0, q_c1, m1, m2, q_c2, q_c3, q_c4]
  have q_c4 := eq_true c4
  have hyes : alignedM fro to := ⟨by omega, by omega, by omega, by omega, by omega⟩
  simp [Tryz.f219, go_sem, hyes, q_c0, q_c1, m1, m2, q_c2, q_c3, q_c4]
theorem tombCheck_spec {t : TombD} {cs : List Value} (h : TombAt st cs t) : ICalls Tryz.prog W0 171 #[.agg cs.toArray] st fun e st' => e = .returned (.bool (decide (tombOK t))) ∧ New st st' := by
  obtain ⟨ms, hm, rfl⟩ := h
  obtain ⟨seq, m, fro, to⟩ := t
  match m with
  | .mk op name value vals kids =>
  have hm0 := hm
  unfold MatAt at hm
  obtain ⟨vv, kv, ks, rfl, hv, hk', hkids⟩ := hm
  obtain ⟨vb, vc, rfl⟩ := hv.slice
  obtain ⟨kb, kc, rfl⟩ := hk'.slice
  refine enter (args := [_]) Tryz.func171 rfl ?_
  refine IW_cut (fun E' st' => ∃ ta, New st st' ∧ E' 1 = ptr ta ∧ st' ta = some (.cells true [Val.i seq, Val.i op, .string name, .string value, .slice vb vals.length vc, .slice kb kids.length kc, Val.i fro, Val.i to] 8 (.ty 0))) ?_ ?_
  · simp [go_sem]
    unfold NewP
    intro tb htb
    refine ⟨.ty 0, ?_⟩
    simp [go_sem]
    exact (New.refl _).add htb
  rintro E1 st1 ⟨ta, hk1, e1, hta⟩
  unfold tombOK
  simp only
  by_cases c0 : 1 ≤ seq
  rotate_left
  · have q0 := eq_false c0
    simp [go_sem, e1, hta, q0]
    exact hk1
  have q0 := eq_true c0
  by_cases c1 : seq ≤ 1099511627776
  rotate_left
  · have q1 := eq_false c1
    simp [go_sem, e1, hta, q0, q1]
    exact hk1
  have q1 := eq_true c1
  simp [go_sem, e1, hta, q0, q1]
  refine aligned_spec.mono ?_
  rintro e st2 ⟨rfl, rfl⟩
  by_cases c2 : alignedM fro to
  rotate_left
  · have q2 := eq_false c2
    simp [go_sem, e1, hta, q2]
    exact hk1
  have q2 := eq_true c2
  simp [go_sem, e1, hta, q2]
  refine (matCheck_spec _ (hm0.new hk1)).mono ?_
  rintro e st3 ⟨rfl, hk3⟩
  simp [go_sem, e1]
  exact hk1.trans hk3
end
end Go.Proofs.YtgppogppdmbgmaaGreat
