/- What is left of a file system behind a crash (nothing certain, one name at most). -/
import Derived.Test.YtmgbknkjgfdllaaC15
import Derived.Test.YtmgbknkjgfdllaaC13
set_option linter.unusedVariables false
set_option linter.unusedSimpArgs false
set_option maxRecDepth 100000
set_option maxHeartbeats 1000000
namespace Go.Proofs.Ytmgbknkjgfdllaa
open Go.RowKit (Below)

theorem ba_beq (a b : ByteArray) : (a == b) = (a.data == b.data) := by
  cases a; cases b; rfl
theorem FSAt.keep' {st st' : Heap} {f : Nat} {S : VFS} {p : Tg → Prop} (hk : Keep p st st') (p0 : p (.own f 0 0)) (p5 : p (.own f 0 5)) (p6 : p (.own f 0 6)) (p7 : p (.own f 0 7)) (hp : ∀ i r, i < S.files.length → 1 ≤ r → r ≤ 4 → p (.own f i r)) (h : FSAt st f S) : FSAt st' f S := by
  obtain ⟨sm, nm, tv, ad, h1, h2, h3, h4, h5, h6⟩ := h
  exact ⟨sm, nm, tv, ad, hk.get h1 p0, hk.getM h2 p5, hk.getM h3 p6, h4.keep hk p7, fun i F hi => (h5 i F hi).keep hk (fun r hr1 hr2 => hp i r (List.getElem?_eq_some_iff.1 hi).1 hr1 hr2), h6⟩
def crashM : List VTurn → Nat → Int → Dir → Option Dir
  | [], _, _, d => some d
  | t :: ts, i, ops, d => if (i : Int) < ops then (t.does d).bind (crashM ts (i + 1) ops) else crashM ts (i + 1) ops d
theorem flatMap_get {ad : Nat → Nat} : ∀ {ts : List VTurn} {j : Nat} {t : VTurn}, ts[j]? = some t → ((ts.flatMap (encT ad)).drop (j * 4)).take 4 = encT ad t ∧ j * 4 + 4 ≤ (ts.flatMap (encT ad)).length
  | t :: ts, 0, x, h => by
    injection h with h; subst h
    simp [encT]
  | t :: ts, j + 1, x, h => by
    obtain ⟨h1, h2⟩ := flatMap_get (ad := ad) (ts := ts) (j := j) (by simpa using h)
    rw [show (j + 1) * 4 = j * 4 + 1 + 1 + 1 + 1 by omega]
    constructor
    · simpa [encT] using h1
    · simp only [List.flatMap_cons, List.length_append, encT, List.length_cons, List.length_nil] at h2 ⊢
      omega
def pick0 (picks : List Int) : Int := picks.headD 0
section
variable {W0 : World} {st : Heap}
theorem Crash_spec {f : Nat} {S : VFS} {ops : Int} {picks : List Int} {pv : Value} {gp : Tg} {d : Dir} {n : ByteArray} {i : Nat} {F : VFile} {r : Bs} (h : FSAt st f S) (hs : S.small) (hsure : S.sure.length ≤ 1) (hd : crashM S.turns 0 ops S.sure = some d) (hd1 : d = [] ∨ d = [(n, i)] ∧ S.files[i]? = some F ∧ withM F.sure F.pend (pick0 picks) = some r ∧ F.sure.length + (F.pend.map (·.b.length)).sum < 2 ^ 40)
    (hp : Reg st gp 1 pv (picks.map Val.i) picks.length) (hgp : ∀ g, Out g gp) (hpb : -2 ^ 62 < pick0 picks ∧ pick0 picks < 2 ^ 62) (hpl : picks.length < 2 ^ 40) :
    ICalls Try.prog W0 59 #[ptr f, Val.i ops, pv] st fun e st' => ∃ f2, e = .returned (ptr f2) ∧ (∀ rw xs n g, st f2 ≠ some (.cells rw xs n (.own g 0 0))) ∧ FSAt st' f S ∧ FSAt st' f2 (if d = [] then .new else VFS.new.lay n r) ∧ Keep (fun t => Out f t ∧ Out f2 t) st st' := by
  obtain ⟨sm, nm, tv, ad, h1, h2, h3, h4, h5, h6⟩ := h
  refine enter (args := [_, _, _]) Try.func59 rfl ?_
  simp [Try.f59, go_sem]
  unfold NewM
  intro dm hdm
  refine ⟨.own f 0 8, ?_⟩
  simp [go_sem]
  unfold NewP
  intro tb htb
  refine ⟨.own f 0 10, ?_⟩
  simp [go_sem]
  have k1 : Keep (fun _ => True) st (upd (upd st dm (.map (.own f 0 8) [])) tb (.cells true [.map (some dm)] 1 (.own f 0 10))) := (Keep.rfl'.new hdm).new htb
  have hdt : dm ≠ tb := ne_of_new (upd_same st dm _) htb
  have d1 : (upd (upd st dm (.map (.own f 0 8) [])) tb (.cells true [.map (some dm)] 1 (.own f 0 10))) dm = some (.map (.own f 0 8) []) := by rw [upd_ne _ _ hdt, upd_same]
  have t1 := upd_same (upd st dm (.map (.own f 0 8) [])) tb (.cells true [.map (some dm)] 1 (.own f 0 10))
  generalize hst1 : upd (upd st dm _) tb _ = st1 at *
  have h1a := k1.get h1 trivial
  have h2a := k1.getM h2 trivial
  simp [go_sem, h1a, fsC]
  refine RangeI_start h2a ?_
  intro b st2 hb hi ho
  simp [go_sem]
  have hsb := ne_of_new h2a hb
  have hsdm : sm ≠ dm := ne_of_new h2 hdm
  have hdb := ne_of_new d1 hb
  have hst2 : ∀ k o, st1 k = some o → k ≠ sm → k ≠ dm → st2 k = some o := fun k o hk hn _ => by rw [ho k hn (ne_of_new hk hb)]; exact hk
  have d2 : st2 dm = some (.map (.own f 0 8) []) := by rw [ho dm (Ne.symm hsdm) hdb]; exact d1
  have esl : (encM ad S.sure).length = S.sure.length := by simp [encM]
  refine ⟨fun E st' => E 0 = ptr f ∧ E 1 = Val.i ops ∧ E 2 = pv ∧ E 7 = ptr tb ∧ E 23 = ptr' b ∧ (∀ k o, st1 k = some o → k ≠ sm → k ≠ dm → st' k = some o) ∧ ∃ L, st' dm = some (.map (.own f 0 8) L) ∧ Iter st' sm b (encM ad S.sure) L,
    fun _ st' => S.sure.length - (match st' dm with | some (.map _ es) => es.length | _ => 0), ⟨st2, .rfl' _, by simp [go_sem], by simp [go_sem], by simp [go_sem], by simp [go_sem], by simp [go_sem], hst2, [], d2, hi⟩, ?_⟩
  clear hi
  rintro E st' ⟨e0, e1, e2, e7, e23, hkp, L, hdmL, hi⟩
  simp [go_sem, e23]
  refine NextI_step (.own f 0 5) hsb hi ?_ ?_
  case refine_2 =>
    intro kk v st5 hm hi2 ho2
    obtain ⟨p, hp, hpe⟩ := List.mem_map.1 hm
    injection hpe with hk hv'
    subst hk
    have hlen := hi2.len
    rw [esl] at hlen
    simp only [List.length_append, List.length_singleton] at hlen
    have hL : L = [] := List.eq_nil_of_length_eq_zero (by omega)
    subst hL
    have hdm5 : st5 dm = some (.map (.own f 0 8) []) := by rw [ho2 dm hdb]; exact hdmL
    have htb5 : st5 tb = some (.cells true [.map (some dm)] 1 (.own f 0 10)) := by
      have htsm : tb ≠ sm := by rintro rfl; rw [t1] at h2a; cases h2a
      rw [ho2 tb (ne_of_new t1 hb)]
      exact hkp tb _ t1 htsm (Ne.symm hdt)
    simp [go_sem, e23]
    refine EntryI_last hi2 ?_
    have hmset : mset .string (.string p.1) v [] = some [(.string p.1, v)] := by rfl
    simp [go_sem, e0, e1, e2, e7, e23, htb5, hdm5, hmset]
    refine ⟨_, .rfl' _, ⟨?_, [(.string p.1, v)], upd_same _ _ _, ?_⟩, ?_⟩
    · intro k o hk hn hn'
      rw [upd_ne _ _ hn', ho2 k (ne_of_new hk hb)]
      exact hkp k o hk hn hn'
    · exact Iter.keep (by simpa using hi2) (upd_ne _ _ hsdm) (upd_ne _ _ (Ne.symm hdb))
    · rw [upd_same, hdmL]
      simp
      omega
  intro hperm
  have hLs : L = encM ad S.sure := by
    match hsr : S.sure, hsure with
    | [], _ => rw [hsr] at hperm; exact List.perm_nil.1 hperm
    | [x], _ => rw [hsr] at hperm; exact List.perm_singleton.1 hperm
  subst hLs
  have hs3 : Keep (fun t => t ≠ .own f 0 8) st1 (upd st' sm (.map (.own f 0 5) (encM ad S.sure))) := by
    intro k o g hk ht hne
    by_cases hkn : k = sm
    · subst hkn; rw [h2a] at hk; injection hk with hk; subst hk; exact upd_same _ _ _
    · rw [upd_ne _ _ hkn]
      refine hkp k o hk hkn ?_
      rintro rfl; rw [d1] at hk; injection hk with hk; subst hk; injection ht with ht; exact hne ht.symm
  have d1b : (upd st' sm (.map (.own f 0 5) (encM ad S.sure))) dm = some (.map (.own f 0 8) (encM ad S.sure)) := by rw [upd_ne _ _ (Ne.symm hsdm)]; exact hdmL
  generalize hst3 : upd st' sm _ = st3 at *
  have h1b := hs3.get h1a (by simp)
  have t1b := hs3.get t1 (by simp)
  have h4b := (h4.keep k1 trivial).keep hs3 (by simp)
  obtain ⟨tvb, tvc, rfl⟩ := h4.slice
  simp [go_sem, e0, e1, e2, e7, e23, h1b, fsC]
  refine ⟨fun E st' => Keep (fun t => t ≠ .own f 0 8) st3 st' ∧ E 0 = ptr f ∧ E 1 = Val.i ops ∧ E 2 = pv ∧ E 7 = ptr tb ∧ E 35 = .slice tvb S.turns.length tvc ∧ E 36 = Val.i S.turns.length ∧ ∃ j dj, j ≤ S.turns.length ∧ E 37 = Val.i j ∧ st' dm = some (.map (.own f 0 8) (encM ad dj)) ∧ crashM (S.turns.drop j) j ops dj = some d,
    fun E _ => match E 37 with | .int _ j => S.turns.length - j.toNat | _ => 0, ⟨st3, .rfl' _, .rfl', by simp [go_sem, e0], by simp [go_sem, e1], by simp [go_sem, e2], by simp [go_sem, e7], by simp [go_sem], by simp [go_sem], 0, S.sure, Nat.zero_le _, by simp [go_sem], d1b, by simpa using hd⟩, ?_⟩
  rintro E st4 ⟨hk4, e0, e1, e2, e7, e35, e36, j, dj, hj, e37, hdj, hcr⟩
  by_cases hlt : j < S.turns.length
  · have htj : S.turns[j]? = some S.turns[j] := List.getElem?_eq_getElem hlt
    generalize S.turns[j] = t at htj
    obtain ⟨w1, w2⟩ := flatMap_get (ad := ad) htj
    have hdrop : S.turns.drop j = t :: S.turns.drop (j + 1) := by
      rw [List.drop_eq_getElem_cons hlt]
      congr 1
      rw [List.getElem?_eq_getElem hlt] at htj
      injection htj
    rw [hdrop] at hcr
    unfold crashM at hcr
    obtain ⟨hl, base, cap, hv', hc, hbase⟩ := h4b.keep hk4 (by simp)
    injection hv' with q1 q2 q3; subst q1; subst q3
    have hsl := hs.1
    have hw : IntKind.i64.wrap ((j : Int) + 1) = j + 1 := wrap_id (by omega) (by omega)
    rcases hbase with ⟨b0, n0, rfl, hb0, hn0⟩ | ⟨rfl, hc0⟩
    · obtain ⟨cs, hcs⟩ : ∃ cs, cs = S.turns.flatMap (encT ad) := ⟨_, rfl⟩
      rw [← hcs] at hb0 w1 w2
      unfold encT at w1
      simp [go_sem, e35, e36, e37, hlt, hb0, w1, w2]
      unfold NewP
      intro b5 hb5
      refine ⟨.ty 0, ?_⟩
      have k5 : ∀ o, Keep (fun _ => True) st4 (upd st4 b5 o) := fun o => Keep.rfl'.new hb5
      have t1c := hk4.get t1b (by simp)
      have hbt := ne_of_new t1c hb5
      have hbd := ne_of_new hdj hb5
      by_cases hlo : (j : Int) < ops
      · rw [if_pos hlo] at hcr
        obtain ⟨dj', hdo, hcr⟩ := Option.bind_eq_some_iff.1 hcr
        simp [go_sem, e0, e1, e2, e7, e35, e36, e37, hlo, hbt, t1c, hw]
        refine ICalls.mono (does_spec (t := t) ((k5 _).getM hdj trivial) hdo) ?_
        rintro e st6 ⟨rfl, rfl⟩
        simp [go_sem, e0, e1, e2, e7, e35, e36, e37, hw]
        refine ⟨_, .rfl' _, ⟨?_, j + 1, hlt, by omega, dj', upd_same _ _ _, hcr⟩, by omega⟩
        exact (hk4.trans ((k5 _).imp fun _ _ => trivial)).old ((k5 _).getM hdj trivial) (by simp [HObj.tag])
      · rw [if_neg hlo] at hcr
        simp [go_sem, e0, e1, e2, e7, e35, e36, e37, hlo, hw]
        refine ⟨_, .rfl' _, ⟨?_, j + 1, hlt, by omega, dj, (k5 _).getM hdj trivial, hcr⟩, by omega⟩
        exact hk4.trans ((k5 _).imp fun _ _ => trivial)
    · omega
  · have hje : j = S.turns.length := by omega
    subst hje
    rw [List.drop_length] at hcr
    injection hcr with hcr
    subst hcr
    have t1c := hk4.get t1b (by simp)
    simp [go_sem, e35, e36, e37, e7, t1c]
    refine RangeI_start hdj ?_
    intro b7 st5 hb7 hi7 ho7
    simp [go_sem, e7]
    have hdb := ne_of_new hdj hb7
    have hbut : But dm (.own f 0 9) st4 st5 := fun k o hk hn _ => by rw [ho7 k hn (ne_of_new hk hb7)]; exact hk
    refine ⟨fun E st' => E 50 = ptr' b7 ∧ E 0 = ptr f ∧ E 2 = pv ∧ E 7 = ptr tb ∧ But dm (.own f 0 9) st4 st' ∧ ∃ L v, Iter st' dm b7 (encM ad dj) L ∧ E 12 = v ∧ Vec st' (.own f 0 9) 1 v (L.map (·.1)) L.length,
      fun E st' => dj.length - (match E 12 with | .slice _ n _ => n | _ => 0), ⟨st5, .rfl' _, by simp [go_sem], by simp [go_sem, e0], by simp [go_sem, e2], by simp [go_sem, e7], hbut, [], .slice none 0 0, hi7, by simp [go_sem], Vec.nil⟩, ?_⟩
    clear e0 e1 e2 e7 e35 e36 e37
    rintro E st6 ⟨e50, e0, e2, e7, hbut, L, v, hi, e12, hv⟩
    obtain ⟨vb, vc, rfl⟩ := hv.slice
    simp [go_sem, e50]
    refine NextI_step (.own f 0 8) hdb hi ?_ ?_
    · intro hperm
      have hln : L.length = dj.length := by rw [hperm.length_eq]; simp [encM]
      have hdl : dj.length ≤ 1 := by rcases hd1 with h | ⟨h, _⟩ <;> rw [h] <;> simp
      simp [go_sem, e0, e2, e7, e12]
      refine (SortFunc_small (by omega)).mono ?_
      rintro e st7 ⟨rfl, rfl⟩
      simp [go_sem]
      refine New_spec.mono ?_
      rintro e st8 ⟨f2, rfl, hf2, hF2, kn⟩
      have kA : Keep (fun t => t ≠ .own f 0 8 ∧ t ≠ .own f 0 9) st (upd st6 dm (.map (.own f 0 8) (encM ad dj))) := by
        intro k o g hk ht hpg
        have q1 := hk4 k o g (hs3 k o g (k1 k o g hk ht trivial) ht hpg.1) ht hpg.1
        have hkn : k ≠ dm := by rintro rfl; rw [hdm] at hk; cases hk
        rw [upd_ne _ _ hkn]
        exact hbut k o q1 hkn (by rw [ht]; intro e; injection e with e; exact hpg.2 e)
      have dmA := upd_same st6 dm (.map (.own f 0 8) (encM ad dj))
      have htd : tb ≠ dm := Ne.symm hdt
      have tbA : (upd st6 dm (.map (.own f 0 8) (encM ad dj))) tb = some (.cells true [.map (some dm)] 1 (.own f 0 10)) := by
        rw [upd_ne _ _ htd]
        exact hbut tb _ t1c htd (by simp [HObj.tag])
      have hvA : Vec (upd st6 dm (.map (.own f 0 8) (encM ad dj))) (.own f 0 9) 1 (.slice vb L.length vc) (L.map (·.1)) L.length := by
        obtain ⟨z1, z2, z3, z4, z5, z6⟩ := hv
        refine ⟨z1, z2, z3, z4, z5, z6.imp ?_ id⟩
        rintro ⟨b9, n9, w1, w2, w3⟩
        obtain ⟨ents, clock, seen, Ls, q1, q2, q3, q4⟩ := hi
        exact ⟨b9, n9, w1, by rw [upd_ne _ _ (by rintro rfl; rw [q2] at w2; cases w2)]; exact w2, w3⟩
      generalize hstA : upd st6 dm _ = stA at *
      have hff : f ≠ f2 := ne_of_new (kA.get h1 (by simp)) hf2
      have kB : Keep (fun t => t ≠ .own f 0 8 ∧ t ≠ .own f 0 9) st st8 := kA.trans (kn.imp fun _ _ => trivial)
      have dmB := kn.getM dmA trivial
      have tbB := kn.get tbA trivial
      have hvB := hvA.keep kn trivial
      have hf2s : ∀ rw xs n g, st f2 ≠ some (.cells rw xs n (.own g 0 0)) := by
        intro rw xs n g hq
        have := kA.get hq (by simp)
        rw [hf2] at this
        cases this
      simp [go_sem, e0, e2, e7, e12]
      refine ⟨fun E st' => E 63 = .slice vb L.length vc ∧ E 64 = Val.i L.length ∧ E 2 = pv ∧ E 7 = ptr tb ∧ E 14 = ptr f2 ∧ Keep (Out f2) st8 st' ∧ ∃ j, j ≤ L.length ∧ E 65 = Val.i j ∧ FSAt st' f2 (if j = 0 then .new else VFS.new.lay n r),
        fun E _ => match E 65 with | .int _ j => L.length - j.toNat | _ => 0, ⟨st8, .rfl' _, by simp [go_sem, e12], by simp [go_sem], by simp [go_sem, e2], by simp [go_sem, e7], by simp [go_sem], .rfl', 0, Nat.zero_le _, by simp [go_sem], hF2⟩, ?_⟩
      clear e0 e2 e7 e12 e50
      rintro E st9 ⟨e63, e64, e2, e7, e14, k9, j, hj, e65, hF9⟩
      have kZ : Keep (fun t => t ≠ .own f 0 8 ∧ t ≠ .own f 0 9 ∧ Out f2 t) st st9 := (kB.imp fun g h => ⟨h.1, h.2.1⟩).trans (k9.imp fun g h => h.2.2)
      by_cases hlt : j < L.length
      · have hj0 : j = 0 := by omega
        subst hj0
        rcases hd1 with hd1 | ⟨hd1, hFi, hwith, hsum⟩
        · rw [hd1] at hln
          exact absurd (hln ▸ hlt) (by simp)
        · rw [hd1] at hperm
          have hL : L = [(.string n, ptr (ad i))] := List.perm_singleton.1 hperm
          subst hL
          have hv9 := hvB.keep k9 (by intro x r; simp; omega)
          obtain ⟨nb, noff, rfl, hng⟩ := src_get hv9.src (by simp)
          have hng0 := hng 0 (by simp)
          simp at hng0
          have hp9 := hp.keep kZ ⟨by simpa using hgp f 0 8, by simpa using hgp f 0 9, hgp f2⟩
          have tb9 := k9.get tbB (by intro x r; simp; omega)
          have dm9 := k9.getM dmB (by intro x r; simp; omega)
          rw [hd1] at dm9
          obtain ⟨pb, pc, rfl⟩ := hp9.slice
          have hF9i := (h5 i F hFi).keep kZ (by intro r h1 h2; refine ⟨by simp; omega, by simp; omega, ?_⟩; intro x r'; simp; omega)
          have hmf : mfind .string (.string n) (encM ad [(n, i)]) 0 = some (some (0, ptr (ad i))) := by rw [mfind_encM]; simp [afind, ba_beq]
          simp only [encM, List.map_cons, List.map_nil] at hmf dm9
          cases hpk : picks with
          | nil =>
            simp [go_sem, e63, e64, e65, e2, e7, e14, hng0, hpk, tb9, dm9, hmf]
            rw [hpk] at hwith
            refine (with_spec (.own f2 0 3) (by intro x r; simp; omega) hF9i hwith (by simp [pick0]) (by simp [pick0]) (hs.2.2 F (List.mem_of_getElem? hFi)).2.2 (hs.2.2 F (List.mem_of_getElem? hFi)).1 hsum).mono ?_
            rintro e st10 ⟨v, rfl, hv10, k10⟩
            simp [go_sem, e63, e64, e65, e2, e7, e14]
            have hF10 : FSAt st10 f2 .new := FSAt.keep' k10 (by simp) (by simp) (by simp) (by simp) (by intro i r hi; exact absurd hi (by simp [VFS.new])) (by simpa using hF9)
            refine (lay_spec (b := r) hF10 ⟨by simp [VFS.new], by simp [VFS.new], by simp [VFS.new]⟩ hv10).mono ?_
            rintro e st11 ⟨rfl, hF11, k11⟩
            simp [go_sem, e63, e64, e65, e2, e7, e14]
            refine ⟨st11, .rfl' _, ⟨hpk, (k9.trans (k10.imp fun g h => h 0 3)).trans k11, 1, by omega, by rfl, by simpa using hF11⟩, ?_⟩
            decide
          | cons x xs =>
            obtain ⟨qb, qoff, rfl, hqg⟩ := src_get hp9.src (by rw [hpk]; simp)
            have hqg0 := hqg 0 (by rw [hpk]; simp)
            simp [hpk] at hqg0
            rw [hpk] at hwith
            have hpos : 0 < picks.length := by rw [hpk]; simp
            have hne : ¬ picks = [] := by rw [hpk]; simp
            have hpx : pick0 picks = x := by rw [hpk]; rfl
            simp [go_sem, e63, e64, e65, e2, e7, e14, hng0, hqg0, tb9, dm9, hmf, hpos, hne]
            have hpx' : pick0 (x :: xs) = x := rfl
            rw [hpx] at hpb
            rw [hpx'] at hwith
            refine (with_spec (.own f2 0 3) (by intro x r; simp; omega) hF9i hwith (by omega) (by omega) (hs.2.2 F (List.mem_of_getElem? hFi)).2.2 (hs.2.2 F (List.mem_of_getElem? hFi)).1 hsum).mono ?_
            rintro e st10 ⟨v, rfl, hv10, k10⟩
            simp [go_sem, e63, e64, e65, e2, e7, e14]
            have hF10 : FSAt st10 f2 .new := FSAt.keep' k10 (by simp) (by simp) (by simp) (by simp) (by intro i r hi; exact absurd hi (by simp [VFS.new])) (by simpa using hF9)
            refine (lay_spec (b := r) hF10 ⟨by simp [VFS.new], by simp [VFS.new], by simp [VFS.new]⟩ hv10).mono ?_
            rintro e st11 ⟨rfl, hF11, k11⟩
            simp [go_sem, e63, e64, e65, e2, e7, e14]
            refine ⟨st11, .rfl' _, ⟨by rw [hpk]; rfl, (k9.trans (k10.imp fun g h => h 0 3)).trans k11, 1, by omega, by rfl, by simpa using hF11⟩, ?_⟩
            decide
      · have hjl : j = dj.length := by omega
        simp [go_sem, e63, e64, e65, hlt, e14]
        have hself : FSAt st f S := ⟨sm, nm, _, ad, h1, h2, h3, h4, h5, h6⟩
        refine ⟨⟨fun xs n g => hf2s _ xs n g, fun xs n g => hf2s _ xs n g⟩, ?_, ?_, kZ.imp fun g h => ⟨h.1 0 8, h.1 0 9, h.2⟩⟩
        · exact hself.keep' kZ (by simp [hff, Out]) (by simp [hff, Out]) (by simp [hff, Out]) (by simp [hff, Out]) (by intro i r _ h1 h2; refine ⟨by simp; omega, by simp; omega, ?_⟩; intro x r'; simp; omega)
        · rw [hjl] at hF9
          simpa using hF9
    · intro k v st7 hm hi2 ho2
      obtain ⟨p, hp, hpe⟩ := List.mem_map.1 hm
      injection hpe with hk hv'
      subst hk
      simp [go_sem, e50]
      refine EntryI_last hi2 ?_
      simp [go_sem, e12]
      unfold NewS
      intro b3 hb3
      refine ⟨.ty 0, ?_⟩
      simp [go_sem]
      have hbut2 : But dm (.own f 0 9) st4 st7 := by
        intro k o hk hn ht
        rw [ho2 k (by rintro rfl; rw [hb7] at hk; cases hk)]
        exact hbut k o hk hn ht
      have hv2 : Vec st7 (.own f 0 9) 1 (.slice vb L.length vc) (L.map (·.1)) L.length := by
        obtain ⟨z1, z2, z3, z4, z5, z6⟩ := hv
        refine ⟨z1, z2, z3, z4, z5, z6.imp ?_ id⟩
        rintro ⟨b9, n9, w1, w2, w3⟩
        have hib : ∃ o, st6 b7 = some (.other o) := by
          obtain ⟨ents, clock, seen, Ls, q1, q2, q3, q4⟩ := hi
          exact ⟨_, q3⟩
        obtain ⟨o, hio⟩ := hib
        exact ⟨b9, n9, w1, by rw [ho2 b9 (by rintro rfl; rw [hio] at w2; cases w2)]; exact w2, w3⟩
      have n3 : ∀ k o, st7 k = some o → (upd st7 b3 (.cells true [.string p.1] 1 (.ty 0))) k = some o := fun k o hk => by rw [upd_ne _ _ (ne_of_new hk hb3)]; exact hk
      have n3' : ∀ k o, st7 k = some (.other o) → (upd st7 b3 (.cells true [.string p.1] 1 (.ty 0))) k = some (.other o) := fun k o hk => n3 k _ hk
      have hlen := hi2.len
      have hml : (encM ad dj).length = dj.length := by simp [encM]
      rw [hml] at hlen
      simp only [List.length_append, List.length_singleton] at hlen
      have hdl : dj.length ≤ 1 := by rcases hd1 with h | ⟨h, _⟩ <;> rw [h] <;> simp
      refine AppI_vec (g := .own f 0 9) (m := 1) (ys := [.string p.1]) si58 (hv2.keep (Keep.rfl'.new hb3) (p := fun _ => True) trivial) ?_ (by simp [Value.oneCell']) (by omega) ?_
      · simp [srcCells, lkN_mk, upd_same, cellsOf]
      intro s5 c5 st9 hv5 he5
      simp [go_sem, e0, e2, e7, e12, e50]
      refine ⟨st9, .rfl' _, ⟨?_, L ++ [(.string p.1, v)], ?_, ?_⟩, ?_⟩
      · intro k o hk hn ht
        exact he5.keep k o (n3 k o (hbut2 k o hk hn ht)) ht
      · exact (hi2.of n3').of he5.other
      · simpa using hv5
      · have h7 : L.length + 1 ≤ dj.length := hlen
        have h8 : dj.length - (L.length + 1) < dj.length - L.length := by omega
        exact h8
end
end Go.Proofs.Ytmgbknkjgfdllaa
set_option linter.unusedVariables false
set_option linter.unusedSimpArgs false
set_option maxRecDepth 100000
set_option maxHeartbeats 1000000
namespace Go.Proofs.Ytmgbknkjgfdllaa
open Go.RowKit (Below)

abbrev nA : ByteArray := ⟨#[97]⟩
abbrev SA1 : VFS := ⟨[], [(nA, 0)], [⟨0, nA, ⟨#[]⟩, some 0⟩], [⟨0, [], [], []⟩], ⟨1, false, 0, 0, false⟩⟩
abbrev SA2 : VFS := ⟨[], [(nA, 0)], [⟨0, nA, ⟨#[]⟩, some 0⟩], [⟨0, [], [⟨false, 0, [120, 121]⟩], [120, 121]⟩], ⟨2, false, 0, 0, false⟩⟩
theorem create_A : VFS.new.create nA = (0, SA1) := by rfl
theorem append_A : SA1.append nA [120, 121] = (0, SA2) := by rfl
theorem crash_A1 : crashM SA2.turns 0 1 [] = some [(nA, 0)] := by rfl
theorem crash_A0 : crashM SA2.turns 0 0 [] = some [] := by rfl
theorem with_A : withM [] [⟨false, 0, [120, 121]⟩] 1 = some [120] := by rfl
theorem get_A : aget (VFS.new.lay nA [120]).now nA = some 0 := by rfl
theorem mapM_byteOf : ∀ bs : List UInt8, (bytesV bs).mapM byteOf = some bs
  | [] => rfl
  | b :: bs => by
    have h := mapM_byteOf bs
    unfold bytesV at h ⊢
    simp only [List.map_cons, List.mapM_cons, h]
    have hb : byteOf (.int .u8 b.toNat) = some b := by simp [byteOf]
    rw [hb]
    rfl
theorem textOf_reg {st : Heap} {g : Tg} {base : Option Addr} {cap : Nat} {bs : List UInt8} {n : Nat} (h : Reg st g 1 (.slice base n cap) (bytesV bs) n) : textOf st (.slice base n cap) = some ⟨bs.toArray⟩ := by
  have hlen : bs.length = n := by have := h.1; rw [bytesV_length] at this; omega
  have hs := h.src
  cases base with
  | none =>
    simp only [srcCells] at hs
    split at hs
    · rename_i h0
      subst h0
      have : bs = [] := List.eq_nil_of_length_eq_zero hlen
      subst this; rfl
    · cases hs
  | some a =>
    simp only [srcCells] at hs
    simp only [textOf]
    split
    · rename_i h0
      have : bs = [] := List.eq_nil_of_length_eq_zero (by omega)
      subst this; rfl
    · rename_i h0
      rw [if_neg h0] at hs
      obtain ⟨l, h1, h2⟩ := Option.map_eq_some_iff.1 hs
      rw [Nat.mul_one] at h1
      injection h2 with h2 h3
      subst h3
      rw [h1]
      simp [mapM_byteOf]
section
variable {W0 : World} {st : Heap}
theorem awake_spec : ICalls Try.prog W0 20 #[] st fun e st' => e = .returned (.bool true) ∧ Keep Free st st' := by
  refine enter (args := []) Try.func20 rfl ?_
  simp [Try.f20, go_sem]
  refine New_spec.mono ?_
  rintro e st1 ⟨f, rfl, hf, hF1, k1⟩
  simp [go_sem]
  refine (Create_spec (n := nA) hF1 ⟨by simp [VFS.new], by simp [VFS.new], by simp [VFS.new]⟩).mono ?_
  rw [create_A]
  rintro e st2 ⟨rfl, hF2, k2⟩
  simp [go_sem]
  unfold NewS
  intro b1 hb1
  refine ⟨.ty 1, ?_⟩
  simp [go_sem]
  have k3 : Keep (fun _ => True) st2 (upd st2 b1 (.cells true [.int .u8 120, .int .u8 121] 2 (.ty 1))) := Keep.rfl'.new hb1
  have hr3 : Reg (upd st2 b1 (.cells true [.int .u8 120, .int .u8 121] 2 (.ty 1))) (.ty 1) 1 (.slice (some ⟨b1, 0, none⟩) 2 2) (bytesV [120, 121]) 2 := (Vec.new (by simp [bytesV]) (Nat.le_refl _) (upd_same _ _ _) (by simp)).reg
  generalize upd st2 b1 _ = st3 at *
  have hF3 := hF2.keep k3 (fun _ _ => trivial)
  refine (Append_spec (n := nA) (b := [120, 121]) hF3 ⟨by simp, by simp, by simp⟩ hr3 (by intro x r; simp) (by simp)).mono ?_
  rw [append_A]
  rintro e st4 ⟨rfl, hF4, k4⟩
  simp [go_sem]
  unfold NewS
  intro b2 hb2
  refine ⟨.ty 2, ?_⟩
  simp [go_sem]
  have k5 : Keep (fun _ => True) st4 (upd st4 b2 (.cells true [.int .i64 1] 1 (.ty 2))) := Keep.rfl'.new hb2
  have hr5 : Reg (upd st4 b2 (.cells true [.int .i64 1] 1 (.ty 2))) (.ty 2) 1 (.slice (some ⟨b2, 0, none⟩) 1 1) ([(1 : Int)].map Val.i) 1 := (Vec.new (by simp) (Nat.le_refl _) (upd_same _ _ _) (by simp)).reg
  generalize upd st4 b2 _ = st5 at *
  have hF5 := hF4.keep k5 (fun _ _ => trivial)
  have hsm : VFS.small SA2 := ⟨by simp, by simp, by simp⟩
  refine (Crash_spec (ops := 1) (picks := [1]) (n := nA) (i := 0) hF5 hsm (by simp) crash_A1 (.inr ⟨rfl, rfl, with_A, by simp⟩) hr5 (by intro g x r; simp) (by simp [pick0]) (by simp)).mono ?_
  rintro e st6 ⟨f2, rfl, hne2, hF6, hG6, k6⟩
  simp [go_sem]
  unfold NewS
  intro b3 hb3
  refine ⟨.ty 2, ?_⟩
  simp [go_sem]
  have k7 : Keep (fun _ => True) st6 (upd st6 b3 (.cells true [.int .i64 9] 1 (.ty 2))) := Keep.rfl'.new hb3
  have hr7 : Reg (upd st6 b3 (.cells true [.int .i64 9] 1 (.ty 2))) (.ty 2) 1 (.slice (some ⟨b3, 0, none⟩) 1 1) ([(9 : Int)].map Val.i) 1 := (Vec.new (by simp) (Nat.le_refl _) (upd_same _ _ _) (by simp)).reg
  generalize upd st6 b3 _ = st7 at *
  have hF7 := hF6.keep k7 (fun _ _ => trivial)
  have hG7 := hG6.keep k7 (fun _ _ => trivial)
  refine (Crash_spec (ops := 0) (picks := [9]) (n := nA) (i := 0) (F := ⟨0, [], [], []⟩) (r := []) hF7 hsm (by simp) crash_A0 (.inl rfl) hr7 (by intro g x r; simp) (by simp [pick0]) (by simp)).mono ?_
  rintro e st8 ⟨f3, rfl, hne3, hF8, hH8, k8⟩
  have hff2 : f ≠ f2 := by
    rintro rfl
    obtain ⟨sm, nm, tv, ad, h1, _⟩ := hF5
    exact hne2 _ _ _ _ h1
  have hf2f3 : f2 ≠ f3 := by
    rintro rfl
    obtain ⟨sm, nm, tv, ad, h1, _⟩ := hG7
    exact hne3 _ _ _ _ h1
  have hG8 := hG7.keep k8 (fun x r => ⟨fun x' r' => by simp [Ne.symm hff2], fun x' r' => by simp [hf2f3]⟩)
  simp [go_sem]
  refine (Read_spec (n := nA) hG8 (by simp [VFS.lay, VFS.new])).mono ?_
  rintro e st9 ⟨k9, hread⟩
  rw [show (if [(nA, 0)] = [] then VFS.new else VFS.new.lay nA [120]) = VFS.new.lay nA [120] from rfl, get_A] at hread
  obtain ⟨F, rb, rc, hFe, rfl, hv9⟩ := hread
  have hFF : F = ⟨0, [120], [], [120]⟩ := by
    simp [VFS.lay, VFS.new] at hFe
    exact hFe.symm
  subst hFF
  have htx : textOf st9 (.slice rb 1 rc) = some ⟨#[120]⟩ := by
    exact textOf_reg (bs := [120]) hv9.reg
  simp [go_sem, htx, strEq]
  have hH9 := hH8.keep k9 (fun _ _ => trivial)
  refine (List_spec hH9 (by simp [VFS.new])).mono ?_
  rintro e st10 ⟨⟨lb, lc, rfl⟩, hH10, k10⟩
  simp [go_sem, VFS.new]
  have hf3 : f ≠ f3 := by
    rintro rfl
    obtain ⟨sm, nm, tv, ad, h1, _⟩ := hF7
    exact hne3 _ _ _ _ h1
  have hF10 := (hF8.keep k9 (fun _ _ => trivial)).keep k10 (fun x r => by intro x' r'; simp [hf3])
  refine (Calls_spec hF10).mono ?_
  rintro e st11 ⟨rfl, rfl⟩
  simp [go_sem]
  have toF : ∀ {p : Tg → Prop} {s s' : Heap}, Keep p s s' → (∀ t, Free t → p t) → Keep Free s s' := fun h hp => h.imp hp
  exact ((((((((toF k1 (fun _ _ => trivial)).trans (toF k2 fun t h x r => h f x r)).trans (toF k3 fun _ _ => trivial)).trans (toF k4 fun t h x r => h f x r)).trans (toF k5 fun _ _ => trivial)).trans (toF k6 fun t h => ⟨h f, h f2⟩)).trans (toF k7 fun _ _ => trivial)).trans (toF k8 fun t h => ⟨h f, h f3⟩)).trans ((toF k9 fun _ _ => trivial).trans (toF k10 fun t h => h f3))
end
end Go.Proofs.Ytmgbknkjgfdllaa
set_option linter.unusedVariables false
set_option linter.unusedSimpArgs false
set_option maxRecDepth 100000
set_option maxHeartbeats 1000000
namespace Go.Proofs.Ytmgbknkjgfdllaa
open Go.RowKit (Below)

theorem unzz_bits (u : Nat) (h : u < 2 ^ 64) : bits .xor .i64 (IntKind.i64.wrap ((u / 2 : Nat) : Int)) (IntKind.i64.wrap (0 - IntKind.i64.wrap ((u % 2 : Nat) : Int))) = unzz u := by
  have w1 : IntKind.i64.wrap ((u / 2 : Nat) : Int) = ((u / 2 : Nat) : Int) := wrap_id (by omega) (by omega)
  have w2 : IntKind.i64.wrap ((u % 2 : Nat) : Int) = ((u % 2 : Nat) : Int) := wrap_id (by omega) (by omega)
  unfold unzz
  by_cases h2 : u % 2 = 0
  · rw [w1, w2, h2, if_pos rfl, show IntKind.i64.wrap (0 - ((0 : Nat) : Int)) = 0 by rw [wrap_id] <;> omega, xor_izero _ (by omega) (by omega)]
  · have h3 : u % 2 = 1 := by omega
    rw [w1, w2, h3, if_neg (by omega), show IntKind.i64.wrap (0 - ((1 : Nat) : Int)) = -1 by rw [wrap_id] <;> omega, xor_iones _ (by omega) (by omega)]
def vgetTextM (b : Bs) (at_ most : Int) : Option (Bs × Nat) :=
  match vgetM b at_ with
  | none => none
  | some (n, a) => if most < 0 ∨ most < n ∨ b.length - a < n then none else some ((b.drop a).take n, a + n)
def vgetTextV : Option (Bs × Nat) → Value
  | some (s, a) => .tuple #[.string ⟨s.toArray⟩, Val.i a, .bool true]
  | none => .tuple #[.string ⟨#[]⟩, Val.i 0, .bool false]
section
variable {W0 : World} {st : Heap}
theorem vGetInt_spec {bv : Value} {b : Bs} {g0 : Tg} {at_ : Int} (h : Reg st g0 1 bv (bytesV b) b.length) (hl : b.length < 2 ^ 60) :
    ICalls Try.prog W0 130 #[bv, Val.i at_] st fun e st' => e = .returned (vgetIntV (vgetIntM b at_)) ∧ st' = st := by
  refine enter (args := [_, _]) Try.func130 rfl ?_
  simp [Try.f130, go_sem]
  refine (vGet_spec h hl).mono ?_
  rintro e st' ⟨rfl, rfl⟩
  unfold vgetIntM
  cases hg : vgetM b at_ with
  | none =>
    have w0 : IntKind.i64.wrap 0 = 0 := by decide
    have a0 : bits .and .u64 0 1 = 0 := by decide
    have f0 : Int.fdiv 0 2 = 0 := by decide
    have x0 : bits .xor .i64 0 0 = 0 := by decide
    simp [go_sem, vgetV, vgetIntV, w0, a0, f0, x0]
  | some r =>
    obtain ⟨u, a⟩ := r
    have hb := vgetM_bound hg
    simp only at hb
    have hfd : ((u : Int).fdiv 2) = ((u / 2 : Nat) : Int) := by rw [Int.fdiv_eq_ediv_of_nonneg _ (by omega)]; omega
    have hand : bits .and .u64 (u : Int) 1 = ((u % 2 : Nat) : Int) := by rw [bits_and1 _ (by omega) (by omega)]; omega
    have hz := unzz_bits u hb.1
    simp only [Int.zero_sub] at hz
    generalize hA : ((u / 2 : Nat) : Int) = A at *
    generalize hB : ((u % 2 : Nat) : Int) = B at *
    simp [go_sem, vgetV, vgetIntV, hfd, hand, hz]
theorem vPutText_spec {bv : Value} {b : Bs} {g0 : Tg} (g : Tg) {s : ByteArray} (h : Reg st g0 1 bv (bytesV b) b.length) (hs : s.size < 2 ^ 40) (hl : b.length < 2 ^ 40) :
    ICalls Try.prog W0 147 #[bv, .string s] st fun e st' => ∃ v, e = .returned v ∧ Vec st' g 1 v (bytesV (b ++ (vputM s.size ++ s.data.toList))) (b ++ (vputM s.size ++ s.data.toList)).length ∧ Fresh st v ∧ New st st' := by
  refine enter (args := [_, _]) Try.func147 rfl ?_
  have hw : IntKind.u64.wrap (s.size : Int) = s.size := wraps_u64 _ (by omega) (by omega)
  have hne : (29 : Nat) ≠ 9 := by decide
  simp [Try.f147, go_sem, hw]
  refine (vPut_spec g h (show s.size < 2 ^ 64 by omega) hl).mono ?_
  rintro e st1 ⟨v, rfl, hv, hf, hk⟩
  have hpl := vputM_len s.size (by omega)
  simp [go_sem]
  rw [b_append2 _ _ _ _ hne Try.underlying9]
  rw [si29]
  have hss : s.data.toList.length = s.size := by simp
  refine AppI_new (m := s.size) (ys := bytesV s.data.toList) si29 hv hf hk (by simp [srcCells, bytesV]) (bytesV_one _) (by rw [List.length_append]; omega) ?_
  intro nb nc st2 hv2 hf2 hk2 _
  simp [go_sem]
  refine ⟨?_, ?_, hk2⟩
  · have e1 : (b ++ vputM s.size).length + s.size = b.length + ((vputM s.size).length + s.size) := by simp; omega
    simp only [bytesV_append, List.append_assoc] at hv2 ⊢
    simpa [Nat.add_assoc] using hv2
  · simpa using hf2
theorem vGetText_spec {bv : Value} {b : Bs} {g0 : Tg} {at_ most : Int} (h : Reg st g0 1 bv (bytesV b) b.length) (hl : b.length < 2 ^ 60) (hm : most < 2 ^ 63) :
    ICalls Try.prog W0 181 #[bv, Val.i at_, Val.i most] st fun e st' => e = .returned (vgetTextV (vgetTextM b at_ most)) ∧ st' = st := by
  obtain ⟨base, cap, rfl⟩ := h.slice
  refine enter (args := [_, _, _]) Try.func181 rfl ?_
  simp [Try.f181, go_sem]
  refine (vGet_spec h hl).mono ?_
  rintro e st' ⟨rfl, rfl⟩
  unfold vgetTextM
  cases hg : vgetM b at_ with
  | none =>
    have q : (false = true) = False := by simp
    simp (config := {maxSteps := 1000000}) [go_sem, vgetV, vgetTextV]
  | some r =>
    obtain ⟨n, a⟩ := r
    have hb := vgetM_bound hg
    simp only at hb
    by_cases h1 : most < 0
    · simp [go_sem, vgetV, vgetTextV, h1]
    · have hwm : IntKind.u64.wrap most = most := wraps_u64 _ (by omega) (by omega)
      by_cases h2 : most < n
      · simp [go_sem, vgetV, vgetTextV, h1, hwm, h2]
      · have hwl : IntKind.i64.wrap ((b.length : Int) - a) = (b.length : Int) - a := wrap_id (by omega) (by omega)
        have hwl2 : IntKind.u64.wrap ((b.length : Int) - a) = (b.length : Int) - a := wraps_u64 _ (by omega) (by omega)
        by_cases h3 : b.length - a < n
        · have h3' : (b.length : Int) - a < n := by omega
          simp [go_sem, vgetV, vgetTextV, h1, hwm, h2, hwl, hwl2, h3, h3']
        · have h3' : ¬ (b.length : Int) - a < n := by omega
          have hwn : IntKind.i64.wrap (n : Int) = n := wrap_id (by omega) (by omega)
          have hwe : IntKind.i64.wrap ((a : Int) + n) = ((a + n : Nat) : Int) := by rw [wrap_id (by omega) (by omega)]; omega
          have hcap := h.cap
          have c1 : a + n ≤ cap := by omega
          have c2 : a ≤ a + n := by omega
          have htx : textOf st' (.slice (if cap = a then base else base.map (·.add a)) n (cap - a)) = some ⟨((b.drop a).take n).toArray⟩ := by
            refine textOf_reg (g := g0) ?_
            obtain ⟨hl1, base', cap', hv, hc, hr⟩ := h
            injection hv with q1 q2 q3; subst q1; subst q3
            refine ⟨by simp [bytesV]; omega, _, _, rfl, by omega, ?_⟩
            by_cases hn0 : n = 0
            · exact .inl hn0
            · rcases hr with hr | ⟨blk, off, rw_, ys, m, rfl, hs, hp, hoff⟩
              · omega
              · right
                rw [if_neg (by omega)]
                refine ⟨blk, off + a, rw_, ys, m, by simp [add_mk], hs, ?_, ?_⟩
                · obtain ⟨t, ht⟩ := hp
                  rw [show bytesV ((b.drop a).take n) = ((bytesV b).drop a).take n by simp [bytesV, List.map_take, List.map_drop], ← List.drop_drop, ← ht]
                  rw [List.drop_append_of_le_length (by rw [bytesV_length]; omega)]
                  exact (List.take_prefix _ _).trans (List.prefix_append _ _)
                · obtain ⟨t, ht⟩ := hp
                  have := congrArg List.length ht
                  simp [bytesV] at this
                  omega
          have e1 : a + n - a = n := by omega
          have b0 : (0 : Int) ≤ (a : Int) + n := by omega
          have b1 : ((a : Int) + n).toNat = a + n := by omega
          simp [go_sem, vgetV, vgetTextV, h1, hwm, h2, hwl, hwl2, h3, h3', hwn, hwe, c1, b0, b1, htx]
end
end Go.Proofs.Ytmgbknkjgfdllaa
set_option linter.unusedVariables false
set_option linter.unusedSimpArgs false
set_option maxRecDepth 100000
set_option maxHeartbeats 1000000
namespace Go.Proofs.Ytmgbknkjgfdllaa
open Go.RowKit (Below)

theorem xor_lt32 {a b : Nat} (ha : a < 2 ^ 32) (hb : b < 2 ^ 32) : a ^^^ b < 2 ^ 32 := Nat.xor_lt_two_pow ha hb
theorem bits_xor32 (a b : Nat) (ha : a < 2 ^ 32) (hb : b < 2 ^ 32) : bits .xor .u32 (a : Int) (b : Int) = ((a ^^^ b : Nat) : Int) := by
  have h1 : (BitVec.ofNat 32 a ^^^ BitVec.ofNat 32 b).toNat = a ^^^ b := by
    rw [BitVec.toNat_xor, BitVec.toNat_ofNat, BitVec.toNat_ofNat, Nat.mod_eq_of_lt ha, Nat.mod_eq_of_lt hb]
  unfold bits
  simp only [BitVec.ofInt_natCast]
  show IntKind.u32.wrap ((BitVec.ofNat 32 a ^^^ BitVec.ofNat 32 b).toNat : Int) = _
  rw [h1]
  have := xor_lt32 ha hb
  exact wraps_u32 _ (by omega) (by omega)
theorem bits_and15 (a : Nat) (h : a < 2 ^ 32) : bits .and .u32 (a : Int) 15 = ((a % 16 : Nat) : Int) := by
  have := bits_mask .u32 32 (by decide) wraps_u32 4 (by decide) (a : Int) (by omega) (by omega)
  simpa using this
def crcTab : List Nat := [0, 274646895, 549293790, 820201905, 1098587580, 1361435347, 1640403810, 1905808397, 2197175160, 2460548119, 2722870694, 2987750089, 3280807620, 3553878443, 3811616794, 4084100981]
def crcNib (r : Nat) : Nat := (r / 16) ^^^ crcTab.getD (r % 16) 0
def crcNibs : Nat → Nat → Nat
  | 0, q => q
  | m + 1, q => crcNibs m (crcNib q)
def crcByte (r : Nat) (x : UInt8) : Nat := crcNib (crcNib (r ^^^ x.toNat))
def crcM (b : Bs) : Nat := b.foldl crcByte 4294967295 ^^^ 4294967295
theorem bits_max32 (r : Nat) (h : r < 2 ^ 32) (m : Int) (hm : m = ((4294967295 : Nat) : Int)) : bits .xor .u32 m (r : Int) = ((4294967295 ^^^ r : Nat) : Int) := by
  subst hm
  exact bits_xor32 4294967295 r (by decide) h
theorem crcTab_lt (i : Nat) : crcTab.getD i 0 < 2 ^ 32 := by
  by_cases h : i < 16
  · have : ∀ j : Fin 16, crcTab.getD j.val 0 < 2 ^ 32 := by decide
    exact this ⟨i, h⟩
  · have : crcTab.getD i 0 = 0 := by
      rw [List.getD_eq_getElem?_getD, List.getElem?_eq_none (by simp [crcTab]; omega)]; rfl
    rw [this]; decide
theorem crcNib_lt {r : Nat} (h : r < 2 ^ 32) : crcNib r < 2 ^ 32 := xor_lt32 (by omega) (crcTab_lt _)
theorem crcByte_lt {r : Nat} (h : r < 2 ^ 32) (x : UInt8) : crcByte r x < 2 ^ 32 := crcNib_lt (crcNib_lt (xor_lt32 h (by have := x.toNat_lt; omega)))
theorem crc_lt : ∀ (b : Bs) (r : Nat), r < 2 ^ 32 → b.foldl crcByte r < 2 ^ 32
  | [], r, h => h
  | x :: b, r, h => crc_lt b _ (crcByte_lt h x)
theorem crcM_lt (b : Bs) : crcM b < 2 ^ 32 := xor_lt32 (crc_lt b _ (by decide)) (by decide)
section
variable {W0 : World} {st : Heap}
theorem sumMore_spec {bv : Value} {b : Bs} {g0 : Tg} (h : Reg st g0 1 bv (bytesV b) b.length) (hl : b.length < 2 ^ 60) :
    ICalls Try.prog W0 124 #[.int .u32 0, bv] st fun e st' => e = .returned (.int .u32 (crcM b)) ∧ New st st' := by
  obtain ⟨base, cap, rfl⟩ := h.slice
  refine enter (args := [_, _]) Try.func124 rfl ?_
  have hx0 : bits .xor .u32 4294967295 0 = 4294967295 := by decide
  have hmax : IntKind.u32.max = 4294967295 := by decide
  have hsg : IntKind.u32.signed = false := by decide
  simp [Try.f124, go_sem, hmax, hsg, hx0]
  unfold NewP
  intro tb htb
  refine ⟨.ty 0, ?_⟩
  simp [go_sem, hmax, hsg, hx0]
  have k1 : ∀ o, New st (upd st tb o) := fun o => (New.refl _).add htb
  refine ⟨fun E st' => New st st' ∧ st' tb = some (.cells true (crcTab.map fun n : Nat => Value.int .u32 (n : Int)) 16 (.ty 0)) ∧ E 5 = ptr tb ∧ E 12 = .slice base b.length cap ∧ E 13 = Val.i b.length ∧ ∃ (i r : Nat), E 14 = Val.i i ∧ E 6 = .int .u32 r ∧ i ≤ b.length ∧ r < 2 ^ 32 ∧ (b.drop i).foldl crcByte r = b.foldl crcByte 4294967295,
    fun E _ => match E 14 with | .int _ i => b.length - i.toNat | _ => 0, ⟨_, .rfl' _, k1 _, by rw [upd_same]; rfl, by simp [go_sem], by simp [go_sem], by simp [go_sem], 0, 4294967295, by simp [go_sem], by simp [go_sem], by omega, by decide, by simp⟩, ?_⟩
  rintro E st' ⟨hk, ht, e5, e12, e13, i, r, e14, e6, hi, hr, hrec⟩
  by_cases hlt : i < b.length
  · obtain ⟨x, hx⟩ : ∃ x, b[i]? = some x := ⟨_, List.getElem?_eq_getElem hlt⟩
    obtain ⟨blk, off, rfl, hg⟩ := src_get (h.new hk).src (by omega)
    have hg := hg i (by omega)
    have hgx : (bytesV b)[i]? = some (.int .u8 x.toNat) := by simp [bytesV, hx]
    rw [hgx] at hg
    have hx8 := x.toNat_lt
    have hdrop : b.drop i = x :: b.drop (i + 1) := by
      rw [List.drop_eq_getElem_cons hlt]
      congr 1
      rw [List.getElem?_eq_getElem hlt] at hx
      injection hx
    rw [hdrop] at hrec
    simp only [List.foldl_cons] at hrec
    have hwx : IntKind.u32.wrap (x.toNat : Int) = x.toNat := wraps_u32 _ (by omega) (by omega)
    have hxr := bits_xor32 r x.toNat hr (by omega)
    have hwi : IntKind.i64.wrap ((i : Int) + 1) = ((i + 1 : Nat) : Int) := by rw [wrap_id (by omega) (by omega)]; omega
    simp [go_sem, e5, e12, e13, e14, e6, hlt, hg, hwx, hxr]
    refine ⟨fun E st' => New st st' ∧ st' tb = some (.cells true (crcTab.map fun n : Nat => Value.int .u32 (n : Int)) 16 (.ty 0)) ∧ E 5 = ptr tb ∧ E 12 = .slice (some ⟨blk, off, none⟩) b.length cap ∧ E 13 = Val.i b.length ∧ E 14 = Val.i i ∧ ∃ (k q : Nat), E 22 = Val.i k ∧ E 6 = .int .u32 q ∧ k ≤ 2 ∧ q < 2 ^ 32 ∧ crcNibs (2 - k) q = crcByte r x,
      fun E _ => match E 22 with | .int _ k => 2 - k.toNat | _ => 0, ⟨st', .rfl' _, hk, ht, by simp [go_sem, e5], by simp [go_sem, e12], by simp [go_sem, e13], by simp [go_sem, e14], 0, r ^^^ x.toNat, by simp [go_sem], by simp [go_sem], by omega, xor_lt32 hr (by omega), rfl⟩, ?_⟩
    clear e5 e12 e13 e14 e6 hk ht
    rintro E st2 ⟨hk, ht, e5, e12, e13, e14, k, q, e22, e6, hk2, hq, hrep⟩
    by_cases hk3 : k < 2
    · have hk3' : (k : Int) < 2 := by omega
      obtain ⟨m, hm⟩ : ∃ m, 2 - k = m + 1 := ⟨1 - k, by omega⟩
      rw [hm] at hrep
      have hfd : ((q : Int).fdiv 16) = ((q / 16 : Nat) : Int) := by rw [Int.fdiv_eq_ediv_of_nonneg _ (by omega)]; omega
      have hand := bits_and15 q hq
      have hwk : IntKind.i64.wrap ((k : Int) + 1) = ((k + 1 : Nat) : Int) := by rw [wrap_id (by omega) (by omega)]; omega
      have htab : crcTab[q % 16]? = some (crcTab.getD (q % 16) 0) := by
        rw [List.getD_eq_getElem?_getD, List.getElem?_eq_getElem (by simp [crcTab]; omega)]; rfl
      have hxor := bits_xor32 (q / 16) (crcTab.getD (q % 16) 0) (by omega) (crcTab_lt _)
      generalize hT : crcTab.getD (q % 16) 0 = T at *
      generalize hA : q / 16 = A at *
      have hB : q % 16 < 16 := Nat.mod_lt _ (by decide)
      generalize hBB : q % 16 = B at *
      have hB' : (B : Int) < 16 := by omega
      have hnib : crcNib q = A ^^^ T := by unfold crcNib; rw [hA, hBB, hT]
      simp [go_sem, e5, e12, e13, e14, e6, e22, hk3', hfd, hand, hwk, htab, hxor, ht, hB']
      refine ⟨st2, .rfl' _, ⟨hk, ht, k + 1, by omega, A ^^^ T, by omega, by omega, by rw [← hnib]; exact crcNib_lt hq, ?_⟩, by omega⟩
      rw [← hrep, show 2 - (k + 1) = m by omega, ← hnib]
      rfl
    · have : k = 2 := by omega
      subst this
      simp [go_sem, e5, e12, e13, e14, e6, e22, hwi]
      refine ⟨st2, .rfl' _, ⟨hk, ht, i + 1, by omega, q, by omega, by omega, by omega, ?_⟩, by omega⟩
      rw [← hrec, ← hrep]
      rfl
  · have : i = b.length := by omega
    subst this
    have hxe : bits .xor .u32 4294967295 (r : Int) = ((4294967295 ^^^ r : Nat) : Int) := bits_max32 r hr _ rfl
    simp at hrec
    simp [go_sem, e5, e12, e13, e14, e6, hlt, hmax, hsg, hxe]
    refine ⟨?_, hk⟩
    unfold crcM
    rw [← hrec, Nat.xor_comm]
end
end Go.Proofs.Ytmgbknkjgfdllaa
