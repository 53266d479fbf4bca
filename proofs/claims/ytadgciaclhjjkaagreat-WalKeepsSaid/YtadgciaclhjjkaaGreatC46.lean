/- What is left of a file system behind a crash: of few names. -/
import Derived.Test.YtadgciaclhjjkaaGreatC45
set_option linter.unusedVariables false
set_option linter.unusedSimpArgs false
set_option maxRecDepth 100000
set_option maxHeartbeats 2000000
namespace Go.Proofs.YtadgciaclhjjkaaGreat
open Go.RowKit (Below)

def bornKey (d : Dir) (n : ByteArray) : Int := (((aget d n).getD 0 : Nat) : Int)
theorem afind_of_mem {d : Dir} {n : ByteArray} {k : Nat} (h : Names d) (hm : (n, k) ∈ d) : ∃ j, afind n d 0 = some (j, k) := by
  have := (aget_iff h).2 hm
  unfold aget at this
  obtain ⟨p, h1, h2⟩ := Option.map_eq_some_iff.1 this
  exact ⟨p.1, by rw [h1, ← h2]⟩
section
variable {W0 : World} {st : Heap}
/-- The comparison of births. -/
theorem byBirth_spec {f sm tb dm : Nat} {g g' : Tg} {ad : Nat → Nat} {d : Dir} {files : List VFile} {a c : ByteArray} {K : Value → Heap → Prop} {Kp : List PanicEntry → Heap → Prop} (htb : st tb = some (.cells true [.map (some dm)] 1 g)) (hdm : st dm = some (.map g' (encM ad d))) (hn : Names d)
    (hF : ∀ (i : Nat) (F : VFile), files[i]? = some F → FileAt st f i (ad i) F ∧ F.born = i) (hlt : ∀ p ∈ d, p.2 < files.length) (hfl : files.length < 2 ^ 40) (ha : a ∈ d.map (·.1)) (hc : c ∈ d.map (·.1))
    (hk : K (.int .i64 (bornKey d a - bornKey d c)) st) : callY Tryz.prog W0 (.func (.func 100) #[] #[ptr tb]) [.string a, .string c] K Kp st := by
  obtain ⟨⟨a', i⟩, ha1, rfl⟩ := List.mem_map.1 ha
  obtain ⟨⟨c', k⟩, hc1, rfl⟩ := List.mem_map.1 hc
  obtain ⟨j1, hj1⟩ := afind_of_mem hn ha1
  obtain ⟨j2, hj2⟩ := afind_of_mem hn hc1
  have hi := hlt _ ha1
  have hkk := hlt _ hc1
  obtain ⟨⟨sv1, pv1, nv1, us1, h1, _⟩, b1⟩ := hF i _ (List.getElem?_eq_getElem hi)
  obtain ⟨⟨sv2, pv2, nv2, us2, h2, _⟩, b2⟩ := hF k _ (List.getElem?_eq_getElem hkk)
  rw [b1] at h1
  rw [b2] at h2
  have e1 : bornKey d a' = i := by unfold bornKey; rw [(aget_iff hn).2 ha1]; rfl
  have e2 : bornKey d c' = k := by unfold bornKey; rw [(aget_iff hn).2 hc1]; rfl
  simp only at e1 e2 hk
  rw [e1, e2] at hk
  have hcl := callY_clos (P := Tryz.prog) (W0 := W0) (K := K) (Kp := Kp) (st := st) 100 [] [ptr tb] [.string a', .string c'] (by kernel_rfl)
  refine hcl.mpr ?_
  refine enter (args := [_, _, _]) Tryz.func100 rfl ?_
  simp only at hi hkk
  have hw : IntKind.i64.wrap ((i : Int) - k) = (i : Int) - k := wrap_id (by omega) (by omega)
  simp [Tryz.f100, go_sem]
  refine draw [1, 7, 0, 2, 3, 4, 5, 6, 8, 9, 10, 11, 12, 13] (by kernel_rfl) ?_
  simp [go_sem, htb, hdm, mfind_encM, hj1, hj2, h1, h2, hw]
  exact hk
/-- The names sorted by birth. -/
theorem SortByBirth {f tb dm : Nat} {ad : Nat → Nat} {d sd : Dir} {files : List VFile} {ns : List ByteArray} {vb : Option Addr} {vc : Nat} {g g' : Tg} (htb : st tb = some (.cells true [.map (some dm)] 1 g)) (hgt : g ≠ .own f 0 9) (hdm : st dm = some (.map g' (encM ad d))) (hgd : g' ≠ .own f 0 9) (hn : Names d)
    (hF : ∀ (i : Nat) (F : VFile), files[i]? = some F → FileAt st f i (ad i) F ∧ F.born = i) (hlt : ∀ p ∈ d, p.2 < files.length) (hfl : files.length < 2 ^ 40) (hns : ns.Perm (d.map (·.1))) (hsp : sd.Perm d) (hss : sd.Pairwise (fun p q => p.2 < q.2)) (hl : ns.length ≤ 12)
    (hv : Vec st (.own f 0 9) 1 (.slice vb ns.length vc) (ns.map .string) ns.length) :
    ICalls Tryz.prog W0 99 #[.slice vb ns.length vc, .func (.func 100) #[] #[ptr tb]] st fun e st' => e = .returned (.tuple #[]) ∧ Vec st' (.own f 0 9) 1 (.slice vb ns.length vc) ((sd.map (·.1)).map .string) ns.length ∧ Keep (fun t => t ≠ .own f 0 9) st st' := by
  have huniq : ∀ l : List ByteArray, l.Perm ns → SortedM (fun x y => decide (bornKey d x - bornKey d y < 0)) l → l = sd.map (·.1) := by
    intro l hp hsl
    have key : ∀ p ∈ sd, bornKey d p.1 = p.2 := fun p hp => by
      unfold bornKey
      rw [(aget_iff hn).2 (show (p.1, p.2) ∈ d from hsp.mem_iff.1 hp)]
      rfl
    have hpp : l.Perm (sd.map (·.1)) := (hp.trans hns).trans (hsp.map _).symm
    refine SortedM.unique hsl ?_ hpp ?_
    · unfold SortedM
      rw [List.pairwise_map]
      refine List.Pairwise.imp_of_mem ?_ hss
      intro p q hp hq hpq
      simp only [key p hp, key q hq, decide_eq_false_iff_not]
      omega
    · intro a b ha hb h1 h2
      obtain ⟨p, hp, rfl⟩ := List.mem_map.1 (hpp.mem_iff.1 ha)
      obtain ⟨q, hq, rfl⟩ := List.mem_map.1 (hpp.mem_iff.1 hb)
      simp only [key p hp, key q hq, decide_eq_false_iff_not] at h1 h2
      have hpq : p.2 = q.2 := by omega
      obtain ⟨i, hi, rfl⟩ := List.getElem_of_mem hp
      obtain ⟨j, hj, rfl⟩ := List.getElem_of_mem hq
      have hw := List.pairwise_iff_getElem.1 hss
      rcases Nat.lt_trichotomy i j with hij | hij | hij
      · have := hw i j hi hj hij; omega
      · subst hij; rfl
      · have := hw j i hj hi hij; omega
  by_cases hsmall : ns.length ≤ 1
  · refine (SortFunc_small (by omega)).mono ?_
    rintro e st2 ⟨rfl, rfl⟩
    have : ns = sd.map (·.1) := huniq ns (List.Perm.refl _) (by
      match ns, hsmall with
      | [], _ => simp [SortedM]
      | [x], _ => simp [SortedM]
      | x :: y :: l, h => simp at h)
    rw [← this]
    exact ⟨rfl, hv, .rfl'⟩
  · obtain ⟨z1, base, cap, z4, z5, z6⟩ := hv
    injection z4 with q1 q2 q3; subst q1; subst q3
    rcases z6 with ⟨b9, n9, rfl, w2, w3⟩ | ⟨rfl, hc0⟩
    · refine (SortFunc_few (cmp := fun a c => bornKey d a - bornKey d c) w2 (by omega) hl ?_).mono ?_
      · intro st' a c K Kp hk ha hc hK
        exact byBirth_spec (sm := 0) (files := files) (hk.get htb hgt) (hk.getM hdm hgd) hn (fun i F hi => ⟨(hF i F hi).1.keep hk (by intro r h1 h2; simp; omega), (hF i F hi).2⟩) hlt hfl (hns.mem_iff.1 ha) (hns.mem_iff.1 hc) hK
      · rintro e st2 ⟨rfl, rfl⟩
        obtain ⟨h1, h2⟩ := isort_ok (ltOK_key (bornKey d)) ns
        have := huniq _ h2 h1
        rw [this]
        have hlen : (sd.map (·.1)).length = ns.length := by rw [← this, h2.length_eq]
        exact ⟨rfl, Vec.new (by simp at hlen ⊢; omega) z5 (upd_same _ _ _) w3, Keep.rfl'.old w2 (by simp [HObj.tag])⟩
    · omega
theorem CrashN_spec {f : Nat} {S : VFS} {ops : Int} {picks : List Int} {pv : Value} {gp : Tg} {d sd : Dir} {L' : VFS} (h : FSAt st f S) (hs : S.small) (hnames : Names S.sure) (hborn : ∀ (i : Nat) (F : VFile), S.files[i]? = some F → F.born = i) (hd : crashM S.turns 0 ops S.sure = some d) (hdl : d.length ≤ 12)
    (hsp : sd.Perm d) (hss : sd.Pairwise (fun p q => p.2 < q.2)) (hleft : leftM S.files picks 0 sd .new = some L') (hsum : ∀ F ∈ S.files, F.sure.length + (F.pend.map (·.b.length)).sum < 2 ^ 40)
    (hp : Reg st gp 1 pv (picks.map Val.i) picks.length) (hgp : ∀ g, Out g gp) (hpb : ∀ x ∈ picks, -2 ^ 63 ≤ x ∧ x < 2 ^ 63) :
    ICalls Tryz.prog W0 43 #[ptr f, Val.i ops, pv] st fun e st' => ∃ f2, e = .returned (ptr f2) ∧ (∀ rw xs n g, st f2 ≠ some (.cells rw xs n (.own g 0 0))) ∧ FSAt st' f S ∧ FSAt st' f2 L' ∧ Keep (fun t => Out f t ∧ Out f2 t) st st' := by
  obtain ⟨sm, nm, tv, ad, h1, h2, h3, h4, h5, h6⟩ := h
  refine enter (args := [_, _, _]) Tryz.func43 rfl ?_
  simp [Tryz.f43, go_sem]
  unfold NewM
  intro dm hdm
  refine ⟨.own f 0 8, ?_⟩
  simp [go_sem]
  unfold NewP
  intro tb htb
  refine ⟨.own f 0 10, ?_⟩
  simp [go_sem]
  have k1 : Keep (fun _ => True) st (upd (upd st dm (.map (.own f 0 8) [])) tb (.cells true [.map (some dm)] 1 (.own f 0 10))) := (Keep.rfl'.new hdm).new htb
  have hdt : dm ≠ tb := ne_of_new (upd_same st dm _) htb
  have d1 : (upd (upd st dm (.map (.own f 0 8) [])) tb (.cells true [.map (some dm)] 1 (.own f 0 10))) dm = some (.map (.own f 0 8) []) := by rw [upd_ne _ _ hdt, upd_same]
  have t1 := upd_same (upd st dm (.map (.own f 0 8) [])) tb (.cells true [.map (some dm)] 1 (.own f 0 10))
  generalize hst1 : upd (upd st dm _) tb _ = st1 at *
  have h1a := k1.get h1 trivial
  have h2a := k1.getM h2 trivial
  simp [go_sem, h1a, fsC]
  refine RangeI_start h2a ?_
  intro b st2 hb hi ho
  simp [go_sem]
  have hsb := ne_of_new h2a hb
  have hsdm : sm ≠ dm := ne_of_new h2 hdm
  have hdb := ne_of_new d1 hb
  have hst2 : ∀ k o, st1 k = some o → k ≠ sm → k ≠ dm → st2 k = some o := fun k o hk hn _ => by rw [ho k hn (ne_of_new hk hb)]; exact hk
  have d2 : st2 dm = some (.map (.own f 0 8) []) := by rw [ho dm (Ne.symm hsdm) hdb]; exact d1
  have esl : (encM ad S.sure).length = S.sure.length := by simp [encM]
  refine ⟨fun E st' => E 0 = ptr f ∧ E 1 = Val.i ops ∧ E 2 = pv ∧ E 7 = ptr tb ∧ E 23 = ptr' b ∧ (∀ k o, st1 k = some o → k ≠ sm → k ≠ dm → st' k = some o) ∧ ∃ dl : Dir, (∀ p ∈ dl, p ∈ S.sure) ∧ st' dm = some (.map (.own f 0 8) (encM ad dl)) ∧ Iter st' sm b (encM ad S.sure) (encM ad dl),
    fun _ st' => S.sure.length - (match st' dm with | some (.map _ es) => es.length | _ => 0), ⟨st2, .rfl' _, by simp [go_sem], by simp [go_sem], by simp [go_sem], by simp [go_sem], by simp [go_sem], hst2, [], by simp, d2, hi⟩, ?_⟩
  clear hi
  rintro E st' ⟨e0, e1, e2, e7, e23, hkp, dl, hsub, hdmL, hi⟩
  simp [go_sem, e23]
  refine NextI_step (.own f 0 5) hsb hi ?_ ?_
  case refine_2 =>
    intro kk v st5 hm hi2 ho2
    obtain ⟨p, hp, hpe⟩ := List.mem_map.1 hm
    injection hpe with hk hv'
    subst hk
    subst hv'
    have hlen := hi2.len
    rw [esl] at hlen
    simp only [List.length_append, List.length_singleton] at hlen
    have hdm5 : st5 dm = some (.map (.own f 0 8) (encM ad dl)) := by rw [ho2 dm hdb]; exact hdmL
    have htb5 : st5 tb = some (.cells true [.map (some dm)] 1 (.own f 0 10)) := by
      have htsm : tb ≠ sm := by rintro rfl; rw [t1] at h2a; cases h2a
      rw [ho2 tb (ne_of_new t1 hb)]
      exact hkp tb _ t1 htsm (Ne.symm hdt)
    simp [go_sem, e23]
    refine EntryI_last hi2 ?_
    have hmset := mset_new (hi2.keys (encM_nodup hnames))
    simp only [ptr] at hmset
    simp [go_sem, e0, e1, e2, e7, e23, htb5, hdm5, hmset]
    refine ⟨_, .rfl' _, ⟨?_, dl ++ [p], ?_, by rw [upd_same], ?_⟩, ?_⟩
    · intro k o hk hn hn'
      rw [upd_ne _ _ hn', ho2 k (ne_of_new hk hb)]
      exact hkp k o hk hn hn'
    · intro q1 q2 hq
      rcases List.mem_append.1 hq with hq | hq
      · exact hsub _ hq
      · simp at hq; subst hq; exact hp
    · refine Iter.keep ?_ (upd_ne _ _ hsdm) (upd_ne _ _ (Ne.symm hdb))
      simpa [encM] using hi2
    · rw [upd_same, hdmL]
      simp [encM] at hlen ⊢
      omega
  intro hperm
  have hnl : Names dl := by
    have := hi.keys (encM_nodup hnames)
    rw [encM_keys] at this
    exact (List.pairwise_map.1 this).imp fun h e => h (by rw [e])
  have hdlp : dl.Perm S.sure := perm_of_sub hnl.nodup hnames.nodup hsub (by have := hperm.length_eq; simp [encM] at this; omega)
  obtain ⟨d', hd', hpd, hnd⟩ := crashM_perm hnames hdlp.symm hd
  have hs3 : Keep (fun t => t ≠ .own f 0 8) st1 (upd st' sm (.map (.own f 0 5) (encM ad S.sure))) := by
    intro k o g hk ht hne
    by_cases hkn : k = sm
    · subst hkn; rw [h2a] at hk; injection hk with hk; subst hk; exact upd_same _ _ _
    · rw [upd_ne _ _ hkn]
      refine hkp k o hk hkn ?_
      rintro rfl; rw [d1] at hk; injection hk with hk; subst hk; injection ht with ht; exact hne ht.symm
  have d1b : (upd st' sm (.map (.own f 0 5) (encM ad S.sure))) dm = some (.map (.own f 0 8) (encM ad dl)) := by rw [upd_ne _ _ (Ne.symm hsdm)]; exact hdmL
  generalize hst3 : upd st' sm _ = st3 at *
  have h1b := hs3.get h1a (by simp)
  have t1b := hs3.get t1 (by simp)
  have h4b := (h4.keep k1 trivial).keep hs3 (by simp)
  obtain ⟨tvb, tvc, rfl⟩ := h4.slice
  simp [go_sem, e0, e1, e2, e7, e23, h1b, fsC]
  refine ⟨fun E st' => Keep (fun t => t ≠ .own f 0 8) st3 st' ∧ E 0 = ptr f ∧ E 1 = Val.i ops ∧ E 2 = pv ∧ E 7 = ptr tb ∧ E 35 = .slice tvb S.turns.length tvc ∧ E 36 = Val.i S.turns.length ∧ ∃ j dj, j ≤ S.turns.length ∧ E 37 = Val.i j ∧ st' dm = some (.map (.own f 0 8) (encM ad dj)) ∧ crashM (S.turns.drop j) j ops dj = some d',
    fun E _ => match E 37 with | .int _ j => S.turns.length - j.toNat | _ => 0, ⟨st3, .rfl' _, .rfl', by simp [go_sem, e0], by simp [go_sem, e1], by simp [go_sem, e2], by simp [go_sem, e7], by simp [go_sem], by simp [go_sem], 0, dl, Nat.zero_le _, by simp [go_sem], d1b, by simpa using hd'⟩, ?_⟩
  rintro E st4 ⟨hk4, e0, e1, e2, e7, e35, e36, j, dj, hj, e37, hdj, hcr⟩
  by_cases hlt : j < S.turns.length
  · have htj : S.turns[j]? = some S.turns[j] := List.getElem?_eq_getElem hlt
    generalize S.turns[j] = t at htj
    obtain ⟨w1, w2⟩ := flatMap_get (ad := ad) htj
    have hdrop : S.turns.drop j = t :: S.turns.drop (j + 1) := by
      rw [List.drop_eq_getElem_cons hlt]
      congr 1
      rw [List.getElem?_eq_getElem hlt] at htj
      injection htj
    rw [hdrop] at hcr
    unfold crashM at hcr
    obtain ⟨hl, base, cap, hv', hc, hbase⟩ := h4b.keep hk4 (by simp)
    injection hv' with q1 q2 q3; subst q1; subst q3
    have hsl := hs.1
    have hw : IntKind.i64.wrap ((j : Int) + 1) = j + 1 := wrap_id (by omega) (by omega)
    rcases hbase with ⟨b0, n0, rfl, hb0, hn0⟩ | ⟨rfl, hc0⟩
    · obtain ⟨cs, hcs⟩ : ∃ cs, cs = S.turns.flatMap (encT ad) := ⟨_, rfl⟩
      rw [← hcs] at hb0 w1 w2
      unfold encT at w1
      simp [go_sem, e35, e36, e37, hlt, hb0, w1, w2]
      unfold NewP
      intro b5 hb5
      refine ⟨.ty 0, ?_⟩
      have k5 : ∀ o, Keep (fun _ => True) st4 (upd st4 b5 o) := fun o => Keep.rfl'.new hb5
      have t1c := hk4.get t1b (by simp)
      have hbt := ne_of_new t1c hb5
      have hbd := ne_of_new hdj hb5
      by_cases hlo : (j : Int) < ops
      · rw [if_pos hlo] at hcr
        obtain ⟨dj', hdo, hcr⟩ := Option.bind_eq_some_iff.1 hcr
        simp [go_sem, e0, e1, e2, e7, e35, e36, e37, hlo, hbt, t1c, hw]
        refine ICalls.mono (does_spec (t := t) ((k5 _).getM hdj trivial) hdo) ?_
        rintro e st6 ⟨rfl, rfl⟩
        simp [go_sem, e0, e1, e2, e7, e35, e36, e37, hw]
        refine ⟨_, .rfl' _, ⟨?_, j + 1, hlt, by omega, dj', upd_same _ _ _, hcr⟩, by omega⟩
        exact (hk4.trans ((k5 _).imp fun _ _ => trivial)).old ((k5 _).getM hdj trivial) (by simp [HObj.tag])
      · rw [if_neg hlo] at hcr
        simp [go_sem, e0, e1, e2, e7, e35, e36, e37, hlo, hw]
        refine ⟨_, .rfl' _, ⟨?_, j + 1, hlt, by omega, dj, (k5 _).getM hdj trivial, hcr⟩, by omega⟩
        exact hk4.trans ((k5 _).imp fun _ _ => trivial)
    · omega
  · have hje : j = S.turns.length := by omega
    subst hje
    rw [List.drop_length] at hcr
    injection hcr with hcr
    subst hcr
    have t1c := hk4.get t1b (by simp)
    have hndj := hnd.perm hpd
    simp [go_sem, e35, e36, e37, e7, t1c]
    refine RangeI_start hdj ?_
    intro b7 st5 hb7 hi7 ho7
    simp [go_sem, e7]
    have hdb := ne_of_new hdj hb7
    have hbut : But dm (.own f 0 9) st4 st5 := fun k o hk hn _ => by rw [ho7 k hn (ne_of_new hk hb7)]; exact hk
    refine ⟨fun E st' => E 50 = ptr' b7 ∧ E 0 = ptr f ∧ E 2 = pv ∧ E 7 = ptr tb ∧ But dm (.own f 0 9) st4 st' ∧ ∃ L v, StrKeys L ∧ Iter st' dm b7 (encM ad dj) L ∧ E 12 = v ∧ Vec st' (.own f 0 9) 1 v (L.map (·.1)) L.length,
      fun E st' => dj.length - (match E 12 with | .slice _ n _ => n | _ => 0), ⟨st5, .rfl' _, by simp [go_sem], by simp [go_sem, e0], by simp [go_sem, e2], by simp [go_sem, e7], hbut, [], .slice none 0 0, rfl, hi7, by simp [go_sem], Vec.nil⟩, ?_⟩
    clear e0 e1 e2 e7 e35 e36 e37
    rintro E st6 ⟨e50, e0, e2, e7, hbut, L, v, hLs, hi, e12, hv⟩
    obtain ⟨vb, vc, rfl⟩ := hv.slice
    simp [go_sem, e50]
    refine NextI_step (.own f 0 8) hdb hi ?_ ?_
    · intro hperm
      have hln : L.length = dj.length := by rw [hperm.length_eq]; simp [encM]
      have hdl12 : dj.length ≤ 12 := by rw [← hpd.length_eq]; exact hdl
      obtain ⟨ns, hns⟩ : ∃ ns, ns = L.map fun x => unS x.1 := ⟨_, rfl⟩
      unfold StrKeys at hLs
      rw [← hns] at hLs
      have hnsl : ns.length = L.length := by rw [hns]; simp
      have hnp : ns.Perm (dj.map (·.1)) := by
        refine strings_perm ?_
        rw [← hLs, ← encM_keys ad]
        exact hperm.map _
      have kA : Keep (fun t => t ≠ .own f 0 8 ∧ t ≠ .own f 0 9) st (upd st6 dm (.map (.own f 0 8) (encM ad dj))) := by
        intro k o g hk ht hpg
        have q1 := hk4 k o g (hs3 k o g (k1 k o g hk ht trivial) ht hpg.1) ht hpg.1
        have hkn : k ≠ dm := by rintro rfl; rw [hdm] at hk; cases hk
        rw [upd_ne _ _ hkn]
        exact hbut k o q1 hkn (by rw [ht]; intro e; injection e with e; exact hpg.2 e)
      have dmA := upd_same st6 dm (.map (.own f 0 8) (encM ad dj))
      have htd : tb ≠ dm := Ne.symm hdt
      have tbA : (upd st6 dm (.map (.own f 0 8) (encM ad dj))) tb = some (.cells true [.map (some dm)] 1 (.own f 0 10)) := by
        rw [upd_ne _ _ htd]
        exact hbut tb _ t1c htd (by simp [HObj.tag])
      have hvA : Vec (upd st6 dm (.map (.own f 0 8) (encM ad dj))) (.own f 0 9) 1 (.slice vb L.length vc) (L.map (·.1)) L.length := by
        obtain ⟨z1, z2, z3, z4, z5, z6⟩ := hv
        refine ⟨z1, z2, z3, z4, z5, z6.imp ?_ id⟩
        rintro ⟨b9, n9, w1, w2, w3⟩
        obtain ⟨ents, clock, seen, Ls, q1, q2, q3, q4⟩ := hi
        exact ⟨b9, n9, w1, by rw [upd_ne _ _ (by rintro rfl; rw [q2] at w2; cases w2)]; exact w2, w3⟩
      generalize hstA : upd st6 dm _ = stA at *
      have h6d : ∀ p ∈ dj, p.2 < S.files.length := by
        intro p hp
        have hp' := hpd.mem_iff.2 hp
        have : ∀ (ts : List VTurn) (i : Nat) (l l' : Dir), crashM ts i ops l = some l' → (∀ p ∈ l, p.2 < S.files.length) → (∀ t ∈ ts, ∀ i, t.file = some i → i < S.files.length) → ∀ p ∈ l', p.2 < S.files.length := by
          intro ts
          induction ts with
          | nil => intro i l l' h hl _; injection h with h; subst h; exact hl
          | cons t ts ih =>
            intro i l l' h hl hf
            unfold crashM at h
            split at h
            · obtain ⟨m, hm1, hm2⟩ := Option.bind_eq_some_iff.1 h
              exact ih _ _ _ hm2 (does_ok hm1 hl (hf t (by simp))) fun t' ht' => hf t' (by simp [ht'])
            · exact ih _ _ _ h hl fun t' ht' => hf t' (by simp [ht'])
        exact this _ _ _ _ hd h6.1 h6.2.2 p hp'
      simp [go_sem, e0, e2, e7, e12]
      rw [← hnsl, hLs] at hvA
      rw [← hnsl]
      refine ICalls.mono (SortByBirth (files := S.files) (d := dj) (sd := sd) tbA (by simp) dmA (by simp) hndj (fun i F hi => ⟨(h5 i F hi).keep kA (by intro r h1 h2; constructor <;> simp <;> omega), hborn i F hi⟩) h6d hs.2.1 hnp (hsp.trans hpd) hss (by omega) hvA) ?_
      rintro e st7 ⟨rfl, hvS, kS⟩
      have kA' : Keep (fun t => t ≠ .own f 0 8 ∧ t ≠ .own f 0 9) st st7 := kA.trans (kS.imp fun g h => h.2)
      have dmA' := kS.getM dmA (by simp)
      have tbA' := kS.get tbA (by simp)
      simp [go_sem]
      refine New_spec.mono ?_
      rintro e st8 ⟨f2, rfl, hf2, hF2, kn⟩
      have hff : f ≠ f2 := ne_of_new (kA'.get h1 (by simp)) hf2
      have kB : Keep (fun t => t ≠ .own f 0 8 ∧ t ≠ .own f 0 9) st st8 := kA'.trans (kn.imp fun _ _ => trivial)
      have dmB := kn.getM dmA' trivial
      have tbB := kn.get tbA' trivial
      have hvB := hvS.keep kn trivial
      have hf2s : ∀ rw xs n g, st f2 ≠ some (.cells rw xs n (.own g 0 0)) := by
        intro rw xs n g hq
        have := kA'.get hq (by simp)
        rw [hf2] at this
        cases this
      have hsdl : sd.length = ns.length := by rw [hsp.length_eq, hpd.length_eq]; omega
      rw [← hsdl] at hvB
      simp [go_sem, e0, e2, e7, e12, ← hnsl, ← hsdl]
      have hp0 : Plain VFS.new 0 := ⟨rfl, rfl, by intro F hF; cases hF⟩
      refine ⟨fun E st' => E 63 = .slice vb sd.length vc ∧ E 64 = Val.i sd.length ∧ E 2 = pv ∧ E 7 = ptr tb ∧ E 14 = ptr f2 ∧ Keep (Out f2) st8 st' ∧ ∃ (j : Nat) (Sj : VFS), j ≤ sd.length ∧ E 65 = Val.i j ∧ FSAt st' f2 Sj ∧ Plain Sj j ∧ leftM S.files picks j (sd.drop j) Sj = some L',
        fun E _ => match E 65 with | .int _ j => sd.length - j.toNat | _ => 0, ⟨st8, .rfl' _, by simp [go_sem, e12], by simp [go_sem], by simp [go_sem, e2], by simp [go_sem, e7], by simp [go_sem], .rfl', 0, .new, Nat.zero_le _, by simp [go_sem], hF2, hp0, by simpa using hleft⟩, ?_⟩
      clear e0 e2 e7 e12 e50
      rintro E st9 ⟨e63, e64, e2, e7, e14, k9, j, Sj, hj, e65, hF9, hpl9, hlf9⟩
      have kZ : Keep (fun t => t ≠ .own f 0 8 ∧ t ≠ .own f 0 9 ∧ Out f2 t) st st9 := (kB.imp fun g h => ⟨h.1, h.2.1⟩).trans (k9.imp fun g h => h.2.2)
      by_cases hlt : j < sd.length
      · obtain ⟨n, i, hsj⟩ : ∃ n i, sd[j] = (n, i) := ⟨_, _, rfl⟩
        have hsj? : sd[j]? = some (n, i) := by rw [List.getElem?_eq_getElem hlt, hsj]
        have hdrop : sd.drop j = (n, i) :: sd.drop (j + 1) := by rw [List.drop_eq_getElem_cons hlt, hsj]
        rw [hdrop] at hlf9
        unfold leftM at hlf9
        obtain ⟨F, hFi, hlf9⟩ := Option.bind_eq_some_iff.1 hlf9
        obtain ⟨r, hwith, hlf9⟩ := Option.bind_eq_some_iff.1 hlf9
        have hmem : (n, i) ∈ dj := (hsp.trans hpd).mem_iff.1 (List.mem_of_getElem? hsj?)
        obtain ⟨jj, hjj⟩ := afind_of_mem hndj hmem
        have hv9 := hvB.keep k9 (by intro x r; simp; omega)
        obtain ⟨nb, noff, rfl, hng⟩ := src_get hv9.src (by omega)
        have hng0 := hng j (by omega)
        have hgj : ((sd.map (·.1)).map Value.string)[j]? = some (.string n) := by simp [hsj?]
        rw [hgj] at hng0
        have hp9 := hp.keep kZ ⟨by simpa using hgp f 0 8, by simpa using hgp f 0 9, hgp f2⟩
        have tb9 := k9.get tbB (by intro x r; simp; omega)
        have dm9 := k9.getM dmB (by intro x r; simp; omega)
        obtain ⟨pb, pc, rfl⟩ := hp9.slice
        have hF9i := (h5 i F hFi).keep kZ (by intro r h1 h2; refine ⟨by simp; omega, by simp; omega, ?_⟩; intro x r'; simp; omega)
        have hw : IntKind.i64.wrap ((j : Int) + 1) = j + 1 := wrap_id (by omega) (by omega)
        have hFm := List.mem_of_getElem? hFi
        have hrl := withM_len hwith
        have hsm := hsum F hFm
        have fin : ∀ (st10 st11 : Heap), Keep (fun t => t ≠ .own f2 j 3) st9 st10 → FSAt st11 f2 (Sj.lay n r) → Keep (Out f2) st10 st11 → Keep (Out f2) st8 st11 ∧ ∃ (j' : Nat), j' ≤ sd.length ∧ ((j : Int) + 1) = j' ∧ ∃ (Sj' : VFS), FSAt st11 f2 Sj' ∧ Plain Sj' j' ∧ leftM S.files picks j' (sd.drop j') Sj' = some L' := by
          intro st10 st11 k10 hF11 k11
          exact ⟨(k9.trans (k10.imp fun g h => h j 3)).trans k11, j + 1, hlt, by omega, Sj.lay n r, hF11, hpl9.lay n (by omega), hlf9⟩
        have hFk : ∀ st10, Keep (fun t => t ≠ .own f2 j 3) st9 st10 → FSAt st10 f2 Sj := by
          intro st10 k10
          refine FSAt.keep' k10 (by simp) (by simp) (by simp) (by simp) ?_ hF9
          intro i r hi _ _
          rw [hpl9.len] at hi
          simp; omega
        by_cases hpk : picks = []
        · subst hpk
          simp [go_sem, e63, e64, e65, e2, e7, e14, hng0, tb9, dm9, mfind_encM, hjj, hlt]
          have hpa : pickAt [] j = 0 := by simp [pickAt]
          rw [hpa] at hwith
          refine (with_spec (.own f2 j 3) (by intro x r; simp; omega) hF9i hwith (by omega) (by omega) (hs.2.2 F hFm).2.2 (hs.2.2 F hFm).1 hsm).mono ?_
          rintro e st10 ⟨v, rfl, hv10, k10⟩
          simp [go_sem, e63, e64, e65, e2, e7, e14]
          have hv10' : Vec st10 (.own f2 Sj.files.length 3) 1 v (bytesV r) r.length := by rw [hpl9.len]; exact hv10
          refine (lay_spec (b := r) (hFk st10 k10) (hpl9.small (by omega)) hv10').mono ?_
          rintro e st11 ⟨rfl, hF11, k11⟩
          simp [go_sem, e63, e64, e65, e2, e7, e14, hw]
          exact ⟨st11, .rfl' _, fin st10 st11 k10 hF11 k11, by omega⟩
        · have hpos : 0 < picks.length := List.length_pos_iff.2 hpk
          obtain ⟨qb, qoff, rfl, hqg⟩ := src_get hp9.src hpos
          have hmod := Nat.mod_lt j hpos
          have hqg0 := hqg (j % picks.length) (by omega)
          obtain ⟨x, hx⟩ : ∃ x, picks[j % picks.length]? = some x := ⟨_, List.getElem?_eq_getElem hmod⟩
          have hgx : (picks.map Val.i)[j % picks.length]? = some (.int .i64 x) := by simp [hx]
          rw [hgx] at hqg0
          have hpa : pickAt picks j = x := by simp [pickAt, hpk, List.getD, hx]
          rw [hpa] at hwith
          have hxb := hpb x (List.mem_of_getElem? hx)
          have hmodI : ((j : Int).tmod picks.length) = ((j % picks.length : Nat) : Int) := by rw [Int.tmod_eq_emod_of_nonneg (by omega)]; rfl
          have hm1 : ((j % picks.length : Nat) : Int) < picks.length := by omega
          have hne0 : ¬ (picks.length : Int) = 0 := by omega
          simp [go_sem, e63, e64, e65, e2, e7, e14, hng0, tb9, dm9, mfind_encM, hjj, hlt, hpos, hne0, hpk]
          rw [hmodI]
          have hge : (0 : Int) ≤ ((j % picks.length : Nat) : Int) := by omega
          simp only [go_sem, hge, hm1, Int.toNat_natCast, Nat.mul_one, true_and, hqg0, e63, e64, e65, e2, e7, e14, simprocAttr, tb9, dm9, mfind_encM, hjj]
          simp [go_sem, e63, e64, e65, e2, e7, e14, tb9, dm9, mfind_encM, hjj]
          refine (with_spec (.own f2 j 3) (by intro x r; simp; omega) hF9i hwith hxb.1 hxb.2 (hs.2.2 F hFm).2.2 (hs.2.2 F hFm).1 hsm).mono ?_
          rintro e st10 ⟨v, rfl, hv10, k10⟩
          simp [go_sem, e63, e64, e65, e2, e7, e14]
          have hv10' : Vec st10 (.own f2 Sj.files.length 3) 1 v (bytesV r) r.length := by rw [hpl9.len]; exact hv10
          refine (lay_spec (b := r) (hFk st10 k10) (hpl9.small (by omega)) hv10').mono ?_
          rintro e st11 ⟨rfl, hF11, k11⟩
          simp [go_sem, e63, e64, e65, e2, e7, e14, hw]
          exact ⟨st11, .rfl' _, fin st10 st11 k10 hF11 k11, by omega⟩
      · have hjl : j = sd.length := by omega
        subst hjl
        rw [List.drop_length] at hlf9
        injection hlf9 with hlf9
        subst hlf9
        simp [go_sem, e63, e64, e65, hlt, e14]
        have hself : FSAt st f S := ⟨sm, nm, _, ad, h1, h2, h3, h4, h5, h6⟩
        refine ⟨⟨fun xs n g => hf2s _ xs n g, fun xs n g => hf2s _ xs n g⟩, ?_, hF9, kZ.imp fun g h => ⟨h.1 0 8, h.1 0 9, h.2⟩⟩
        exact hself.keep' kZ (by simp [hff, Out]) (by simp [hff, Out]) (by simp [hff, Out]) (by simp [hff, Out]) (by intro i r _ h1 h2; refine ⟨by simp; omega, by simp; omega, ?_⟩; intro x r'; simp; omega)
    · intro k v st7 hm hi2 ho2
      obtain ⟨p, hp, hpe⟩ := List.mem_map.1 hm
      injection hpe with hk hv'
      subst hk
      simp [go_sem, e50]
      refine EntryI_last hi2 ?_
      simp [go_sem, e12]
      unfold NewS
      intro b3 hb3
      refine ⟨.ty 0, ?_⟩
      simp [go_sem]
      have hbut2 : But dm (.own f 0 9) st4 st7 := by
        intro k o hk hn ht
        rw [ho2 k (by rintro rfl; rw [hb7] at hk; cases hk)]
        exact hbut k o hk hn ht
      have hv2 : Vec st7 (.own f 0 9) 1 (.slice vb L.length vc) (L.map (·.1)) L.length := by
        obtain ⟨z1, z2, z3, z4, z5, z6⟩ := hv
        refine ⟨z1, z2, z3, z4, z5, z6.imp ?_ id⟩
        rintro ⟨b9, n9, w1, w2, w3⟩
        have hib : ∃ o, st6 b7 = some (.other o) := by
          obtain ⟨ents, clock, seen, Ls, q1, q2, q3, q4⟩ := hi
          exact ⟨_, q3⟩
        obtain ⟨o, hio⟩ := hib
        exact ⟨b9, n9, w1, by rw [ho2 b9 (by rintro rfl; rw [hio] at w2; cases w2)]; exact w2, w3⟩
      have n3 : ∀ k o, st7 k = some o → (upd st7 b3 (.cells true [.string p.1] 1 (.ty 0))) k = some o := fun k o hk => by rw [upd_ne _ _ (ne_of_new hk hb3)]; exact hk
      have n3' : ∀ k o, st7 k = some (.other o) → (upd st7 b3 (.cells true [.string p.1] 1 (.ty 0))) k = some (.other o) := fun k o hk => n3 k _ hk
      have hlen := hi2.len
      have hml : (encM ad dj).length = dj.length := by simp [encM]
      rw [hml] at hlen
      simp only [List.length_append, List.length_singleton] at hlen
      have hdl12 : dj.length ≤ 12 := by rw [← hpd.length_eq]; exact hdl
      refine AppI_vec (g := .own f 0 9) (m := 1) (ys := [.string p.1]) si32 (hv2.keep (Keep.rfl'.new hb3) (p := fun _ => True) trivial) ?_ (by simp [Value.oneCell']) (by omega) ?_
      · simp [srcCells, lkN_mk, upd_same, cellsOf]
      intro s5 c5 st9 hv5 he5
      simp [go_sem, e0, e2, e7, e12, e50]
      refine ⟨st9, .rfl' _, ⟨?_, L ++ [(.string p.1, v)], ?_, ?_, ?_⟩, ?_⟩
      · intro k o hk hn ht
        exact he5.keep k o (n3 k o (hbut2 k o hk hn ht)) ht
      · exact hLs.push _ _
      · exact (hi2.of n3').of he5.other
      · simpa using hv5
      · have h7 : L.length + 1 ≤ dj.length := hlen
        have h8 : dj.length - (L.length + 1) < dj.length - L.length := by omega
        exact h8
end
end Go.Proofs.YtadgciaclhjjkaaGreat
set_option linter.unusedVariables false
set_option linter.unusedSimpArgs false
set_option maxRecDepth 100000
set_option maxHeartbeats 4000000
namespace Go.Proofs.YtadgciaclhjjkaaGreat
open Go.RowKit (Below)
theorem of_freeF {f : Nat} : ∀ g, Free g → Out f g := fun g hg x r => hg f x r
theorem out_tyF {f n : Nat} : Out f (.ty n) := by intro x r; simp
section
variable {W0 : World} {st : Heap} {f lp : Nat} {fro : Int} {rss : List (List RcD)} {rs : List RcD} {k : Nat}
/-- What was opened is made ready. -/
theorem ready_calm {t : Bs} {c : Ctl} (hq : Quiet c) (hF : FSAt st f (calm fro (filesL rss rs t) c)) (hL : LogAt st lp f ⟨fro + rss.length, (encL rs).length, if t = [] then 1 else 2⟩) (hin : LogIn fro rss rs k) (ht : t.length ≤ 5000) : ICalls Tryz.prog W0 32 #[ptr lp] st fun e st' => e = .returned (Val.i 0) ∧ LogS st' f lp fro rss rs k ∧ Keep (OutL f lp) st st' := by
  have hlo := hin.lo
  have hhi := hin.hi
  have hcnt := hin.cnt
  have hmost := hin.most
  by_cases htn : t = []
  · subst htn
    rw [if_pos rfl] at hL
    rw [filesL_now] at hF
    have hok := readyOK_whole (gs := rss.map encL) (x := encL rs) (c := c) (fro := fro) (en := (encL rs).length) hq.ok hlo (by simp; omega) (by simp; omega) hin.len40
    have hm := ready_whole (gs := rss.map encL) (x := encL rs) (c := c) (fro := fro) (en := (encL rs).length) hq.ok hq.next.ok hlo (by simp; omega)
    rw [List.length_map] at hok hm
    refine (Ready_spec hF hL hok).mono ?_
    rintro e s' ⟨he, hF', hL', hk'⟩
    rw [hm] at he hF' hL'
    rw [← filesL_now] at hF'
    exact ⟨he, ⟨hin, ⟨_, hq.next.next, hF'⟩, _, hL'⟩, hk'⟩
  · rw [if_neg htn] at hL
    have hF0 : FSAt st f (calm fro (rss.map encL ++ [encL rs ++ t]) c) := hF
    have hb : ∀ b ∈ rss.map encL ++ [encL rs ++ t], b.length < 2 ^ 40 := fun b hb => by
      rcases List.mem_append.1 hb with hb | hb
      · exact hin.len40 b (List.mem_append_left _ hb)
      · simp at hb
        subst hb
        have := hin.len (b := encL rs) (by unfold filesL; simp)
        rw [List.length_append]
        omega
    have hok := readyOK_torn (gs := rss.map encL) (x := encL rs ++ t) (s := (encL rs).length) (c := c) (fro := fro) hq.ok hq.next.ok hlo (by simp; omega) (by simp; omega) hb (by simp)
    have hm := ready_torn (gs := rss.map encL) (x := encL rs ++ t) (s := (encL rs).length) (c := c) (fro := fro) hq.ok hq.next.ok hq.next.next.ok hlo (by simp; omega) (by simp)
    rw [List.length_map] at hok hm
    rw [List.take_left] at hm
    refine (Ready_spec hF0 hL hok).mono ?_
    rintro e s' ⟨he, hF', hL', hk'⟩
    rw [hm] at he hF' hL'
    rw [← filesL_now] at hF'
    exact ⟨he, ⟨hin, ⟨_, hq.next.next.next, hF'⟩, _, hL'⟩, hk'⟩
/-- The power leaves all. -/
theorem crash_log {ops : Int} {picks : List Int} {pv : Value} {gp : Tg} (h : LogS st f lp fro rss rs k) (h12 : rss.length + 1 ≤ 12) (hp : Reg st gp 1 pv (picks.map Val.i) picks.length) (hgp : ∀ g, Out g gp) (hpb : ∀ x ∈ picks, -2 ^ 63 ≤ x ∧ x < 2 ^ 63) :
    ICalls Tryz.prog W0 43 #[ptr f, Val.i ops, pv] st fun e st' => ∃ f2, e = .returned (ptr f2) ∧ FSAt st' f2 (calm fro (filesL rss rs []) c00) ∧ Keep (fun t => Out f t ∧ Out f2 t) st st' := by
  obtain ⟨hin, ⟨c, hq, hF⟩, en, hL⟩ := h
  have hlo := hin.lo
  have hhi := hin.hi
  have hcnt := hin.cnt
  have hmost := hin.most
  have hfl := filesL_length rss rs []
  have hsm : (calm fro (filesL rss rs []) c).small := calm_small (by rw [hfl]; omega) (by rw [filesL_now]; exact hin.len40)
  refine (CrashN_spec (d := logD fro (filesL rss rs []).length) (sd := logD fro (filesL rss rs []).length) (L' := calm fro (filesL rss rs []) c00) hF hsm (logD_names hlo (by omega)) (fun i F hi => logFs_born i F hi) rfl (by rw [logD_length, hfl]; omega) (List.Perm.refl _) (logD_sorted _ _) (crash_left hlo (by omega) fun i b hb => logFs_left i b hb) (fun F hF => ?_) hp hgp hpb).mono ?_
  · obtain ⟨i, b, h1, rfl⟩ := logFs_mem hF
    have := hin.len (List.mem_of_getElem? h1)
    simp
    omega
  · rintro e s' ⟨f2, rfl, h1, h2, h3, h4⟩
    exact ⟨f2, rfl, h3, h4⟩
end
end Go.Proofs.YtadgciaclhjjkaaGreat
