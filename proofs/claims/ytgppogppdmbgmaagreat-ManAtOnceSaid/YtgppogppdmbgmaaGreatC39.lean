/- The names of a file system, what is left behind a crash: of few names. -/
import Derived.Test.YtgppogppdmbgmaaGreatC38
import Derived.Test.YtgppogppdmbgmaaGreatC37
set_option linter.unusedVariables false
set_option linter.unusedSimpArgs false
set_option maxRecDepth 100000
set_option maxHeartbeats 1000000
namespace Go.Proofs.YtgppogppdmbgmaaGreat
open Go.RowKit (Below)

theorem Iter.keys {st : Heap} {m b : Nat} {es L : KV} (h : Iter st m b es L) (hn : (es.map (·.1)).Nodup) : (L.map (·.1)).Nodup := by
  obtain ⟨ents, clock, seen, Ls, h1, h2, h3, h4, h5, h6, rfl⟩ := h
  have hk : (ents.toList.map (·.key)).Nodup := by
    rw [← h1.kv, List.map_map] at hn
    exact hn
  have hinj : ∀ e ∈ ents.toList, ∀ e' ∈ ents.toList, e.key = e'.key → e = e' := by
    intro e he e' he' hee
    obtain ⟨i, hi, rfl⟩ := List.getElem_of_mem he
    obtain ⟨j, hj, rfl⟩ := List.getElem_of_mem he'
    have hp := List.pairwise_iff_getElem.1 hk
    rcases Nat.lt_trichotomy i j with hij | hij | hij
    · exact absurd (by rw [List.getElem_map, List.getElem_map]; exact hee) (hp i j (by simpa using hi) (by simpa using hj) hij)
    · subst hij; rfl
    · exact absurd (by rw [List.getElem_map, List.getElem_map]; exact hee.symm) (hp j i (by simpa using hj) (by simpa using hi) hij)
  rw [List.map_map]
  have hLn : Ls.Nodup := (List.pairwise_map.1 h6).imp fun h e => h (by rw [e])
  refine List.pairwise_map.2 (List.Pairwise.imp_of_mem ?_ hLn)
  intro x y hx hy hxy he
  exact hxy (hinj x (h5 x hx) y (h5 y hy) he)
def unS : Value → ByteArray
  | .string s => s
  | _ => ⟨#[]⟩
theorem unS_map (l : List ByteArray) : (l.map Value.string).map unS = l := by rw [List.map_map]; exact List.map_id' l
/-- Keys that are texts. -/
def StrKeys (L : KV) : Prop := L.map (·.1) = (L.map fun x => unS x.1).map Value.string
theorem StrKeys.push {L : KV} (h : StrKeys L) (s : ByteArray) (v : Value) : StrKeys (L ++ [(.string s, v)]) := by
  unfold StrKeys at *
  rw [List.map_append, List.map_append, List.map_append, ← h]
  rfl
theorem strings_perm {l l' : List ByteArray} (h : (l.map Value.string).Perm (l'.map Value.string)) : l.Perm l' := by
  have := h.map unS
  rwa [unS_map, unS_map] at this
theorem encM_keys (ad : Nat → Nat) (l : Dir) : (encM ad l).map (·.1) = (l.map (·.1)).map Value.string := by simp [encM]
theorem encM_nodup {ad : Nat → Nat} {l : Dir} (h : Names l) : ((encM ad l).map (·.1)).Nodup := by
  rw [encM_keys]
  exact List.pairwise_map.2 (List.Pairwise.imp (fun hab he => hab (by injection he)) h)
theorem mset_new {ad : Nat → Nat} {l : Dir} {k : ByteArray} {x : Nat} (h : ((encM ad l ++ [(Value.string k, ptr (ad x))]).map (·.1)).Nodup) : mset .string (.string k) (ptr (ad x)) (encM ad l) = some (encM ad (l ++ [(k, x)])) := by
  rw [mset_encM]
  have hno : aget l k = none := by
    refine aget_none.2 fun y hy => ?_
    rw [List.map_append, List.nodup_append] at h
    exact h.2.2 (.string k) (by rw [encM_keys]; exact List.mem_map.2 ⟨k, List.mem_map.2 ⟨_, hy, rfl⟩, rfl⟩) (.string k) (by simp) rfl
  have : afind k l 0 = none := by unfold aget at hno; simpa using hno
  unfold aset
  rw [this]
theorem withM_len : ∀ {ps : List VUnit} {b r : Bs} {u : Int}, withM b ps u = some r → r.length ≤ b.length + (ps.map (·.b.length)).sum
  | [], b, r, u, h => by injection h with h; subst h; simp
  | p :: ps, b, r, u, h => by
    unfold withM at h
    simp only [List.map_cons, List.sum_cons]
    split at h
    · injection h with h; subst h; omega
    · split at h
      · split at h
        · have := withM_len h; rw [List.length_take] at this; omega
        · cases h
      · have := withM_len h; rw [List.length_append, List.length_take] at this; omega
def pickAt (picks : List Int) (i : Nat) : Int := if picks = [] then 0 else picks.getD (i % picks.length) 0
/-- What is left: each name's file, in the order of their births. -/
def leftM (files : List VFile) (picks : List Int) : Nat → Dir → VFS → Option VFS
  | _, [], S => some S
  | i, (n, k) :: ds, S => (files[k]?).bind fun F => (withM F.sure F.pend (pickAt picks i)).bind fun r => leftM files picks (i + 1) ds (S.lay n r)
/-- Files, each certain. -/
structure Plain (S : VFS) (j : Nat) : Prop where
  turns : S.turns = []
  len : S.files.length = j
  files : ∀ F ∈ S.files, F.pend = [] ∧ F.now.length < 2 ^ 40 ∧ F.sure.length < 2 ^ 40
theorem Plain.small {S : VFS} {j : Nat} (h : Plain S j) (hj : j < 2 ^ 40) : S.small := by
  refine ⟨by rw [h.turns]; simp, by rw [h.len]; exact hj, fun F hF => ?_⟩
  obtain ⟨h1, h2, h3⟩ := h.files F hF
  exact ⟨by rw [h1]; simp, h2, h3⟩
theorem Plain.lay {S : VFS} {j : Nat} (h : Plain S j) (n : ByteArray) {r : Bs} (hr : r.length < 2 ^ 40) : Plain (S.lay n r) (j + 1) := by
  refine ⟨h.turns, by simp [VFS.lay, h.len], fun F hF => ?_⟩
  simp only [VFS.lay] at hF
  rcases List.mem_append.1 hF with hF | hF
  · exact h.files F hF
  · simp at hF; subst hF; exact ⟨rfl, hr, hr⟩
section
variable {W0 : World} {st : Heap}
theorem ListN_spec {f : Nat} {S : VFS} (h : FSAt st f S) (hl : S.now.length ≤ 12) (hn : Names S.now) :
    ICalls Tryz.prog W0 50 #[ptr f] st fun e st' => ∃ b c ns, e = .returned (.slice b S.now.length c) ∧ ns.Perm (S.now.map (·.1)) ∧ SortedM ltT ns ∧ Vec st' (.ty 0) 1 (.slice b S.now.length c) (ns.map .string) S.now.length ∧ FSAt st' f S ∧ Keep (Out f) st st' := by
  obtain ⟨sm, nm, tv, ad, h1, h2, h3, h4, h5, h6⟩ := h
  refine ICalls.post (enter (args := [_]) Tryz.func50 rfl ?_)
  simp [Tryz.f50, go_sem, h1, fsC]
  refine RangeI_start h3 ?_
  intro b st1 hb hi ho
  simp [go_sem]
  have hnb := ne_of_new h3 hb
  have hbut : But nm (.own f 0 9) st st1 := fun k o hk hn _ => by rw [ho k hn (ne_of_new hk hb)]; exact hk
  refine ⟨fun E st' => E 12 = ptr' b ∧ But nm (.own f 0 9) st st' ∧ ∃ L v, StrKeys L ∧ Iter st' nm b (encM ad S.now) L ∧ E 3 = v ∧ Vec st' (.own f 0 9) 1 v (L.map (·.1)) L.length,
    fun E st' => S.now.length - (match E 3 with | .slice _ n _ => n | _ => 0), ⟨st1, .rfl' _, by simp [go_sem], hbut, [], .slice none 0 0, rfl, hi, by simp [go_sem], Vec.nil⟩, ?_⟩
  rintro E st' ⟨e12, hbut, L, v, hLs, hi, e3, hv⟩
  obtain ⟨vb, vc, rfl⟩ := hv.slice
  simp [go_sem, e12]
  refine NextI_step (.own f 0 6) hnb hi ?_ ?_
  · intro hp
    have hln : L.length = S.now.length := by rw [hp.length_eq]; simp [encM]
    simp [go_sem, e3]
    obtain ⟨ns, hns⟩ : ∃ ns, ns = L.map fun x => unS x.1 := ⟨_, rfl⟩
    unfold StrKeys at hLs
    rw [← hns] at hLs
    have hnsl : ns.length = L.length := by rw [hns]; simp
    have hnp : ns.Perm (S.now.map (·.1)) := by
      refine strings_perm ?_
      rw [← hLs, ← encM_keys ad]
      exact hp.map _
    have hkeep : Keep (fun t => t ≠ .own f 0 9) st (upd st' nm (.map (.own f 0 6) (encM ad S.now))) := by
      intro k o g hk ht hpg
      by_cases hkn : k = nm
      · subst hkn; rw [h3] at hk; injection hk with hk; subst hk; exact upd_same _ _ _
      · rw [upd_ne _ _ hkn]; exact hbut k o hk hkn (by rw [ht]; intro e; injection e with e; exact hpg e)
    have hvA : Vec (upd st' nm (.map (.own f 0 6) (encM ad S.now))) (.own f 0 9) 1 (.slice vb L.length vc) (L.map (·.1)) L.length := by
      obtain ⟨z1, z2, z3, z4, z5, z6⟩ := hv
      refine ⟨z1, z2, z3, z4, z5, z6.imp ?_ id⟩
      rintro ⟨b9, n9, w1, w2, w3⟩
      obtain ⟨ents, clock, seen, Ls, q1, q2, q3, q4⟩ := hi
      exact ⟨b9, n9, w1, by rw [upd_ne _ _ (by rintro rfl; rw [q2] at w2; cases w2)]; exact w2, w3⟩
    generalize upd st' nm _ = stA at *
    have hfs : ∀ {s : Heap}, Keep (fun t => t ≠ .own f 0 9) st s → FSAt s f S := fun hkeep => ⟨sm, nm, tv, ad, hkeep.get h1 (by simp), hkeep.getM h2 (by simp), hkeep.getM h3 (by simp), h4.keep hkeep (by simp), fun i F hF => (h5 i F hF).keep hkeep (by intro r h1 h2; simp; omega), h6⟩
    by_cases hsmall : L.length ≤ 1
    · refine (Sort_small (by omega)).mono ?_
      rintro e st2 ⟨rfl, rfl⟩
      simp [go_sem, e3, hln]
      have hsorted : SortedM ltT ns := by
        match ns, hnsl with
        | [], _ => simp [SortedM]
        | [x], _ => simp [SortedM]
        | x :: y :: l, h => simp at h; omega
      obtain ⟨z1, base, cap, z4, z5, z6⟩ := hvA
      injection z4 with q1 q2 q3; subst q1; subst q3
      rcases z6 with ⟨b9, n9, rfl, w2, w3⟩ | ⟨rfl, hc0⟩
      · refine ⟨upd st2 b9 (.cells true (L.map (·.1)) n9 (.ty 0)), .retag w2, some ⟨b9, 0, none⟩, vc, ⟨rfl, rfl⟩, ns, hnp, hsorted, ?_, ?_⟩
        · rw [← hln, hLs]
          rw [hLs] at z1
          exact Vec.new (by simp; omega) z5 (upd_same _ _ _) w3
        · have kk := hkeep.old (o := .cells true (L.map (·.1)) n9 (.ty 0)) w2 (by simp [HObj.tag])
          exact ⟨hfs kk, kk.imp fun g h => h 0 9⟩
      · refine ⟨st2, .rfl' _, none, vc, ⟨rfl, rfl⟩, ns, hnp, hsorted, ?_, hfs hkeep, hkeep.imp fun g h => h 0 9⟩
        rw [← hln]
        exact ⟨by simp; omega, none, vc, rfl, z5, .inr ⟨rfl, hc0⟩⟩
    · obtain ⟨z1, base, cap, z4, z5, z6⟩ := hvA
      injection z4 with q1 q2 q3; subst q1; subst q3
      rcases z6 with ⟨b9, n9, rfl, w2, w3⟩ | ⟨rfl, hc0⟩
      · rw [hLs] at w2
        rw [← hnsl]
        refine (Sort_few w2 (by omega) (by omega)).mono ?_
        rintro e st2 ⟨rfl, cs', hcp, hcs, rfl⟩
        simp [go_sem, e3, hln]
        have kk := hkeep.old (o := .cells true (cs'.map .string) n9 (.own f 0 9)) w2 (by simp [HObj.tag])
        have kk2 := kk.old (o := .cells true (cs'.map .string) n9 (.ty 0)) (upd_same _ _ _) (by simp [HObj.tag])
        refine ⟨_, .retag (g' := .ty 0) (upd_same _ _ _), some ⟨b9, 0, none⟩, vc, ⟨rfl, rfl⟩, cs', hcp.trans hnp, hcs, ?_, hfs kk2, kk2.imp fun g h => h 0 9⟩
        rw [← hln]
        exact Vec.new (by simp [hcp.length_eq]; omega) z5 (upd_same _ _ _) w3
      · omega
  · intro k v st2 hm hi2 ho2
    obtain ⟨p, hp, hpe⟩ := List.mem_map.1 hm
    injection hpe with hk hv'
    subst hk
    simp [go_sem, e12]
    refine EntryI_last hi2 ?_
    simp [go_sem, e3]
    unfold NewS
    intro b3 hb3
    refine ⟨.ty 0, ?_⟩
    simp [go_sem]
    have hbut2 : But nm (.own f 0 9) st st2 := by
      intro k o hk hn ht
      rw [ho2 k (by rintro rfl; rw [hb] at hk; cases hk)]
      exact hbut k o hk hn ht
    have hv2 : Vec st2 (.own f 0 9) 1 (.slice vb L.length vc) (L.map (·.1)) L.length := by
      obtain ⟨z1, z2, z3, z4, z5, z6⟩ := hv
      refine ⟨z1, z2, z3, z4, z5, z6.imp ?_ id⟩
      rintro ⟨b9, n9, w1, w2, w3⟩
      have hib : ∃ o, st' b = some (.other o) := by
        obtain ⟨ents, clock, seen, Ls, q1, q2, q3, q4⟩ := hi
        exact ⟨_, q3⟩
      obtain ⟨o, hio⟩ := hib
      exact ⟨b9, n9, w1, by rw [ho2 b9 (by rintro rfl; rw [hio] at w2; cases w2)]; exact w2, w3⟩
    have n3 : ∀ k o, st2 k = some o → (upd st2 b3 (.cells true [.string p.1] 1 (.ty 0))) k = some o := fun k o hk => by rw [upd_ne _ _ (ne_of_new hk hb3)]; exact hk
    have n3' : ∀ k o, st2 k = some (.other o) → (upd st2 b3 (.cells true [.string p.1] 1 (.ty 0))) k = some (.other o) := fun k o hk => n3 k _ hk
    have hlen := hi2.len
    have hml : (encM ad S.now).length = S.now.length := by simp [encM]
    rw [hml] at hlen
    simp only [List.length_append, List.length_singleton] at hlen
    refine AppI_vec (g := .own f 0 9) (m := 1) (ys := [.string p.1]) si25 (hv2.keep (Keep.rfl'.new hb3) (p := fun _ => True) trivial) ?_ (by simp [Value.oneCell']) (by omega) ?_
    · simp [srcCells, lkN_mk, upd_same, cellsOf]
    intro s5 c5 st5 hv5 he5
    simp [go_sem, e3, e12]
    refine ⟨st5, .rfl' _, ⟨?_, L ++ [(.string p.1, v)], ?_, ?_, ?_⟩, ?_⟩
    · intro k o hk hn ht
      exact he5.keep k o (n3 k o (hbut2 k o hk hn ht)) ht
    · exact hLs.push _ _
    · exact (hi2.of n3').of he5.other
    · simpa using hv5
    · have h7 : L.length + 1 ≤ S.now.length := hlen
      have h8 : S.now.length - (L.length + 1) < S.now.length - L.length := by omega
      exact h8
end
end Go.Proofs.YtgppogppdmbgmaaGreat
set_option linter.unusedVariables false
set_option linter.unusedSimpArgs false
set_option maxRecDepth 100000
set_option maxHeartbeats 8000000
namespace Go.Proofs.YtgppogppdmbgmaaGreat
open Go.RowKit (Below)
def q0 (a : Bs) (c : Ctl) : VFS := ⟨[(manN, 0)], [(manN, 0)], [], [⟨0, a, [], a⟩], c⟩
def q1 (a : Bs) (c : Ctl) : VFS := ⟨[(manN, 0)], [(manN, 0), (tmpN, 1)], [⟨0, tmpN, ⟨#[]⟩, some 1⟩], [⟨0, a, [], a⟩, ⟨1, [], [], []⟩], c⟩
def q2 (a b : Bs) (c : Ctl) : VFS := ⟨[(manN, 0)], [(manN, 0), (tmpN, 1)], [⟨0, tmpN, ⟨#[]⟩, some 1⟩], [⟨0, a, [], a⟩, ⟨1, [], [⟨false, 0, b⟩], b⟩], c⟩
def q3 (a b : Bs) (c : Ctl) : VFS := ⟨[(manN, 0)], [(manN, 0), (tmpN, 1)], [⟨0, tmpN, ⟨#[]⟩, some 1⟩], [⟨0, a, [], a⟩, ⟨1, b, [], b⟩], c⟩
def q4 (a b : Bs) (c : Ctl) : VFS := ⟨[(manN, 0)], [(manN, 1)], [⟨0, tmpN, ⟨#[]⟩, some 1⟩, ⟨1, tmpN, manN, none⟩], [⟨0, a, [], a⟩, ⟨1, b, [], b⟩], c⟩
def q5 (a b : Bs) (c : Ctl) : VFS := ⟨[(manN, 1)], [(manN, 1)], [], [⟨0, a, [], a⟩, ⟨1, b, [], b⟩], c⟩
theorem n_mt : (manN == tmpN) = false := by decide
theorem n_tm : (tmpN == manN) = false := by decide
theorem n_tt : (tmpN == tmpN) = true := by decide
theorem n_mm : (manN == manN) = true := by decide
theorem ok_t : okName tmpN = true := by decide
theorem ok_m : okName manN = true := by decide
section
variable {a b : Bs} {c c' : Ctl}
theorem st0_ok (h : c.call = (0, c')) : pubStep b 0 (q0 a c) = (0, q1 a c') := by
  simp [pubStep, q0, q1, VFS.create, h, ok_t, aget, afind, aset, n_mt, n_tm]
theorem st0_no (h : c.call = (15, c')) : pubStep b 0 (q0 a c) = (15, q0 a c') := by
  simp [pubStep, q0, VFS.create, h, VFS.ctl]
theorem st1_ok (h : c.call = (0, c')) (hb : b.length ≤ 1073741824) : pubStep b 1 (q1 a c) = (0, q2 a b c') := by
  simp [pubStep, q1, q2, VFS.append, h, ok_t, aget, afind, n_mt, n_tm, n_tt, VFS.lenOf, VFS.put, VFile.app, hb]
theorem st1_no (h : c.call = (15, c')) (ho : c.off = false) (hb : b.length ≤ 1073741824) : pubStep b 1 (q1 a c) = (15, q2 a (b.take (b.length / 2)) c') := by
  have : b.length / 2 ≤ 1073741824 := by omega
  simp [pubStep, q1, q2, VFS.append, h, ho, ok_t, aget, afind, n_mt, n_tm, n_tt, VFS.lenOf, VFS.put, VFile.app, this]
theorem st2_ok (h : c.call = (0, c')) : pubStep b 2 (q2 a b c) = (0, q3 a b c') := by
  simp [pubStep, q2, q3, VFS.syncF, h, ok_t, aget, afind, n_mt, n_tm, n_tt, VFS.ctl, VFile.synced, List.modify]
theorem st2_no (h : c.call = (15, c')) : pubStep b 2 (q2 a b c) = (15, q2 a b c') := by
  simp [pubStep, q2, VFS.syncF, h, VFS.ctl]
theorem st3_ok (h : c.call = (0, c')) : pubStep b 3 (q3 a b c) = (0, q4 a b c') := by
  simp [pubStep, q3, q4, VFS.rename, h, ok_t, ok_m, aget, afind, aset, adel, n_mt, n_tm, n_tt, n_mm, VFS.turn]
theorem st3_no (h : c.call = (15, c')) : pubStep b 3 (q3 a b c) = (15, q3 a b c') := by
  simp [pubStep, q3, VFS.rename, h, VFS.ctl]
theorem q4_sync : syncM (q4 a b c).turns (q4 a b c).sure = some [(manN, 1)] := by
  simp [q4, syncM, VTurn.does, aget, afind, aset, adel, n_mt, n_tm, n_tt, n_mm]
theorem st4_ok (h : c.call = (0, c')) : pubStep b 4 (q4 a b c) = (0, q5 a b c') := by
  show VFS.syncD (q4 a b c) = _
  unfold VFS.syncD
  rw [q4_sync]
  simp [q4, q5, h]
theorem st4_no (h : c.call = (15, c')) : pubStep b 4 (q4 a b c) = (15, q4 a b c') := by
  show VFS.syncD (q4 a b c) = _
  unfold VFS.syncD
  rw [q4_sync]
  simp [q4, h, VFS.ctl]
theorem small_q0 (h : a.length ≤ 1073741824) : (q0 a c).small := by simp [VFS.small, q0]; omega
theorem small_q1 (h : a.length ≤ 1073741824) : (q1 a c).small := by simp [VFS.small, q1]; omega
theorem small_q2 (h : a.length ≤ 1073741824) (h' : b.length ≤ 1073741824) : (q2 a b c).small := by simp [VFS.small, q2]; omega
theorem small_q3 (h : a.length ≤ 1073741824) (h' : b.length ≤ 1073741824) : (q3 a b c).small := by simp [VFS.small, q3]; omega
theorem small_q4 (h : a.length ≤ 1073741824) (h' : b.length ≤ 1073741824) : (q4 a b c).small := by simp [VFS.small, q4]; omega
theorem small_q5 (h : a.length ≤ 1073741824) (h' : b.length ≤ 1073741824) : (q5 a b c).small := by simp [VFS.small, q5]; omega
/-- Where an exchange may stand. -/
def Stand (a b : Bs) (e : Int) (S : VFS) : Prop := (e ≠ 0 ∧ ∃ c, S = q0 a c ∨ (∃ h : Bs, h.length ≤ b.length ∧ S = q2 a h c) ∨ S = q1 a c ∨ S = q3 a b c ∨ S = q4 a b c) ∨ (e = 0 ∧ ∃ c, S = q5 a b c)
end
/-- The calls that are still let through. -/
def armC (n j : Nat) : Ctl := ⟨n, true, 0, j, false⟩
theorem armC_go {n j : Nat} (hn : n ≤ 100) (hj : j ≤ 100) : (armC n (j + 1)).call = (0, armC (n + 1) j) := by
  have w1 : W ((n : Int) + 1) = n + 1 := wrap_id (by omega) (by omega)
  have w2 : W (((j + 1 : Nat) : Int) - 1) = j := by rw [show ((j + 1 : Nat) : Int) - 1 = j by omega]; exact wrap_id (by omega) (by omega)
  unfold armC Ctl.call
  simp only [Bool.false_eq_true, if_false]
  rw [if_neg (by simp), if_pos (by omega), w1, w2]
  rfl
theorem armC_no {n : Nat} : ∃ c, (armC n 0).call = (15, c) ∧ (armC n 0).off = false := ⟨_, by unfold armC Ctl.call; simp; rfl, rfl⟩
theorem armed_pub {a b : Bs} {n j : Nat} (hn : n ≤ 50) (hj : j ≤ 50) (ha : a.length ≤ 1073741824) (hb : b.length ≤ 1073741824) : PubOK b [0, 1, 2, 3, 4] (q0 a (armC n j)) ∧ Stand a b (pubGo b [0, 1, 2, 3, 4] 0 (q0 a (armC n j))).1 (pubGo b [0, 1, 2, 3, 4] 0 (q0 a (armC n j))).2 := by
  match j with
  | 0 =>
    obtain ⟨c, h1, h2⟩ := armC_no (n := n)
    refine ⟨⟨small_q0 ha, by simp, fun h => ?_⟩, ?_⟩
    · rw [st0_no h1] at h; cases h
    · simp only [pubGo, st0_no h1]
      exact .inl ⟨by simp, c, .inl rfl⟩
  | j + 1 =>
  have g0 := armC_go (n := n) (j := j) (by omega) (by omega)
  have e0 := st0_ok (a := a) (b := b) g0
  simp only [PubOK, pubGo, e0, if_true, ↓reduceIte]
  match j with
  | 0 =>
    obtain ⟨c, h1, h2⟩ := armC_no (n := n + 1)
    refine ⟨⟨small_q0 ha, by simp, fun _ => ⟨small_q1 ha, by simp, fun h => ?_⟩⟩, ?_⟩
    · rw [st1_no h1 h2 hb] at h; cases h
    · rw [st1_no h1 h2 hb]
      exact .inl ⟨by simp, c, .inr (.inl ⟨_, by rw [List.length_take]; omega, rfl⟩)⟩
  | j + 1 =>
  have g1 := armC_go (n := n + 1) (j := j) (by omega) (by omega)
  have e1 := st1_ok (a := a) (b := b) g1 hb
  simp only [e1, if_true, ↓reduceIte]
  match j with
  | 0 =>
    obtain ⟨c, h1, h2⟩ := armC_no (n := n + 1 + 1)
    refine ⟨⟨small_q0 ha, by simp, fun _ => ⟨small_q1 ha, by simp, fun _ => ⟨small_q2 ha hb, by simp, fun h => ?_⟩⟩⟩, ?_⟩
    · rw [st2_no h1] at h; cases h
    · rw [st2_no h1]
      exact .inl ⟨by simp, c, .inr (.inl ⟨b, Nat.le_refl _, rfl⟩)⟩
  | j + 1 =>
  have g2 := armC_go (n := n + 1 + 1) (j := j) (by omega) (by omega)
  have e2 := st2_ok (a := a) (b := b) g2
  simp only [e2, if_true, ↓reduceIte]
  match j with
  | 0 =>
    obtain ⟨c, h1, h2⟩ := armC_no (n := n + 1 + 1 + 1)
    refine ⟨⟨small_q0 ha, by simp, fun _ => ⟨small_q1 ha, by simp, fun _ => ⟨small_q2 ha hb, by simp, fun _ => ⟨small_q3 ha hb, by simp, fun h => ?_⟩⟩⟩⟩, ?_⟩
    · rw [st3_no h1] at h; cases h
    · rw [st3_no h1]
      exact .inl ⟨by simp, c, .inr (.inr (.inr (.inl rfl)))⟩
  | j + 1 =>
  have g3 := armC_go (n := n + 1 + 1 + 1) (j := j) (by omega) (by omega)
  have e3 := st3_ok (a := a) (b := b) g3
  simp only [e3, if_true, ↓reduceIte]
  match j with
  | 0 =>
    obtain ⟨c, h1, h2⟩ := armC_no (n := n + 1 + 1 + 1 + 1)
    refine ⟨⟨small_q0 ha, by simp, fun _ => ⟨small_q1 ha, by simp, fun _ => ⟨small_q2 ha hb, by simp, fun _ => ⟨small_q3 ha hb, by simp, fun _ => ⟨small_q4 ha hb, fun _ => ⟨_, q4_sync⟩, fun h => ?_⟩⟩⟩⟩⟩, ?_⟩
    · trivial
    · rw [st4_no h1]
      exact .inl ⟨by simp, c, .inr (.inr (.inr (.inr rfl)))⟩
  | j + 1 =>
  have g4 := armC_go (n := n + 1 + 1 + 1 + 1) (j := j) (by omega) (by omega)
  have e4 := st4_ok (a := a) (b := b) g4
  simp only [e4, if_true, ↓reduceIte]
  exact ⟨⟨small_q0 ha, by simp, fun _ => ⟨small_q1 ha, by simp, fun _ => ⟨small_q2 ha hb, by simp, fun _ => ⟨small_q3 ha hb, by simp, fun _ => ⟨small_q4 ha hb, fun _ => ⟨_, q4_sync⟩, fun _ => trivial⟩⟩⟩⟩⟩, .inr ⟨rfl, _, rfl⟩⟩
/-- What is needed of a file system to crash it, and what is left then. -/
structure CrashOK (S : VFS) (ops : Int) (picks : List Int) (d sd : Dir) (L : VFS) : Prop where
  small : S.small
  names : Names S.sure
  born : ∀ (i : Nat) (F : VFile), S.files[i]? = some F → F.born = i
  crash : crashM S.turns 0 ops S.sure = some d
  few : d.length ≤ 12
  perm : sd.Perm d
  order : sd.Pairwise (fun p q => p.2 < q.2)
  left : leftM S.files picks 0 sd .new = some L
  room : ∀ F ∈ S.files, F.sure.length + (F.pend.map (·.b.length)).sum < 2 ^ 40
theorem born1 {a : Bs} (i : Nat) (F : VFile) (hi : [VFile.mk 0 a [] a][i]? = some F) : F.born = i := by
  match i, hi with
  | 0, hi => injection hi with hi; rw [← hi]
  | i + 1, hi => simp at hi
theorem born2 {a s p n} (i : Nat) (F : VFile) (hi : [VFile.mk 0 a [] a, VFile.mk 1 s p n][i]? = some F) : F.born = i := by
  match i, hi with
  | 0, hi => injection hi with hi; rw [← hi]
  | 1, hi => injection hi with hi; rw [← hi]
  | i + 2, hi => simp at hi
def L1 (a : Bs) : VFS := VFS.new.lay manN a
def L2 (a r : Bs) : VFS := (VFS.new.lay manN a).lay tmpN r
theorem L1_small {a : Bs} (h : a.length ≤ 1073741824) : (L1 a).small := by simp [VFS.small, L1, VFS.lay, VFS.new]; omega
theorem L2_small {a r : Bs} (h : a.length ≤ 1073741824) (h' : r.length ≤ 1073741824) : (L2 a r).small := by simp [VFS.small, L2, VFS.lay, VFS.new]; omega
theorem L1_get {a : Bs} : ∃ i F, aget (L1 a).now manN = some i ∧ (L1 a).files[i]? = some F ∧ F.now = a := ⟨0, _, by simp [L1, VFS.lay, VFS.new, aset, aget, afind, n_mm], rfl, rfl⟩
theorem L2_get {a r : Bs} : ∃ i F, aget (L2 a r).now manN = some i ∧ (L2 a r).files[i]? = some F ∧ F.now = a := ⟨0, _, by simp [L2, VFS.lay, VFS.new, aset, aget, afind, n_mm, n_mt, n_tm], rfl, rfl⟩
theorem with_short {x : Bs} {u : Int} : ∃ r : Bs, r.length ≤ x.length ∧ withM [] [⟨false, 0, x⟩] u = some r := by
  by_cases h : u ≤ 0
  · exact ⟨[], by simp, by simp [withM, h]⟩
  · refine ⟨x.take (min (x.length : Int) u).toNat, by rw [List.length_take]; omega, ?_⟩
    simp only [withM]
    rw [if_neg h, if_neg (by simp)]
    simp
theorem crash_two {a s n : Bs} {p : List VUnit} {c : Ctl} {S : VFS} (hS : S = ⟨[(manN, 0)], [(manN, 0), (tmpN, 1)], [⟨0, tmpN, ⟨#[]⟩, some 1⟩], [⟨0, a, [], a⟩, ⟨1, s, p, n⟩], c⟩) (hs : S.small) (ha : a.length ≤ 1073741824) (ops : Int) (picks : List Int) {r : Bs} (hr : withM s p (pickAt picks 1) = some r) (hrl : r.length ≤ 1073741824) (hroom : s.length + (p.map (·.b.length)).sum < 2 ^ 40) :
    ∃ d sd L, CrashOK S ops picks d sd L ∧ L.small ∧ ∃ i F, aget L.now manN = some i ∧ L.files[i]? = some F ∧ F.now = a := by
  subst hS
  by_cases h0 : 0 < ops
  · refine ⟨[(manN, 0), (tmpN, 1)], [(manN, 0), (tmpN, 1)], L2 a r, ⟨hs, by simp [Names], born2, ?_, by simp, .refl _, by simp, ?_, by simp; omega⟩, L2_small ha hrl, L2_get⟩
    · simp [crashM, h0, VTurn.does, aset, afind, n_mt, n_tm]
    · simp [leftM, withM, hr, L2]
  · refine ⟨[(manN, 0)], [(manN, 0)], L1 a, ⟨hs, by simp [Names], born2, ?_, by simp, .refl _, by simp, ?_, by simp; omega⟩, L1_small ha, L1_get⟩
    · simp [crashM, h0]
    · simp [leftM, withM, L1]
theorem crash_stand {a b : Bs} {e : Int} {S : VFS} (h : Stand a b e S) (ha : a.length ≤ 1073741824) (hb : b.length ≤ 1073741824) (ops : Int) (picks : List Int) :
    ∃ d sd L, CrashOK S ops picks d sd L ∧ L.small ∧ ∃ i F, aget L.now manN = some i ∧ L.files[i]? = some F ∧ ((e ≠ 0 ∧ F.now = a) ∨ F.now = b) := by
  have mk : e ≠ 0 → (∃ d sd L, CrashOK S ops picks d sd L ∧ L.small ∧ ∃ i F, aget L.now manN = some i ∧ L.files[i]? = some F ∧ F.now = a) → ∃ d sd L, CrashOK S ops picks d sd L ∧ L.small ∧ ∃ i F, aget L.now manN = some i ∧ L.files[i]? = some F ∧ ((e ≠ 0 ∧ F.now = a) ∨ F.now = b) :=
    fun he ⟨d, sd, L, h1, h2, i, F, h3, h4, h5⟩ => ⟨d, sd, L, h1, h2, i, F, h3, h4, .inl ⟨he, h5⟩⟩
  have mk' : (∃ d sd L, CrashOK S ops picks d sd L ∧ L.small ∧ ∃ i F, aget L.now manN = some i ∧ L.files[i]? = some F ∧ F.now = b) → ∃ d sd L, CrashOK S ops picks d sd L ∧ L.small ∧ ∃ i F, aget L.now manN = some i ∧ L.files[i]? = some F ∧ ((e ≠ 0 ∧ F.now = a) ∨ F.now = b) :=
    fun ⟨d, sd, L, h1, h2, i, F, h3, h4, h5⟩ => ⟨d, sd, L, h1, h2, i, F, h3, h4, .inr h5⟩
  rcases h with ⟨he, c, h | ⟨x, hx, h⟩ | h | h | h⟩ | ⟨he, c, h⟩
  · subst h
    refine mk he ⟨[(manN, 0)], [(manN, 0)], L1 a, ⟨small_q0 ha, by simp [q0, Names], born1, rfl, by simp, .refl _, by simp, ?_, by simp [q0]; omega⟩, L1_small ha, L1_get⟩
    simp [leftM, q0, withM, L1]
  · obtain ⟨r, hr1, hr2⟩ := with_short (x := x) (u := pickAt picks 1)
    exact mk he (crash_two h (by rw [h]; exact small_q2 ha (by omega)) ha ops picks hr2 (by omega) (by simp; omega))
  · exact mk he (crash_two h (by rw [h]; exact small_q1 ha) ha ops picks (r := []) (by simp [withM]) (by simp) (by simp))
  · exact mk he (crash_two h (by rw [h]; exact small_q3 ha hb) ha ops picks (r := b) (by simp [withM]) hb (by simp; omega))
  · subst h
    by_cases h0 : 0 < ops
    · by_cases h1 : 1 < ops
      · refine mk' ⟨[(manN, 1)], [(manN, 1)], L1 b, ⟨small_q4 ha hb, by simp [q4, Names], born2, ?_, by simp, .refl _, by simp, ?_, by simp [q4]; omega⟩, L1_small hb, L1_get⟩
        · simp [q4, crashM, h0, h1, VTurn.does, aset, afind, aget, adel, n_mt, n_tm, n_tt, n_mm]
        · simp [leftM, q4, withM, L1]
      · refine mk he ⟨[(manN, 0), (tmpN, 1)], [(manN, 0), (tmpN, 1)], L2 a b, ⟨small_q4 ha hb, by simp [q4, Names], born2, ?_, by simp, .refl _, by simp, ?_, by simp [q4]; omega⟩, L2_small ha hb, L2_get⟩
        · simp [q4, crashM, h0, h1, VTurn.does, aset, afind, n_mt, n_tm]
        · simp [leftM, q4, withM, L2]
    · refine mk he ⟨[(manN, 0)], [(manN, 0)], L1 a, ⟨small_q4 ha hb, by simp [q4, Names], born2, ?_, by simp, .refl _, by simp, ?_, by simp [q4]; omega⟩, L1_small ha, L1_get⟩
      · have h1 : ¬ 1 < ops := by omega
        simp [q4, crashM, h0, h1]
      · simp [leftM, q4, withM, L1]
  · subst h
    refine mk' ⟨[(manN, 1)], [(manN, 1)], L1 b, ⟨small_q5 ha hb, by simp [q5, Names], born2, rfl, by simp, .refl _, by simp, ?_, by simp [q5]; omega⟩, L1_small hb, L1_get⟩
    simp [leftM, q5, withM, L1]
end Go.Proofs.YtgppogppdmbgmaaGreat
