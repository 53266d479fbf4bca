/- The names of a file system, what is left behind a crash: of few names. -/
import Derived.Test.YtmgbknkjgfdllaaVfsT
import Derived.Test.YtmgbknkjgfdllaaSortE
set_option linter.unusedVariables false
set_option linter.unusedSimpArgs false
set_option maxRecDepth 100000
set_option maxHeartbeats 1000000
namespace Go.Proofs.Ytmgbknkjgfdllaa
open Go.RowKit (Below)

theorem Iter.keys {st : Heap} {m b : Nat} {es L : KV} (h : Iter st m b es L) (hn : (es.map (·.1)).Nodup) : (L.map (·.1)).Nodup := by
  obtain ⟨ents, clock, seen, Ls, h1, h2, h3, h4, h5, h6, rfl⟩ := h
  have hk : (ents.toList.map (·.key)).Nodup := by
    rw [← h1.kv, List.map_map] at hn
    exact hn
  have hinj : ∀ e ∈ ents.toList, ∀ e' ∈ ents.toList, e.key = e'.key → e = e' := by
    intro e he e' he' hee
    obtain ⟨i, hi, rfl⟩ := List.getElem_of_mem he
    obtain ⟨j, hj, rfl⟩ := List.getElem_of_mem he'
    have hp := List.pairwise_iff_getElem.1 hk
    rcases Nat.lt_trichotomy i j with hij | hij | hij
    · exact absurd (by rw [List.getElem_map, List.getElem_map]; exact hee) (hp i j (by simpa using hi) (by simpa using hj) hij)
    · subst hij; rfl
    · exact absurd (by rw [List.getElem_map, List.getElem_map]; exact hee.symm) (hp j i (by simpa using hj) (by simpa using hi) hij)
  rw [List.map_map]
  have hLn : Ls.Nodup := (List.pairwise_map.1 h6).imp fun h e => h (by rw [e])
  refine List.pairwise_map.2 (List.Pairwise.imp_of_mem ?_ hLn)
  intro x y hx hy hxy he
  exact hxy (hinj x (h5 x hx) y (h5 y hy) he)
def unS : Value → ByteArray
  | .string s => s
  | _ => ⟨#[]⟩
theorem unS_map (l : List ByteArray) : (l.map Value.string).map unS = l := by rw [List.map_map]; exact List.map_id' l
/-- Keys that are texts. -/
def StrKeys (L : KV) : Prop := L.map (·.1) = (L.map fun x => unS x.1).map Value.string
theorem StrKeys.push {L : KV} (h : StrKeys L) (s : ByteArray) (v : Value) : StrKeys (L ++ [(.string s, v)]) := by
  unfold StrKeys at *
  rw [List.map_append, List.map_append, List.map_append, ← h]
  rfl
theorem strings_perm {l l' : List ByteArray} (h : (l.map Value.string).Perm (l'.map Value.string)) : l.Perm l' := by
  have := h.map unS
  rwa [unS_map, unS_map] at this
theorem encM_keys (ad : Nat → Nat) (l : Dir) : (encM ad l).map (·.1) = (l.map (·.1)).map Value.string := by simp [encM]
theorem encM_nodup {ad : Nat → Nat} {l : Dir} (h : Names l) : ((encM ad l).map (·.1)).Nodup := by
  rw [encM_keys]
  exact List.pairwise_map.2 (List.Pairwise.imp (fun hab he => hab (by injection he)) h)
theorem mset_new {ad : Nat → Nat} {l : Dir} {k : ByteArray} {x : Nat} (h : ((encM ad l ++ [(Value.string k, ptr (ad x))]).map (·.1)).Nodup) : mset .string (.string k) (ptr (ad x)) (encM ad l) = some (encM ad (l ++ [(k, x)])) := by
  rw [mset_encM]
  have hno : aget l k = none := by
    refine aget_none.2 fun y hy => ?_
    rw [List.map_append, List.nodup_append] at h
    exact h.2.2 (.string k) (by rw [encM_keys]; exact List.mem_map.2 ⟨k, List.mem_map.2 ⟨_, hy, rfl⟩, rfl⟩) (.string k) (by simp) rfl
  have : afind k l 0 = none := by unfold aget at hno; simpa using hno
  unfold aset
  rw [this]
theorem withM_len : ∀ {ps : List VUnit} {b r : Bs} {u : Int}, withM b ps u = some r → r.length ≤ b.length + (ps.map (·.b.length)).sum
  | [], b, r, u, h => by injection h with h; subst h; simp
  | p :: ps, b, r, u, h => by
    unfold withM at h
    simp only [List.map_cons, List.sum_cons]
    split at h
    · injection h with h; subst h; omega
    · split at h
      · split at h
        · have := withM_len h; rw [List.length_take] at this; omega
        · cases h
      · have := withM_len h; rw [List.length_append, List.length_take] at this; omega
def pickAt (picks : List Int) (i : Nat) : Int := if picks = [] then 0 else picks.getD (i % picks.length) 0
/-- What is left: each name's file, in the order of their births. -/
def leftM (files : List VFile) (picks : List Int) : Nat → Dir → VFS → Option VFS
  | _, [], S => some S
  | i, (n, k) :: ds, S => (files[k]?).bind fun F => (withM F.sure F.pend (pickAt picks i)).bind fun r => leftM files picks (i + 1) ds (S.lay n r)
/-- Files, each certain. -/
structure Plain (S : VFS) (j : Nat) : Prop where
  turns : S.turns = []
  len : S.files.length = j
  files : ∀ F ∈ S.files, F.pend = [] ∧ F.now.length < 2 ^ 40 ∧ F.sure.length < 2 ^ 40
theorem Plain.small {S : VFS} {j : Nat} (h : Plain S j) (hj : j < 2 ^ 40) : S.small := by
  refine ⟨by rw [h.turns]; simp, by rw [h.len]; exact hj, fun F hF => ?_⟩
  obtain ⟨h1, h2, h3⟩ := h.files F hF
  exact ⟨by rw [h1]; simp, h2, h3⟩
theorem Plain.lay {S : VFS} {j : Nat} (h : Plain S j) (n : ByteArray) {r : Bs} (hr : r.length < 2 ^ 40) : Plain (S.lay n r) (j + 1) := by
  refine ⟨h.turns, by simp [VFS.lay, h.len], fun F hF => ?_⟩
  simp only [VFS.lay] at hF
  rcases List.mem_append.1 hF with hF | hF
  · exact h.files F hF
  · simp at hF; subst hF; exact ⟨rfl, hr, hr⟩
section
variable {W0 : World} {st : Heap}
theorem ListN_spec {f : Nat} {S : VFS} (h : FSAt st f S) (hl : S.now.length ≤ 12) (hn : Names S.now) :
    ICalls Try.prog W0 25 #[ptr f] st fun e st' => ∃ b c ns, e = .returned (.slice b S.now.length c) ∧ ns.Perm (S.now.map (·.1)) ∧ SortedM ltT ns ∧ Vec st' (.ty 0) 1 (.slice b S.now.length c) (ns.map .string) S.now.length ∧ FSAt st' f S ∧ Keep (Out f) st st' := by
  obtain ⟨sm, nm, tv, ad, h1, h2, h3, h4, h5, h6⟩ := h
  refine ICalls.post (enter (args := [_]) Try.func25 rfl ?_)
  simp [Try.f25, go_sem, h1, fsC]
  refine RangeI_start h3 ?_
  intro b st1 hb hi ho
  simp [go_sem]
  have hnb := ne_of_new h3 hb
  have hbut : But nm (.own f 0 9) st st1 := fun k o hk hn _ => by rw [ho k hn (ne_of_new hk hb)]; exact hk
  refine ⟨fun E st' => E 12 = ptr' b ∧ But nm (.own f 0 9) st st' ∧ ∃ L v, StrKeys L ∧ Iter st' nm b (encM ad S.now) L ∧ E 3 = v ∧ Vec st' (.own f 0 9) 1 v (L.map (·.1)) L.length,
    fun E st' => S.now.length - (match E 3 with | .slice _ n _ => n | _ => 0), ⟨st1, .rfl' _, by simp [go_sem], hbut, [], .slice none 0 0, rfl, hi, by simp [go_sem], Vec.nil⟩, ?_⟩
  rintro E st' ⟨e12, hbut, L, v, hLs, hi, e3, hv⟩
  obtain ⟨vb, vc, rfl⟩ := hv.slice
  simp [go_sem, e12]
  refine NextI_step (.own f 0 6) hnb hi ?_ ?_
  · intro hp
    have hln : L.length = S.now.length := by rw [hp.length_eq]; simp [encM]
    simp [go_sem, e3]
    obtain ⟨ns, hns⟩ : ∃ ns, ns = L.map fun x => unS x.1 := ⟨_, rfl⟩
    unfold StrKeys at hLs
    rw [← hns] at hLs
    have hnsl : ns.length = L.length := by rw [hns]; simp
    have hnp : ns.Perm (S.now.map (·.1)) := by
      refine strings_perm ?_
      rw [← hLs, ← encM_keys ad]
      exact hp.map _
    have hkeep : Keep (fun t => t ≠ .own f 0 9) st (upd st' nm (.map (.own f 0 6) (encM ad S.now))) := by
      intro k o g hk ht hpg
      by_cases hkn : k = nm
      · subst hkn; rw [h3] at hk; injection hk with hk; subst hk; exact upd_same _ _ _
      · rw [upd_ne _ _ hkn]; exact hbut k o hk hkn (by rw [ht]; intro e; injection e with e; exact hpg e)
    have hvA : Vec (upd st' nm (.map (.own f 0 6) (encM ad S.now))) (.own f 0 9) 1 (.slice vb L.length vc) (L.map (·.1)) L.length := by
      obtain ⟨z1, z2, z3, z4, z5, z6⟩ := hv
      refine ⟨z1, z2, z3, z4, z5, z6.imp ?_ id⟩
      rintro ⟨b9, n9, w1, w2, w3⟩
      obtain ⟨ents, clock, seen, Ls, q1, q2, q3, q4⟩ := hi
      exact ⟨b9, n9, w1, by rw [upd_ne _ _ (by rintro rfl; rw [q2] at w2; cases w2)]; exact w2, w3⟩
    generalize upd st' nm _ = stA at *
    have hfs : ∀ {s : Heap}, Keep (fun t => t ≠ .own f 0 9) st s → FSAt s f S := fun hkeep => ⟨sm, nm, tv, ad, hkeep.get h1 (by simp), hkeep.getM h2 (by simp), hkeep.getM h3 (by simp), h4.keep hkeep (by simp), fun i F hF => (h5 i F hF).keep hkeep (by intro r h1 h2; simp; omega), h6⟩
    by_cases hsmall : L.length ≤ 1
    · refine (Sort_small (by omega)).mono ?_
      rintro e st2 ⟨rfl, rfl⟩
      simp [go_sem, e3, hln]
      have hsorted : SortedM ltT ns := by
        match ns, hnsl with
        | [], _ => simp [SortedM]
        | [x], _ => simp [SortedM]
        | x :: y :: l, h => simp at h; omega
      obtain ⟨z1, base, cap, z4, z5, z6⟩ := hvA
      injection z4 with q1 q2 q3; subst q1; subst q3
      rcases z6 with ⟨b9, n9, rfl, w2, w3⟩ | ⟨rfl, hc0⟩
      · refine ⟨upd st2 b9 (.cells true (L.map (·.1)) n9 (.ty 0)), .retag w2, some ⟨b9, 0, none⟩, vc, ⟨rfl, rfl⟩, ns, hnp, hsorted, ?_, ?_⟩
        · rw [← hln, hLs]
          rw [hLs] at z1
          exact Vec.new (by simp; omega) z5 (upd_same _ _ _) w3
        · have kk := hkeep.old (o := .cells true (L.map (·.1)) n9 (.ty 0)) w2 (by simp [HObj.tag])
          exact ⟨hfs kk, kk.imp fun g h => h 0 9⟩
      · refine ⟨st2, .rfl' _, none, vc, ⟨rfl, rfl⟩, ns, hnp, hsorted, ?_, hfs hkeep, hkeep.imp fun g h => h 0 9⟩
        rw [← hln]
        exact ⟨by simp; omega, none, vc, rfl, z5, .inr ⟨rfl, hc0⟩⟩
    · obtain ⟨z1, base, cap, z4, z5, z6⟩ := hvA
      injection z4 with q1 q2 q3; subst q1; subst q3
      rcases z6 with ⟨b9, n9, rfl, w2, w3⟩ | ⟨rfl, hc0⟩
      · rw [hLs] at w2
        rw [← hnsl]
        refine (Sort_few w2 (by omega) (by omega)).mono ?_
        rintro e st2 ⟨rfl, cs', hcp, hcs, rfl⟩
        simp [go_sem, e3, hln]
        have kk := hkeep.old (o := .cells true (cs'.map .string) n9 (.own f 0 9)) w2 (by simp [HObj.tag])
        have kk2 := kk.old (o := .cells true (cs'.map .string) n9 (.ty 0)) (upd_same _ _ _) (by simp [HObj.tag])
        refine ⟨_, .retag (g' := .ty 0) (upd_same _ _ _), some ⟨b9, 0, none⟩, vc, ⟨rfl, rfl⟩, cs', hcp.trans hnp, hcs, ?_, hfs kk2, kk2.imp fun g h => h 0 9⟩
        rw [← hln]
        exact Vec.new (by simp [hcp.length_eq]; omega) z5 (upd_same _ _ _) w3
      · omega
  · intro k v st2 hm hi2 ho2
    obtain ⟨p, hp, hpe⟩ := List.mem_map.1 hm
    injection hpe with hk hv'
    subst hk
    simp [go_sem, e12]
    refine EntryI_last hi2 ?_
    simp [go_sem, e3]
    unfold NewS
    intro b3 hb3
    refine ⟨.ty 0, ?_⟩
    simp [go_sem]
    have hbut2 : But nm (.own f 0 9) st st2 := by
      intro k o hk hn ht
      rw [ho2 k (by rintro rfl; rw [hb] at hk; cases hk)]
      exact hbut k o hk hn ht
    have hv2 : Vec st2 (.own f 0 9) 1 (.slice vb L.length vc) (L.map (·.1)) L.length := by
      obtain ⟨z1, z2, z3, z4, z5, z6⟩ := hv
      refine ⟨z1, z2, z3, z4, z5, z6.imp ?_ id⟩
      rintro ⟨b9, n9, w1, w2, w3⟩
      have hib : ∃ o, st' b = some (.other o) := by
        obtain ⟨ents, clock, seen, Ls, q1, q2, q3, q4⟩ := hi
        exact ⟨_, q3⟩
      obtain ⟨o, hio⟩ := hib
      exact ⟨b9, n9, w1, by rw [ho2 b9 (by rintro rfl; rw [hio] at w2; cases w2)]; exact w2, w3⟩
    have n3 : ∀ k o, st2 k = some o → (upd st2 b3 (.cells true [.string p.1] 1 (.ty 0))) k = some o := fun k o hk => by rw [upd_ne _ _ (ne_of_new hk hb3)]; exact hk
    have n3' : ∀ k o, st2 k = some (.other o) → (upd st2 b3 (.cells true [.string p.1] 1 (.ty 0))) k = some (.other o) := fun k o hk => n3 k _ hk
    have hlen := hi2.len
    have hml : (encM ad S.now).length = S.now.length := by simp [encM]
    rw [hml] at hlen
    simp only [List.length_append, List.length_singleton] at hlen
    refine AppI_vec (g := .own f 0 9) (m := 1) (ys := [.string p.1]) si58 (hv2.keep (Keep.rfl'.new hb3) (p := fun _ => True) trivial) ?_ (by simp [Value.oneCell']) (by omega) ?_
    · simp [srcCells, lkN_mk, upd_same, cellsOf]
    intro s5 c5 st5 hv5 he5
    simp [go_sem, e3, e12]
    refine ⟨st5, .rfl' _, ⟨?_, L ++ [(.string p.1, v)], ?_, ?_, ?_⟩, ?_⟩
    · intro k o hk hn ht
      exact he5.keep k o (n3 k o (hbut2 k o hk hn ht)) ht
    · exact hLs.push _ _
    · exact (hi2.of n3').of he5.other
    · simpa using hv5
    · have h7 : L.length + 1 ≤ S.now.length := hlen
      have h8 : S.now.length - (L.length + 1) < S.now.length - L.length := by omega
      exact h8
end
end Go.Proofs.Ytmgbknkjgfdllaa
