/- Files that are laid in a new file system. -/
import Derived.Test.YtadgciaclhjjkaaGreatC22
import Derived.Test.YtadgciaclhjjkaaGreatC13
import Derived.Test.YtadgciaclhjjkaaGreatC43
import Derived.Test.YtadgciaclhjjkaaGreatC44
set_option linter.unusedVariables false
set_option linter.unusedSimpArgs false
set_option maxRecDepth 100000
set_option maxHeartbeats 1000000
namespace Go.Proofs.YtadgciaclhjjkaaGreat
open Go.RowKit (Below)

def VFS.fillF (S : VFS) (k : Nat) (b : Bs) : VFS := { S with files := S.files.modify k fun F => (F.app b).synced }
def laysM (S : VFS) : List ByteArray → VFS
  | [] => S
  | n :: ns => laysM (S.lay n []) ns
def laysOK (S : VFS) : List ByteArray → Bool
  | [] => true
  | n :: ns => okName n && (aget S.now n).isNone && laysOK (S.lay n []) ns
def fillM (S : VFS) : List (ByteArray × Bs) → Option VFS
  | [] => some S
  | (n, b) :: r => (aget S.now n).bind fun k => fillM (S.fillF k b) r
/-- Files without bytes. -/
structure Bare (S : VFS) (j : Nat) : Prop where
  turns : S.turns = []
  len : S.files.length = j
  files : ∀ F ∈ S.files, F.pend = [] ∧ F.now = [] ∧ F.sure = []
theorem Bare.small {S : VFS} {j : Nat} (h : Bare S j) (hj : j < 2 ^ 40) : S.small := by
  refine ⟨by rw [h.turns]; simp, by rw [h.len]; exact hj, fun F hF => ?_⟩
  obtain ⟨h1, h2, h3⟩ := h.files F hF
  rw [h1, h2, h3]; simp
theorem Bare.lay {S : VFS} {j : Nat} (h : Bare S j) (n : ByteArray) : Bare (S.lay n []) (j + 1) := by
  refine ⟨h.turns, by simp [VFS.lay, h.len], fun F hF => ?_⟩
  simp only [VFS.lay] at hF
  rcases List.mem_append.1 hF with hF | hF
  · exact h.files F hF
  · simp at hF; subst hF; exact ⟨rfl, rfl, rfl⟩
section
variable {W0 : World} {st : Heap}
theorem Laid_spec {nb db : Option Addr} {nc dc : Nat} {names : List ByteArray} {datas : List Bs} {vs : List Value} {S' : VFS} {gn gd gb : Tg} (hlen : names.length = datas.length) (hvl : vs.length = names.length)
    (hnm : Reg st gn 1 (.slice nb names.length nc) (names.map .string) names.length) (hdt : Reg st gd 1 (.slice db names.length dc) vs names.length)
    (hvs : ∀ (k : Nat) (b : Bs) (v : Value), datas[k]? = some b → vs[k]? = some v → Reg st gb 1 v (bytesV b) b.length ∧ b.length ≤ 1000000) (hgn : Free gn) (hgd : Free gd) (hgb : Free gb)
    (hn : names.length ≤ 1000) (hok : laysOK .new names = true) (hfill : fillM (laysM .new names) (names.zip datas) = some S') :
    ICalls Tryz.prog W0 29 #[.slice nb names.length nc, .slice db names.length dc] st fun e st' => ∃ f, e = .returned (.tuple #[ptr f, Val.i 0]) ∧ st f = none ∧ FSAt st' f S' ∧ Keep (Out f) st st' := by
  refine enter (args := [_, _]) Tryz.func29 rfl ?_
  have hnot : ¬ ((1024 : Int) < names.length) := by omega
  simp [Tryz.f29, go_sem]
  refine New_spec.mono ?_
  rintro e st1 ⟨f, rfl, hf, hF1, k1⟩
  simp [go_sem, hnot]
  have hb0 : Bare VFS.new 0 := ⟨rfl, rfl, by intro F hF; cases hF⟩
  refine ⟨fun E st' => E 0 = .slice nb names.length nc ∧ E 1 = .slice db names.length dc ∧ E 6 = ptr f ∧ E 7 = .bool false ∧ E 22 = .slice nb names.length nc ∧ E 23 = Val.i names.length ∧ Keep (Out f) st st' ∧ ∃ (j : Nat) (S : VFS), j ≤ names.length ∧ E 24 = Val.i j ∧ FSAt st' f S ∧ Bare S j ∧ laysOK S (names.drop j) = true ∧ laysM S (names.drop j) = laysM .new names,
    fun E _ => match E 24 with | .int _ j => names.length - j.toNat | _ => 0, ⟨st1, .rfl' _, by simp [go_sem], by simp [go_sem], by simp [go_sem], by simp [go_sem], by simp [go_sem], by simp [go_sem], k1.imp fun _ _ => trivial, 0, .new, Nat.zero_le _, by simp [go_sem], hF1, hb0, by simpa using hok, by simp⟩, ?_⟩
  rintro E st2 ⟨e0, e1, e6, e7, e22, e23, k2, j, S, hj, e24, hF2, hbare, hlok, hlm⟩
  by_cases hlt : j < names.length
  · have hlt' : (j : Int) < names.length := by omega
    have hdrop : names.drop j = names[j] :: names.drop (j + 1) := List.drop_eq_getElem_cons hlt
    obtain ⟨n, hn'⟩ : ∃ n, names[j] = n := ⟨_, rfl⟩
    rw [hn'] at hdrop
    rw [hdrop] at hlok hlm
    unfold laysOK at hlok
    simp only [Bool.and_eq_true] at hlok
    obtain ⟨⟨hok1, hno⟩, hlok⟩ := hlok
    have hnone : aget S.now n = none := by simpa using hno
    have hafind : afind n S.now 0 = none := by unfold aget at hnone; simpa using hnone
    obtain ⟨nbb, noff, rfl, hng⟩ := src_get (hnm.keep k2 (hgn f)).src (by omega)
    have hng := hng j (by omega)
    have hgj : (names.map Value.string)[j]? = some (.string n) := by simp [hlt, hn']
    rw [hgj] at hng
    have hw : IntKind.i64.wrap ((j : Int) + 1) = j + 1 := wrap_id (by omega) (by omega)
    simp [go_sem, e0, e1, e6, e7, e22, e23, e24, hlt, hng]
    unfold NewS
    intro b3 hb3
    refine ⟨.ty 0, ?_⟩
    simp [go_sem]
    refine ICalls.mono (named_spec (names := [n]) (by simp [srcCells, lkN_mk, upd_same, cellsOf]) ⟨_, _, rfl⟩ (by simp)) ?_
    rintro e st3 ⟨rfl, rfl⟩
    have k3 : Keep (fun _ => True) st2 (upd st2 b3 (.cells true [.string n] 1 (.ty 0))) := Keep.rfl'.new hb3
    generalize upd st2 b3 _ = st3 at *
    have hF3 := hF2.keep k3 (fun _ _ => trivial)
    have k23 : Keep (Out f) st st3 := k2.trans (k3.imp fun _ _ => trivial)
    have hF3' := hF3
    obtain ⟨sm, nm, tv, ad, h1, h2, h3, h4, h5, h6⟩ := hF3'
    have hall : [n].all okName = true := by simp [hok1]
    rw [hall]
    obtain ⟨dbb, doff, rfl, hdg⟩ := src_get (hdt.keep k23 (hgd f)).src (by omega)
    have hdg := hdg j (by omega)
    obtain ⟨v, hv⟩ : ∃ v, vs[j]? = some v := ⟨_, List.getElem?_eq_getElem (by omega)⟩
    obtain ⟨b, hb⟩ : ∃ b, datas[j]? = some b := ⟨_, List.getElem?_eq_getElem (by omega)⟩
    obtain ⟨hrv, hbl⟩ := hvs j b v hb hv
    obtain ⟨vb, vc, rfl⟩ := hrv.slice
    rw [hv] at hdg
    have hbig : ¬ (1073741824 : Int) < b.length := by omega
    simp [go_sem, e0, e1, e6, e7, e22, e23, e24, h1, fsC, h3, mfind_encM, hafind, hlt, hdg, hbig]
    refine (lay_spec (n := n) (b := []) hF3 (hbare.small (by omega)) Vec.nil).mono ?_
    rintro e st4 ⟨rfl, hF4, k4⟩
    simp [go_sem, e0, e1, e6, e7, e22, e23, e24, hw]
    refine ⟨st4, .rfl' _, ⟨k23.trans k4, j + 1, hlt, by omega, S.lay n [], hF4, hbare.lay n, hlok, hlm⟩, by omega⟩
  · have hje : j = names.length := by omega
    subst hje
    rw [List.drop_length] at hlm
    simp only [laysM] at hlm
    subst hlm
    simp [go_sem, e0, e1, e6, e7, e22, e23, e24]
    refine ⟨fun E st' => E 1 = .slice db names.length dc ∧ E 6 = ptr f ∧ E 56 = .slice nb names.length nc ∧ E 57 = Val.i names.length ∧ Keep (Out f) st st' ∧ ∃ (j : Nat) (S : VFS), j ≤ names.length ∧ E 58 = Val.i j ∧ FSAt st' f S ∧ fillM S ((names.zip datas).drop j) = some S' ∧ ∀ F ∈ S.files, F.pend = [] ∧ F.now.length ≤ j * 1000000,
      fun E _ => match E 58 with | .int _ j => names.length - j.toNat | _ => 0, ⟨st2, .rfl' _, by simp [go_sem, e1], by simp [go_sem, e6], by simp [go_sem], by simp [go_sem], k2, 0, _, Nat.zero_le _, by simp [go_sem], hF2, by simpa using hfill, fun F hF => ⟨(hbare.files F hF).1, by rw [(hbare.files F hF).2.1]; simp⟩⟩, ?_⟩
    clear e0 e1 e6 e7 e22 e23 e24 hF2 hbare k2
    rintro E st2 ⟨e1, e6, e56, e57, k2, j, S, hj, e58, hF2, hfl, hfs⟩
    by_cases hlt : j < names.length
    · obtain ⟨n, hn'⟩ : ∃ n, names[j]? = some n := ⟨_, List.getElem?_eq_getElem hlt⟩
      obtain ⟨v, hv⟩ : ∃ v, vs[j]? = some v := ⟨_, List.getElem?_eq_getElem (by omega)⟩
      obtain ⟨b, hb⟩ : ∃ b, datas[j]? = some b := ⟨_, List.getElem?_eq_getElem (by omega)⟩
      obtain ⟨hrv, hbl⟩ := hvs j b v hb hv
      obtain ⟨vb, vc, rfl⟩ := hrv.slice
      have hzl : j < (names.zip datas).length := by simp; omega
      have hz : (names.zip datas)[j]? = some (n, b) := by rw [List.getElem?_zip_eq_some]; exact ⟨hn', hb⟩
      have hdrop : (names.zip datas).drop j = (n, b) :: (names.zip datas).drop (j + 1) := by
        rw [List.drop_eq_getElem_cons hzl]
        congr 1
        rw [List.getElem?_eq_getElem hzl] at hz
        injection hz
      rw [hdrop] at hfl
      obtain ⟨k, hget, hfl⟩ := Option.bind_eq_some_iff.1 hfl
      obtain ⟨nbb, noff, rfl, hng⟩ := src_get (hnm.keep k2 (hgn f)).src (by omega)
      have hng := hng j (by omega)
      have hgj : (names.map Value.string)[j]? = some (.string n) := by simp [hn']
      rw [hgj] at hng
      obtain ⟨dbb, doff, rfl, hdg⟩ := src_get (hdt.keep k2 (hgd f)).src (by omega)
      have hdg := hdg j (by omega)
      rw [hv] at hdg
      have hw : IntKind.i64.wrap ((j : Int) + 1) = j + 1 := wrap_id (by omega) (by omega)
      have hF2' := hF2
      obtain ⟨sm, nm, tv, ad, h1, h2, h3, h4, h5, h6⟩ := hF2'
      have hkl := aget_lt h6 hget
      obtain ⟨F, hF⟩ : ∃ F, S.files[k]? = some F := ⟨_, List.getElem?_eq_getElem hkl⟩
      obtain ⟨hp0, hn0⟩ := hfs F (List.mem_of_getElem? hF)
      unfold aget at hget
      obtain ⟨p, hpf, hpk⟩ := Option.map_eq_some_iff.1 hget
      simp [go_sem, e1, e6, e56, e57, e58, hlt, hng, hdg, h1, fsC, h3, mfind_encM, hpf, hpk]
      refine (fileAppend_spec (b := b) (h5 k F hF) (hrv.keep k2 (hgb f)).src (by omega) (by rw [hp0]; simp)).mono ?_
      rintro e st3 ⟨rfl, hF3, k3⟩
      simp [go_sem, e1, e6, e56, e57, e58]
      refine (fileSync_spec hF3).mono ?_
      rintro e st4 ⟨rfl, hF4, k4⟩
      have k34 := k3.trans (k4.imp fun g h => h 1 (by omega) (by omega))
      have hFS4 : FSAt st4 f (S.fillF k b) := FSAt.file (φ := fun F => (F.app b).synced) h1 h2 h3 h4 h5 h6 hF k34 hF4
      simp [go_sem, e1, e6, e56, e57, e58, hw]
      refine ⟨st4, .rfl' _, ⟨k2.trans (k34.imp fun g h r _ _ => h k r), j + 1, hlt, by omega, S.fillF k b, hFS4, by simpa using hfl, ?_⟩, by omega⟩
      intro G hG
      simp only [VFS.fillF] at hG
      obtain ⟨i, hi1, hi2⟩ := List.getElem_of_mem hG
      have hi3 := List.getElem?_eq_getElem hi1
      rw [hi2, List.getElem?_modify] at hi3
      by_cases hki : k = i
      · subst hki
        rw [hF] at hi3
        simp at hi3
        subst hi3
        simp [VFile.app, VFile.synced]
        omega
      · cases hj' : S.files[i]? with
        | none => rw [hj'] at hi3; cases hi3
        | some G' =>
          rw [hj'] at hi3
          simp [hki] at hi3
          subst hi3
          obtain ⟨z1, z2⟩ := hfs _ (List.mem_of_getElem? hj')
          exact ⟨z1, Nat.le_trans z2 (Nat.mul_le_mul_right _ (Nat.le_succ j))⟩
    · have hje : j = names.length := by omega
      subst hje
      have hdn : (names.zip datas).drop names.length = [] := List.drop_eq_nil_of_le (by simp; omega)
      rw [hdn] at hfl
      injection hfl with hfl
      subst hfl
      simp [go_sem, e1, e6, e56, e57, e58]
      exact ⟨hf, hF2, k2⟩
end
end Go.Proofs.YtadgciaclhjjkaaGreat
set_option linter.unusedVariables false
set_option linter.unusedSimpArgs false
set_option maxRecDepth 100000
set_option maxHeartbeats 1000000
namespace Go.Proofs.YtadgciaclhjjkaaGreat
open Go.RowKit (Below)
theorem modify_end {α : Type} (f : α → α) (x : α) : ∀ {l : List α} {k : Nat}, k = l.length → (l ++ [x]).modify k f = l ++ [f x]
  | [], _, rfl => rfl
  | a :: l, _, rfl => by
    show a :: (l ++ [x]).modify l.length f = _
    rw [modify_end f x rfl]
    rfl
theorem aget_snoc (e : ByteArray × Nat) (k : ByteArray) : ∀ l : Dir, aget (l ++ [e]) k = match aget l k with | some j => some j | none => if k = e.1 then some e.2 else none
  | [] => by rw [List.nil_append, aget_cons, aget_nil]
  | x :: l => by
    rw [List.cons_append, aget_cons, aget_cons, aget_snoc e k l]
    split <;> rfl
theorem aset_new {k : ByteArray} {x : Nat} : ∀ {l : Dir}, aget l k = none → aset l k x = l ++ [(k, x)]
  | [], _ => rfl
  | e :: l, h => by
    rw [aget_cons] at h
    rw [aset_cons]
    split at h
    · cases h
    · rename_i h1
      rw [if_neg h1, aset_new h]
      rfl
def logD (fro : Int) (n : Nat) : Dir := (List.range n).map fun i : Nat => (nameT logB (fro + (i : Int)), i)
def logFs (fs : List Bs) : List VFile := fs.mapIdx fun i b => ⟨i, b, [], b⟩
theorem logD_succ (fro : Int) (n : Nat) : logD fro (n + 1) = logD fro n ++ [(nameT logB (fro + n), n)] := by simp [logD, List.range_succ]
theorem logD_length (fro : Int) (n : Nat) : (logD fro n).length = n := by simp [logD]
theorem logFs_length (fs : List Bs) : (logFs fs).length = fs.length := by simp [logFs]
theorem logFs_snoc (fs : List Bs) (b : Bs) : logFs (fs ++ [b]) = logFs fs ++ [⟨fs.length, b, [], b⟩] := by simp [logFs, List.mapIdx_append]
theorem logFs_get {fs : List Bs} {i : Nat} : (logFs fs)[i]? = (fs[i]?).map fun b => ⟨i, b, [], b⟩ := by simp [logFs, List.getElem?_mapIdx]
theorem logFs_mem {fs : List Bs} {F : VFile} (h : F ∈ logFs fs) : ∃ i b, fs[i]? = some b ∧ F = ⟨i, b, [], b⟩ := by
  obtain ⟨i, hi⟩ := List.mem_iff_getElem?.1 h
  rw [logFs_get] at hi
  cases hb : fs[i]? with
  | none => rw [hb] at hi; cases hi
  | some b => rw [hb] at hi; simp at hi; exact ⟨i, b, hb, hi.symm⟩
theorem logD_empty {fro : Int} : ∀ {n : Nat}, 0 ≤ fro → fro + n ≤ 100000000 → aget (logD fro n) ⟨#[]⟩ = none
  | 0, _, _ => rfl
  | n + 1, h0, h1 => by
    rw [logD_succ, aget_snoc, logD_empty h0 (by omega)]
    simp only
    rw [if_neg]
    exact fun e => nameT_ne (s := logB) (n := fro + n) (by unfold nameOKM; omega) e.symm
theorem logD_get {fro : Int} {j : Nat} : ∀ {n : Nat}, 0 ≤ fro → fro + n ≤ 100000000 → aget (logD fro n) (nameT logB (fro + j)) = if j < n then some j else none
  | 0, _, _ => by simp [logD, aget_nil]
  | n + 1, h0, h1 => by
    by_cases hok : nameOKM (fro + j)
    · rw [logD_succ, aget_snoc, logD_get h0 (by omega)]
      by_cases hj : j < n
      · rw [if_pos hj]
        simp only
        rw [if_pos (by omega)]
      · rw [if_neg hj]
        simp only
        by_cases hjn : j = n
        · subst hjn
          rw [if_pos rfl, if_pos (by omega)]
        · rw [if_neg, if_neg (by omega)]
          intro e
          have := nameT_inj hok (by unfold nameOKM; omega) e
          omega
    · rw [nameT_no hok, logD_empty h0 h1, if_neg]
      unfold nameOKM at hok
      omega
def calm (fro : Int) (fs : List Bs) (c : Ctl) : VFS := ⟨logD fro fs.length, logD fro fs.length, [], logFs fs, c⟩
theorem getL_now {fro : Int} {fs : List Bs} {S : VFS} (h0 : 0 ≤ fro) (h1 : fro + fs.length ≤ 100000000) (hn : S.now = logD fro fs.length) (hf : S.files.map (·.now) = fs) (i : Nat) : getL S (fro + i) = fs[i]? := by
  unfold getL
  rw [hn, logD_get h0 h1]
  subst hf
  by_cases hi : i < (S.files.map (·.now)).length
  · rw [if_pos hi]; simp
  · rw [if_neg hi]
    have h2 : S.files.length ≤ i := by simpa using hi
    simp [List.getElem?_eq_none h2]
theorem getL_calm {fro : Int} {fs : List Bs} {c : Ctl} (h0 : 0 ≤ fro) (h1 : fro + fs.length ≤ 100000000) (i : Nat) : getL (calm fro fs c) (fro + i) = fs[i]? := by
  refine getL_now h0 h1 rfl ?_ i
  refine List.ext_getElem? fun k => ?_
  simp only [calm, List.getElem?_map, logFs_get]
  cases fs[k]? <;> rfl
theorem okName_log {n : Int} (h : nameOKM n) : okName (nameT logB n) = true := by
  rw [nameT_ok h]
  unfold okName
  rw [numT_size]
  rfl
theorem calm_open {fro : Int} {rss : List (List RcD)} {rs : List RcD} {t : Bs} (h0 : 0 ≤ fro) (h1 : fro + (rss.length + 1) ≤ 100000000) (hss : ∀ l ∈ rss, ∀ r ∈ l, RcGood r) (hrs : ∀ r ∈ rs, RcGood r) (ht : Torn t) (S : VFS) (hS : ∀ i : Nat, getL S (fro + i) = (filesL rss rs t)[i]?) :
    openM S fro = some (⟨fro + rss.length, (encL rs).length, if t = [] then 1 else 2⟩, (rss.flatten ++ rs).map plainR) := by
  unfold openM
  rw [openGo_some hrs ht rss _ _ _ _ hS hss (by omega) (by simp)]
  simp
theorem calm_none {fro : Int} (S : VFS) (hS : getL S fro = none) : openM S fro = some (⟨fro, 0, 3⟩, []) := by
  unfold openM
  rw [openGo_torn hS]
/-! ### Steps -/
section
variable {fro : Int} {gs : List Bs} {x : Bs} {c : Ctl}
/-- Another file, not yet certain. -/
def fresh (fro : Int) (gs : List Bs) (c : Ctl) : VFS := ⟨logD fro gs.length, logD fro (gs.length + 1), [⟨0, nameT logB (fro + gs.length), ⟨#[]⟩, some gs.length⟩], logFs (gs ++ [[]]), c⟩
theorem create_calm (hc : c.call.1 = 0) (h0 : 0 ≤ fro) (h1 : fro + gs.length < 100000000) (hm : gs.length < 1024) : (calm fro gs c).create (nameT logB (fro + gs.length)) = (0, fresh fro gs c.call.2) := by
  have hn := logD_get (fro := fro) (j := gs.length) (n := gs.length) h0 (by omega)
  rw [if_neg (by omega)] at hn
  unfold VFS.create
  rw [if_neg (by simpa [calm] using hc), okName_log (by unfold nameOKM; omega), if_neg (by simp), if_neg (by simp [calm, logD_length]; omega)]
  simp only [calm, aset_new hn, logD_succ, logFs_length, logFs_snoc, fresh, List.nil_append]
theorem fresh_sync : syncM (fresh fro gs c).turns (fresh fro gs c).sure = some (aset (logD fro gs.length) (nameT logB (fro + gs.length)) gs.length) := by simp [fresh, syncM, VTurn.does]
theorem syncT_fresh (hc : c.call.1 = 0) (h0 : 0 ≤ fro) (h1 : fro + gs.length < 100000000) : (fresh fro gs c).syncT = (0, calm fro (gs ++ [[]]) c.call.2) := by
  have hn := logD_get (fro := fro) (j := gs.length) (n := gs.length) h0 (by omega)
  rw [if_neg (by omega)] at hn
  unfold VFS.syncT
  rw [fresh_sync]
  simp only [fresh, hc, if_true, Option.getD_some, aset_new hn, calm, List.length_append, List.length_cons, List.length_nil, Nat.zero_add, logD_succ]
theorem syncF_calm (hc : c.call.1 = 0) (h0 : 0 ≤ fro) (h1 : fro + gs.length < 100000000) : (calm fro (gs ++ [x]) c).syncF (nameT logB (fro + gs.length)) = (0, calm fro (gs ++ [x]) c.call.2) := by
  have hn := logD_get (fro := fro) (j := gs.length) (n := gs.length + 1) h0 (by omega)
  rw [if_pos (by omega)] at hn
  unfold VFS.syncF
  rw [if_neg (by simpa [calm] using hc), okName_log (by unfold nameOKM; omega), if_neg (by simp)]
  simp only [calm, List.length_append, List.length_cons, List.length_nil, Nat.zero_add, hn, VFS.ctl, logFs_snoc]
  rw [modify_end _ _ (by rw [logFs_length])]
  rfl
theorem syncF_fresh (hc : c.call.1 = 0) (h0 : 0 ≤ fro) (h1 : fro + gs.length < 100000000) : (fresh fro gs c).syncF (nameT logB (fro + gs.length)) = (0, fresh fro gs c.call.2) := by
  have hn := logD_get (fro := fro) (j := gs.length) (n := gs.length + 1) h0 (by omega)
  rw [if_pos (by omega)] at hn
  unfold VFS.syncF
  rw [if_neg (by simpa [fresh] using hc), okName_log (by unfold nameOKM; omega), if_neg (by simp)]
  simp only [fresh, hn, VFS.ctl, logFs_snoc]
  rw [modify_end _ _ (by rw [logFs_length])]
  rfl
/-- The last file holds more than is certain. -/
def loose (fro : Int) (gs : List Bs) (x : Bs) (us : List VUnit) (y : Bs) (c : Ctl) : VFS := ⟨logD fro (gs.length + 1), logD fro (gs.length + 1), [], logFs gs ++ [⟨gs.length, x, us, y⟩], c⟩
theorem lenOf_calm : (calm fro (gs ++ [x]) c).lenOf gs.length = x.length := by
  unfold VFS.lenOf
  simp [calm, logFs_snoc, logFs_length, List.getElem?_append_right]
theorem append_calm {b : Bs} (hc : c.call.1 = 0) (h0 : 0 ≤ fro) (h1 : fro + gs.length < 100000000) (hl : b.length + x.length ≤ 1073741824) : (calm fro (gs ++ [x]) c).append (nameT logB (fro + gs.length)) b = (0, loose fro gs x [⟨false, 0, b⟩] (x ++ b) c.call.2) := by
  have hn := logD_get (fro := fro) (j := gs.length) (n := gs.length + 1) h0 (by omega)
  rw [if_pos (by omega)] at hn
  unfold VFS.append
  rw [okName_log (by unfold nameOKM; omega), if_neg (by simp)]
  have hag : aget (calm fro (gs ++ [x]) c).now (nameT logB (fro + gs.length)) = some gs.length := by simpa [calm] using hn
  rw [hag]
  simp only
  rw [lenOf_calm, if_pos (by simpa [calm] using hc), if_pos hl]
  simp only [calm, VFS.put, logFs_snoc, loose, List.length_append, List.length_cons, List.length_nil, Nat.zero_add]
  rw [modify_end _ _ (by rw [logFs_length])]
  rfl
theorem syncF_loose {us : List VUnit} {y : Bs} (hc : c.call.1 = 0) (h0 : 0 ≤ fro) (h1 : fro + gs.length < 100000000) : (loose fro gs x us y c).syncF (nameT logB (fro + gs.length)) = (0, calm fro (gs ++ [y]) c.call.2) := by
  have hn := logD_get (fro := fro) (j := gs.length) (n := gs.length + 1) h0 (by omega)
  rw [if_pos (by omega)] at hn
  unfold VFS.syncF
  rw [if_neg (by simpa [loose] using hc), okName_log (by unfold nameOKM; omega), if_neg (by simp)]
  simp only [loose, hn, VFS.ctl, calm, logFs_snoc, List.length_append, List.length_cons, List.length_nil, Nat.zero_add]
  rw [modify_end _ _ (by rw [logFs_length])]
  rfl
/-! ### The log's own steps -/
theorem ready_absent (hc : c.call.1 = 0) (hc2 : c.call.2.call.1 = 0) (hc3 : c.call.2.call.2.call.1 = 0) (h0 : 0 ≤ fro) (h1 : fro < 100000000) : readyM (calm fro [] c) ⟨fro, 0, 3⟩ = (0, calm fro [[]] c.call.2.call.2.call.2, ⟨fro, 0, 0⟩) := by
  have e1 := create_calm (gs := []) hc h0 (by simpa using h1) (by simp)
  have e2 := syncF_fresh (gs := []) hc2 h0 (by simpa using h1)
  have e3 := syncT_fresh (gs := []) hc3 h0 (by simpa using h1)
  simp only [List.length_nil, Int.natCast_zero, Int.add_zero, List.nil_append] at e1 e2 e3
  have ea : readyA (calm fro [] c) ⟨fro, 0, 3⟩ = (0, fresh fro [] c.call.2) := by unfold readyA; simp [e1]
  unfold readyM
  rw [ea]
  simp [e2, e3]
theorem turn_calm {en w : Int} (hc : c.call.1 = 0) (hc2 : c.call.2.call.1 = 0) (h0 : 0 ≤ fro) (h1 : fro + gs.length + 1 < 100000000) (hm : gs.length + 1 < 1024) : turnM (calm fro (gs ++ [x]) c) ⟨fro + gs.length, en, w⟩ = (0, calm fro (gs ++ [x] ++ [[]]) c.call.2.call.2, ⟨fro + gs.length + 1, en, w⟩) := by
  have e1 := create_calm (gs := gs ++ [x]) hc h0 (by simp; omega) (by simp; omega)
  have e2 := syncT_fresh (gs := gs ++ [x]) hc2 h0 (by simp; omega)
  have en : fro + ((gs ++ [x]).length : Int) = fro + gs.length + 1 := by simp; omega
  rw [en] at e1
  unfold turnM
  simp only
  rw [if_neg (by unfold nameOKM; omega), e1]
  simp [e2]
theorem appE_calm {en w : Int} {b : Bs} (hc : c.call.1 = 0) (hc2 : c.call.2.call.1 = 0) (h0 : 0 ≤ fro) (h1 : fro + gs.length < 100000000) (hl : b.length + x.length ≤ 1073741824) : appE (calm fro (gs ++ [x]) c) ⟨fro + gs.length, en, w⟩ b = (0, calm fro (gs ++ [x ++ b]) c.call.2.call.2, ⟨fro + gs.length, en, w⟩) := by
  unfold appE
  simp [append_calm hc h0 h1 hl, syncF_loose hc2 h0 h1]
end
end Go.Proofs.YtadgciaclhjjkaaGreat
set_option linter.unusedVariables false
set_option linter.unusedSimpArgs false
set_option maxRecDepth 100000
set_option maxHeartbeats 1000000
namespace Go.Proofs.YtadgciaclhjjkaaGreat
open Go.RowKit (Below)
theorem vput2 {n : Nat} (h : n < 16384) : (vputM n).length ≤ 2 := by
  unfold vputM
  split
  · simp
  · rw [List.length_cons, vput1 (by omega)]; omega
theorem recB_pos (r : RcD) (hs : I64 r.seq) : 1 ≤ (recB r).length := by
  have := (vputM_len (zz r.seq) (zz_lt hs.1 hs.2)).2
  unfold recB intB
  rw [List.length_append]
  omega
theorem labs_tiny {l : List Lab} (hG : GoodL l) : (labsB l).length ≤ 17 := by
  have h1 : ∀ l : List Lab, (∀ x ∈ l, x.1.size ≤ 4 ∧ x.2.size ≤ 2) → (l.flatMap labB).length ≤ 8 * l.length := by
    intro l
    induction l with
    | nil => intro _; simp
    | cons x l ih =>
      intro h
      have h2 := h x (by simp)
      have h3 := ih fun y hy => h y (by simp [hy])
      simp only [List.flatMap_cons, List.length_append, List.length_cons, labB]
      rw [textB_len1 (by omega), textB_len1 (by omega)]
      omega
  have h2 := h1 l hG.tiny
  have h3 := hG.two
  unfold labsB
  rw [List.length_append, vput1 (by omega)]
  omega
theorem form_one {b : Int} (hb : b < 7424) : (formB [(b, 1)]).length ≤ 6 := by
  have hs : (sparB [(b, 1)]).length ≤ 6 := by
    have h1 := vput2 (n := b.toNat - 0) (by omega)
    have h2 : (vputM 1).length = 1 := vput1 (by omega)
    have h0 : (vputM 0).length = 1 := vput1 (by omega)
    have e : sparB [(b, 1)] = vputM 0 ++ (vputM 1 ++ (vputM (b.toNat - 0) ++ (vputM 1 ++ []))) := rfl
    rw [e]
    simp only [List.length_append, h2, h0, List.length_nil]
    omega
  unfold formB
  split
  · omega
  · exact hs
theorem skX_len (a : Int) : (skB (skX a)).length ≤ 40 := by
  have hb : ((bkN (a % 1000).toNat : Nat) : Int) < 7424 := by have := bkN_le (a % 1000).toNat; omega
  have h1 := form_one hb
  have h2 : (riseB [hashX]).length ≤ 11 := by
    have h3 := (vputM_len hashX (by decide)).1
    have e : riseB [hashX] = vputM 1 ++ (vputM (hashX - 0) ++ []) := rfl
    rw [e]
    simp only [List.length_append, List.length_nil, vput1 (show (1 : Nat) < 128 by omega), Nat.sub_zero]
    omega
  have h4 : (gauB ⟨1, 0, 0, 0⟩).length ≤ 18 := by
    have e : gauB ⟨1, 0, 0, 0⟩ = vputM 0 ++ (vputM 1 ++ (leB 8 0 ++ leB 8 0)) := rfl
    rw [e]
    simp only [List.length_append, leB_len, vput1 (show (1 : Nat) < 128 by omega), vput1 (show (0 : Nat) < 128 by omega)]
    omega
  unfold skB skX
  simp only [List.length_append]
  omega
theorem lawR_len {sq a : Int} {l : List Lab} (hs : I64 sq) (ha : I64 a) (hG : GoodL l) : (recB (lawR sq a l)).length ≤ 80 := by
  have h1 := intB_len hs.1 hs.2
  have h2 := intB_len ha.1 ha.2
  have h3 := labs_tiny hG
  have h4 := skX_len a
  have e : recB (lawR sq a l) = intB sq ++ (vputM 1 ++ (labsB l ++ (intB a ++ skB (skX a)))) := by
    unfold recB lawR
    rw [if_pos rfl]
    rfl
  rw [e]
  simp only [List.length_append, vput1 (show (1 : Nat) < 128 by omega)]
  omega
theorem lawR_good {sq a : Int} {l : List Lab} (hs : I64 sq) (ha : I64 a) (hG : GoodL l) : RcGood (lawR sq a l) := ⟨lawR_fits hs ha hG, lawR_rc hG, recB_pos _ hs, by have := lawR_len hs ha hG; omega⟩
theorem lawR_plain {sq a : Int} {l : List Lab} : plainR (lawR sq a l) = lawR sq a l := by unfold plainR lawR; rw [if_pos rfl]
theorem recF_len {r : RcD} (h : RcGood r) : (recB r).length + 5 ≤ (recF r).length ∧ (recF r).length ≤ (recB r).length + 14 := frameM_len _ h.len
end Go.Proofs.YtadgciaclhjjkaaGreat
