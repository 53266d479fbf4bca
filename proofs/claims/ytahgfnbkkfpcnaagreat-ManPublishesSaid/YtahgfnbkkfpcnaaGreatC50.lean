/- Files that are laid in a new file system. -/
import Derived.Test.YtahgfnbkkfpcnaaGreatC20
import Derived.Test.YtahgfnbkkfpcnaaGreatC17
set_option linter.unusedVariables false
set_option linter.unusedSimpArgs false
set_option maxRecDepth 100000
set_option maxHeartbeats 1000000
namespace Go.Proofs.YtahgfnbkkfpcnaaGreat
open Go.RowKit (Below)
def VFS.fillF (S : VFS) (k : Nat) (b : Bs) : VFS := { S with files := S.files.modify k fun F => (F.app b).synced }
def laysM (S : VFS) : List ByteArray → VFS
 | [] => S
 | n :: ns => laysM (S.lay n []) ns
def laysOK (S : VFS) : List ByteArray → Bool
 | [] => true
 | n :: ns => z0a n && (aget S.now n).isNone && laysOK (S.lay n []) ns
def fillM (S : VFS) : List (ByteArray × Bs) → Option VFS
 | [] => some S
 | (n, b) :: r => (aget S.now n).bind fun k => fillM (S.fillF k b) r
structure Bare (S : VFS) (j : Nat) : Prop where
 turns : S.turns = []
 len : S.files.length = j
 files : ∀ F ∈ S.files, F.pend = [] ∧ F.now = [] ∧ F.sure = []
theorem Bare.small {S : VFS} {j : Nat} (h : Bare S j) (hj : j < 2 ^ 40) : S.small := by
 refine ⟨by rw [h.turns]; simp, by rw [h.len]; exact hj, fun F hF => ?_⟩
 obtain ⟨h1, h2, h3⟩ := h.files F hF
 rw [h1, h2, h3]; simp
theorem Bare.lay {S : VFS} {j : Nat} (h : Bare S j) (n : ByteArray) : Bare (S.lay n []) (j + 1) := by
 refine ⟨h.turns, by simp [VFS.lay, h.len], fun F hF => ?_⟩
 simp only [VFS.lay] at hF
 rcases List.mem_append.1 hF with hF | hF
 ·exact h.files F hF
 ·simp at hF; subst hF; exact ⟨rfl, rfl, rfl⟩
section
variable {W0 : World} {st : Heap}
theorem zh5 {nb db : Option Addr} {nc dc : Nat} {names : List ByteArray} {datas : List Bs} {vs : List Value} {S' : VFS} {gn gd gb : Tg} (hlen : names.length = datas.length) (hvl : vs.length = names.length)
  (hnm : Reg st gn 1 (.slice nb names.length nc) (names.map .string) names.length) (hdt : Reg st gd 1 (.slice db names.length dc) vs names.length)
  (hvs : ∀ (k : Nat) (b : Bs) (v : Value), datas[k]? = some b → vs[k]? = some v → Reg st gb 1 v (bytesV b) b.length ∧ b.length ≤ 1000000) (hgn : Free gn) (hgd : Free gd) (hgb : Free gb)
  (hn : names.length ≤ 1000) (hok : laysOK .new names = true) (hfill : fillM (laysM .new names) (names.zip datas) = some S') :
  z00 Tryz.prog W0 30 #[.slice nb names.length nc, .slice db names.length dc] st fun e st' => ∃ f, e = .returned (.tuple #[ptr f, Val.i 0]) ∧ st f = none ∧ FSAt st' f S' ∧ Keep (Out f) st st' := by
 refine enter (args := [_, _]) Tryz.func30 rfl ?_
 have hnot : ¬ ((1024 : Int) < names.length) := by omega
 simp [Tryz.f30, go_sem]
 refine z8r.mono ?_
 rintro e st1 ⟨f, rfl, hf, hF1, k1⟩
 simp [go_sem, hnot]
 have hb0 : Bare VFS.new 0 := ⟨rfl, rfl, by intro F hF; cases hF⟩
 refine ⟨fun E st' => E 0 = .slice nb names.length nc ∧ E 1 = .slice db names.length dc ∧ E 6 = ptr f ∧ E 7 = .bool false ∧ E 22 = .slice nb names.length nc ∧ E 23 = Val.i names.length ∧ Keep (Out f) st st' ∧ ∃ (j : Nat) (S : VFS), j ≤ names.length ∧ E 24 = Val.i j ∧ FSAt st' f S ∧ Bare S j ∧ laysOK S (names.drop j) = true ∧ laysM S (names.drop j) = laysM .new names,
  fun E _ => match E 24 with | .int _ j => names.length - j.toNat | _ => 0, ⟨st1, .rfl' _, by simp [go_sem], by simp [go_sem], by simp [go_sem], by simp [go_sem], by simp [go_sem], by simp [go_sem], k1.imp fun _ _ => trivial, 0, .new, Nat.zero_le _, by simp [go_sem], hF1, hb0, by simpa using hok, by simp⟩, ?_⟩
 rintro E st2 ⟨e0, e1, e6, e7, e22, e23, k2, j, S, hj, e24, hF2, hbare, hlok, hlm⟩
 by_cases hlt : j < names.length
 ·have hlt' : (j : Int) < names.length := by omega
  have hdrop : names.drop j = names[j] :: names.drop (j + 1) := List.drop_eq_getElem_cons hlt
  obtain ⟨n, hn'⟩ : ∃ n, names[j] = n := ⟨_, rfl⟩
  rw [hn'] at hdrop
  rw [hdrop] at hlok hlm
  unfold laysOK at hlok
  simp only [Bool.and_eq_true] at hlok
  obtain ⟨⟨hok1, hno⟩, hlok⟩ := hlok
  have hnone : aget S.now n = none := by simpa using hno
  have hafind : afind n S.now 0 = none := by unfold aget at hnone; simpa using hnone
  obtain ⟨nbb, noff, rfl, hng⟩ := z0h (hnm.keep k2 (hgn f)).src (by omega)
  have hng := hng j (by omega)
  have hgj : (names.map Value.string)[j]? = some (.string n) := by simp [hlt, hn']
  rw [hgj] at hng
  have hw : IntKind.i64.wrap ((j : Int) + 1) = j + 1 := z03 (by omega) (by omega)
  simp [go_sem, e0, e1, e6, e7, e22, e23, e24, hlt, hng]
  unfold NewS
  intro b3 hb3
  refine ⟨.ty 0, ?_⟩
  simp [go_sem]
  refine z00.mono (z69 (names := [n]) (by simp [z06, z0i, upd_same, cellsOf]) ⟨_, _, rfl⟩ (by simp)) ?_
  rintro e st3 ⟨rfl, rfl⟩
  have k3 : Keep (fun _ => True) st2 (upd st2 b3 (.cells true [.string n] 1 (.ty 0))) := Keep.rfl'.new hb3
  generalize upd st2 b3 _ = st3 at *
  have hF3 := hF2.keep k3 (fun _ _ => trivial)
  have k23 : Keep (Out f) st st3 := k2.trans (k3.imp fun _ _ => trivial)
  have hF3' := hF3
  obtain ⟨sm, nm, tv, ad, h1, h2, h3, h4, h5, h6⟩ := hF3'
  have hall : [n].all z0a = true := by simp [hok1]
  rw [hall]
  obtain ⟨dbb, doff, rfl, hdg⟩ := z0h (hdt.keep k23 (hgd f)).src (by omega)
  have hdg := hdg j (by omega)
  obtain ⟨v, hv⟩ : ∃ v, vs[j]? = some v := ⟨_, List.getElem?_eq_getElem (by omega)⟩
  obtain ⟨b, hb⟩ : ∃ b, datas[j]? = some b := ⟨_, List.getElem?_eq_getElem (by omega)⟩
  obtain ⟨hrv, hbl⟩ := hvs j b v hb hv
  obtain ⟨vb, vc, rfl⟩ := hrv.slice
  rw [hv] at hdg
  have hbig : ¬ (1073741824 : Int) < b.length := by omega
  simp [go_sem, e0, e1, e6, e7, e22, e23, e24, h1, fsC, h3, z1z, hafind, hlt, hdg, hbig]
  refine (lay_spec (n := n) (b := []) hF3 (hbare.small (by omega)) Vec.nil).mono ?_
  rintro e st4 ⟨rfl, hF4, k4⟩
  simp [go_sem, e0, e1, e6, e7, e22, e23, e24, hw]
  refine ⟨st4, .rfl' _, ⟨k23.trans k4, j + 1, hlt, by omega, S.lay n [], hF4, hbare.lay n, hlok, hlm⟩, by omega⟩
 ·have hje : j = names.length := by omega
  subst hje
  rw [List.drop_length] at hlm
  simp only [laysM] at hlm
  subst hlm
  simp [go_sem, e0, e1, e6, e7, e22, e23, e24]
  refine ⟨fun E st' => E 1 = .slice db names.length dc ∧ E 6 = ptr f ∧ E 56 = .slice nb names.length nc ∧ E 57 = Val.i names.length ∧ Keep (Out f) st st' ∧ ∃ (j : Nat) (S : VFS), j ≤ names.length ∧ E 58 = Val.i j ∧ FSAt st' f S ∧ fillM S ((names.zip datas).drop j) = some S' ∧ ∀ F ∈ S.files, F.pend = [] ∧ F.now.length ≤ j * 1000000,
   fun E _ => match E 58 with | .int _ j => names.length - j.toNat | _ => 0, ⟨st2, .rfl' _, by simp [go_sem, e1], by simp [go_sem, e6], by simp [go_sem], by simp [go_sem], k2, 0, _, Nat.zero_le _, by simp [go_sem], hF2, by simpa using hfill, fun F hF => ⟨(hbare.files F hF).1, by rw [(hbare.files F hF).2.1]; simp⟩⟩, ?_⟩
  clear e0 e1 e6 e7 e22 e23 e24 hF2 hbare k2
  rintro E st2 ⟨e1, e6, e56, e57, k2, j, S, hj, e58, hF2, hfl, hfs⟩
  by_cases hlt : j < names.length
  ·obtain ⟨n, hn'⟩ : ∃ n, names[j]? = some n := ⟨_, List.getElem?_eq_getElem hlt⟩
   obtain ⟨v, hv⟩ : ∃ v, vs[j]? = some v := ⟨_, List.getElem?_eq_getElem (by omega)⟩
   obtain ⟨b, hb⟩ : ∃ b, datas[j]? = some b := ⟨_, List.getElem?_eq_getElem (by omega)⟩
   obtain ⟨hrv, hbl⟩ := hvs j b v hb hv
   obtain ⟨vb, vc, rfl⟩ := hrv.slice
   have hzl : j < (names.zip datas).length := by simp; omega
   have hz : (names.zip datas)[j]? = some (n, b) := by rw [List.getElem?_zip_eq_some]; exact ⟨hn', hb⟩
   have hdrop : (names.zip datas).drop j = (n, b) :: (names.zip datas).drop (j + 1) := by
    rw [List.drop_eq_getElem_cons hzl]
    congr 1
    rw [List.getElem?_eq_getElem hzl] at hz
    injection hz
   rw [hdrop] at hfl
   obtain ⟨k, hget, hfl⟩ := Option.bind_eq_some_iff.1 hfl
   obtain ⟨nbb, noff, rfl, hng⟩ := z0h (hnm.keep k2 (hgn f)).src (by omega)
   have hng := hng j (by omega)
   have hgj : (names.map Value.string)[j]? = some (.string n) := by simp [hn']
   rw [hgj] at hng
   obtain ⟨dbb, doff, rfl, hdg⟩ := z0h (hdt.keep k2 (hgd f)).src (by omega)
   have hdg := hdg j (by omega)
   rw [hv] at hdg
   have hw : IntKind.i64.wrap ((j : Int) + 1) = j + 1 := z03 (by omega) (by omega)
   have hF2' := hF2
   obtain ⟨sm, nm, tv, ad, h1, h2, h3, h4, h5, h6⟩ := hF2'
   have hkl := z9k h6 hget
   obtain ⟨F, hF⟩ : ∃ F, S.files[k]? = some F := ⟨_, List.getElem?_eq_getElem hkl⟩
   obtain ⟨hp0, hn0⟩ := hfs F (List.mem_of_getElem? hF)
   unfold aget at hget
   obtain ⟨p, hpf, hpk⟩ := Option.map_eq_some_iff.1 hget
   simp [go_sem, e1, e6, e56, e57, e58, hlt, hng, hdg, h1, fsC, h3, z1z, hpf, hpk]
   refine (zc4 (b := b) (h5 k F hF) (hrv.keep k2 (hgb f)).src (by omega) (by rw [hp0]; simp)).mono ?_
   rintro e st3 ⟨rfl, hF3, k3⟩
   simp [go_sem, e1, e6, e56, e57, e58]
   refine (zbd hF3).mono ?_
   rintro e st4 ⟨rfl, hF4, k4⟩
   have k34 := k3.trans (k4.imp fun g h => h 1 (by omega) (by omega))
   have hFS4 : FSAt st4 f (S.fillF k b) := FSAt.file (φ := fun F => (F.app b).synced) h1 h2 h3 h4 h5 h6 hF k34 hF4
   simp [go_sem, e1, e6, e56, e57, e58, hw]
   refine ⟨st4, .rfl' _, ⟨k2.trans (k34.imp fun g h r _ _ => h k r), j + 1, hlt, by omega, S.fillF k b, hFS4, by simpa using hfl, ?_⟩, by omega⟩
   intro G hG
   simp only [VFS.fillF] at hG
   obtain ⟨i, hi1, hi2⟩ := List.getElem_of_mem hG
   have hi3 := List.getElem?_eq_getElem hi1
   rw [hi2, List.getElem?_modify] at hi3
   by_cases hki : k = i
   ·subst hki
    rw [hF] at hi3
    simp at hi3
    subst hi3
    simp [VFile.app, VFile.synced]
    omega
   ·cases hj' : S.files[i]? with
    | none => rw [hj'] at hi3; cases hi3
    | some G' =>
     rw [hj'] at hi3
     simp [hki] at hi3
     subst hi3
     obtain ⟨z1, z2⟩ := hfs _ (List.mem_of_getElem? hj')
     exact ⟨z1, Nat.le_trans z2 (Nat.mul_le_mul_right _ (Nat.le_succ j))⟩
  ·have hje : j = names.length := by omega
   subst hje
   have hdn : (names.zip datas).drop names.length = [] := List.drop_eq_nil_of_le (by simp; omega)
   rw [hdn] at hfl
   injection hfl with hfl
   subst hfl
   simp [go_sem, e1, e6, e56, e57, e58]
   exact ⟨hf, hF2, k2⟩
end
end Go.Proofs.YtahgfnbkkfpcnaaGreat
