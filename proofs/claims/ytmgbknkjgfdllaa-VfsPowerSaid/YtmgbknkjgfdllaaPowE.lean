/- Calls that are handed in; texts that are the same; behind the power's going. -/
import Derived.Test.YtmgbknkjgfdllaaPowD
set_option linter.unusedVariables false
set_option linter.unusedSimpArgs false
set_option maxRecDepth 100000
set_option maxHeartbeats 4000000
namespace Go.Proofs.Ytmgbknkjgfdllaa
open Go.RowKit (Below)
structure OpD where
  kind : Int
  a : Int
  b : Int
  n : Int
  data : Bs
def OpAt (st : Heap) (cs : List Value) (o : OpD) : Prop := ∃ dv pb pl pc, cs = [Val.i o.kind, Val.i o.a, Val.i o.b, Val.i o.n, dv, .slice pb pl pc] ∧ Reg st (.ty 0) 1 dv (bytesV o.data) o.data.length
def OpsAt (st : Heap) (v : Value) (os : List OpD) : Prop := ∃ ys, Reg st (.ty 0) 6 v ys os.length ∧ ∀ i o, os[i]? = some o → OpAt st ((ys.drop (i * 6)).take 6) o
theorem OpAt.keep {st st' : Heap} {cs : List Value} {o : OpD} {p : Tg → Prop} (h : OpAt st cs o) (hk : Keep p st st') (hp : p (.ty 0)) : OpAt st' cs o := by
  obtain ⟨dv, pb, pl, pc, h1, h2⟩ := h
  exact ⟨dv, pb, pl, pc, h1, h2.keep hk hp⟩
theorem OpsAt.keep {st st' : Heap} {v : Value} {os : List OpD} {p : Tg → Prop} (h : OpsAt st v os) (hk : Keep p st st') (hp : p (.ty 0)) : OpsAt st' v os := by
  obtain ⟨ys, h1, h2⟩ := h
  exact ⟨ys, h1.keep hk hp, fun i o ho => (h2 i o ho).keep hk hp⟩
/-- One of them, where it lies. -/
theorem OpsAt.get {st : Heap} {v : Value} {os : List OpD} {i : Nat} (h : OpsAt st v os) (hi : i < os.length) : ∃ mb off cap rw zs m dv pb pl pc, v = .slice (some ⟨mb, off, none⟩) os.length cap ∧ st mb = some (.cells rw zs m (.ty 0)) ∧ off + i * 6 + 6 ≤ zs.length ∧
    (zs.drop (off + i * 6)).take 6 = [Val.i os[i].kind, Val.i os[i].a, Val.i os[i].b, Val.i os[i].n, dv, .slice pb pl pc] ∧ zs[off + i * 6]? = some (Val.i os[i].kind) ∧ zs[off + i * 6 + 1]? = some (Val.i os[i].a) ∧ zs[off + i * 6 + 4]? = some dv ∧ Reg st (.ty 0) 1 dv (bytesV os[i].data) os[i].data.length := by
  obtain ⟨ys, ⟨hl, base, cap, rfl, hc, hreg⟩, h2⟩ := h
  rcases hreg with h0 | ⟨mb, off, rw_, zs, m, rfl, hs, hp, ho⟩
  · omega
  obtain ⟨dv, pb, pl, pc, h3, h4⟩ := h2 i os[i] (List.getElem?_eq_getElem hi)
  obtain ⟨t, ht⟩ := hp
  have hlen : ys.length + t.length = zs.length - off := by
    have := congrArg List.length ht
    rw [List.length_append, List.length_drop] at this
    exact this
  have a1 : i * 6 ≤ ys.length := by omega
  have a2 : 6 ≤ (ys.drop (i * 6)).length := by rw [List.length_drop]; omega
  have hcell : (zs.drop (off + i * 6)).take 6 = [Val.i os[i].kind, Val.i os[i].a, Val.i os[i].b, Val.i os[i].n, dv, .slice pb pl pc] := by
    rw [← h3, ← List.drop_drop, ← ht, List.drop_append_of_le_length a1, List.take_append_of_le_length a2]
  have hj : ∀ j, j < 6 → zs[off + i * 6 + j]? = [Val.i os[i].kind, Val.i os[i].a, Val.i os[i].b, Val.i os[i].n, dv, .slice pb pl pc][j]? := by
    intro j hj
    rw [← hcell, List.getElem?_take, if_pos hj, List.getElem?_drop]
  exact ⟨mb, off, cap, rw_, zs, m, dv, pb, pl, pc, rfl, hs, by omega, hcell, hj 0 (by omega), hj 1 (by omega), hj 4 (by omega), h4⟩
def PowJ (S : VFS) : Prop := S.small ∧ Names S.now ∧ S.now.length ≤ 12 ∧ ∃ d, syncM S.turns S.sure = some d
theorem PowI.toJ {S : VFS} {k : Nat} (h : PowI S k) (hk : k ≤ 100) : PowJ S := ⟨h.small hk, h.names, by have := h.now_len; omega, by obtain ⟨d, hd, _⟩ := h.sync; exact ⟨d, hd⟩⟩
/-- The power has gone. -/
def Gone (st0 : Heap) (f : Nat) (now : Dir) (st : Heap) : Prop := (∃ S, FSAt st f S ∧ S.small ∧ S.now = now ∧ S.c.off = true) ∧ Keep (Out f) st0 st
theorem Gone.to {st0 st st' : Heap} {f : Nat} {now : Dir} {S' : VFS} (h : Gone st0 f now st) (hf : FSAt st' f S') (hs : S'.small) (hn : S'.now = now) (ho : S'.c.off = true) (hk : Keep (Out f) st st') : Gone st0 f now st' := ⟨⟨S', hf, hs, hn, ho⟩, h.2.trans hk⟩
theorem off_call {c : Ctl} (h : c.off = true) : c.call.1 = 15 ∧ c.call.2.off = true := by
  unfold Ctl.call
  rw [if_pos h]
  exact ⟨rfl, h⟩
theorem off_create {S : VFS} {n : ByteArray} (h : S.c.off = true) : S.create n = (15, S.ctl S.c.call.2) := by
  unfold VFS.create
  rw [if_pos (by rw [(off_call h).1]; simp), (off_call h).1]
theorem off_append {S : VFS} {n : ByteArray} {b : Bs} (h : S.c.off = true) : S.append n b = (15, S.ctl S.c.call.2) := by
  unfold VFS.append
  rw [(off_call h).1, h]
  split
  · simp
  · split
    · simp
    · simp
theorem off_remove {S : VFS} {n : ByteArray} (h : S.c.off = true) : S.remove n = (15, S.ctl S.c.call.2) := by
  unfold VFS.remove
  rw [if_pos (by rw [(off_call h).1]; simp), (off_call h).1]
theorem off_sync {S : VFS} {n : ByteArray} (h : S.c.off = true) : S.syncF n = (15, S.ctl S.c.call.2) := by
  unfold VFS.syncF
  rw [if_pos (by rw [(off_call h).1]; simp), (off_call h).1]
section
variable {W0 : World} {st : Heap}
theorem SameTexts_spec {v w : Value} {xs : List ByteArray} (h : RegF st 1 v (xs.map .string) xs.length) (h' : RegF st 1 w (xs.map .string) xs.length) (hl : xs.length < 2 ^ 40) : ICalls Try.prog W0 31 #[v, w] st fun e st' => e = .returned (.bool true) ∧ st' = st := by
  obtain ⟨vb, vc, rfl⟩ := h.slice
  obtain ⟨wb, wc, rfl⟩ := h'.slice
  refine enter (args := [_, _]) Try.func31 rfl ?_
  simp [Try.f31, go_sem]
  refine ⟨fun E st' => st' = st ∧ E 0 = .slice vb xs.length vc ∧ E 1 = .slice wb xs.length wc ∧ ∃ i : Nat, E 5 = Val.i i ∧ i ≤ xs.length,
    fun E _ => match E 5 with | .int _ i => xs.length - i.toNat | _ => 0, ⟨st, .rfl' _, rfl, by simp [go_sem], by simp [go_sem], 0, by simp [go_sem], by omega⟩, ?_⟩
  rintro E st' ⟨rfl, e0, e1, i, e5, hi⟩
  by_cases hlt : i < xs.length
  · have hlt' : ((i : Int) < xs.length) = True := eq_true (by omega)
    have hwi : IntKind.i64.wrap ((i : Int) + 1) = ((i + 1 : Nat) : Int) := by rw [wrap_id (by omega) (by omega)]; omega
    obtain ⟨b1, o1, rfl, g1⟩ := src_get h.src (by omega)
    obtain ⟨b2, o2, rfl, g2⟩ := src_get h'.src (by omega)
    have hv : xs[i]? = some xs[i] := List.getElem?_eq_getElem hlt
    have hg1 := g1 i (by omega)
    have hg2 := g2 i (by omega)
    have hgv : (xs.map Value.string)[i]? = some (.string xs[i]) := by simp [hv]
    rw [hgv] at hg1 hg2
    simp [go_sem, e0, e1, e5, hlt', hlt]
    refine draw [0, 1, 2, 4, 5, 6, 3, 7, 8] (by kernel_rfl) ?_
    simp [go_sem, e0, e1, e5, hlt', hlt, hg1, hg2, hwi]
    exact ⟨_, .rfl' _, ⟨rfl, i + 1, by omega, by omega⟩, by omega⟩
  · have hlt' : ((i : Int) < xs.length) = False := eq_false (by omega)
    simp [go_sem, e0, e1, e5, hlt', hlt]
end
end Go.Proofs.Ytmgbknkjgfdllaa
