/- What is handed in, opened, whatever its type: as plain data beside the heap that it is read in. -/
import Derived.Test.YtmgbknkjgfdllaaSepQ
set_option linter.unusedVariables false
set_option linter.unusedSimpArgs false
namespace Go.Proofs.Ytmgbknkjgfdllaa
open Go.ChangeShapes Go.WideShapes Go.ChangeAt Go.RowKit

def Reached {H : Type} (t : TypeId) (d : DataW H) : Prop := (d.weights Try.prog t).all (· ≤ reachBytes) = true
/-- A type's values, so deep, are these. -/
def Opens {α : Type} (t : TypeId) (n : Nat) (A : Heap → List Value → α → Prop) (fuel : Nat) : Prop :=
  ∀ (H : Type) (enc : TypeId × Value → H) (W : World) (cs : List Value) (x : DataW H × List MemPlace), DataW.trod enc Try.prog W 0 (fun _ => true) true fuel t cs = some x → Reached t x.1 → cs.length = n ∧ ∃ a : α, A (snap W) cs a
theorem Opens.imp {α β : Type} {t : TypeId} {n fuel : Nat} {A : Heap → List Value → α → Prop} {B : Heap → List Value → β → Prop} (h : Opens t n A fuel) (f : ∀ st cs a, A st cs a → ∃ b, B st cs b) : Opens t n B fuel :=
  fun H enc W cs x hx hr => let ⟨h1, a, h2⟩ := h H enc W cs x hx hr; ⟨h1, f _ _ a h2⟩
def IntAt (k : IntKind) (_ : Heap) (cs : List Value) (n : Int) : Prop := cs = [.int k n] ∧ (Lit.int k n).wf = true
def BoolAt (_ : Heap) (cs : List Value) (b : Bool) : Prop := cs = [.bool b]
def TextAt (_ : Heap) (cs : List Value) (s : ByteArray) : Prop := cs = [.string s] ∧ s.size ≤ 140737488355328
def SliceAt {α : Type} (A : Heap → List Value → α → Prop) (n bytes : Nat) (st : Heap) (cs : List Value) (xs : List α) : Prop :=
  ∃ base cap ys, cs = [.slice base xs.length cap] ∧ Reg st (.ty 0) n (.slice base xs.length cap) ys xs.length ∧ xs.length * bytes ≤ 140737488355328 ∧ ∀ i x, xs[i]? = some x → A st ((ys.drop (i * n)).take n) x
theorem opens_int {t : TypeId} {k : IntKind} (ht : Try.prog.underlying t = some (.int k)) (fuel : Nat) : Opens t 1 (IntAt k) fuel := fun H enc W cs x hx _ => by
  obtain ⟨n, rfl, _, hw⟩ := DataW.trod_int ht hx
  exact ⟨rfl, n, rfl, hw⟩
theorem opens_bool {t : TypeId} (ht : Try.prog.underlying t = some .bool) (fuel : Nat) : Opens t 1 BoolAt fuel := fun H enc W cs x hx _ => by
  obtain ⟨n, rfl, _⟩ := DataW.trod_bool ht hx
  exact ⟨rfl, n, rfl⟩
theorem opens_text {t : TypeId} (ht : Try.prog.underlying t = some .string) (fuel : Nat) : Opens t 1 TextAt fuel := fun H enc W cs x hx hr => by
  obtain ⟨n, rfl, rfl, hm⟩ := DataW.trod_string ht hx
  refine ⟨rfl, n, rfl, ?_⟩
  have := reachBytes_lt
  unfold Reached at hr
  simp [DataW.weights] at hr
  have h2 : n.size = n.data.size := rfl
  omega
theorem chosen {α : Type} {Q : Nat → α → Prop} : ∀ {len : Nat}, (∀ i, i < len → ∃ x, Q i x) → ∃ xs : List α, xs.length = len ∧ ∀ i x, xs[i]? = some x → Q i x
  | 0, _ => ⟨[], rfl, by simp⟩
  | len + 1, h => by
    obtain ⟨xs, h1, h2⟩ := chosen (len := len) fun i hi => h i (by omega)
    obtain ⟨x, hx⟩ := h len (by omega)
    refine ⟨xs ++ [x], by simp [h1], fun i y hy => ?_⟩
    by_cases hi : i < xs.length
    · rw [List.getElem?_append_left hi] at hy; exact h2 i y hy
    · rw [List.getElem?_append_right (by omega)] at hy
      have : i - xs.length = 0 := by
        rcases Nat.eq_zero_or_pos (i - xs.length) with h | h
        · exact h
        · rw [List.getElem?_eq_none (by simp; omega)] at hy; cases hy
      rw [this] at hy
      injection hy with hy
      subst hy
      rw [show i = len by omega]
      exact hx
theorem mapM_range {α : Type} {f : Nat → Option α} {n : Nat} {l : List α} (h : (List.range n).mapM f = some l) : l.length = n ∧ ∀ j, j < n → (l[j]? : Option α) = f j := by
  have key : ∀ (is : List Nat) (l : List α), is.mapM f = some l → l.length = is.length ∧ ∀ (j i : Nat), is[j]? = some i → l[j]? = f i := by
    intro is
    induction is with
    | nil => intro l h; simp at h; subst h; simp
    | cons i is ih =>
      intro l h
      simp only [List.mapM_cons, Option.bind_eq_bind, Option.bind_eq_some_iff, Option.pure_def, Option.some.injEq] at h
      obtain ⟨a, ha, r, hr, rfl⟩ := h
      obtain ⟨h1, h2⟩ := ih r hr
      refine ⟨by simp [h1], fun j k hj => ?_⟩
      cases j with
      | zero => simp at hj; subst hj; simp [ha]
      | succ j => simp at hj; simpa using h2 j k hj
  obtain ⟨h1, h2⟩ := key _ _ h
  refine ⟨by simpa using h1, fun j hj => h2 j j (by simp [hj])⟩
theorem cells_get {W : World} {a : Addr} {n : Nat} {cs : List Value} (h : W.cells? 0 a n = some cs) : cs.length = n ∧ ∀ j, j < n → W.cell? (a.add j) = cs[j]? := by
  unfold World.cells? at h
  rw [if_pos (Nat.zero_le _)] at h
  obtain ⟨h1, h2⟩ := mapM_range h
  exact ⟨h1, fun j hj => (h2 j hj).symm⟩
theorem opens_slice {α : Type} {t e : TypeId} {n bytes fuel : Nat} {A : Heap → List Value → α → Prop} (ht : Try.prog.underlying t = some (.slice e)) (hn : Try.prog.cellsOf e = n) (hp : 0 < n) (hb : Try.prog.bytesOf e = bytes) (h : ∀ f, f < fuel → Opens e n A f) :
    Opens t 1 (SliceAt A n bytes) fuel := fun H enc W cs x hx hr => by
  rcases DataW.trod_slice ht hx with ⟨rfl, _⟩ | ⟨a, len, cap, elems, rest, m, rfl, rfl, rfl, hbs, hl, hm, hlen, hel, hsp, hns⟩
  · exact ⟨rfl, [], none, 0, [], rfl, Reg.nil, by simp, by simp⟩
  · refine ⟨rfl, ?_⟩
    have hweights : ((elems.map (·.1)).length + (rest.map (·.1)).length) * bytes ≤ reachBytes ∧ ∀ y ∈ elems, Reached e y.1 := by
      unfold Reached at hr
      simp only [DataW.weights, ht, List.all_cons, Bool.and_eq_true, List.all_append, decide_eq_true_eq, hb] at hr
      refine ⟨hr.1, fun y hy => ?_⟩
      have : ∀ (l : List (DataW H)) (d : DataW H), d ∈ l → (DataW.weightsAll Try.prog e l).all (· ≤ reachBytes) = true → (d.weights Try.prog e).all (· ≤ reachBytes) = true := by
        intro l
        induction l with
        | nil => intro d hd; cases hd
        | cons z l ih =>
          intro d hd hall
          simp only [DataW.weightsAll, List.all_append, Bool.and_eq_true] at hall
          rcases List.mem_cons.1 hd with rfl | hd
          · exact hall.1
          · exact ih d hd hall.2
      exact this _ _ (List.mem_map.2 ⟨y, hy, rfl⟩) hr.2.1
    obtain ⟨hwb, hwe⟩ := hweights
    have hsize : len * bytes ≤ 140737488355328 := by
      have := reachBytes_lt
      have h1 : len * bytes ≤ ((elems.map (·.1)).length + (rest.map (·.1)).length) * bytes := Nat.mul_le_mul_right _ (by simp; omega)
      omega
    have each : ∀ i, i < len → ∃ csi xi, W.cells? 0 (a.add (i * n)) n = some csi ∧ A (snap W) csi xi := by
      intro i hi
      have h1 := hel i hi
      rw [List.getElem?_eq_getElem (by omega), hn] at h1
      obtain ⟨csi, hc, htr⟩ := Option.bind_eq_some_iff.1 h1
      obtain ⟨_, xi, hA⟩ := h m (by omega) H enc W csi _ htr (hwe _ (List.getElem_mem _))
      exact ⟨csi, xi, hc, hA⟩
    by_cases h0 : len = 0
    · subst h0
      exact ⟨[], some a, cap, [], rfl, ⟨by simp, some a, cap, rfl, hl, .inl rfl⟩, by simp, by simp⟩
    · obtain ⟨cs0, x0, hc0, _⟩ := each 0 (by omega)
      have hcell0 : W.cell? a = cs0[0]? := by
        have := (cells_get hc0).2 0 hp
        obtain ⟨b, off, sp⟩ := a
        simpa [Addr.add] using this
      have hl0 := (cells_get hc0).1
      rw [List.getElem?_eq_getElem (by omega)] at hcell0
      obtain ⟨b, off, spot⟩ := a
      have hspot : spot = none := by simpa using World.cell?_spot hcell0
      subst hspot
      have hadd : ∀ k, (⟨b, off, none⟩ : Addr).add k = ⟨b, off + k, none⟩ := fun k => by simp [Go.WideShapes.add_plain]
      obtain ⟨zs, m', hs, hz0⟩ := snap_cell (w := W) hcell0
      have hzall : ∀ k, k < len * n → ∃ v, W.cell? ⟨b, off + k, none⟩ = some v ∧ zs[off + k]? = some v := by
        intro k hk
        have hi : k / n < len := Nat.div_lt_of_lt_mul (by rw [Nat.mul_comm]; exact hk)
        obtain ⟨csi, xi, hc, _⟩ := each (k / n) hi
        obtain ⟨hcl, hcg⟩ := cells_get hc
        have hj := Nat.mod_lt k hp
        have hg := hcg (k % n) hj
        rw [hadd, Go.WideShapes.add_plain] at hg
        have hk' : off + k / n * n + k % n = off + k := by
          have := Nat.div_add_mod k n
          rw [Nat.mul_comm] at this
          omega
        rw [hk', List.getElem?_eq_getElem (by omega)] at hg
        obtain ⟨zs', m'', hs', hz'⟩ := snap_cell (w := W) hg
        rw [hs] at hs'
        injection hs' with hs'; injection hs' with _ hzz; subst hzz
        exact ⟨_, hg, hz'⟩
      have hzlen : off + len * n ≤ zs.length := by
        obtain ⟨v, _, hv⟩ := hzall (len * n - 1) (by have : 0 < len * n := Nat.mul_pos (by omega) hp; omega)
        have := (List.getElem?_eq_some_iff.1 hv).1
        have : 0 < len * n := Nat.mul_pos (by omega) hp
        omega
      obtain ⟨ys, hys⟩ : ∃ ys, ys = (zs.drop off).take (len * n) := ⟨_, rfl⟩
      have hylen : ys.length = len * n := by rw [hys, List.length_take, List.length_drop]; omega
      have hyget : ∀ k, k < len * n → ys[k]? = W.cell? ⟨b, off + k, none⟩ := by
        intro k hk
        obtain ⟨v, h1, h2⟩ := hzall k hk
        rw [h1, hys, List.getElem?_take, if_pos hk, List.getElem?_drop, h2]
      obtain ⟨xs, hxl, hxs⟩ := chosen (len := len) (Q := fun i x => A (snap W) ((ys.drop (i * n)).take n) x) (by
        intro i hi
        obtain ⟨csi, xi, hc, hA⟩ := each i hi
        obtain ⟨hcl, hcg⟩ := cells_get hc
        refine ⟨xi, ?_⟩
        have hin : i * n + n ≤ len * n := by rw [← Nat.succ_mul]; exact Nat.mul_le_mul_right _ hi
        have : csi = (ys.drop (i * n)).take n := by
          apply List.ext_getElem?
          intro j
          rw [List.getElem?_take]
          by_cases hj : j < n
          · rw [if_pos hj, List.getElem?_drop, hyget _ (by omega), ← hcg j hj, hadd, Go.WideShapes.add_plain, Nat.add_assoc]
          · rw [if_neg hj, List.getElem?_eq_none (by omega)]
        rw [← this]
        exact hA)
      subst hxl
      exact ⟨xs, some ⟨b, off, none⟩, cap, ys, rfl, ⟨hylen, _, _, rfl, hl, .inr ⟨b, off, false, zs, m', rfl, hs, by rw [hys]; exact List.take_prefix _ _, by omega⟩⟩, hsize, hxs⟩
theorem opens_struct {H : Type} {enc : TypeId × Value → H} {W : World} {t : TypeId} {fs : Array Field} {fuel : Nat} {cs : List Value} {x : DataW H × List MemPlace} (ht : Try.prog.underlying t = some (.struct fs)) (hx : DataW.trod enc Try.prog W 0 (fun _ => true) true fuel t cs = some x) (hr : Reached t x.1) :
    cs.length = Try.prog.cellsOf t ∧ ∃ n, fuel = n + 1 ∧ ∀ (i : Nat) (f : Field), fs[i]? = some f → ∃ y, DataW.trod enc Try.prog W 0 (fun _ => true) true n f.type ((cs.drop f.offset).take (Try.prog.cellsOf f.type)) = some y ∧ Reached f.type y.1 := by
  obtain ⟨xs, n, rfl, rfl, hl, hlen, hf⟩ := DataW.trod_struct ht hx
  refine ⟨hl, n, rfl, fun i f hi => ?_⟩
  have h1 := hf i f hi
  have hi' := (Array.getElem?_eq_some_iff.1 hi).1
  rw [List.getElem?_eq_getElem (by omega)] at h1
  refine ⟨_, h1, ?_⟩
  unfold Reached at hr ⊢
  simp only [DataW.weights, ht] at hr
  rw [List.all_eq_true] at hr ⊢
  intro m hm
  refine hr m (DataW.weights_mem_each (j := i) (t := f.type) (d := xs[i].1) ?_ ?_ m hm)
  · rw [List.getElem?_map, Array.getElem?_toList, hi]; rfl
  · rw [List.getElem?_map, List.getElem?_eq_getElem (by omega)]; rfl
theorem opened {α H : Type} {enc : TypeId × Value → H} {W : World} {t : TypeId} {n : Nat} {A : Heap → List Value → α → Prop} {v : Value} {d : DataW H} {p : List MemPlace} {ts : List TypeId} {ds : List (DataW H)} (h : ∀ f, Opens t n A f) (h0 : DataW.Trod enc Try.prog W 0 (fun _ => true) true t v d p)
    (j : Nat) (hw : (DataW.weightsEach Try.prog ts ds).all (· ≤ reachBytes) = true) (ht : ts[j]? = some t) (hd : ds[j]? = some d) : ∃ a, A (snap W) v.cells.toList a := by
  obtain ⟨fuel, hf⟩ := h0
  refine (h fuel H enc W _ _ hf ?_).2
  unfold Reached
  rw [List.all_eq_true] at hw ⊢
  exact fun m hm => hw m (DataW.weights_mem_each ht hd m hm)
end Go.Proofs.Ytmgbknkjgfdllaa
