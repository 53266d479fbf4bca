/- Rows that someone owns: what is kept of a heap, rows that are known whole, parts of rows. Plain definitions and theorems, over any program. -/
import Derived.Test.YtadgciaclhjjkaaGreatC07
import Derived.Test.YtadgciaclhjjkaaGreatCTab
import Derived.ProofKit
import Derived.OpenShut
import Derived.SizedLaws
import Derived.Laws.BitsLemmas
set_option linter.unusedVariables false
set_option linter.unusedSimpArgs false
namespace Go.Proofs.YtadgciaclhjjkaaGreat
open Go.RowKit (Below)

@[go_sem ↓] theorem EndI_returned {K : Value → Heap → Prop} {Kp : List PanicEntry → Heap → Prop} {st : Heap} (v : Value) : EndI K Kp (.returned v) st = K v st := (rfl)
@[go_sem ↓] theorem EndI_panicked {K : Value → Heap → Prop} {Kp : List PanicEntry → Heap → Prop} {st : Heap} (c : List PanicEntry) : EndI K Kp (.panicked c) st = Kp c st := (rfl)
abbrev Val.i (n : Int) : Value := .int .i64 n
abbrev ptr (b : Nat) : Value := .pointer (some ⟨b, 0, none⟩)
abbrev W (n : Int) : Int := IntKind.wrap .i64 n
abbrev Val.u (n : Int) : Value := .int .u64 n
abbrev Bs := List UInt8
/-- Marks of no one. -/
abbrev Free (t : Tg) : Prop := ∀ g x r, t ≠ .own g x r
def HObj.tag : HObj → Option Tg
  | .cells _ _ _ e => some e
  | .map g _ => some g
  | .other _ => none
/-- What has a mark of these is as it was. -/
def Keep (p : Tg → Prop) (st st' : Heap) : Prop := ∀ k o g, st k = some o → o.tag = some g → p g → st' k = some o
theorem Keep.rfl' {p : Tg → Prop} {st : Heap} : Keep p st st := fun k o g h _ _ => h
theorem Keep.new {p : Tg → Prop} {st st' : Heap} {b : Nat} {o : HObj} (h : Keep p st st') (hb : st' b = none) : Keep p st (upd st' b o) := fun k x g hk ht hp => by
  have h1 := h k x g hk ht hp
  rw [upd_ne _ _ (by rintro rfl; rw [hb] at h1; cases h1)]
  exact h1
theorem Keep.old {p : Tg → Prop} {st st' : Heap} {b : Nat} {o o0 : HObj} (h : Keep p st st') (hb : st' b = some o0) (ht : ∀ g, o0.tag = some g → ¬ p g) : Keep p st (upd st' b o) := fun k x g hk hg hp => by
  have h1 := h k x g hk hg hp
  rw [upd_ne _ _ (by rintro rfl; rw [hb] at h1; injection h1 with h1; subst h1; exact ht g hg hp)]
  exact h1
theorem Keep.trans {p : Tg → Prop} {st st' st'' : Heap} (h : Keep p st st') (h' : Keep p st' st'') : Keep p st st'' := fun k o g hk ht hp => h' k o g (h k o g hk ht hp) ht hp
theorem Keep.imp {p q : Tg → Prop} {st st' : Heap} (hq : ∀ g, q g → p g) (h : Keep p st st') : Keep q st st' := fun k o g hk ht hp => h k o g hk ht (hq g hp)
theorem Keep.get {p : Tg → Prop} {st st' : Heap} {b : Nat} {rw : Bool} {xs : List Value} {n : Nat} {g : Tg} (h : Keep p st st') (hb : st b = some (.cells rw xs n g)) (hp : p g) : st' b = some (.cells rw xs n g) := h b _ g hb rfl hp
theorem Keep.getM {p : Tg → Prop} {st st' : Heap} {b : Nat} {es : KV} {g : Tg} (h : Keep p st st') (hb : st b = some (.map g es)) (hp : p g) : st' b = some (.map g es) := h b _ g hb rfl hp
theorem ne_of_tag {st : Heap} {a b : Nat} {o o' : HObj} (ha : st a = some o) (hb : st b = some o') (h : o.tag ≠ o'.tag) : a ≠ b := by
  rintro rfl; rw [ha] at hb; injection hb with hb; exact h (by rw [hb])
theorem ne_of_new {st : Heap} {a b : Nat} {o : HObj} (ha : st a = some o) (hb : st b = none) : a ≠ b := by
  rintro rfl; rw [ha] at hb; cases hb
/-- Another mark. -/
theorem Heap.Le.retag {st : Heap} {b : Nat} {rw : Bool} {xs : List Value} {n : Nat} {g g' : Tg} (h : st b = some (.cells rw xs n g)) : Heap.Le (upd st b (.cells rw xs n g')) st := fun k o hk => by
  by_cases hkb : k = b
  · subst hkb; rw [upd_same] at hk; injection hk with hk; subst hk; exact ⟨_, h, .cells List.prefix_rfl id⟩
  · rw [upd_ne _ _ hkb] at hk; exact ⟨o, hk, .refl o⟩
theorem Heap.Le.retagM {st : Heap} {b : Nat} {es : KV} {g g' : Tg} (h : st b = some (.map g es)) : Heap.Le (upd st b (.map g' es)) st := fun k o hk => by
  by_cases hkb : k = b
  · subst hkb; rw [upd_same] at hk; injection hk with hk; subst hk; exact ⟨_, h, .map es⟩
  · rw [upd_ne _ _ hkb] at hk; exact ⟨o, hk, .refl o⟩
/-- Fewer cells known. -/
theorem Heap.Le.cut {st : Heap} {b : Nat} {rw : Bool} {xs ys : List Value} {n : Nat} {g g' : Tg} (h : st b = some (.cells rw xs n g)) (hp : ys <+: xs) : Heap.Le (upd st b (.cells rw ys n g')) st := fun k o hk => by
  by_cases hkb : k = b
  · subst hkb; rw [upd_same] at hk; injection hk with hk; subst hk; exact ⟨_, h, .cells hp id⟩
  · rw [upd_ne _ _ hkb] at hk; exact ⟨o, hk, .refl o⟩
theorem HObj.Le.trans {a b c : HObj} (h : HObj.Le a b) (h' : HObj.Le b c) : HObj.Le a c := by
  cases h with
  | refl => exact h'
  | map es => cases h' <;> exact .map es
  | cells hp hr => cases h' with
    | refl => exact .cells hp hr
    | cells hp' hr' => exact .cells (hp.trans hp') (fun e => hr' (hr e))
theorem Heap.Le.trans {a b c : Heap} (h : Heap.Le a b) (h' : Heap.Le b c) : Heap.Le a c := fun k o hk => by
  obtain ⟨o', h1, h2⟩ := h k o hk
  obtain ⟨o'', h3, h4⟩ := h' k o' h1
  exact ⟨o'', h3, h2.trans h4⟩
theorem ICalls.post {P : Program} {W0 : World} {f : FuncId} {args : Array Value} {st : Heap} {R : Ending → Heap → Prop} (h : ICalls P W0 f args st fun e st2 => ∃ st', Heap.Le st' st2 ∧ R e st') : ICalls P W0 f args st R :=
  fun w hs => (h w hs).mono fun e w' ⟨st2, h1, st', hle, h2⟩ => ⟨st', h1.weaken hle, h2⟩

/-! ### Marked rows that only grow -/
structure Ext (g : Tg) (st st' : Heap) : Prop where
  keep : ∀ k o, st k = some o → o.tag ≠ some g → st' k = some o
  grow : ∀ k rw ys n, st k = some (.cells rw ys n g) → ∃ zs, st' k = some (.cells rw (ys ++ zs) n g)
  maps : ∀ k es, st k = some (.map g es) → st' k = some (.map g es)
theorem Ext.rfl' {g : Tg} {st : Heap} : Ext g st st := ⟨fun k o h _ => h, fun k rw ys n h => ⟨[], by simpa using h⟩, fun k es h => h⟩
theorem Ext.new {g : Tg} {st : Heap} {b : Nat} {o : HObj} (hb : st b = none) : Ext g st (upd st b o) :=
  ⟨fun k x hk _ => by rw [upd_ne _ _ (ne_of_new hk hb)]; exact hk, fun k rw ys n hk => ⟨[], by rw [upd_ne _ _ (ne_of_new hk hb)]; simpa using hk⟩, fun k es hk => by rw [upd_ne _ _ (ne_of_new hk hb)]; exact hk⟩
theorem Ext.old {g : Tg} {st : Heap} {b : Nat} {xs zs : List Value} {n : Nat} (hb : st b = some (.cells true xs n g)) : Ext g st (upd st b (.cells true (xs ++ zs) n g)) :=
  ⟨fun k x hk ht => by rw [upd_ne _ _ (ne_of_tag hk hb ht)]; exact hk, fun k rw ys m hk => by
    by_cases hkb : k = b
    · subst hkb; rw [hb] at hk; injection hk with hk; injection hk with h1 h2 h3 h4; subst h1; subst h2; subst h3; exact ⟨zs, upd_same _ _ _⟩
    · exact ⟨[], by rw [upd_ne _ _ hkb]; simpa using hk⟩, fun k es hk => by rw [upd_ne _ _ (by rintro rfl; rw [hb] at hk; cases hk)]; exact hk⟩
theorem Ext.toKeep {g : Tg} {st st' : Heap} {p : Tg → Prop} (h : Ext g st st') (hp : ¬ p g) : Keep p st st' := fun k o t hk ht hpt => h.keep k o hk (by rw [ht]; intro e; injection e with e; subst e; exact hp hpt)
theorem Keep.toExt {g : Tg} {st st' : Heap} {p : Tg → Prop} (h : Keep p st st') (hp : p g) {k : Nat} {rw : Bool} {ys : List Value} {n : Nat} (hk : st k = some (.cells rw ys n g)) : ∃ zs, st' k = some (.cells rw (ys ++ zs) n g) := ⟨[], by simpa using h.get hk hp⟩

/-! ### A part of a row, to be read -/
def Reg (st : Heap) (g : Tg) (size : Nat) (v : Value) (xs : List Value) (len : Nat) : Prop :=
  xs.length = len * size ∧ ∃ base cap, v = .slice base len cap ∧ len ≤ cap ∧ (len = 0 ∨ ∃ b off rw ys n, base = some ⟨b, off, none⟩ ∧ st b = some (.cells rw ys n g) ∧ xs <+: ys.drop off ∧ off ≤ ys.length)
theorem lkN_cells {st : Heap} {b off m : Nat} {rw : Bool} {ys : List Value} {n : Nat} {g : Tg} (hs : st b = some (.cells rw ys n g)) (h : off + m ≤ ys.length) : lkN st ⟨b, off, none⟩ m = some ((ys.drop off).take m) := by
  unfold lkN
  simp [hs, cellsOf, h]
theorem Reg.src {st : Heap} {g : Tg} {size len : Nat} {v : Value} {xs : List Value} (h : Reg st g size v xs len) : srcCells size st v = some (len, xs) := by
  obtain ⟨hl, base, cap, rfl, hc, h⟩ := h
  cases base with
  | none =>
    rcases h with rfl | ⟨b, off, rw, ys, n, hb, _⟩
    · simp only [Nat.zero_mul, List.length_eq_zero_iff] at hl; simp [srcCells, hl]
    · cases hb
  | some a =>
    simp only [srcCells]
    split
    · rename_i h0; rw [h0] at hl; simp only [Nat.zero_mul, List.length_eq_zero_iff] at hl; rw [h0, hl]
    · rename_i h0
      rcases h with h | ⟨b, off, rw, ys, n, hb, hs, hp, hoff⟩
      · exact absurd h h0
      · injection hb with hb; subst hb
        obtain ⟨t, ht⟩ := hp
        have hlen : xs.length + t.length = ys.length - off := by rw [← List.length_append, ht, List.length_drop]
        rw [lkN_cells hs (by omega), ← ht, ← hl, List.take_left]; rfl
theorem Reg.of_ext {st st' : Heap} {g : Tg} {size len : Nat} {v : Value} {xs : List Value} (h : Reg st g size v xs len) (hg : ∀ k rw ys n, st k = some (.cells rw ys n g) → ∃ zs, st' k = some (.cells rw (ys ++ zs) n g)) : Reg st' g size v xs len := by
  obtain ⟨hl, base, cap, hv, hc, h⟩ := h
  refine ⟨hl, base, cap, hv, hc, h.imp id ?_⟩
  rintro ⟨b, off, rw, ys, n, hb, hs, hp, hoff⟩
  obtain ⟨zs, hz⟩ := hg _ _ _ _ hs
  refine ⟨b, off, rw, ys ++ zs, n, hb, hz, hp.trans ?_, by rw [List.length_append]; omega⟩
  rw [List.drop_append]
  exact List.prefix_append _ _
theorem Reg.keep {st st' : Heap} {g : Tg} {size len : Nat} {v : Value} {xs : List Value} (h : Reg st g size v xs len) {p : Tg → Prop} (hk : Keep p st st') (hp : p g) : Reg st' g size v xs len := h.of_ext fun k rw ys n hs => hk.toExt hp hs
theorem Reg.take {st : Heap} {g : Tg} {len m cap : Nat} {base : Option Addr} {xs : List Value} (h : Reg st g 1 (.slice base len cap) xs len) (hm : m ≤ len) : Reg st g 1 (.slice base m cap) (xs.take m) m := by
  obtain ⟨hl, base', cap', hv, hc, h⟩ := h
  injection hv with e1 e2 e3; subst e1; subst e3
  refine ⟨by rw [List.length_take, hl]; omega, _, _, rfl, by omega, ?_⟩
  rcases h with h | ⟨b, off, rw, ys, n, hb, hs, hp, ho⟩
  · exact .inl (by omega)
  · exact .inr ⟨b, off, rw, ys, n, hb, hs, (List.take_prefix _ _).trans hp, ho⟩
theorem Reg.cap {st : Heap} {g : Tg} {size len cap : Nat} {base : Option Addr} {xs : List Value} (h : Reg st g size (.slice base len cap) xs len) : len ≤ cap := by
  obtain ⟨hl, base', cap', hv, hc, h⟩ := h
  injection hv with e1 e2 e3; subst e3; exact hc
theorem Reg.nil {st : Heap} {g : Tg} {size : Nat} : Reg st g size (.slice none 0 0) [] 0 := ⟨by simp, none, 0, rfl, Nat.le_refl _, .inl rfl⟩

/-! ### A row that is known whole, and may grow -/
def Vec (st : Heap) (g : Tg) (size : Nat) (v : Value) (xs : List Value) (len : Nat) : Prop :=
  xs.length = len * size ∧ ∃ base cap, v = .slice base len cap ∧ len ≤ cap ∧ ((∃ b n, base = some ⟨b, 0, none⟩ ∧ st b = some (.cells true xs n g) ∧ cap * size ≤ n) ∨ (base = none ∧ cap = 0))
theorem Vec.reg {st : Heap} {g : Tg} {size len : Nat} {v : Value} {xs : List Value} (h : Vec st g size v xs len) : Reg st g size v xs len := by
  obtain ⟨hl, base, cap, hv, hc, h⟩ := h
  refine ⟨hl, base, cap, hv, hc, ?_⟩
  rcases h with ⟨b, n, hb, hs, _⟩ | ⟨hb, h0⟩
  · exact .inr ⟨b, 0, true, xs, n, hb, hs, by simp, by simp⟩
  · exact .inl (by omega)
theorem Vec.src {st : Heap} {g : Tg} {size len : Nat} {v : Value} {xs : List Value} (h : Vec st g size v xs len) : srcCells size st v = some (len, xs) := h.reg.src
theorem Vec.slice {st : Heap} {g : Tg} {size len : Nat} {v : Value} {xs : List Value} (h : Vec st g size v xs len) : ∃ base cap, v = .slice base len cap := let ⟨_, b, c, e, _⟩ := h; ⟨b, c, e⟩
theorem Reg.slice {st : Heap} {g : Tg} {size len : Nat} {v : Value} {xs : List Value} (h : Reg st g size v xs len) : ∃ base cap, v = .slice base len cap := let ⟨_, b, c, e, _⟩ := h; ⟨b, c, e⟩
theorem Vec.nil {st : Heap} {g : Tg} {size : Nat} : Vec st g size (.slice none 0 0) [] 0 := ⟨by simp, none, 0, rfl, Nat.le_refl _, .inr ⟨rfl, rfl⟩⟩
theorem Vec.keep {st st' : Heap} {g : Tg} {size len : Nat} {v : Value} {xs : List Value} (h : Vec st g size v xs len) {p : Tg → Prop} (hk : Keep p st st') (hp : p g) : Vec st' g size v xs len := by
  obtain ⟨hl, base, cap, hv, hc, h⟩ := h
  refine ⟨hl, base, cap, hv, hc, h.imp ?_ id⟩
  rintro ⟨b, n, hb, hs, hn⟩
  exact ⟨b, n, hb, hk.get hs hp, hn⟩
theorem Vec.new {st : Heap} {b : Nat} {g : Tg} {size len cap n : Nat} {xs : List Value} (hl : xs.length = len * size) (hc : len ≤ cap) (hb : st b = some (.cells true xs n g)) (hn : cap * size ≤ n) : Vec st g size (.slice (some ⟨b, 0, none⟩) len cap) xs len := ⟨hl, _, _, rfl, hc, .inl ⟨b, n, rfl, hb, hn⟩⟩
theorem AppI_vec {P : Program} {t e size bytes : Nat} {z : List Value} {K : Value → Heap → Prop} {st : Heap} {g : Tg} {v x : Value} {xs ys : List Value} {len m : Nat} (hi : slInfo P t = some (e, size, bytes, z)) (hv : Vec st g size v xs len) (hs : srcCells size st x = some (m, ys)) (h1 : ∀ y ∈ ys, y.oneCell' = true)
    (hmax : (len + m) * bytes ≤ 140737488355328) (hk : ∀ base cap st', Vec st' g size (.slice base (len + m) cap) (xs ++ ys) (len + m) → Ext g st st' → K (.slice base (len + m) cap) st') : AppI (some (e, size, bytes, z)) P t v x K st := by
  have hvs := hv.src
  have hv0 := hv
  obtain ⟨hl, base, cap, rfl, hc, h⟩ := hv
  have hyl : ys.length = m * size := src_length hs
  unfold AppI appX
  refine optK_iff.2 ⟨_, hi, ?_⟩
  simp only
  refine optK_iff.2 ⟨_, hs, ?_⟩
  simp only
  by_cases h0 : m = 0 ∧ len ≤ cap
  · rw [if_pos h0]
    obtain ⟨rfl, _⟩ := h0
    have : ys = [] := List.eq_nil_of_length_eq_zero (by simpa using hyl)
    subst this
    exact hk _ _ _ (by simpa using hv0) .rfl'
  · rw [if_neg h0]
    refine ⟨hmax, fun hle => ?_, fun hlt => ?_⟩
    · rcases h with ⟨b, n, rfl, hb, hn⟩ | ⟨rfl, h0'⟩
      · simp only
        exact ⟨by trivial, xs, n, g, hb, by simp only [Nat.zero_add]; omega, by simp only [Nat.zero_add]; omega, h1, hk _ _ _ ⟨by simp [hl, hyl, Nat.add_mul], _, cap, rfl, hle, .inl ⟨b, n, rfl, upd_same _ _ _, hn⟩⟩ (.old hb)⟩
      · exact absurd ⟨by omega, by omega⟩ h0
    · refine optK_iff.2 ⟨_, hvs, fun b c hb hcc => ⟨g, ?_⟩⟩
      exact hk _ _ _ ⟨by simp [hl, hyl, Nat.add_mul], _, c, rfl, hcc, .inl ⟨b, c * size, rfl, upd_same _ _ _, Nat.le_refl _⟩⟩ (.new hb)
theorem bytesV_one (l : List UInt8) : ∀ y ∈ bytesV l, y.oneCell' = true := by
  intro y hy
  obtain ⟨b, _, rfl⟩ := List.mem_map.1 hy
  trivial
theorem bytesV_append (a b : List UInt8) : bytesV (a ++ b) = bytesV a ++ bytesV b := by simp [bytesV]
theorem bytesV_length (a : List UInt8) : (bytesV a).length = a.length := by simp [bytesV]
theorem srcCells_le {size : Nat} {st st' : Heap} {v : Value} {r : Nat × List Value} (hl : Heap.Le st st') (h : srcCells size st v = some r) : srcCells size st' v = some r := by
  unfold srcCells at *
  split at h
  · exact h
  · split at h
    · rename_i h0; rw [if_pos h0]; exact h
    · rename_i h0
      rw [if_neg h0]
      obtain ⟨l, h1, h2⟩ := Option.map_eq_some_iff.1 h
      rw [lkN_le hl h1]
      exact congrArg some h2
  · exact h
  · cases h
theorem wrap_id {n : Int} (h : -9223372036854775808 ≤ n) (h' : n < 9223372036854775808) : IntKind.i64.wrap n = n := by
  rw [IntKind.wrap_i64]; omega
theorem src_at {size n c : Nat} {st : Heap} {a : Option Addr} {l : List Value} (h : srcCells size st (.slice a n c) = some (n, l)) (hn : 0 < n) : ∃ b off, a = some ⟨b, off, none⟩ ∧ off + n * size ≤ (cellsOf (st b)).length ∧ l = ((cellsOf (st b)).drop off).take (n * size) := by
  cases a with
  | none => simp only [srcCells] at h; rw [if_neg (by omega)] at h; cases h
  | some a =>
    simp only [srcCells] at h
    rw [if_neg (by omega)] at h
    obtain ⟨l', h1, h2⟩ := Option.map_eq_some_iff.1 h
    injection h2 with h2 h3; subst h3
    unfold lkN at h1
    split at h1
    · cases h1
    · rename_i hs
      split at h1
      · rename_i hle
        injection h1 with h1
        obtain ⟨b, off, sp⟩ := a
        simp only at hs
        subst hs
        exact ⟨b, off, rfl, hle, h1.symm⟩
      · cases h1
theorem src_get {size n c : Nat} {st : Heap} {a : Option Addr} {l : List Value} (h : srcCells size st (.slice a n c) = some (n, l)) (hn : 0 < n) : ∃ b off, a = some ⟨b, off, none⟩ ∧ ∀ k, k < n * size → (cellsOf (st b))[off + k]? = l[k]? := by
  obtain ⟨b, off, h1, h2, h3⟩ := src_at h hn
  refine ⟨b, off, h1, fun k hk => ?_⟩
  rw [h3, List.getElem?_take, if_pos hk, List.getElem?_drop]
theorem Heap.Le.drop {st : Heap} {b : Nat} {x : HObj} (hb : st b = none) : Heap.Le st (upd st b x) := .new x hb
theorem Heap.Le.upd' {st st' : Heap} (m : Nat) (o : HObj) (h : Heap.Le st st') : Heap.Le (upd st m o) (upd st' m o) := fun k x hk => by
  by_cases hkm : k = m
  · subst hkm; rw [upd_same] at hk ⊢; exact ⟨_, rfl, by injection hk with hk; subst hk; exact .refl _⟩
  · rw [upd_ne _ _ hkm] at hk ⊢; exact h k x hk
end Go.Proofs.YtadgciaclhjjkaaGreat
set_option linter.unusedVariables false
set_option linter.unusedSimpArgs false
namespace Go.Proofs.YtadgciaclhjjkaaGreat
open Go.ChangeShapes Go.WideShapes Go.ChangeAt Go.RowKit

theorem own : ownKnob Tryz.prog.godebug = none := by kernel_rfl
theorem laidOut : laidOutB Tryz.prog = true := by kernel_rfl
def snap (w : World) : Heap := fun k => match w.heap[k]? with
  | some (.cells cs e fr) => some (.cells false cs.toList cs.size (.ty 0))
  | _ => none
theorem snap_sim (w : World) : Sim w (snap w) w := by
  refine ⟨Below.refl _ _, fun b o hb => ?_⟩
  unfold snap at hb
  split at hb
  · rename_i cs e fr hw
    injection hb with hb; subst hb
    exact ⟨cs, e, fr, hw, rfl, List.prefix_rfl, fun h => by cases h⟩
  · cases hb
end Go.Proofs.YtadgciaclhjjkaaGreat
set_option linter.unusedVariables false
set_option linter.unusedSimpArgs false
namespace Go.Proofs.YtadgciaclhjjkaaGreat
open Go.ChangeShapes Go.WideShapes Go.ChangeAt Go.RowKit

end Go.Proofs.YtadgciaclhjjkaaGreat
set_option linter.unusedVariables false
set_option linter.unusedSimpArgs false
namespace Go.Proofs.YtadgciaclhjjkaaGreat
open Go.RowKit (Below)

/-- All that was is as it was. -/
def New (st st' : Heap) : Prop := ∀ k o, st k = some o → st' k = some o
theorem New.refl (st : Heap) : New st st := fun _ _ h => h
theorem New.trans {a b c : Heap} (h : New a b) (h' : New b c) : New a c := fun k o hk => h' k o (h k o hk)
theorem New.add {st0 st : Heap} {b : Nat} {o : HObj} (h : New st0 st) (hb : st b = none) : New st0 (upd st b o) := fun k x hk => by
  have h1 := h k x hk
  rw [upd_ne _ _ (ne_of_new h1 hb)]
  exact h1
theorem New.put {st0 st : Heap} {b : Nat} {o : HObj} (h : New st0 st) (hb : st0 b = none) : New st0 (upd st b o) := fun k x hk => by
  rw [upd_ne _ _ (by rintro rfl; rw [hb] at hk; cases hk)]
  exact h k x hk
theorem New.to {st st' : Heap} (h : New st st') (p : Tg → Prop) : Keep p st st' := fun k o g hk _ _ => h k o hk
theorem New.none {st0 st : Heap} (h : New st0 st) {b : Nat} (hb : st b = none) : st0 b = none := by
  cases hz : st0 b with
  | none => rfl
  | some o => have := h b o hz; rw [hb] at this; cases this
theorem Reg.new {st st' : Heap} {g : Tg} {size len : Nat} {v : Value} {xs : List Value} (h : Reg st g size v xs len) (hk : New st st') : Reg st' g size v xs len := h.keep (hk.to fun _ => True) trivial
theorem Vec.new' {st st' : Heap} {g : Tg} {size len : Nat} {v : Value} {xs : List Value} (h : Vec st g size v xs len) (hk : New st st') : Vec st' g size v xs len := h.keep (hk.to fun _ => True) trivial
/-- A row that was not there. -/
def Fresh (st0 : Heap) (v : Value) : Prop := ∀ b off n c, v = .slice (some ⟨b, off, none⟩) n c → st0 b = none
theorem Fresh.none {st0 : Heap} {n c : Nat} : Fresh st0 (.slice none n c) := by intro b off n' c' h; injection h with h; cases h
theorem Fresh.some {st0 : Heap} {b off n c : Nat} (h : st0 b = .none) : Fresh st0 (.slice (.some ⟨b, off, .none⟩) n c) := by
  intro b' off' n' c' e; injection e with e; injection e with e; injection e with e; subst e; exact h
theorem Fresh.at {st0 : Heap} {b off n c : Nat} (h : Fresh st0 (.slice (.some ⟨b, off, .none⟩) n c)) : st0 b = .none := h b off n c rfl
theorem AppI_new {P : Program} {t e size bytes : Nat} {z : List Value} {K : Value → Heap → Prop} {st0 st : Heap} {g : Tg} {v x : Value} {xs ys : List Value} {len m : Nat} (hi : slInfo P t = some (e, size, bytes, z)) (hv : Vec st g size v xs len) (hf : Fresh st0 v) (hk0 : New st0 st) (hs : srcCells size st x = some (m, ys)) (h1 : ∀ y ∈ ys, y.oneCell' = true)
    (hmax : (len + m) * bytes ≤ 140737488355328) (hk : ∀ base cap st', Vec st' g size (.slice base (len + m) cap) (xs ++ ys) (len + m) → Fresh st0 (.slice base (len + m) cap) → New st0 st' → Ext g st st' → K (.slice base (len + m) cap) st') : AppI (some (e, size, bytes, z)) P t v x K st := by
  have hvs := hv.src
  have hv0 := hv
  obtain ⟨hl, base, cap, rfl, hc, h⟩ := hv
  have hyl : ys.length = m * size := src_length hs
  unfold AppI appX
  refine optK_iff.2 ⟨_, hi, ?_⟩
  simp only
  refine optK_iff.2 ⟨_, hs, ?_⟩
  simp only
  by_cases h0 : m = 0 ∧ len ≤ cap
  · rw [if_pos h0]
    obtain ⟨rfl, _⟩ := h0
    have : ys = [] := List.eq_nil_of_length_eq_zero (by simpa using hyl)
    subst this
    exact hk _ _ _ (by simpa using hv0) (by simpa using hf) hk0 .rfl'
  · rw [if_neg h0]
    refine ⟨hmax, fun hle => ?_, fun hlt => ?_⟩
    · rcases h with ⟨b, n, rfl, hb, hn⟩ | ⟨rfl, h0'⟩
      · simp only
        refine ⟨by trivial, xs, n, g, hb, by simp only [Nat.zero_add]; omega, by simp only [Nat.zero_add]; omega, h1, hk _ _ _ ⟨by simp [hl, hyl, Nat.add_mul], _, cap, rfl, hle, .inl ⟨b, n, rfl, upd_same _ _ _, hn⟩⟩ (Fresh.some hf.at) ?_ (.old hb)⟩
        exact hk0.put hf.at
      · exact absurd ⟨by omega, by omega⟩ h0
    · refine optK_iff.2 ⟨_, hvs, fun b c hb hcc => ⟨g, ?_⟩⟩
      exact hk _ _ _ ⟨by simp [hl, hyl, Nat.add_mul], _, c, rfl, hcc, .inl ⟨b, c * size, rfl, upd_same _ _ _, Nat.le_refl _⟩⟩ (Fresh.some (hk0.none hb)) (hk0.add hb) (.new hb)
/-- Something is appended to a row that ends where it is cut: a new row. -/
theorem AppI_tight {P : Program} {t e size bytes : Nat} {z : List Value} {K : Value → Heap → Prop} {st0 st : Heap} {g0 : Tg} (g : Tg) {base : Option Addr} {x : Value} {xs ys : List Value} {len m : Nat} (hi : slInfo P t = some (e, size, bytes, z)) (hv : Reg st g0 size (.slice base len len) xs len) (hk0 : New st0 st) (hs : srcCells size st x = some (m, ys)) (hm : 0 < m)
    (hmax : (len + m) * bytes ≤ 140737488355328) (hk : ∀ base cap st', Vec st' g size (.slice base (len + m) cap) (xs ++ ys) (len + m) → Fresh st0 (.slice base (len + m) cap) → New st0 st' → New st st' → K (.slice base (len + m) cap) st') : AppI (some (e, size, bytes, z)) P t (.slice base len len) x K st := by
  have hvs := hv.src
  have hl := hv.1
  have hyl : ys.length = m * size := src_length hs
  unfold AppI appX
  refine optK_iff.2 ⟨_, hi, ?_⟩
  simp only
  refine optK_iff.2 ⟨_, hs, ?_⟩
  simp only
  rw [if_neg (by omega)]
  refine ⟨hmax, fun hle => by omega, fun hlt => ?_⟩
  refine optK_iff.2 ⟨_, hvs, fun b c hb hcc => ⟨g, ?_⟩⟩
  exact hk _ _ _ ⟨by simp [hl, hyl, Nat.add_mul], _, c, rfl, hcc, .inl ⟨b, c * size, rfl, upd_same _ _ _, Nat.le_refl _⟩⟩ (Fresh.some (hk0.none hb)) (hk0.add hb) ((New.refl _).add hb)
/-- Something is appended to nothing: a new row. -/
theorem AppI_newg {P : Program} {t e size bytes : Nat} {z : List Value} {K : Value → Heap → Prop} {st : Heap} (g : Tg) {x : Value} {ys : List Value} {m : Nat} (hi : slInfo P t = some (e, size, bytes, z)) (hs : srcCells size st x = some (m, ys))
    (hmax : m * bytes ≤ 140737488355328) (hk : ∀ base cap st', Vec st' g size (.slice base m cap) ys m → Fresh st (.slice base m cap) → New st st' → K (.slice base m cap) st') : AppI (some (e, size, bytes, z)) P t (.slice none 0 0) x K st := by
  have hyl : ys.length = m * size := src_length hs
  unfold AppI appX
  refine optK_iff.2 ⟨_, hi, ?_⟩
  simp only
  refine optK_iff.2 ⟨_, hs, ?_⟩
  simp only
  by_cases h0 : m = 0 ∧ 0 ≤ 0
  · rw [if_pos h0]
    obtain ⟨rfl, _⟩ := h0
    have : ys = [] := List.eq_nil_of_length_eq_zero (by simpa using hyl)
    subst this
    exact hk _ _ _ Vec.nil Fresh.none (New.refl _)
  · rw [if_neg h0]
    refine ⟨by simpa using hmax, fun hle => absurd ⟨by omega, by omega⟩ h0, fun hlt => ?_⟩
    refine optK_iff.2 ⟨(0, []), by simp [srcCells], fun b c hb hcc => ⟨g, ?_⟩⟩
    simp only [Nat.zero_add, List.nil_append] at hcc ⊢
    exact hk _ _ _ ⟨hyl, _, c, rfl, hcc, .inl ⟨b, c * size, rfl, upd_same _ _ _, Nat.le_refl _⟩⟩ (Fresh.some hb) ((New.refl _).add hb)
theorem Reg.tight {st : Heap} {g : Tg} {size len cap : Nat} {base : Option Addr} {xs : List Value} (h : Reg st g size (.slice base len cap) xs len) : Reg st g size (.slice base len len) xs len := by
  obtain ⟨hl, base', cap', hv, hc, h⟩ := h
  injection hv with e1 e2 e3; subst e1; subst e3
  exact ⟨hl, _, _, rfl, Nat.le_refl _, h⟩
/-! ### Bits -/
@[go_sem] theorem guard_undef (want : Bool) (x y : Prop) : GuardI undef want x y = y := (rfl)
@[go_sem] theorem bin_shl {P : Program} (t : TypeId) (k k' : IntKind) (a b : Int) : binV P .shl t (.int k a) (.int k' b) = shiftBin .shl k a b := by simp [binV, isShift]
@[go_sem] theorem bin_shr {P : Program} (t : TypeId) (k k' : IntKind) (a b : Int) : binV P .shr t (.int k a) (.int k' b) = shiftBin .shr k a b := by simp [binV, isShift]
theorem wraps_u64 (n : Int) (h₀ : 0 ≤ n) (h₁ : n < 2 ^ 64) : IntKind.u64.wrap n = n := by rw [IntKind.wrap_u64]; omega
theorem wraps_u32 (n : Int) (h₀ : 0 ≤ n) (h₁ : n < 2 ^ 32) : IntKind.u32.wrap n = n := by rw [IntKind.wrap_u32]; omega
theorem or128 (x : Nat) (h : x < 256) : x ||| 128 = x % 128 + 128 := by
  have h1 : x = 2 ^ 7 * (x / 128) + x % 128 := by omega
  have h2 : x / 128 = 0 ∨ x / 128 = 1 := by omega
  have h3 : x % 128 < 2 ^ 7 := by omega
  have e := Nat.two_pow_add_eq_or_of_lt h3 1
  rcases h2 with h2 | h2
  · have : x = x % 128 := by omega
    rw [this, Nat.or_comm, show (128 : Nat) = 2 ^ 7 * 1 from rfl, ← e]
    omega
  · have : x = 2 ^ 7 * 1 ||| x % 128 := by rw [← e]; omega
    rw [this, Nat.or_assoc, Nat.or_comm (x % 128), ← Nat.or_assoc, show (2 ^ 7 * 1 : Nat) ||| 128 = 2 ^ 7 * 1 from by decide, ← e]
    omega
theorem bits_or128 (x : Int) (h0 : 0 ≤ x) (h : x < 256) : bits .or .u8 x 128 = x % 128 + 128 := by
  obtain ⟨a, rfl⟩ := Int.eq_ofNat_of_zero_le h0
  have := (bits_nat .u8 8 (by decide) wraps_u8 a 128 (by omega) (by decide)).2
  rw [or128 a (by omega)] at this
  simpa using this
theorem bits_and127 (x : Int) (h0 : 0 ≤ x) (h : x < 256) : bits .and .u8 x 127 = x % 128 := by
  have := bits_mask .u8 8 (by decide) wraps_u8 7 (by decide) x h0 h
  simpa using this
theorem bits_and1 (x : Int) (h0 : 0 ≤ x) (h : x < 2 ^ 64) : bits .and .u64 x 1 = x % 2 := by
  have := bits_mask .u64 64 (by decide) wraps_u64 1 (by decide) x h0 h
  simpa using this
theorem bits_join64 (i : Nat) (x y : Int) (hx₀ : 0 ≤ x) (hx : x < 2 ^ i) (hy₀ : 0 ≤ y) (hy : y % 2 ^ i = 0) (hx₁ : x < 2 ^ 64) (hy₁ : y < 2 ^ 64) : bits .or .u64 x y = x + y := by
  have h := bits_join .u64 64 (by decide) wraps_u64 i y x hy₀ hy hy₁ hx₀ hx hx₁
  have hc : bits .or .u64 x y = bits .or .u64 y x := by
    unfold bits
    simp only [BitVec.or_comm]
  rw [hc, h]; omega
theorem xor_zero64 (x : Int) (h0 : 0 ≤ x) (h : x < 2 ^ 64) : bits .xor .u64 x 0 = x := by
  obtain ⟨a, rfl⟩ := Int.eq_ofNat_of_zero_le h0
  unfold bits
  simp only [BitVec.ofInt_natCast]
  have ha : (BitVec.ofNat 64 a ^^^ 0#64).toNat = a := by rw [BitVec.xor_zero, BitVec.toNat_ofNat]; exact Nat.mod_eq_of_lt (by omega)
  show IntKind.u64.wrap ((BitVec.ofNat 64 a ^^^ 0#64).toNat : Int) = _
  rw [ha]
  exact wraps_u64 _ h0 h
theorem xor_ones64 (x : Int) (h0 : 0 ≤ x) (h : x < 2 ^ 64) : bits .xor .u64 x 18446744073709551615 = 18446744073709551615 - x := by
  obtain ⟨a, rfl⟩ := Int.eq_ofNat_of_zero_le h0
  unfold bits
  simp only [BitVec.ofInt_natCast]
  have e : BitVec.ofInt IntKind.u64.bits 18446744073709551615 = BitVec.allOnes 64 := by rfl
  have ha : (BitVec.ofNat 64 a).toNat = a := by rw [BitVec.toNat_ofNat]; exact Nat.mod_eq_of_lt (by omega)
  have : (BitVec.ofNat 64 a ^^^ BitVec.allOnes 64).toNat = 2 ^ 64 - 1 - a := by
    rw [BitVec.xor_allOnes, BitVec.toNat_not, ha]
  rw [e]
  show IntKind.u64.wrap ((BitVec.ofNat 64 a ^^^ BitVec.allOnes 64).toNat : Int) = _
  rw [this, wraps_u64 _ (by omega) (by omega)]
  omega
theorem xor_izero (x : Int) (h0 : 0 ≤ x) (h : x < 2 ^ 63) : bits .xor .i64 x 0 = x := by
  obtain ⟨a, rfl⟩ := Int.eq_ofNat_of_zero_le h0
  unfold bits
  simp only [BitVec.ofInt_natCast]
  have ha : (BitVec.ofNat 64 a ^^^ 0#64).toNat = a := by rw [BitVec.xor_zero, BitVec.toNat_ofNat]; exact Nat.mod_eq_of_lt (by omega)
  show IntKind.i64.wrap ((BitVec.ofNat 64 a ^^^ 0#64).toNat : Int) = _
  rw [ha]
  exact wrap_id (by omega) (by omega)
theorem xor_iones (x : Int) (h0 : 0 ≤ x) (h : x < 2 ^ 63) : bits .xor .i64 x (-1) = -x - 1 := by
  obtain ⟨a, rfl⟩ := Int.eq_ofNat_of_zero_le h0
  unfold bits
  simp only [BitVec.ofInt_natCast]
  have e : BitVec.ofInt IntKind.i64.bits (-1) = BitVec.allOnes 64 := by rfl
  have ha : (BitVec.ofNat 64 a).toNat = a := by rw [BitVec.toNat_ofNat]; exact Nat.mod_eq_of_lt (by omega)
  have : (BitVec.ofNat 64 a ^^^ BitVec.allOnes 64).toNat = 2 ^ 64 - 1 - a := by
    rw [BitVec.xor_allOnes, BitVec.toNat_not, ha]
  rw [e]
  show IntKind.i64.wrap ((BitVec.ofNat 64 a ^^^ BitVec.allOnes 64).toNat : Int) = _
  rw [this, IntKind.wrap_i64]
  omega
end Go.Proofs.YtadgciaclhjjkaaGreat
set_option linter.unusedVariables false
set_option linter.unusedSimpArgs false
namespace Go.Proofs.YtadgciaclhjjkaaGreat
open Go.RowKit (Below)

theorem nodup_len {α : Type} [DecidableEq α] : ∀ {l l' : List α}, l.Nodup → l ⊆ l' → l.length ≤ l'.length
  | [], l', _, _ => Nat.zero_le _
  | a :: l, l', hn, hs => by
    have ha : a ∈ l' := hs (by simp)
    obtain ⟨h1, h2⟩ := List.nodup_cons.1 hn
    have hsub : l ⊆ l'.erase a := fun x hx => (List.mem_erase_of_ne (by rintro rfl; exact h1 hx)).2 (hs (by simp [hx]))
    have := nodup_len h2 hsub
    rw [List.length_erase_of_mem ha] at this
    have : 0 < l'.length := List.length_pos_of_mem ha
    simp only [List.length_cons]
    omega
end Go.Proofs.YtadgciaclhjjkaaGreat
set_option linter.unusedVariables false
set_option linter.unusedSimpArgs false
namespace Go.Proofs.YtadgciaclhjjkaaGreat
structure LtOK {α : Type} (lt : α → α → Bool) : Prop where
  asymm : ∀ a b, lt a b = true → lt b a = false
  trans : ∀ a b c, lt b a = false → lt c b = false → lt c a = false
theorem bytesLess_asymm : ∀ a b, Op.bytesLess a b = true → Op.bytesLess b a = false
  | _, [], h => by simp [Op.bytesLess] at h
  | [], _ :: _, h => by simp [Op.bytesLess]
  | a :: x, b :: y, h => by
    simp only [Op.bytesLess, Bool.or_eq_true, Bool.and_eq_true, decide_eq_true_eq, beq_iff_eq, Bool.or_eq_false_iff, Bool.and_eq_false_iff, decide_eq_false_iff_not, UInt8.lt_iff_toNat_lt, beq_eq_false_iff_ne] at h ⊢
    rcases h with h | ⟨rfl, h⟩
    · exact ⟨by omega, .inl (by rintro rfl; omega)⟩
    · exact ⟨by omega, .inr (bytesLess_asymm _ _ h)⟩
theorem bytesLess_trans : ∀ a b c, Op.bytesLess b a = false → Op.bytesLess c b = false → Op.bytesLess c a = false
  | [], _, c, _, _ => by cases c <;> simp [Op.bytesLess]
  | _ :: _, [], _, h, _ => by simp [Op.bytesLess] at h
  | _ :: _, _ :: _, [], _, h => by simp [Op.bytesLess] at h
  | a :: x, b :: y, c :: z, h, h' => by
    simp only [Op.bytesLess, Bool.or_eq_false_iff, Bool.and_eq_false_iff, decide_eq_false_iff_not, UInt8.lt_iff_toNat_lt, beq_eq_false_iff_ne] at h h' ⊢
    refine ⟨by omega, ?_⟩
    by_cases hca : c = a
    · right
      subst hca
      have hbc : b = c := UInt8.toNat_inj.1 (by omega)
      subst hbc
      refine bytesLess_trans x y z ?_ ?_
      · rcases h.2 with h | h
        · exact absurd rfl h
        · exact h
      · rcases h'.2 with h | h
        · exact absurd rfl h
        · exact h
    · exact .inl hca
theorem bytesLess_total : ∀ a b, Op.bytesLess a b = false → Op.bytesLess b a = false → a = b
  | [], [], _, _ => rfl
  | [], _ :: _, h, _ => by simp [Op.bytesLess] at h
  | _ :: _, [], _, h => by simp [Op.bytesLess] at h
  | a :: x, b :: y, h, h' => by
    simp only [Op.bytesLess, Bool.or_eq_false_iff, Bool.and_eq_false_iff, decide_eq_false_iff_not, UInt8.lt_iff_toNat_lt, beq_eq_false_iff_ne] at h h'
    have hab : a = b := UInt8.toNat_inj.1 (by omega)
    subst hab
    rw [bytesLess_total x y]
    · rcases h.2 with h | h
      · exact absurd rfl h
      · exact h
    · rcases h'.2 with h | h
      · exact absurd rfl h
      · exact h
abbrev ltT (a b : ByteArray) : Bool := Op.bytesLess a.data.toList b.data.toList
theorem ltT_ok : LtOK ltT := ⟨fun a b h => bytesLess_asymm _ _ h, fun a b c h h' => bytesLess_trans _ _ _ h h'⟩
theorem ltT_total (a b : ByteArray) (h : ltT a b = false) (h' : ltT b a = false) : a = b := by
  have := bytesLess_total _ _ h h'
  cases a; cases b
  simp at this
  rw [this]
end Go.Proofs.YtadgciaclhjjkaaGreat
set_option linter.unusedVariables false
set_option linter.unusedSimpArgs false
set_option maxRecDepth 100000
set_option maxHeartbeats 1000000
namespace Go.Proofs.YtadgciaclhjjkaaGreat
open Go.RowKit (Below)

inductive Mat where
  | mk (op : Int) (name value : ByteArray) (vals : List ByteArray) (kids : List Mat)
/-- A part of a row that is no one's. -/
def RegF (st : Heap) (size : Nat) (v : Value) (xs : List Value) (len : Nat) : Prop := ∃ g, Free g ∧ Reg st g size v xs len
theorem RegF.src {st : Heap} {size len : Nat} {v : Value} {xs : List Value} (h : RegF st size v xs len) : srcCells size st v = some (len, xs) := let ⟨_, _, h⟩ := h; h.src
theorem RegF.slice {st : Heap} {size len : Nat} {v : Value} {xs : List Value} (h : RegF st size v xs len) : ∃ base cap, v = .slice base len cap := let ⟨_, _, h⟩ := h; h.slice
theorem RegF.new {st st' : Heap} {size len : Nat} {v : Value} {xs : List Value} (h : RegF st size v xs len) (hk : New st st') : RegF st' size v xs len := let ⟨g, hg, h⟩ := h; ⟨g, hg, h.new hk⟩
theorem RegF.free {st st' : Heap} {size len : Nat} {v : Value} {xs : List Value} (h : RegF st size v xs len) (hk : Keep Free st st') : RegF st' size v xs len := let ⟨g, hg, h⟩ := h; ⟨g, hg, h.keep hk hg⟩
theorem Reg.toF {st : Heap} {g : Tg} {size len : Nat} {v : Value} {xs : List Value} (h : Reg st g size v xs len) (hg : Free g) : RegF st size v xs len := ⟨g, hg, h⟩
theorem RegF.nil {st : Heap} {size : Nat} : RegF st size (.slice none 0 0) [] 0 := ⟨.ty 0, by intro g x r; simp, Reg.nil⟩
/-- All but one block is as it was. -/
def But1 (r : Nat) (st st' : Heap) : Prop := ∀ k o, k ≠ r → st k = some o → st' k = some o
theorem But1.refl (r : Nat) (st : Heap) : But1 r st st := fun _ _ _ h => h
theorem But1.trans {r : Nat} {a b c : Heap} (h : But1 r a b) (h' : But1 r b c) : But1 r a c := fun k o hn hk => h' k o hn (h k o hn hk)
theorem But1.put {r : Nat} {st0 st : Heap} {o : HObj} (h : But1 r st0 st) : But1 r st0 (upd st r o) := fun k x hn hk => by rw [upd_ne _ _ hn]; exact h k x hn hk
theorem But1.add {r b : Nat} {st0 st : Heap} {o : HObj} (h : But1 r st0 st) (hb : st b = none) : But1 r st0 (upd st b o) := fun k x hn hk => by
  have h1 := h k x hn hk
  rw [upd_ne _ _ (ne_of_new h1 hb)]; exact h1
theorem New.but {st st' : Heap} (h : New st st') (r : Nat) : But1 r st st' := fun k o _ hk => h k o hk
theorem RegF.but {r : Nat} {st st' : Heap} {size len n : Nat} {v : Value} {xs cs : List Value} {rw_ : Bool} {g x y : Nat} (h : RegF st size v xs len) (hk : But1 r st st') (hr : st r = some (.cells rw_ cs n (.own g x y))) : RegF st' size v xs len := by
  obtain ⟨t, ht, hl, base, cap, hv, hc, h⟩ := h
  refine ⟨t, ht, hl, base, cap, hv, hc, h.imp id ?_⟩
  rintro ⟨b, off, rw', ys, m, h1, h2, h3⟩
  refine ⟨b, off, rw', ys, m, h1, hk b _ ?_ h2, h3⟩
  refine ne_of_tag h2 hr ?_
  simp only [HObj.tag, ne_eq, Option.some.injEq]
  exact ht g x y
mutual
def MatAt (st : Heap) (cs : List Value) : Mat → Prop
  | .mk op name value vals kids => ∃ vv kv ks, cs = [Val.i op, .string name, .string value, vv, kv] ∧ RegF st 1 vv (vals.map .string) vals.length ∧ RegF st 5 kv ks kids.length ∧ KidsAt st ks kids
def KidsAt (st : Heap) (ks : List Value) : List Mat → Prop
  | [] => ks = []
  | m :: ms => 5 ≤ ks.length ∧ MatAt st (ks.take 5) m ∧ KidsAt st (ks.drop 5) ms
end
mutual
theorem MatAt.mono {st st' : Heap} (hR : ∀ size v xs len, RegF st size v xs len → RegF st' size v xs len) : ∀ (m : Mat) (cs : List Value), MatAt st cs m → MatAt st' cs m
  | .mk op name value vals kids, cs, h => by
    unfold MatAt at h ⊢
    obtain ⟨vv, kv, ks, h1, h2, h3, h4⟩ := h
    exact ⟨vv, kv, ks, h1, hR _ _ _ _ h2, hR _ _ _ _ h3, KidsAt.mono hR kids ks h4⟩
theorem KidsAt.mono {st st' : Heap} (hR : ∀ size v xs len, RegF st size v xs len → RegF st' size v xs len) : ∀ (ms : List Mat) (ks : List Value), KidsAt st ks ms → KidsAt st' ks ms
  | [], ks, h => by unfold KidsAt at h ⊢; exact h
  | m :: ms, ks, h => by
    unfold KidsAt at h ⊢
    exact ⟨h.1, MatAt.mono hR m _ h.2.1, KidsAt.mono hR ms _ h.2.2⟩
end
theorem MatAt.new {st st' : Heap} (hk : New st st') {m : Mat} {cs : List Value} (h : MatAt st cs m) : MatAt st' cs m := MatAt.mono (fun _ _ _ _ h => h.new hk) m cs h
theorem KidsAt.new {st st' : Heap} (hk : New st st') {m : List Mat} {cs : List Value} (h : KidsAt st cs m) : KidsAt st' cs m := KidsAt.mono (fun _ _ _ _ h => h.new hk) m cs h
theorem MatAt.free {st st' : Heap} (hk : Keep Free st st') {m : Mat} {cs : List Value} (h : MatAt st cs m) : MatAt st' cs m := MatAt.mono (fun _ _ _ _ h => h.free hk) m cs h
theorem KidsAt.get {st : Heap} : ∀ {ms : List Mat} {ks : List Value} {i : Nat} {m : Mat}, KidsAt st ks ms → ms[i]? = some m → MatAt st ((ks.drop (i * 5)).take 5) m ∧ i * 5 + 5 ≤ ks.length
  | [], ks, i, m, h, hi => by simp at hi
  | x :: ms, ks, 0, m, h, hi => by
    unfold KidsAt at h
    injection hi with hi; subst hi
    exact ⟨by simpa using h.2.1, by simpa using h.1⟩
  | x :: ms, ks, i + 1, m, h, hi => by
    unfold KidsAt at h
    obtain ⟨h1, h2⟩ := KidsAt.get (i := i) h.2.2 (by simpa using hi)
    rw [List.drop_drop] at h1
    rw [List.length_drop] at h2
    exact ⟨by rw [show (i + 1) * 5 = 5 + i * 5 by omega]; exact h1, by omega⟩
theorem MatAt.length {st : Heap} {m : Mat} {cs : List Value} (h : MatAt st cs m) : cs.length = 5 := by
  obtain ⟨op, name, value, vals, kids⟩ := m
  unfold MatAt at h
  obtain ⟨vv, kv, ks, rfl, _⟩ := h
  rfl
def okChar (c : Nat) : Bool := (decide (97 ≤ c) && decide (c ≤ 122)) || (decide (48 ≤ c) && decide (c ≤ 57)) || decide (c = 95)
def labelM (s : Bs) : Bool := decide (1 ≤ s.length) && decide (s.length ≤ 32) && !(decide (48 ≤ (s.getD 0 0).toNat) && decide ((s.getD 0 0).toNat ≤ 57)) && s.all fun x => okChar x.toNat
def risesT : List ByteArray → Bool
  | a :: b :: l => ltT a b && risesT (b :: l)
  | _ => true
def valuesM (l : List ByteArray) : Bool := decide (1 ≤ l.length) && decide (l.length ≤ 16) && l.all (fun v => decide (v.size ≤ 64)) && risesT l
def aloneM (op : Int) (name value : ByteArray) (vals : List ByteArray) (nk : Nat) : Bool :=
  let named := labelM name.data.toList && decide (value.size ≤ 64) && decide (nk = 0)
  let plain := decide (name = ⟨#[]⟩) && decide (value = ⟨#[]⟩) && decide (vals.length = 0)
  if op = 0 then plain && decide (nk = 0)
  else if op = 1 ∨ op = 2 ∨ op = 3 then named && decide (vals.length = 0)
  else if op = 4 then named && decide (value = ⟨#[]⟩) && valuesM vals
  else if op = 5 ∨ op = 6 then plain
  else if op = 7 then plain && decide (nk = 1)
  else false
theorem btOf_eq (s : ByteArray) (i : Nat) (h : i < s.size) : btOf s (i : Int) = ((s.data.toList.getD i 0).toNat : Int) := by
  have hl : i < s.data.toList.length := by simpa using h
  unfold btOf
  rw [List.getD_eq_getElem?_getD, Int.toNat_natCast, List.getElem?_eq_getElem hl]
  rfl
section
variable {W0 : World} {st : Heap}
theorem labelName_spec {s : ByteArray} : ICalls Tryz.prog W0 223 #[.string s] st fun e st' => e = .returned (.bool (labelM s.data.toList)) ∧ st' = st := by
  refine enter (args := [_]) Tryz.func223 rfl ?_
  have hsz : s.data.toList.length = s.size := by simp
  generalize hres : labelM s.data.toList = res
  unfold labelM at hres
  rw [hsz] at hres
  by_cases h1 : s.size < 1
  · have q1 : ((s.size : Int) < 1) = True := eq_true (by omega)
    have : res = false := by rw [← hres]; simp; omega
    subst this
    simp [Tryz.f223, go_sem, q1]
  have q1 : ((s.size : Int) < 1) = False := eq_false (by omega)
  by_cases h2 : 32 < s.size
  · have q2 : ((32 : Int) < s.size) = True := eq_true (by omega)
    have : res = false := by rw [← hres]; simp; omega
    subst this
    simp [Tryz.f223, go_sem, q1, q2]
  have q2 : ((32 : Int) < s.size) = False := eq_false (by omega)
  have hb0 := btOf_eq s 0 (by omega)
  simp only [Int.natCast_zero] at hb0
  generalize hc0 : (s.data.toList.getD 0 0).toNat = c0 at *
  have hs0 : 0 < s.size := by omega
  by_cases h3 : 48 ≤ c0 ∧ c0 ≤ 57
  · have q3 : ((48 : Int) ≤ c0) = True := eq_true (by omega)
    have q4 : ((c0 : Int) ≤ 57) = True := eq_true (by omega)
    have : res = false := by rw [← hres]; simp [h3.1, h3.2]
    subst this
    simp [Tryz.f223, go_sem, q1, q2, hs0, hb0, q3, q4]
  have hgo : ICalls Tryz.prog W0 223 #[.string s] st (fun e st' => True) → True := fun _ => trivial
  have hall : (s.data.toList.all fun x => okChar x.toNat) = res := by
    rw [← hres]
    have e1 : decide (1 ≤ s.size) = true := by simp; omega
    have e2 : decide (s.size ≤ 32) = true := by simp; omega
    have e3 : (decide (48 ≤ c0) && decide (c0 ≤ 57)) = false := by simp; omega
    rw [e1, e2, e3]; simp
  have q34 : ((48 : Int) ≤ c0) = True ∧ ((c0 : Int) ≤ 57) = False ∨ ((48 : Int) ≤ c0) = False := by
    by_cases h : 48 ≤ c0
    · exact .inl ⟨eq_true (by omega), eq_false (by omega)⟩
    · exact .inr (eq_false (by omega))
  have loop : ∀ (E : Env) (st' : Heap), True := fun _ _ => trivial
  rcases q34 with ⟨q3, q4⟩ | q3
  all_goals
    simp [Tryz.f223, go_sem, q1, q2, hs0, hb0, q3]
    try simp [go_sem, q4]
    refine ⟨fun E st' => st' = st ∧ E 0 = .string s ∧ E 24 = Val.i s.size ∧ ∃ i : Nat, E 25 = Val.i i ∧ i ≤ s.size ∧ ((s.data.toList.drop i).all fun x => okChar x.toNat) = res,
      fun E _ => match E 25 with | .int _ i => s.size - i.toNat | _ => 0, ⟨st, .rfl' _, rfl, by simp [go_sem], by simp [go_sem], 0, by simp [go_sem], by omega, by simpa using hall⟩, ?_⟩
    rintro E st' ⟨rfl, e0, e24, i, e25, hi, hrec⟩
    by_cases hlt : i < s.size
    · have hlt' : ((i : Int) < s.size) = True := eq_true (by omega)
      have hbi := btOf_eq s i hlt
      have hd : s.data.toList.drop i = s.data.toList.getD i 0 :: s.data.toList.drop (i + 1) := by
        have hl : i < s.data.toList.length := by omega
        rw [List.drop_eq_getElem_cons hl, List.getD_eq_getElem?_getD, List.getElem?_eq_getElem hl]
        rfl
      rw [hd] at hrec
      simp only [List.all_cons] at hrec
      generalize (s.data.toList.getD i 0).toNat = c at *
      have hwi : IntKind.i64.wrap ((i : Int) + 1) = ((i + 1 : Nat) : Int) := by rw [wrap_id (by omega) (by omega)]; omega
      have hcs : (97 ≤ c ∧ c ≤ 122) ∨ c < 48 ∨ (48 ≤ c ∧ c ≤ 57) ∨ (57 < c ∧ c < 97 ∧ c = 95) ∨ (57 < c ∧ c < 97 ∧ c ≠ 95) ∨ 122 < c := by omega
      rcases hcs with hc | hc | hc | hc | hc | hc
      · have f0 : ((c : Int) < 97) = False := eq_false (by omega)
        have f1 : ((122 : Int) < c) = False := eq_false (by omega)
        have hk : okChar c = true := by unfold okChar; simp; omega
        rw [hk] at hrec
        simp only [Bool.true_and] at hrec
        simp [go_sem, e0, e24, e25, hlt', hlt, hbi, hwi, f0, f1]
        exact ⟨st', .rfl' _, ⟨rfl, i + 1, by omega, by omega, hrec⟩, by omega⟩
      · have f0 : ((c : Int) < 97) = True := eq_true (by omega)
        have f1 : ((c : Int) < 48) = True := eq_true (by omega)
        have f2 : ((c : Int) = 95) = False := eq_false (by omega)
        have hk : okChar c = false := by unfold okChar; simp; omega
        rw [hk] at hrec
        simp only [Bool.false_and] at hrec
        subst hrec
        simp [go_sem, e0, e24, e25, hlt', hlt, hbi, hwi, f0, f1, f2]
      · have f0 : ((c : Int) < 97) = True := eq_true (by omega)
        have f1 : ((c : Int) < 48) = False := eq_false (by omega)
        have f2 : ((57 : Int) < c) = False := eq_false (by omega)
        have hk : okChar c = true := by unfold okChar; simp; omega
        rw [hk] at hrec
        simp only [Bool.true_and] at hrec
        simp [go_sem, e0, e24, e25, hlt', hlt, hbi, hwi, f0, f1, f2]
        exact ⟨st', .rfl' _, ⟨rfl, i + 1, by omega, by omega, hrec⟩, by omega⟩
      · have f0 : ((c : Int) < 97) = True := eq_true (by omega)
        have f1 : ((c : Int) < 48) = False := eq_false (by omega)
        have f2 : ((57 : Int) < c) = True := eq_true (by omega)
        have f3 : ((c : Int) = 95) = True := eq_true (by omega)
        have hk : okChar c = true := by unfold okChar; simp; omega
        rw [hk] at hrec
        simp only [Bool.true_and] at hrec
        simp [go_sem, e0, e24, e25, hlt', hlt, hbi, hwi, f0, f1, f2, f3]
        exact ⟨st', .rfl' _, ⟨rfl, i + 1, by omega, by omega, hrec⟩, by omega⟩
      · have f0 : ((c : Int) < 97) = True := eq_true (by omega)
        have f1 : ((c : Int) < 48) = False := eq_false (by omega)
        have f2 : ((57 : Int) < c) = True := eq_true (by omega)
        have f3 : ((c : Int) = 95) = False := eq_false (by omega)
        have hk : okChar c = false := by unfold okChar; simp; omega
        rw [hk] at hrec
        simp only [Bool.false_and] at hrec
        subst hrec
        simp [go_sem, e0, e24, e25, hlt', hlt, hbi, hwi, f0, f1, f2, f3]
      · have f0 : ((c : Int) < 97) = False := eq_false (by omega)
        have f1 : ((122 : Int) < c) = True := eq_true (by omega)
        have f2 : ((c : Int) < 48) = False := eq_false (by omega)
        have f3 : ((57 : Int) < c) = True := eq_true (by omega)
        have f4 : ((c : Int) = 95) = False := eq_false (by omega)
        have hk : okChar c = false := by unfold okChar; simp; omega
        rw [hk] at hrec
        simp only [Bool.false_and] at hrec
        subst hrec
        simp [go_sem, e0, e24, e25, hlt', hlt, hbi, hwi, f0, f1, f2, f3, f4]
    · have hlt' : ((i : Int) < s.size) = False := eq_false (by omega)
      have : i = s.size := by omega
      subst this
      rw [List.drop_eq_nil_of_le (by omega)] at hrec
      simp at hrec
      subst hrec
      simp [go_sem, e0, e24, e25]
end
end Go.Proofs.YtadgciaclhjjkaaGreat
