/- Rows that someone owns: what is kept of a heap, rows that are known whole, parts of rows. Plain definitions and theorems, over any program. -/
import Derived.Test.YtadgciaclhjjkaaGreatC07
import Derived.Test.YtadgciaclhjjkaaGreatCTab
import Derived.ProofKit
import Derived.OpenShut
import Derived.SizedLaws
import Derived.Laws.BitsLemmas
set_option linter.unusedVariables false
set_option linter.unusedSimpArgs false
namespace Go.Proofs.YtadgciaclhjjkaaGreat
open Go.RowKit (Below)

@[go_sem ↓] theorem EndI_returned {K : Value → Heap → Prop} {Kp : List PanicEntry → Heap → Prop} {st : Heap} (v : Value) : EndI K Kp (.returned v) st = K v st := (rfl)
@[go_sem ↓] theorem EndI_panicked {K : Value → Heap → Prop} {Kp : List PanicEntry → Heap → Prop} {st : Heap} (c : List PanicEntry) : EndI K Kp (.panicked c) st = Kp c st := (rfl)
abbrev ptr' (b : Nat) : Value := .pointer (some ⟨b, 0, none⟩)
abbrev Val.i (n : Int) : Value := .int .i64 n
abbrev ptr (b : Nat) : Value := .pointer (some ⟨b, 0, none⟩)
abbrev W (n : Int) : Int := IntKind.wrap .i64 n
abbrev Val.u (n : Int) : Value := .int .u64 n
abbrev Bs := List UInt8
/-- Marks of no one. -/
abbrev Free (t : Tg) : Prop := ∀ g x r, t ≠ .own g x r
def HObj.tag : HObj → Option Tg
  | .cells _ _ _ e => some e
  | .map g _ => some g
  | .other _ => none
/-- What has a mark of these is as it was. -/
def Keep (p : Tg → Prop) (st st' : Heap) : Prop := ∀ k o g, st k = some o → o.tag = some g → p g → st' k = some o
theorem Keep.rfl' {p : Tg → Prop} {st : Heap} : Keep p st st := fun k o g h _ _ => h
theorem Keep.new {p : Tg → Prop} {st st' : Heap} {b : Nat} {o : HObj} (h : Keep p st st') (hb : st' b = none) : Keep p st (upd st' b o) := fun k x g hk ht hp => by
  have h1 := h k x g hk ht hp
  rw [upd_ne _ _ (by rintro rfl; rw [hb] at h1; cases h1)]
  exact h1
theorem Keep.old {p : Tg → Prop} {st st' : Heap} {b : Nat} {o o0 : HObj} (h : Keep p st st') (hb : st' b = some o0) (ht : ∀ g, o0.tag = some g → ¬ p g) : Keep p st (upd st' b o) := fun k x g hk hg hp => by
  have h1 := h k x g hk hg hp
  rw [upd_ne _ _ (by rintro rfl; rw [hb] at h1; injection h1 with h1; subst h1; exact ht g hg hp)]
  exact h1
theorem Keep.trans {p : Tg → Prop} {st st' st'' : Heap} (h : Keep p st st') (h' : Keep p st' st'') : Keep p st st'' := fun k o g hk ht hp => h' k o g (h k o g hk ht hp) ht hp
theorem Keep.imp {p q : Tg → Prop} {st st' : Heap} (hq : ∀ g, q g → p g) (h : Keep p st st') : Keep q st st' := fun k o g hk ht hp => h k o g hk ht (hq g hp)
theorem Keep.get {p : Tg → Prop} {st st' : Heap} {b : Nat} {rw : Bool} {xs : List Value} {n : Nat} {g : Tg} (h : Keep p st st') (hb : st b = some (.cells rw xs n g)) (hp : p g) : st' b = some (.cells rw xs n g) := h b _ g hb rfl hp
theorem Keep.getM {p : Tg → Prop} {st st' : Heap} {b : Nat} {es : KV} {g : Tg} (h : Keep p st st') (hb : st b = some (.map g es)) (hp : p g) : st' b = some (.map g es) := h b _ g hb rfl hp
theorem ne_of_tag {st : Heap} {a b : Nat} {o o' : HObj} (ha : st a = some o) (hb : st b = some o') (h : o.tag ≠ o'.tag) : a ≠ b := by
  rintro rfl; rw [ha] at hb; injection hb with hb; exact h (by rw [hb])
theorem ne_of_new {st : Heap} {a b : Nat} {o : HObj} (ha : st a = some o) (hb : st b = none) : a ≠ b := by
  rintro rfl; rw [ha] at hb; cases hb
/-- Another mark. -/
theorem Heap.Le.retag {st : Heap} {b : Nat} {rw : Bool} {xs : List Value} {n : Nat} {g g' : Tg} (h : st b = some (.cells rw xs n g)) : Heap.Le (upd st b (.cells rw xs n g')) st := fun k o hk => by
  by_cases hkb : k = b
  · subst hkb; rw [upd_same] at hk; injection hk with hk; subst hk; exact ⟨_, h, .cells List.prefix_rfl id⟩
  · rw [upd_ne _ _ hkb] at hk; exact ⟨o, hk, .refl o⟩
theorem Heap.Le.retagM {st : Heap} {b : Nat} {es : KV} {g g' : Tg} (h : st b = some (.map g es)) : Heap.Le (upd st b (.map g' es)) st := fun k o hk => by
  by_cases hkb : k = b
  · subst hkb; rw [upd_same] at hk; injection hk with hk; subst hk; exact ⟨_, h, .map es⟩
  · rw [upd_ne _ _ hkb] at hk; exact ⟨o, hk, .refl o⟩
/-- Fewer cells known. -/
theorem Heap.Le.cut {st : Heap} {b : Nat} {rw : Bool} {xs ys : List Value} {n : Nat} {g g' : Tg} (h : st b = some (.cells rw xs n g)) (hp : ys <+: xs) : Heap.Le (upd st b (.cells rw ys n g')) st := fun k o hk => by
  by_cases hkb : k = b
  · subst hkb; rw [upd_same] at hk; injection hk with hk; subst hk; exact ⟨_, h, .cells hp id⟩
  · rw [upd_ne _ _ hkb] at hk; exact ⟨o, hk, .refl o⟩
theorem HObj.Le.trans {a b c : HObj} (h : HObj.Le a b) (h' : HObj.Le b c) : HObj.Le a c := by
  cases h with
  | refl => exact h'
  | map es => cases h' <;> exact .map es
  | cells hp hr => cases h' with
    | refl => exact .cells hp hr
    | cells hp' hr' => exact .cells (hp.trans hp') (fun e => hr' (hr e))
theorem Heap.Le.trans {a b c : Heap} (h : Heap.Le a b) (h' : Heap.Le b c) : Heap.Le a c := fun k o hk => by
  obtain ⟨o', h1, h2⟩ := h k o hk
  obtain ⟨o'', h3, h4⟩ := h' k o' h1
  exact ⟨o'', h3, h2.trans h4⟩
theorem ICalls.post {P : Program} {W0 : World} {f : FuncId} {args : Array Value} {st : Heap} {R : Ending → Heap → Prop} (h : ICalls P W0 f args st fun e st2 => ∃ st', Heap.Le st' st2 ∧ R e st') : ICalls P W0 f args st R :=
  fun w hs => (h w hs).mono fun e w' ⟨st2, h1, st', hle, h2⟩ => ⟨st', h1.weaken hle, h2⟩

/-! ### Marked rows that only grow -/
structure Ext (g : Tg) (st st' : Heap) : Prop where
  keep : ∀ k o, st k = some o → o.tag ≠ some g → st' k = some o
  grow : ∀ k rw ys n, st k = some (.cells rw ys n g) → ∃ zs, st' k = some (.cells rw (ys ++ zs) n g)
  maps : ∀ k es, st k = some (.map g es) → st' k = some (.map g es)
theorem Ext.rfl' {g : Tg} {st : Heap} : Ext g st st := ⟨fun k o h _ => h, fun k rw ys n h => ⟨[], by simpa using h⟩, fun k es h => h⟩
theorem Ext.new {g : Tg} {st : Heap} {b : Nat} {o : HObj} (hb : st b = none) : Ext g st (upd st b o) :=
  ⟨fun k x hk _ => by rw [upd_ne _ _ (ne_of_new hk hb)]; exact hk, fun k rw ys n hk => ⟨[], by rw [upd_ne _ _ (ne_of_new hk hb)]; simpa using hk⟩, fun k es hk => by rw [upd_ne _ _ (ne_of_new hk hb)]; exact hk⟩
theorem Ext.old {g : Tg} {st : Heap} {b : Nat} {xs zs : List Value} {n : Nat} (hb : st b = some (.cells true xs n g)) : Ext g st (upd st b (.cells true (xs ++ zs) n g)) :=
  ⟨fun k x hk ht => by rw [upd_ne _ _ (ne_of_tag hk hb ht)]; exact hk, fun k rw ys m hk => by
    by_cases hkb : k = b
    · subst hkb; rw [hb] at hk; injection hk with hk; injection hk with h1 h2 h3 h4; subst h1; subst h2; subst h3; exact ⟨zs, upd_same _ _ _⟩
    · exact ⟨[], by rw [upd_ne _ _ hkb]; simpa using hk⟩, fun k es hk => by rw [upd_ne _ _ (by rintro rfl; rw [hb] at hk; cases hk)]; exact hk⟩
theorem Ext.toKeep {g : Tg} {st st' : Heap} {p : Tg → Prop} (h : Ext g st st') (hp : ¬ p g) : Keep p st st' := fun k o t hk ht hpt => h.keep k o hk (by rw [ht]; intro e; injection e with e; subst e; exact hp hpt)
theorem Keep.toExt {g : Tg} {st st' : Heap} {p : Tg → Prop} (h : Keep p st st') (hp : p g) {k : Nat} {rw : Bool} {ys : List Value} {n : Nat} (hk : st k = some (.cells rw ys n g)) : ∃ zs, st' k = some (.cells rw (ys ++ zs) n g) := ⟨[], by simpa using h.get hk hp⟩

/-! ### A part of a row, to be read -/
def Reg (st : Heap) (g : Tg) (size : Nat) (v : Value) (xs : List Value) (len : Nat) : Prop :=
  xs.length = len * size ∧ ∃ base cap, v = .slice base len cap ∧ len ≤ cap ∧ (len = 0 ∨ ∃ b off rw ys n, base = some ⟨b, off, none⟩ ∧ st b = some (.cells rw ys n g) ∧ xs <+: ys.drop off ∧ off ≤ ys.length)
theorem lkN_cells {st : Heap} {b off m : Nat} {rw : Bool} {ys : List Value} {n : Nat} {g : Tg} (hs : st b = some (.cells rw ys n g)) (h : off + m ≤ ys.length) : lkN st ⟨b, off, none⟩ m = some ((ys.drop off).take m) := by
  unfold lkN
  simp [hs, cellsOf, h]
theorem Reg.src {st : Heap} {g : Tg} {size len : Nat} {v : Value} {xs : List Value} (h : Reg st g size v xs len) : srcCells size st v = some (len, xs) := by
  obtain ⟨hl, base, cap, rfl, hc, h⟩ := h
  cases base with
  | none =>
    rcases h with rfl | ⟨b, off, rw, ys, n, hb, _⟩
    · simp only [Nat.zero_mul, List.length_eq_zero_iff] at hl; simp [srcCells, hl]
    · cases hb
  | some a =>
    simp only [srcCells]
    split
    · rename_i h0; rw [h0] at hl; simp only [Nat.zero_mul, List.length_eq_zero_iff] at hl; rw [h0, hl]
    · rename_i h0
      rcases h with h | ⟨b, off, rw, ys, n, hb, hs, hp, hoff⟩
      · exact absurd h h0
      · injection hb with hb; subst hb
        obtain ⟨t, ht⟩ := hp
        have hlen : xs.length + t.length = ys.length - off := by rw [← List.length_append, ht, List.length_drop]
        rw [lkN_cells hs (by omega), ← ht, ← hl, List.take_left]; rfl
theorem Reg.of_ext {st st' : Heap} {g : Tg} {size len : Nat} {v : Value} {xs : List Value} (h : Reg st g size v xs len) (hg : ∀ k rw ys n, st k = some (.cells rw ys n g) → ∃ zs, st' k = some (.cells rw (ys ++ zs) n g)) : Reg st' g size v xs len := by
  obtain ⟨hl, base, cap, hv, hc, h⟩ := h
  refine ⟨hl, base, cap, hv, hc, h.imp id ?_⟩
  rintro ⟨b, off, rw, ys, n, hb, hs, hp, hoff⟩
  obtain ⟨zs, hz⟩ := hg _ _ _ _ hs
  refine ⟨b, off, rw, ys ++ zs, n, hb, hz, hp.trans ?_, by rw [List.length_append]; omega⟩
  rw [List.drop_append]
  exact List.prefix_append _ _
theorem Reg.keep {st st' : Heap} {g : Tg} {size len : Nat} {v : Value} {xs : List Value} (h : Reg st g size v xs len) {p : Tg → Prop} (hk : Keep p st st') (hp : p g) : Reg st' g size v xs len := h.of_ext fun k rw ys n hs => hk.toExt hp hs
theorem Reg.take {st : Heap} {g : Tg} {len m cap : Nat} {base : Option Addr} {xs : List Value} (h : Reg st g 1 (.slice base len cap) xs len) (hm : m ≤ len) : Reg st g 1 (.slice base m cap) (xs.take m) m := by
  obtain ⟨hl, base', cap', hv, hc, h⟩ := h
  injection hv with e1 e2 e3; subst e1; subst e3
  refine ⟨by rw [List.length_take, hl]; omega, _, _, rfl, by omega, ?_⟩
  rcases h with h | ⟨b, off, rw, ys, n, hb, hs, hp, ho⟩
  · exact .inl (by omega)
  · exact .inr ⟨b, off, rw, ys, n, hb, hs, (List.take_prefix _ _).trans hp, ho⟩
theorem Reg.cap {st : Heap} {g : Tg} {size len cap : Nat} {base : Option Addr} {xs : List Value} (h : Reg st g size (.slice base len cap) xs len) : len ≤ cap := by
  obtain ⟨hl, base', cap', hv, hc, h⟩ := h
  injection hv with e1 e2 e3; subst e3; exact hc
theorem Reg.nil {st : Heap} {g : Tg} {size : Nat} : Reg st g size (.slice none 0 0) [] 0 := ⟨by simp, none, 0, rfl, Nat.le_refl _, .inl rfl⟩

/-! ### A row that is known whole, and may grow -/
def Vec (st : Heap) (g : Tg) (size : Nat) (v : Value) (xs : List Value) (len : Nat) : Prop :=
  xs.length = len * size ∧ ∃ base cap, v = .slice base len cap ∧ len ≤ cap ∧ ((∃ b n, base = some ⟨b, 0, none⟩ ∧ st b = some (.cells true xs n g) ∧ cap * size ≤ n) ∨ (base = none ∧ cap = 0))
theorem Vec.reg {st : Heap} {g : Tg} {size len : Nat} {v : Value} {xs : List Value} (h : Vec st g size v xs len) : Reg st g size v xs len := by
  obtain ⟨hl, base, cap, hv, hc, h⟩ := h
  refine ⟨hl, base, cap, hv, hc, ?_⟩
  rcases h with ⟨b, n, hb, hs, _⟩ | ⟨hb, h0⟩
  · exact .inr ⟨b, 0, true, xs, n, hb, hs, by simp, by simp⟩
  · exact .inl (by omega)
theorem Vec.src {st : Heap} {g : Tg} {size len : Nat} {v : Value} {xs : List Value} (h : Vec st g size v xs len) : srcCells size st v = some (len, xs) := h.reg.src
theorem Vec.slice {st : Heap} {g : Tg} {size len : Nat} {v : Value} {xs : List Value} (h : Vec st g size v xs len) : ∃ base cap, v = .slice base len cap := let ⟨_, b, c, e, _⟩ := h; ⟨b, c, e⟩
theorem Reg.slice {st : Heap} {g : Tg} {size len : Nat} {v : Value} {xs : List Value} (h : Reg st g size v xs len) : ∃ base cap, v = .slice base len cap := let ⟨_, b, c, e, _⟩ := h; ⟨b, c, e⟩
theorem Vec.nil {st : Heap} {g : Tg} {size : Nat} : Vec st g size (.slice none 0 0) [] 0 := ⟨by simp, none, 0, rfl, Nat.le_refl _, .inr ⟨rfl, rfl⟩⟩
theorem Vec.keep {st st' : Heap} {g : Tg} {size len : Nat} {v : Value} {xs : List Value} (h : Vec st g size v xs len) {p : Tg → Prop} (hk : Keep p st st') (hp : p g) : Vec st' g size v xs len := by
  obtain ⟨hl, base, cap, hv, hc, h⟩ := h
  refine ⟨hl, base, cap, hv, hc, h.imp ?_ id⟩
  rintro ⟨b, n, hb, hs, hn⟩
  exact ⟨b, n, hb, hk.get hs hp, hn⟩
theorem Vec.new {st : Heap} {b : Nat} {g : Tg} {size len cap n : Nat} {xs : List Value} (hl : xs.length = len * size) (hc : len ≤ cap) (hb : st b = some (.cells true xs n g)) (hn : cap * size ≤ n) : Vec st g size (.slice (some ⟨b, 0, none⟩) len cap) xs len := ⟨hl, _, _, rfl, hc, .inl ⟨b, n, rfl, hb, hn⟩⟩
theorem AppI_vec {P : Program} {t e size bytes : Nat} {z : List Value} {K : Value → Heap → Prop} {st : Heap} {g : Tg} {v x : Value} {xs ys : List Value} {len m : Nat} (hi : slInfo P t = some (e, size, bytes, z)) (hv : Vec st g size v xs len) (hs : srcCells size st x = some (m, ys)) (h1 : ∀ y ∈ ys, y.oneCell' = true)
    (hmax : (len + m) * bytes ≤ 140737488355328) (hk : ∀ base cap st', Vec st' g size (.slice base (len + m) cap) (xs ++ ys) (len + m) → Ext g st st' → K (.slice base (len + m) cap) st') : AppI (some (e, size, bytes, z)) P t v x K st := by
  have hvs := hv.src
  have hv0 := hv
  obtain ⟨hl, base, cap, rfl, hc, h⟩ := hv
  have hyl : ys.length = m * size := src_length hs
  unfold AppI appX
  refine optK_iff.2 ⟨_, hi, ?_⟩
  simp only
  refine optK_iff.2 ⟨_, hs, ?_⟩
  simp only
  by_cases h0 : m = 0 ∧ len ≤ cap
  · rw [if_pos h0]
    obtain ⟨rfl, _⟩ := h0
    have : ys = [] := List.eq_nil_of_length_eq_zero (by simpa using hyl)
    subst this
    exact hk _ _ _ (by simpa using hv0) .rfl'
  · rw [if_neg h0]
    refine ⟨hmax, fun hle => ?_, fun hlt => ?_⟩
    · rcases h with ⟨b, n, rfl, hb, hn⟩ | ⟨rfl, h0'⟩
      · simp only
        exact ⟨by trivial, xs, n, g, hb, by simp only [Nat.zero_add]; omega, by simp only [Nat.zero_add]; omega, h1, hk _ _ _ ⟨by simp [hl, hyl, Nat.add_mul], _, cap, rfl, hle, .inl ⟨b, n, rfl, upd_same _ _ _, hn⟩⟩ (.old hb)⟩
      · exact absurd ⟨by omega, by omega⟩ h0
    · refine optK_iff.2 ⟨_, hvs, fun b c hb hcc => ⟨g, ?_⟩⟩
      exact hk _ _ _ ⟨by simp [hl, hyl, Nat.add_mul], _, c, rfl, hcc, .inl ⟨b, c * size, rfl, upd_same _ _ _, Nat.le_refl _⟩⟩ (.new hb)
theorem AppI_fresh {P : Program} {t e size bytes : Nat} {z : List Value} {K : Value → Heap → Prop} {st : Heap} {x : Value} {ys : List Value} {m : Nat} (g : Tg) (hi : slInfo P t = some (e, size, bytes, z)) (hs : srcCells size st x = some (m, ys))
    (hmax : m * bytes ≤ 140737488355328) (hk : ∀ base cap st', Vec st' g size (.slice base m cap) ys m → Keep (fun _ => True) st st' → K (.slice base m cap) st') : AppI (some (e, size, bytes, z)) P t (.slice none 0 0) x K st := by
  have hyl : ys.length = m * size := src_length hs
  unfold AppI appX
  refine optK_iff.2 ⟨_, hi, ?_⟩
  simp only
  refine optK_iff.2 ⟨_, hs, ?_⟩
  simp only
  by_cases h0 : m = 0 ∧ 0 ≤ 0
  · rw [if_pos h0]
    obtain ⟨rfl, _⟩ := h0
    have : ys = [] := List.eq_nil_of_length_eq_zero (by simpa using hyl)
    subst this
    exact hk _ _ _ Vec.nil .rfl'
  · rw [if_neg h0]
    refine ⟨by simpa using hmax, fun hle => absurd ⟨by omega, by omega⟩ h0, fun hlt => ?_⟩
    refine optK_iff.2 ⟨(0, []), by simp [srcCells], fun b c hb hcc => ⟨g, ?_⟩⟩
    simp only [Nat.zero_add, List.nil_append] at hcc ⊢
    exact hk _ _ _ ⟨hyl, _, c, rfl, hcc, .inl ⟨b, c * size, rfl, upd_same _ _ _, Nat.le_refl _⟩⟩ (Keep.rfl'.new hb)
theorem CopyI_full {P : Program} {t e size bytes len c b n : Nat} {z : List Value} {K : Value → Heap → Prop} {st : Heap} {x : Value} {xs ys : List Value} {g : Tg} (hi : slInfo P t = some (e, size, bytes, z)) (hb : st b = some (.cells true xs n g)) (hl : xs.length = len * size) (hn : len * size ≤ n)
    (hs : srcCells size st x = some (len, ys)) (h1 : ∀ y ∈ ys, y.oneCell' = true) (hk : K (.int .i64 len) (upd st b (.cells true ys n g))) : CopyI P t (.slice (some ⟨b, 0, none⟩) len c) x K st := by
  have hyl : ys.length = len * size := src_length hs
  unfold CopyI copyX
  refine optK_iff.2 ⟨_, hi, ?_⟩
  simp only
  refine optK_iff.2 ⟨_, hs, ?_⟩
  simp only
  have hmin : Nat.min len len = len := Nat.min_self len
  rw [hmin, ← hyl, List.take_length]
  refine optK_iff.2 ⟨_, stN_splice ys 0 xs st hb (by omega) (by omega) h1, by trivial, ?_⟩
  have : splice xs 0 ys = ys := by
    unfold splice
    rw [List.take_zero, List.nil_append, List.drop_eq_nil_of_le (by omega), List.append_nil]
  rw [this]
  exact hk
theorem bytesV_one (l : List UInt8) : ∀ y ∈ bytesV l, y.oneCell' = true := by
  intro y hy
  obtain ⟨b, _, rfl⟩ := List.mem_map.1 hy
  trivial
theorem bytesV_append (a b : List UInt8) : bytesV (a ++ b) = bytesV a ++ bytesV b := by simp [bytesV]
theorem bytesV_length (a : List UInt8) : (bytesV a).length = a.length := by simp [bytesV]
theorem srcCells_le {size : Nat} {st st' : Heap} {v : Value} {r : Nat × List Value} (hl : Heap.Le st st') (h : srcCells size st v = some r) : srcCells size st' v = some r := by
  unfold srcCells at *
  split at h
  · exact h
  · split at h
    · rename_i h0; rw [if_pos h0]; exact h
    · rename_i h0
      rw [if_neg h0]
      obtain ⟨l, h1, h2⟩ := Option.map_eq_some_iff.1 h
      rw [lkN_le hl h1]
      exact congrArg some h2
  · exact h
  · cases h
theorem wrap_id {n : Int} (h : -9223372036854775808 ≤ n) (h' : n < 9223372036854775808) : IntKind.i64.wrap n = n := by
  rw [IntKind.wrap_i64]; omega
theorem src_at {size n c : Nat} {st : Heap} {a : Option Addr} {l : List Value} (h : srcCells size st (.slice a n c) = some (n, l)) (hn : 0 < n) : ∃ b off, a = some ⟨b, off, none⟩ ∧ off + n * size ≤ (cellsOf (st b)).length ∧ l = ((cellsOf (st b)).drop off).take (n * size) := by
  cases a with
  | none => simp only [srcCells] at h; rw [if_neg (by omega)] at h; cases h
  | some a =>
    simp only [srcCells] at h
    rw [if_neg (by omega)] at h
    obtain ⟨l', h1, h2⟩ := Option.map_eq_some_iff.1 h
    injection h2 with h2 h3; subst h3
    unfold lkN at h1
    split at h1
    · cases h1
    · rename_i hs
      split at h1
      · rename_i hle
        injection h1 with h1
        obtain ⟨b, off, sp⟩ := a
        simp only at hs
        subst hs
        exact ⟨b, off, rfl, hle, h1.symm⟩
      · cases h1
theorem src_get {size n c : Nat} {st : Heap} {a : Option Addr} {l : List Value} (h : srcCells size st (.slice a n c) = some (n, l)) (hn : 0 < n) : ∃ b off, a = some ⟨b, off, none⟩ ∧ ∀ k, k < n * size → (cellsOf (st b))[off + k]? = l[k]? := by
  obtain ⟨b, off, h1, h2, h3⟩ := src_at h hn
  refine ⟨b, off, h1, fun k hk => ?_⟩
  rw [h3, List.getElem?_take, if_pos hk, List.getElem?_drop]
theorem Heap.Le.drop {st : Heap} {b : Nat} {x : HObj} (hb : st b = none) : Heap.Le st (upd st b x) := .new x hb
theorem Heap.Le.upd' {st st' : Heap} (m : Nat) (o : HObj) (h : Heap.Le st st') : Heap.Le (upd st m o) (upd st' m o) := fun k x hk => by
  by_cases hkm : k = m
  · subst hkm; rw [upd_same] at hk ⊢; exact ⟨_, rfl, by injection hk with hk; subst hk; exact .refl _⟩
  · rw [upd_ne _ _ hkm] at hk ⊢; exact h k x hk
end Go.Proofs.YtadgciaclhjjkaaGreat
set_option linter.unusedVariables false
set_option linter.unusedSimpArgs false
namespace Go.Proofs.YtadgciaclhjjkaaGreat
open Go.ChangeShapes Go.WideShapes Go.ChangeAt Go.RowKit

theorem own : ownKnob Tryz.prog.godebug = none := by kernel_rfl
theorem laidOut : laidOutB Tryz.prog = true := by kernel_rfl
def snap (w : World) : Heap := fun k => match w.heap[k]? with
  | some (.cells cs e fr) => some (.cells false cs.toList cs.size (.ty 0))
  | _ => none
theorem snap_sim (w : World) : Sim w (snap w) w := by
  refine ⟨Below.refl _ _, fun b o hb => ?_⟩
  unfold snap at hb
  split at hb
  · rename_i cs e fr hw
    injection hb with hb; subst hb
    exact ⟨cs, e, fr, hw, rfl, List.prefix_rfl, fun h => by cases h⟩
  · cases hb
theorem snap_cell {w : World} {b off : Nat} {v : Value} (h : w.cell? ⟨b, off, none⟩ = some v) : ∃ ys n, snap w b = some (.cells false ys n (.ty 0)) ∧ ys[off]? = some v := by
  unfold World.cell? at h
  split at h
  · rename_i c e fr hw
    simp only [Option.isSome_none, Bool.false_eq_true, if_false] at h
    exact ⟨c.toList, c.size, by unfold snap; rw [hw], by simpa using h⟩
  · cases h
end Go.Proofs.YtadgciaclhjjkaaGreat
set_option linter.unusedVariables false
set_option linter.unusedSimpArgs false
namespace Go.Proofs.YtadgciaclhjjkaaGreat
open Go.ChangeShapes Go.WideShapes Go.ChangeAt Go.RowKit

theorem cells_u8 : Tryz.prog.cellsOf 5 = 1 := by kernel_rfl
theorem opened_bytes {H : Type} {enc : TypeId × Value → H} {W : World} {a0 : Option Addr} {len cap : Nat} {d0 : DataW H} {p : List MemPlace}
    (h0 : DataW.Trod enc Tryz.prog W 0 (fun _ => true) true 40 (.slice a0 len cap) d0 p) :
    ∃ bs : List UInt8, bs.length = len ∧ Reg (snap W) (.ty 0) 1 (.slice a0 len cap) (bytesV bs) bs.length := by
  obtain ⟨fuel, hf⟩ := h0
  rcases open_ints Tryz.underlying40 Tryz.underlying5 cells_u8 hf with ⟨hcs, hx⟩ | ⟨a, len', cap', zs, hcs, _, hl, hm, hz, hx, hcell, hwz⟩
  · simp [Value.cells] at hcs
    obtain ⟨rfl, rfl, rfl⟩ := hcs
    exact ⟨[], rfl, Reg.nil⟩
  · simp [Value.cells] at hcs
    obtain ⟨rfl, rfl, rfl⟩ := hcs
    simp only [if_true] at hz
    refine ⟨(zs.take len).map fun z => UInt8.ofNat z.toNat, by simp; omega, ?_⟩
    have hblen : ((zs.take len).map fun z => UInt8.ofNat z.toNat).length = len := by simp; omega
    have hbv : bytesV ((zs.take len).map fun z => UInt8.ofNat z.toNat) = (zs.take len).map (Value.int .u8) := by
      unfold bytesV
      rw [List.map_map]
      refine List.map_congr_left fun z hz => ?_
      have hw := hwz z (List.mem_of_mem_take hz)
      have hb : 0 ≤ z ∧ z < 256 := by
        have := bounds_u8 hw
        omega
      simp only [Function.comp]
      congr 1
      simp
      omega
    rw [hblen, hbv]
    refine ⟨by simp; omega, some a, cap, rfl, hl, ?_⟩
    by_cases h0 : len = 0
    · exact .inl h0
    · right
      obtain ⟨b, off, rfl, hc⟩ := ints_at hcell (by omega)
      obtain ⟨ys, n, hs, h1⟩ := snap_cell (hc 0 (by omega))
      refine ⟨b, off, false, ys, n, rfl, hs, ?_, ?_⟩
      · have key : ∀ i, i < len → ys[off + i]? = some (.int .u8 (zs.getD i 0)) := fun i hi => by
          obtain ⟨ys', n', hs', h1'⟩ := snap_cell (hc i (by omega))
          rw [hs] at hs'
          injection hs' with hs'; injection hs' with _ hys; subst hys
          exact h1'
        rw [List.prefix_iff_eq_take]
        apply List.ext_getElem?
        intro i
        rw [List.getElem?_take]
        by_cases hi : i < len
        · have hi' : i < zs.length := by omega
          rw [if_pos (by simp; omega), List.getElem?_drop, key i hi]
          simp [hi, hi', List.getD]
        · rw [if_neg (by simp; omega), List.getElem?_eq_none (by simp; omega)]
      · have := (List.getElem?_eq_some_iff.1 h1).1
        omega
theorem cells_int : Tryz.prog.cellsOf 3 = 1 := by kernel_rfl
theorem opened_ints {H : Type} {enc : TypeId × Value → H} {W : World} {a0 : Option Addr} {len cap : Nat} {d0 : DataW H} {p : List MemPlace}
    (h0 : DataW.Trod enc Tryz.prog W 0 (fun _ => true) true 58 (.slice a0 len cap) d0 p) :
    ∃ zs : List Int, zs.length = len ∧ Reg (snap W) (.ty 0) 1 (.slice a0 len cap) (zs.map (Value.int .i64)) zs.length ∧ (∀ z ∈ zs, -2 ^ 63 ≤ z ∧ z < 2 ^ 63) ∧ (zs = [] ∨ ∃ es ss, d0 = .slice es ss ∧ zs.length ≤ es.length + ss.length) := by
  obtain ⟨fuel, hf⟩ := h0
  rcases open_ints Tryz.underlying58 Tryz.underlying3 cells_int hf with ⟨hcs, hx⟩ | ⟨a, len', cap', zs, hcs, _, hl, hm, hz, hx, hcell, hwz⟩
  · simp [Value.cells] at hcs
    obtain ⟨rfl, rfl, rfl⟩ := hcs
    exact ⟨[], rfl, Reg.nil, by simp, .inl rfl⟩
  · simp [Value.cells] at hcs
    obtain ⟨rfl, rfl, rfl⟩ := hcs
    simp only [if_true] at hz
    refine ⟨zs.take len, by simp; omega, ?_, fun z hz' => ?_, .inr ⟨_, _, (Prod.mk.inj hx).1, by simp [lits]⟩⟩
    · have hblen : (zs.take len).length = len := by simp; omega
      rw [hblen]
      refine ⟨by simp; omega, some a, cap, rfl, hl, ?_⟩
      by_cases h0 : len = 0
      · exact .inl h0
      · right
        obtain ⟨b, off, rfl, hc⟩ := ints_at hcell (by omega)
        obtain ⟨ys, n, hs, h1⟩ := snap_cell (hc 0 (by omega))
        refine ⟨b, off, false, ys, n, rfl, hs, ?_, ?_⟩
        · have key : ∀ i, i < len → ys[off + i]? = some (.int .i64 (zs.getD i 0)) := fun i hi => by
            obtain ⟨ys', n', hs', h1'⟩ := snap_cell (hc i (by omega))
            rw [hs] at hs'
            injection hs' with hs'; injection hs' with _ hys; subst hys
            exact h1'
          rw [List.prefix_iff_eq_take]
          apply List.ext_getElem?
          intro i
          rw [List.getElem?_take]
          by_cases hi : i < len
          · have hi' : i < zs.length := by omega
            rw [if_pos (by simp; omega), List.getElem?_drop, key i hi]
            simp [hi, hi', List.getD]
          · rw [if_neg (by simp; omega), List.getElem?_eq_none (by simp; omega)]
        · have := (List.getElem?_eq_some_iff.1 h1).1
          omega
    · have := bounds_i64 (hwz z (List.mem_of_mem_take hz'))
      omega
theorem bytes_int : Tryz.prog.bytesOf 3 = 8 := by kernel_rfl
theorem sized_ints {H : Type} {ts : List TypeId} {ds : List (DataW H)} {zs : List Int} {d0 : DataW H} {j : Nat} (h : (DataW.weightsEach Tryz.prog ts ds).all (· ≤ reachBytes) = true) (ht : ts[j]? = some 58) (hd : ds[j]? = some d0)
    (hz : zs = [] ∨ ∃ es ss, d0 = .slice es ss ∧ zs.length ≤ es.length + ss.length) : zs.length * 8 ≤ 140737488355328 := by
  rcases hz with rfl | ⟨es, ss, rfl, hz⟩
  · simp
  · have h1 := sized_slice h ht hd Tryz.underlying58
    have h2 := reachBytes_lt
    rw [bytes_int] at h1
    omega
end Go.Proofs.YtadgciaclhjjkaaGreat
set_option linter.unusedVariables false
set_option linter.unusedSimpArgs false
namespace Go.Proofs.YtadgciaclhjjkaaGreat
open Go.RowKit (Below)

/-- All that was is as it was. -/
def New (st st' : Heap) : Prop := ∀ k o, st k = some o → st' k = some o
theorem New.refl (st : Heap) : New st st := fun _ _ h => h
theorem New.trans {a b c : Heap} (h : New a b) (h' : New b c) : New a c := fun k o hk => h' k o (h k o hk)
theorem New.add {st0 st : Heap} {b : Nat} {o : HObj} (h : New st0 st) (hb : st b = none) : New st0 (upd st b o) := fun k x hk => by
  have h1 := h k x hk
  rw [upd_ne _ _ (ne_of_new h1 hb)]
  exact h1
theorem New.put {st0 st : Heap} {b : Nat} {o : HObj} (h : New st0 st) (hb : st0 b = none) : New st0 (upd st b o) := fun k x hk => by
  rw [upd_ne _ _ (by rintro rfl; rw [hb] at hk; cases hk)]
  exact h k x hk
theorem New.to {st st' : Heap} (h : New st st') (p : Tg → Prop) : Keep p st st' := fun k o g hk _ _ => h k o hk
theorem New.none {st0 st : Heap} (h : New st0 st) {b : Nat} (hb : st b = none) : st0 b = none := by
  cases hz : st0 b with
  | none => rfl
  | some o => have := h b o hz; rw [hb] at this; cases this
theorem Reg.new {st st' : Heap} {g : Tg} {size len : Nat} {v : Value} {xs : List Value} (h : Reg st g size v xs len) (hk : New st st') : Reg st' g size v xs len := h.keep (hk.to fun _ => True) trivial
theorem Vec.new' {st st' : Heap} {g : Tg} {size len : Nat} {v : Value} {xs : List Value} (h : Vec st g size v xs len) (hk : New st st') : Vec st' g size v xs len := h.keep (hk.to fun _ => True) trivial
/-- A row that was not there. -/
def Fresh (st0 : Heap) (v : Value) : Prop := ∀ b off n c, v = .slice (some ⟨b, off, none⟩) n c → st0 b = none
theorem Fresh.none {st0 : Heap} {n c : Nat} : Fresh st0 (.slice none n c) := by intro b off n' c' h; injection h with h; cases h
theorem Fresh.some {st0 : Heap} {b off n c : Nat} (h : st0 b = .none) : Fresh st0 (.slice (.some ⟨b, off, .none⟩) n c) := by
  intro b' off' n' c' e; injection e with e; injection e with e; injection e with e; subst e; exact h
theorem Fresh.at {st0 : Heap} {b off n c : Nat} (h : Fresh st0 (.slice (.some ⟨b, off, .none⟩) n c)) : st0 b = .none := h b off n c rfl
theorem AppI_new {P : Program} {t e size bytes : Nat} {z : List Value} {K : Value → Heap → Prop} {st0 st : Heap} {g : Tg} {v x : Value} {xs ys : List Value} {len m : Nat} (hi : slInfo P t = some (e, size, bytes, z)) (hv : Vec st g size v xs len) (hf : Fresh st0 v) (hk0 : New st0 st) (hs : srcCells size st x = some (m, ys)) (h1 : ∀ y ∈ ys, y.oneCell' = true)
    (hmax : (len + m) * bytes ≤ 140737488355328) (hk : ∀ base cap st', Vec st' g size (.slice base (len + m) cap) (xs ++ ys) (len + m) → Fresh st0 (.slice base (len + m) cap) → New st0 st' → Ext g st st' → K (.slice base (len + m) cap) st') : AppI (some (e, size, bytes, z)) P t v x K st := by
  have hvs := hv.src
  have hv0 := hv
  obtain ⟨hl, base, cap, rfl, hc, h⟩ := hv
  have hyl : ys.length = m * size := src_length hs
  unfold AppI appX
  refine optK_iff.2 ⟨_, hi, ?_⟩
  simp only
  refine optK_iff.2 ⟨_, hs, ?_⟩
  simp only
  by_cases h0 : m = 0 ∧ len ≤ cap
  · rw [if_pos h0]
    obtain ⟨rfl, _⟩ := h0
    have : ys = [] := List.eq_nil_of_length_eq_zero (by simpa using hyl)
    subst this
    exact hk _ _ _ (by simpa using hv0) (by simpa using hf) hk0 .rfl'
  · rw [if_neg h0]
    refine ⟨hmax, fun hle => ?_, fun hlt => ?_⟩
    · rcases h with ⟨b, n, rfl, hb, hn⟩ | ⟨rfl, h0'⟩
      · simp only
        refine ⟨by trivial, xs, n, g, hb, by simp only [Nat.zero_add]; omega, by simp only [Nat.zero_add]; omega, h1, hk _ _ _ ⟨by simp [hl, hyl, Nat.add_mul], _, cap, rfl, hle, .inl ⟨b, n, rfl, upd_same _ _ _, hn⟩⟩ (Fresh.some hf.at) ?_ (.old hb)⟩
        exact hk0.put hf.at
      · exact absurd ⟨by omega, by omega⟩ h0
    · refine optK_iff.2 ⟨_, hvs, fun b c hb hcc => ⟨g, ?_⟩⟩
      exact hk _ _ _ ⟨by simp [hl, hyl, Nat.add_mul], _, c, rfl, hcc, .inl ⟨b, c * size, rfl, upd_same _ _ _, Nat.le_refl _⟩⟩ (Fresh.some (hk0.none hb)) (hk0.add hb) (.new hb)
/-- Something is appended to a row that ends where it is cut: a new row. -/
theorem AppI_tight {P : Program} {t e size bytes : Nat} {z : List Value} {K : Value → Heap → Prop} {st0 st : Heap} {g0 : Tg} (g : Tg) {base : Option Addr} {x : Value} {xs ys : List Value} {len m : Nat} (hi : slInfo P t = some (e, size, bytes, z)) (hv : Reg st g0 size (.slice base len len) xs len) (hk0 : New st0 st) (hs : srcCells size st x = some (m, ys)) (hm : 0 < m)
    (hmax : (len + m) * bytes ≤ 140737488355328) (hk : ∀ base cap st', Vec st' g size (.slice base (len + m) cap) (xs ++ ys) (len + m) → Fresh st0 (.slice base (len + m) cap) → New st0 st' → New st st' → K (.slice base (len + m) cap) st') : AppI (some (e, size, bytes, z)) P t (.slice base len len) x K st := by
  have hvs := hv.src
  have hl := hv.1
  have hyl : ys.length = m * size := src_length hs
  unfold AppI appX
  refine optK_iff.2 ⟨_, hi, ?_⟩
  simp only
  refine optK_iff.2 ⟨_, hs, ?_⟩
  simp only
  rw [if_neg (by omega)]
  refine ⟨hmax, fun hle => by omega, fun hlt => ?_⟩
  refine optK_iff.2 ⟨_, hvs, fun b c hb hcc => ⟨g, ?_⟩⟩
  exact hk _ _ _ ⟨by simp [hl, hyl, Nat.add_mul], _, c, rfl, hcc, .inl ⟨b, c * size, rfl, upd_same _ _ _, Nat.le_refl _⟩⟩ (Fresh.some (hk0.none hb)) (hk0.add hb) ((New.refl _).add hb)
/-- Something is appended to nothing: a new row. -/
theorem AppI_newg {P : Program} {t e size bytes : Nat} {z : List Value} {K : Value → Heap → Prop} {st : Heap} (g : Tg) {x : Value} {ys : List Value} {m : Nat} (hi : slInfo P t = some (e, size, bytes, z)) (hs : srcCells size st x = some (m, ys))
    (hmax : m * bytes ≤ 140737488355328) (hk : ∀ base cap st', Vec st' g size (.slice base m cap) ys m → Fresh st (.slice base m cap) → New st st' → K (.slice base m cap) st') : AppI (some (e, size, bytes, z)) P t (.slice none 0 0) x K st := by
  have hyl : ys.length = m * size := src_length hs
  unfold AppI appX
  refine optK_iff.2 ⟨_, hi, ?_⟩
  simp only
  refine optK_iff.2 ⟨_, hs, ?_⟩
  simp only
  by_cases h0 : m = 0 ∧ 0 ≤ 0
  · rw [if_pos h0]
    obtain ⟨rfl, _⟩ := h0
    have : ys = [] := List.eq_nil_of_length_eq_zero (by simpa using hyl)
    subst this
    exact hk _ _ _ Vec.nil Fresh.none (New.refl _)
  · rw [if_neg h0]
    refine ⟨by simpa using hmax, fun hle => absurd ⟨by omega, by omega⟩ h0, fun hlt => ?_⟩
    refine optK_iff.2 ⟨(0, []), by simp [srcCells], fun b c hb hcc => ⟨g, ?_⟩⟩
    simp only [Nat.zero_add, List.nil_append] at hcc ⊢
    exact hk _ _ _ ⟨hyl, _, c, rfl, hcc, .inl ⟨b, c * size, rfl, upd_same _ _ _, Nat.le_refl _⟩⟩ (Fresh.some hb) ((New.refl _).add hb)
theorem Reg.tight {st : Heap} {g : Tg} {size len cap : Nat} {base : Option Addr} {xs : List Value} (h : Reg st g size (.slice base len cap) xs len) : Reg st g size (.slice base len len) xs len := by
  obtain ⟨hl, base', cap', hv, hc, h⟩ := h
  injection hv with e1 e2 e3; subst e1; subst e3
  exact ⟨hl, _, _, rfl, Nat.le_refl _, h⟩
/-! ### Bits -/
@[go_sem] theorem guard_undef (want : Bool) (x y : Prop) : GuardI undef want x y = y := (rfl)
@[go_sem] theorem bin_shl {P : Program} (t : TypeId) (k k' : IntKind) (a b : Int) : binV P .shl t (.int k a) (.int k' b) = shiftBin .shl k a b := by simp [binV, isShift]
@[go_sem] theorem bin_shr {P : Program} (t : TypeId) (k k' : IntKind) (a b : Int) : binV P .shr t (.int k a) (.int k' b) = shiftBin .shr k a b := by simp [binV, isShift]
theorem wraps_u64 (n : Int) (h₀ : 0 ≤ n) (h₁ : n < 2 ^ 64) : IntKind.u64.wrap n = n := by rw [IntKind.wrap_u64]; omega
theorem wraps_u32 (n : Int) (h₀ : 0 ≤ n) (h₁ : n < 2 ^ 32) : IntKind.u32.wrap n = n := by rw [IntKind.wrap_u32]; omega
theorem or128 (x : Nat) (h : x < 256) : x ||| 128 = x % 128 + 128 := by
  have h1 : x = 2 ^ 7 * (x / 128) + x % 128 := by omega
  have h2 : x / 128 = 0 ∨ x / 128 = 1 := by omega
  have h3 : x % 128 < 2 ^ 7 := by omega
  have e := Nat.two_pow_add_eq_or_of_lt h3 1
  rcases h2 with h2 | h2
  · have : x = x % 128 := by omega
    rw [this, Nat.or_comm, show (128 : Nat) = 2 ^ 7 * 1 from rfl, ← e]
    omega
  · have : x = 2 ^ 7 * 1 ||| x % 128 := by rw [← e]; omega
    rw [this, Nat.or_assoc, Nat.or_comm (x % 128), ← Nat.or_assoc, show (2 ^ 7 * 1 : Nat) ||| 128 = 2 ^ 7 * 1 from by decide, ← e]
    omega
theorem bits_or128 (x : Int) (h0 : 0 ≤ x) (h : x < 256) : bits .or .u8 x 128 = x % 128 + 128 := by
  obtain ⟨a, rfl⟩ := Int.eq_ofNat_of_zero_le h0
  have := (bits_nat .u8 8 (by decide) wraps_u8 a 128 (by omega) (by decide)).2
  rw [or128 a (by omega)] at this
  simpa using this
theorem bits_and127 (x : Int) (h0 : 0 ≤ x) (h : x < 256) : bits .and .u8 x 127 = x % 128 := by
  have := bits_mask .u8 8 (by decide) wraps_u8 7 (by decide) x h0 h
  simpa using this
theorem bits_and1 (x : Int) (h0 : 0 ≤ x) (h : x < 2 ^ 64) : bits .and .u64 x 1 = x % 2 := by
  have := bits_mask .u64 64 (by decide) wraps_u64 1 (by decide) x h0 h
  simpa using this
theorem bits_join64 (i : Nat) (x y : Int) (hx₀ : 0 ≤ x) (hx : x < 2 ^ i) (hy₀ : 0 ≤ y) (hy : y % 2 ^ i = 0) (hx₁ : x < 2 ^ 64) (hy₁ : y < 2 ^ 64) : bits .or .u64 x y = x + y := by
  have h := bits_join .u64 64 (by decide) wraps_u64 i y x hy₀ hy hy₁ hx₀ hx hx₁
  have hc : bits .or .u64 x y = bits .or .u64 y x := by
    unfold bits
    simp only [BitVec.or_comm]
  rw [hc, h]; omega
theorem xor_zero64 (x : Int) (h0 : 0 ≤ x) (h : x < 2 ^ 64) : bits .xor .u64 x 0 = x := by
  obtain ⟨a, rfl⟩ := Int.eq_ofNat_of_zero_le h0
  unfold bits
  simp only [BitVec.ofInt_natCast]
  have ha : (BitVec.ofNat 64 a ^^^ 0#64).toNat = a := by rw [BitVec.xor_zero, BitVec.toNat_ofNat]; exact Nat.mod_eq_of_lt (by omega)
  show IntKind.u64.wrap ((BitVec.ofNat 64 a ^^^ 0#64).toNat : Int) = _
  rw [ha]
  exact wraps_u64 _ h0 h
theorem xor_ones64 (x : Int) (h0 : 0 ≤ x) (h : x < 2 ^ 64) : bits .xor .u64 x 18446744073709551615 = 18446744073709551615 - x := by
  obtain ⟨a, rfl⟩ := Int.eq_ofNat_of_zero_le h0
  unfold bits
  simp only [BitVec.ofInt_natCast]
  have e : BitVec.ofInt IntKind.u64.bits 18446744073709551615 = BitVec.allOnes 64 := by rfl
  have ha : (BitVec.ofNat 64 a).toNat = a := by rw [BitVec.toNat_ofNat]; exact Nat.mod_eq_of_lt (by omega)
  have : (BitVec.ofNat 64 a ^^^ BitVec.allOnes 64).toNat = 2 ^ 64 - 1 - a := by
    rw [BitVec.xor_allOnes, BitVec.toNat_not, ha]
  rw [e]
  show IntKind.u64.wrap ((BitVec.ofNat 64 a ^^^ BitVec.allOnes 64).toNat : Int) = _
  rw [this, wraps_u64 _ (by omega) (by omega)]
  omega
theorem xor_izero (x : Int) (h0 : 0 ≤ x) (h : x < 2 ^ 63) : bits .xor .i64 x 0 = x := by
  obtain ⟨a, rfl⟩ := Int.eq_ofNat_of_zero_le h0
  unfold bits
  simp only [BitVec.ofInt_natCast]
  have ha : (BitVec.ofNat 64 a ^^^ 0#64).toNat = a := by rw [BitVec.xor_zero, BitVec.toNat_ofNat]; exact Nat.mod_eq_of_lt (by omega)
  show IntKind.i64.wrap ((BitVec.ofNat 64 a ^^^ 0#64).toNat : Int) = _
  rw [ha]
  exact wrap_id (by omega) (by omega)
theorem xor_iones (x : Int) (h0 : 0 ≤ x) (h : x < 2 ^ 63) : bits .xor .i64 x (-1) = -x - 1 := by
  obtain ⟨a, rfl⟩ := Int.eq_ofNat_of_zero_le h0
  unfold bits
  simp only [BitVec.ofInt_natCast]
  have e : BitVec.ofInt IntKind.i64.bits (-1) = BitVec.allOnes 64 := by rfl
  have ha : (BitVec.ofNat 64 a).toNat = a := by rw [BitVec.toNat_ofNat]; exact Nat.mod_eq_of_lt (by omega)
  have : (BitVec.ofNat 64 a ^^^ BitVec.allOnes 64).toNat = 2 ^ 64 - 1 - a := by
    rw [BitVec.xor_allOnes, BitVec.toNat_not, ha]
  rw [e]
  show IntKind.i64.wrap ((BitVec.ofNat 64 a ^^^ BitVec.allOnes 64).toNat : Int) = _
  rw [this, IntKind.wrap_i64]
  omega
end Go.Proofs.YtadgciaclhjjkaaGreat
set_option linter.unusedVariables false
set_option linter.unusedSimpArgs false
namespace Go.Proofs.YtadgciaclhjjkaaGreat
open Go.RowKit (Below)

theorem nodup_len {α : Type} [DecidableEq α] : ∀ {l l' : List α}, l.Nodup → l ⊆ l' → l.length ≤ l'.length
  | [], l', _, _ => Nat.zero_le _
  | a :: l, l', hn, hs => by
    have ha : a ∈ l' := hs (by simp)
    obtain ⟨h1, h2⟩ := List.nodup_cons.1 hn
    have hsub : l ⊆ l'.erase a := fun x hx => (List.mem_erase_of_ne (by rintro rfl; exact h1 hx)).2 (hs (by simp [hx]))
    have := nodup_len h2 hsub
    rw [List.length_erase_of_mem ha] at this
    have : 0 < l'.length := List.length_pos_of_mem ha
    simp only [List.length_cons]
    omega
/-- Where the walk over a map stands: L was told. -/
def Iter (st : Heap) (m b : Nat) (es L : KV) : Prop := ∃ (ents : Array MapEntry) (clock : Nat) (seen : Array Nat) (Ls : List MapEntry), MapAt ents clock es ∧ st m = some (.other (.map ents clock)) ∧ st b = some (.other (.mapIter (some m) clock seen clock)) ∧
  seen.toList = Ls.map (·.born) ∧ (∀ e ∈ Ls, e ∈ ents.toList) ∧ (Ls.map (·.born)).Nodup ∧ L = Ls.map fun e => (e.key, e.val)
theorem Iter.keep {st st' : Heap} {m b : Nat} {es L : KV} (h : Iter st m b es L) (hm : st' m = st m) (hb : st' b = st b) : Iter st' m b es L := by
  obtain ⟨ents, clock, seen, Ls, h1, h2, h3, h4⟩ := h
  exact ⟨ents, clock, seen, Ls, h1, hm.trans h2, hb.trans h3, h4⟩
theorem MapAt.born_inj {ents : Array MapEntry} {clock : Nat} {es : KV} (h : MapAt ents clock es) {e e' : MapEntry} (he : e ∈ ents.toList) (he' : e' ∈ ents.toList) (hb : e.born = e'.born) : e = e' := by
  have hi := h.inc
  rw [List.pairwise_map] at hi
  rcases Classical.em (e = e') with h | h
  · exact h
  · exfalso
    obtain ⟨i, hi1, rfl⟩ := List.getElem_of_mem he
    obtain ⟨j, hj1, rfl⟩ := List.getElem_of_mem he'
    rw [List.pairwise_iff_getElem] at hi
    rcases Nat.lt_trichotomy i j with hij | hij | hij
    · have := hi i j hi1 hj1 hij; omega
    · subst hij; exact h rfl
    · have := hi j i hj1 hi1 hij; omega
theorem Iter.len {st : Heap} {m b : Nat} {es L : KV} (h : Iter st m b es L) : L.length ≤ es.length := by
  obtain ⟨ents, clock, seen, Ls, h1, h2, h3, h4, h5, h6, rfl⟩ := h
  have : (Ls.map (·.born)).length ≤ (ents.toList.map (·.born)).length := nodup_len h6 (fun x hx => by
    obtain ⟨e, he, rfl⟩ := List.mem_map.1 hx
    exact List.mem_map.2 ⟨e, h5 e he, rfl⟩)
  have hk : es.length = ents.toList.length := by rw [← h1.kv]; simp
  simp only [List.length_map] at this ⊢
  omega
theorem RangeI_start {K : Value → Heap → Prop} {st : Heap} {m : Nat} {g : Tg} {es : KV} (hm : st m = some (.map g es)) (hk : ∀ b st1, st b = none → Iter st1 m b es [] → (∀ k, k ≠ m → k ≠ b → st1 k = st k) → K (ptr' b) st1) : RangeI (.map (some m)) K st := by
  unfold RangeI rangeX
  refine ⟨g, es, hm, fun ents clock b ha hb => ?_⟩
  have hmb : m ≠ b := ne_of_new hm hb
  refine hk b _ hb ⟨ents, clock, #[], [], ha, ?_, upd_same _ _ _, rfl, by simp, by simp, rfl⟩ ?_
  · rw [upd_ne _ _ hmb, upd_same]
  · intro k h1 h2
    rw [upd_ne _ _ h2, upd_ne _ _ h1]
theorem NextI_step {K : Value → Heap → Prop} {st : Heap} {m b : Nat} (g : Tg) {es L : KV} (hmb : m ≠ b) (hi : Iter st m b es L)
    (hend : L.Perm es → K (.tuple #[.bool false]) (upd st m (.map g es)))
    (hnext : ∀ k v st1, (k, v) ∈ es → Iter st1 m b es (L ++ [(k, v)]) → (∀ x, x ≠ b → st1 x = st x) → K (.tuple #[.bool true, k, v]) st1) : NextI' (ptr' b) K st := by
  obtain ⟨ents, clock, seen, Ls, h1, h2, h3, h4, h5, h6, rfl⟩ := hi
  unfold NextI' nextX ptr'
  refine ⟨m, ents, clock, seen, g, es, h3, h2, h1, ?_, ?_⟩
  · intro hall
    refine hend ?_
    rw [← h1.kv]
    refine List.Perm.map _ ?_
    have hn1 : Ls.Nodup := (List.pairwise_map.1 h6).imp (fun h e => h (by rw [e]))
    have hn2 : ents.toList.Nodup := (List.pairwise_map.1 h1.inc).imp (fun h e => by rw [e] at h; exact absurd h (Nat.lt_irrefl _))
    refine (List.perm_ext_iff_of_nodup hn1 hn2).2 fun e => ⟨h5 e, fun he => ?_⟩
    have := hall e he
    rw [h4] at this
    obtain ⟨e', he', hb⟩ := List.mem_map.1 this
    rw [← h1.born_inj (h5 e' he') he hb]
    exact he'
  · intro e he hns
    refine hnext e.key e.val _ ?_ ⟨ents, clock, seen.push e.born, Ls ++ [e], h1, ?_, upd_same _ _ _, by simp [h4], ?_, ?_, by simp⟩ ?_
    · rw [← h1.kv]; exact List.mem_map.2 ⟨e, he, rfl⟩
    · rw [upd_ne _ _ hmb]; exact h2
    · intro x hx
      rcases List.mem_append.1 hx with hx | hx
      · exact h5 x hx
      · simp at hx; rw [hx]; exact he
    · rw [List.map_append, List.nodup_append]
      refine ⟨h6, by simp, ?_⟩
      intro a ha b hb
      simp at hb
      rw [← h4] at ha
      rintro rfl
      rw [hb] at ha
      exact hns ha
    · intro x hx; rw [upd_ne _ _ hx]
theorem EntryI_last {K : Value → Heap → Prop} {st : Heap} {m b : Nat} {es L : KV} {k v : Value} (hi : Iter st m b es (L ++ [(k, v)])) (hk : K (.tuple #[k, v]) st) : EntryI (ptr' b) K st := by
  obtain ⟨ents, clock, seen, Ls, h1, h2, h3, h4, h5, h6, h7⟩ := hi
  rcases List.eq_nil_or_concat Ls with rfl | ⟨Ls', e, rfl⟩
  · simp at h7
  · simp only [List.concat_eq_append, List.map_append, List.map_cons, List.map_nil] at h7
    obtain ⟨_, h8⟩ := List.append_inj' h7 rfl
    simp at h8
    obtain ⟨rfl, rfl⟩ := h8
    unfold EntryI entryX ptr'
    have hseen : seen = (⟨(Ls'.map (·.born))⟩ : Array Nat).push e.born := by
      apply Array.ext'
      simp [h4]
    refine ⟨m, ents, clock, clock, ⟨(Ls'.map (·.born))⟩, e, by rw [h3, hseen], h2, h5 e (by simp), h1.inc, hk⟩
end Go.Proofs.YtadgciaclhjjkaaGreat
set_option linter.unusedVariables false
set_option linter.unusedSimpArgs false
namespace Go.Proofs.YtadgciaclhjjkaaGreat
structure LtOK {α : Type} (lt : α → α → Bool) : Prop where
  asymm : ∀ a b, lt a b = true → lt b a = false
  trans : ∀ a b c, lt b a = false → lt c b = false → lt c a = false
theorem bytesLess_asymm : ∀ a b, Op.bytesLess a b = true → Op.bytesLess b a = false
  | _, [], h => by simp [Op.bytesLess] at h
  | [], _ :: _, h => by simp [Op.bytesLess]
  | a :: x, b :: y, h => by
    simp only [Op.bytesLess, Bool.or_eq_true, Bool.and_eq_true, decide_eq_true_eq, beq_iff_eq, Bool.or_eq_false_iff, Bool.and_eq_false_iff, decide_eq_false_iff_not, UInt8.lt_iff_toNat_lt, beq_eq_false_iff_ne] at h ⊢
    rcases h with h | ⟨rfl, h⟩
    · exact ⟨by omega, .inl (by rintro rfl; omega)⟩
    · exact ⟨by omega, .inr (bytesLess_asymm _ _ h)⟩
theorem bytesLess_trans : ∀ a b c, Op.bytesLess b a = false → Op.bytesLess c b = false → Op.bytesLess c a = false
  | [], _, c, _, _ => by cases c <;> simp [Op.bytesLess]
  | _ :: _, [], _, h, _ => by simp [Op.bytesLess] at h
  | _ :: _, _ :: _, [], _, h => by simp [Op.bytesLess] at h
  | a :: x, b :: y, c :: z, h, h' => by
    simp only [Op.bytesLess, Bool.or_eq_false_iff, Bool.and_eq_false_iff, decide_eq_false_iff_not, UInt8.lt_iff_toNat_lt, beq_eq_false_iff_ne] at h h' ⊢
    refine ⟨by omega, ?_⟩
    by_cases hca : c = a
    · right
      subst hca
      have hbc : b = c := UInt8.toNat_inj.1 (by omega)
      subst hbc
      refine bytesLess_trans x y z ?_ ?_
      · rcases h.2 with h | h
        · exact absurd rfl h
        · exact h
      · rcases h'.2 with h | h
        · exact absurd rfl h
        · exact h
    · exact .inl hca
theorem bytesLess_total : ∀ a b, Op.bytesLess a b = false → Op.bytesLess b a = false → a = b
  | [], [], _, _ => rfl
  | [], _ :: _, h, _ => by simp [Op.bytesLess] at h
  | _ :: _, [], _, h => by simp [Op.bytesLess] at h
  | a :: x, b :: y, h, h' => by
    simp only [Op.bytesLess, Bool.or_eq_false_iff, Bool.and_eq_false_iff, decide_eq_false_iff_not, UInt8.lt_iff_toNat_lt, beq_eq_false_iff_ne] at h h'
    have hab : a = b := UInt8.toNat_inj.1 (by omega)
    subst hab
    rw [bytesLess_total x y]
    · rcases h.2 with h | h
      · exact absurd rfl h
      · exact h
    · rcases h'.2 with h | h
      · exact absurd rfl h
      · exact h
abbrev ltT (a b : ByteArray) : Bool := Op.bytesLess a.data.toList b.data.toList
theorem ltT_ok : LtOK ltT := ⟨fun a b h => bytesLess_asymm _ _ h, fun a b c h h' => bytesLess_trans _ _ _ h h'⟩
theorem ltT_total (a b : ByteArray) (h : ltT a b = false) (h' : ltT b a = false) : a = b := by
  have := bytesLess_total _ _ h h'
  cases a; cases b
  simp at this
  rw [this]
end Go.Proofs.YtadgciaclhjjkaaGreat
