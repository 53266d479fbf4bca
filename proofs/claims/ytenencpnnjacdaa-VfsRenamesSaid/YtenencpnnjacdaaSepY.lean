/- The model's operations in plain forms, second part: comparisons, conversions, slices, what is made, append, maps, calls. -/
import Derived.Test.YtenencpnnjacdaaSepX
set_option linter.unusedVariables false
set_option linter.unusedSimpArgs false
namespace Go.Proofs.Ytenencpnnjacdaa
open Go.RowKit (Below)

section
variable {P : Program} {W0 : World} {E : Env} {K : Value → Heap → Prop} {Kp : List PanicEntry → Heap → Prop} {st : Heap} {d : Option Nat} {ty : TypeId} {pos : String} {af : Array Edge} {g : Option (Nat × Bool)}
theorem strBin_spec {op : BinOp} {t : TypeId} {a b : ByteArray} {v : Value} {K : Value → Heap → Prop} {Kp : Value → Heap → Prop} (h : strBin op a b = some v) (hk : K v st) : wpS P (binOp op t (.string a) (.string b)) K Kp st := by
  unfold binOp
  cases op <;> simp only [strBin] at h <;> first
    | (cases h; done)
    | (injection h with h; subst h; simp only [Op.stringOp, strEq_spec, ByteArray.toList_eq]; exact hk)
    | (split at h
       · rename_i hb; injection h with h; subst h
         simp only [Op.stringOp]
         rw [if_neg (by simp only [IntKind.max_i64]; omega)]
         exact hk
       · cases h)
theorem eqBin_spec {t : TypeId} {x y : Value} {b : Bool} {K : Bool → Heap → Prop} {Kp : Value → Heap → Prop} (h : eqBin P t x y = some b) (hk : K b st) : wpS P (Op.equal t x y) K Kp st := by
  unfold eqBin eqB at h
  unfold Op.equal Op.maxDepth Op.equalIn
  split at h <;> first
    | (cases h; done)
    | (rename_i hu
       injection h with h; subst h
       rw [wpS_bind, wpS_underlying hu]
       exact hk)
theorem eqBin_guard {op : BinOp} {t : TypeId} {x y : Operand} {u v : Value} {b : Bool} (h : eqBin P t u v = some b) : eqGuard op t x y u v = pure () := by
  unfold eqBin eqB at h
  unfold eqGuard
  split at h <;> first
    | (cases h; done)
    | (cases op <;> rfl)
theorem eqBin_noint {t : TypeId} {x y : Value} {b : Bool} (h : eqBin P t x y = some b) : (∀ k n, x ≠ .int k n) ∧ (∀ s, x ≠ .string s) := by
  unfold eqBin eqB at h
  split at h <;> first | (cases h; done) | (constructor <;> intros <;> simp)
theorem eqBin_binOp_eql {t : TypeId} {x y : Value} {b : Bool} (h : eqBin P t x y = some b) : binOp .eql t x y = (do pure (.bool (← Op.equal t x y)) : Sem Value) := by
  unfold eqBin eqB at h
  split at h <;> first | (cases h; done) | rfl
theorem eqBin_binOp_neq {t : TypeId} {x y : Value} {b : Bool} (h : eqBin P t x y = some b) : binOp .neq t x y = (do pure (.bool (!(← Op.equal t x y))) : Sem Value) := by
  unfold eqBin eqB at h
  split at h <;> first | (cases h; done) | rfl
theorem guard_int {op : BinOp} {t : TypeId} {x y : Operand} {k : IntKind} {n : Int} {v : Value} : eqGuard op t x y (.int k n) v = pure () := by cases op <;> rfl
theorem guard_str {op : BinOp} {t : TypeId} {x y : Operand} {s : ByteArray} {v : Value} : eqGuard op t x y (.string s) v = pure () := by cases op <;> rfl
theorem X_bin {op : BinOp} {t u : TypeId} {x y : Operand} (h : optK (binV P op t (E.ev x) (E.ev y)) fun v => K v st) : opW P W0 ⟨d, .binOp op t x y u, ty, pos, af, g⟩ E K Kp st := by
  obtain ⟨v, hv, hk⟩ := optK_iff.1 h
  clear h
  show wpS P _ _ _ _
  unfold execOp
  refine execOp_v ?_
  generalize E.ev x = a at *
  generalize E.ev y = b at *
  unfold binV at hv
  split at hv
  · rename_i k p k' q
    rw [guard_int, wpS_bind, wpS_pure]
    split at hv
    · rename_i hs; exact shiftBin_spec hs hv hk
    · rename_i hs
      split at hv
      · rename_i hkk; subst hkk
        exact intBin_spec (by rw [if_neg hs]; exact hv) hk
      · cases hv
  · rw [guard_str, wpS_bind, wpS_pure]
    exact strBin_spec hv hk
  · split at hv
    · obtain ⟨c, hc, rfl⟩ := Option.map_eq_some_iff.1 hv
      rw [eqBin_guard hc, wpS_bind, wpS_pure, eqBin_binOp_eql hc, wpS_bind]
      exact eqBin_spec hc hk
    · obtain ⟨c, hc, rfl⟩ := Option.map_eq_some_iff.1 hv
      rw [eqBin_guard hc, wpS_bind, wpS_pure, eqBin_binOp_neq hc, wpS_bind]
      exact eqBin_spec hc hk
    · cases hv
theorem X_un {op : UnOp} {t : TypeId} {x : Operand} (h : optK (unV op (E.ev x)) fun v => K v st) : opW P W0 ⟨d, .unOp op t x, ty, pos, af, g⟩ E K Kp st := by
  obtain ⟨v, hv, hk⟩ := optK_iff.1 h
  clear h
  show wpS P _ _ _ _
  unfold execOp
  refine execOp_v ?_
  generalize E.ev x = a at *
  unfold unV at hv
  split at hv
  · injection hv with hv; subst hv; exact hk
  · injection hv with hv; subst hv; exact hk
  · injection hv with hv; subst hv; exact hk
  · cases hv
end

/-! ### Slices, as they are read -/
/-- The cells of n elements of a slice or of a text. -/
def srcCells (size : Nat) (st : Heap) : Value → Option (Nat × List Value)
  | .slice none n _ => if n = 0 then some (0, []) else none
  | .slice (some a) n _ => if n = 0 then some (0, []) else (lkN st a (n * size)).map fun l => (n, l)
  | .string s => if size = 1 then some (s.size, s.data.toList.map fun b => .int .u8 b.toNat) else none
  | _ => none
theorem src_spec {P : Program} {Kp : Value → Heap → Prop} {size n : Nat} {st : Heap} {x : Value} {l : List Value} (h : srcCells size st x = some (n, l)) :
    (∀ (K : Nat → Heap → Prop), K n st → wpS P (Builtin.lenOf x) K Kp st) ∧ (∀ (K : Array Value → Heap → Prop), K l.toArray st → wpS P (Builtin.firstCells size n x) K Kp st) := by
  unfold srcCells at h
  split at h
  · split at h
    · rename_i h0
      injection h with h; injection h with h1 h2; subst h1; subst h2; subst h0
      exact ⟨fun K hk => hk, fun K hk => hk⟩
    · cases h
  · split at h
    · rename_i h0
      injection h with h; injection h with h1 h2; subst h1; subst h2; subst h0
      exact ⟨fun K hk => hk, fun K hk => by unfold Builtin.firstCells; rw [Nat.zero_mul]; exact hk⟩
    · obtain ⟨l', hl, he⟩ := Option.map_eq_some_iff.1 h
      injection he with h1 h2; subst h1; subst h2
      exact ⟨fun K hk => hk, fun K hk => wpS_loadCells hl hk⟩
  · split at h
    · rename_i hs
      injection h with h; injection h with h1 h2; subst h1; subst h2
      refine ⟨fun K hk => hk, fun K hk => ?_⟩
      unfold Builtin.firstCells
      rename_i s
      have : (((s.extract 0 s.size).data.map fun b => Value.int .u8 b.toNat) : Array Value) = (s.data.toList.map fun b => Value.int .u8 b.toNat).toArray := by
        apply Array.ext'
        simp [ByteArray.data_extract]
      show K _ st
      rw [this]
      exact hk
    · cases h
  · cases h

/-! ### Lengths -/
def lenV (P : Program) (st : Heap) (t : TypeId) (x : Value) : Option Value :=
  match P.underlying t, x with
  | some .string, .string s => some (.int .i64 s.size)
  | some (.slice _), .slice _ n _ => some (.int .i64 n)
  | some (.map _ _), .map none => some (.int .i64 0)
  | some (.map _ _), .map (some r) => match st r with
    | some (.map _ es) => some (.int .i64 es.length)
    | _ => none
  | _, _ => none
theorem len_spec {P : Program} {K : Value → Heap → Prop} {Kp : Value → Heap → Prop} {st : Heap} {t r : TypeId} {x v : Value} (h : lenV P st t x = some v) (hk : K v st) : wpS P (Builtin.len_ #[t] r #[x]) K Kp st := by
  unfold lenV at h
  unfold Builtin.len_
  simp only [List.getElem?_toArray, List.getElem?_cons_zero]
  split at h
  · rename_i hu; injection h with h; subst h; rw [wpS_bind, wpS_underlying hu]; exact hk
  · rename_i hu; injection h with h; subst h; rw [wpS_bind, wpS_underlying hu]; exact hk
  · rename_i hu; injection h with h; subst h; rw [wpS_bind, wpS_underlying hu]; exact hk
  · rename_i hu
    split at h
    · rename_i r g es hes
      injection h with h; subst h
      rw [wpS_bind, wpS_underlying hu]
      simp only
      rw [wpS_bind]
      refine .inl ⟨g, es, hes, fun ents clock hm => ?_⟩
      have : ents.size = es.length := by rw [← hm.kv]; simp
      show K _ _
      rw [goInt, this]
      exact hk
    · cases h
  · cases h

/-! ### What is made -/
theorem wpS_newRow {P : Program} {Kp : Value → Heap → Prop} {st : Heap} {e : TypeId} {c : Array Value} {K : Addr → Heap → Prop} (h : ∀ b, st b = none → ∃ g : Tg, K ⟨b, 0, none⟩ (upd st b (.cells true c.toList c.size g))) : wpS P (newRow e c) K Kp st := by
  unfold newRow
  rw [wpS_bind]
  exact ⟨rfl, fun b hb => let ⟨g, h'⟩ := h b hb; ⟨_, g, List.prefix_rfl, h'⟩⟩
theorem wpS_newRow_le {P : Program} {Kp : Value → Heap → Prop} {st : Heap} {e : TypeId} {c : Array Value} {K : Addr → Heap → Prop} (xs : List Value) (hx : xs <+: c.toList) (h : ∀ b, st b = none → ∃ g : Tg, K ⟨b, 0, none⟩ (upd st b (.cells true xs c.size g))) : wpS P (newRow e c) K Kp st := by
  unfold newRow
  rw [wpS_bind]
  exact ⟨rfl, fun b hb => let ⟨g, h'⟩ := h b hb; ⟨xs, g, hx, h'⟩⟩
def newX (e : TypeId) (c : List Value) (K : Nat → Heap → Prop) (st : Heap) : Prop := ∀ b, st b = none → ∃ g : Tg, K b (upd st b (.cells true c c.length g))
def boxX (e : TypeId) (v : Value) (K : Value → Heap → Prop) (st : Heap) : Prop := newX e v.cells.toList (fun b st' => K (.pointer (some ⟨b, 0, none⟩)) st') st
def splice (l : List Value) (off : Nat) (v : List Value) : List Value := l.take off ++ (v ++ l.drop (off + v.length))
theorem splice_one (l : List Value) (off : Nat) (v : Value) (h : off < l.length) : splice l off [v] = l.set off v := by
  simp [splice, List.set_eq_take_append_cons_drop, h]
/-- Parts laid into zero cells. -/
def fillL (places : Nat → Option (Nat × Nat)) (cells : List Value) : List (Nat × Value) → Option (List Value)
  | [] => some cells
  | (i, v) :: rest => match places i with
    | none => none
    | some (off, size) => if v.cells.size = size ∧ off + size ≤ cells.length then fillL places (splice cells off v.cells.toList) rest else none
theorem foldl_splice (off : Nat) : ∀ (v : List Value) (j : Nat) (cs : Array Value), off + j + v.length ≤ cs.size →
    ((v.zipIdx j).foldl (fun cs (p : Value × Nat) => cs.setIfInBounds (off + p.2) p.1) cs).toList = splice cs.toList (off + j) v
  | [], j, cs, _ => by simp [splice]
  | x :: v, j, cs, h => by
    simp only [List.length_cons] at h
    rw [List.zipIdx_cons, List.foldl_cons]
    rw [foldl_splice off v (j + 1) _ (by simp; omega)]
    simp only [Array.toList_setIfInBounds, splice, List.length_cons]
    have hlt : off + j < cs.toList.length := by simp; omega
    rw [show off + (j + 1) = off + j + 1 from by omega]
    rw [List.take_add_one, List.take_set_of_le (Nat.le_refl _), List.getElem?_set_self hlt, List.drop_set_of_lt (by omega)]
    simp [Nat.add_assoc, Nat.add_comm 1]
theorem fill_eq (places : Nat → Option (Nat × Nat)) : ∀ (ps : List (Nat × Value)) (cells : Array Value) (out : List Value), fillL places cells.toList ps = some out → Instr.fill places cells ps = some out.toArray
  | [], cells, out, h => by
    injection h with h
    subst h
    simp [Instr.fill]
  | (i, v) :: rest, cells, out, h => by
    unfold fillL at h
    unfold Instr.fill
    split at h
    · cases h
    · rename_i off size hp
      split at h
      · rename_i hc
        obtain ⟨h1, h2⟩ := hc
        simp only [hp]
        rw [if_neg (by simp only [Array.length_toList] at h2; simp [h1]; omega)]
        refine fill_eq places rest _ out ?_
        have := foldl_splice off v.cells.toList 0 cells (by simp only [Array.length_toList] at h2 ⊢; omega)
        simp only [Nat.add_zero] at this
        have e2 : (Array.foldl (fun cs x => match x with | (c, j) => cs.setIfInBounds (off + j) c) cells v.cells.zipIdx).toList = splice cells.toList off v.cells.toList := by
          rw [← this, ← Array.foldl_toList, Array.toList_zipIdx]
        rw [e2]
        exact h
      · cases h
def buildV (P : Program) (t : TypeId) (parts : List (Nat × Value)) : Option Value :=
  match bldInfo P t with
  | some (z, ps) => (fillL (fun i => ps[i]?) z parts).map fun l => .agg l.toArray
  | none => none
theorem mapM_places {P : Program} {Kp : Value → Heap → Prop} {st : Heap} : ∀ (fs : List Field) (ps : List (Nat × Nat)) (K : List (Nat × Nat) → Heap → Prop), fs.mapM (fun x => (P.info? x.type).map (fun j => (x.offset, j.size))) = some ps → K ps st →
    wpS P (fs.mapM fun f => (do pure (f.offset, ← sizeOf f.type) : Sem (Nat × Nat))) K Kp st
  | [], ps, K, h, hk => by
    simp only [List.mapM_nil] at h ⊢
    injection h with h; subst h
    exact hk
  | f :: fs, ps, K, h, hk => by
    simp only [List.mapM_cons] at h ⊢
    obtain ⟨p, hp, h⟩ := Option.bind_eq_some_iff.1 h
    obtain ⟨qs, hq, h⟩ := Option.bind_eq_some_iff.1 h
    injection h with h; subst h
    obtain ⟨i, hi, rfl⟩ := Option.map_eq_some_iff.1 hp
    rw [wpS_bind, wpS_bind, wpS_sizeOf hi, wpS_pure, wpS_bind]
    exact mapM_places fs qs _ hq hk
theorem build_spec {P : Program} {K : Value → Heap → Prop} {Kp : Value → Heap → Prop} {st : Heap} {t : TypeId} {parts : Array (Nat × Value)} {v : Value} (h : buildV P t parts.toList = some v) (hk : K v st) : wpS P (Instr.build t parts) K Kp st := by
  unfold buildV at h
  split at h
  · rename_i z ps hb
    obtain ⟨l, hl, rfl⟩ := Option.map_eq_some_iff.1 h
    unfold bldInfo at hb
    split at hb
    · rename_i fs i hu hi
      split at hb
      · rename_i zz qs hz hm
        injection hb with hb; injection hb with h1 h2; subst h1; subst h2
        unfold Instr.build
        have hz' : zeroOf P t = some zz := by simp [zeroOf, hi, hz]
        rw [wpS_bind, wpS_zeroValue hz', wpS_bind, wpS_underlying hu]
        simp only
        rw [wpS_bind, Array.mapM_eq_mapM_toList]
        rw [wpS_map]
        refine mapM_places _ _ _ hm ?_
        have := fill_eq (fun i => qs[i]?) parts.toList zz.cells l hl
        simp only [List.getElem?_toArray, this]
        exact hk
      · cases hb
    · cases hb
  · cases h
/-- Zero cells of n elements. -/
def zerosL (z : List Value) : Nat → List Value
  | 0 => []
  | n + 1 => z ++ zerosL z n
theorem zerosL_length (z : List Value) : ∀ n, (zerosL z n).length = n * z.length
  | 0 => by simp [zerosL]
  | n + 1 => by simp [zerosL, zerosL_length z n, Nat.succ_mul, Nat.add_comm]
theorem zerosL_eq (z : Array Value) (hz : 0 < z.size) : ∀ n, ((Array.range (n * z.size)).map fun i => z[i % z.size]!).toList = zerosL z.toList n := by
  have get : ∀ n i, i < n * z.size → (zerosL z.toList n)[i]? = some (z[i % z.size]!) := by
    intro n
    induction n with
    | zero => intro i h; simp at h
    | succ n ih =>
      intro i h
      unfold zerosL
      rcases Nat.lt_or_ge i z.size with hi | hi
      · rw [List.getElem?_append_left (by simpa using hi), Nat.mod_eq_of_lt hi]
        simp [hi]
      · rw [List.getElem?_append_right (by simpa using hi)]
        rw [Nat.succ_mul] at h
        have := ih (i - z.size) (by omega)
        rw [Array.length_toList, this]
        congr 2
        exact (Nat.mod_eq_sub_mod hi).symm
  intro n
  apply List.ext_getElem?
  intro i
  rcases Nat.lt_or_ge i (n * z.size) with h | h
  · rw [get n i h]
    simp [h]
  · rw [List.getElem?_eq_none (by simpa using h), List.getElem?_eq_none (by rw [zerosL_length]; simpa using h)]
def elemPlaces (size : Nat) : Nat → Option (Nat × Nat) := fun i => some (i * size, size)
def buildSliceX (P : Program) (t : TypeId) (len : Nat) (parts : List (Nat × Value)) (K : Value → Heap → Prop) (st : Heap) : Prop :=
  optK (slInfo P t) fun i => len * i.2.1 ≤ 16777216 ∧ optK (fillL (elemPlaces i.2.1) (zerosL i.2.2.2 len) parts) fun l => newX i.1 l (fun b st' => K (.slice (some ⟨b, 0, none⟩) len len) st') st
theorem slInfo_some {P : Program} {t : TypeId} {e size bytes : Nat} {z : List Value} (h : slInfo P t = some (e, size, bytes, z)) : P.underlying t = some (.slice e) ∧ ∃ i zv, P.info? e = some i ∧ i.size = size ∧ i.bytes = bytes ∧ i.zero = some zv ∧ zv.cells.toList = z ∧ zv.cells.size = size ∧ 0 < size ∧ 0 < bytes := by
  unfold slInfo at h
  split at h
  · rename_i e' hu
    split at h
    · rename_i i hi
      split at h
      · rename_i zv hz
        split at h
        · rename_i hc
          injection h with h; injection h with h1 h2; injection h2 with h2 h3; injection h3 with h3 h4
          subst h1; subst h2; subst h3; subst h4
          exact ⟨hu, i, zv, hi, rfl, rfl, hz, rfl, hc.1, hc.2.1, hc.2.2⟩
        · cases h
      · cases h
    · cases h
  · cases h
theorem buildSlice_spec {P : Program} {K : Value → Heap → Prop} {Kp : Value → Heap → Prop} {st : Heap} {t : TypeId} {len : Nat} {parts : Array (Nat × Value)} (h : buildSliceX P t len parts.toList K st) : wpS P (Instr.buildSlice t len parts) K Kp st := by
  obtain ⟨⟨e, size, bytes, z⟩, hi, hle, h⟩ := optK_iff.1 h
  obtain ⟨l, hl, h⟩ := optK_iff.1 h
  obtain ⟨hu, i, zv, hinfo, hsz, hby, hz, hzl, hzs, hpos, hbpos⟩ := slInfo_some hi
  simp only at hle hl h
  unfold Instr.buildSlice
  have hz' : zeroOf P e = some zv := by simp [zeroOf, hinfo, hz]
  rw [wpS_bind, wpS_underlying hu]
  simp only
  rw [wpS_bind, wpS_sizeOf hinfo, hsz]
  rw [if_neg (by omega)]
  have key : ∀ zz : Array Value, (len * size ≠ 0 → zz = zv.cells) → wpS P (match Instr.fill (fun i => some (i * size, size)) ((Array.range (len * size)).map (fun x => zz[x % zz.size]!)) parts.toList with
      | some cells => (do pure (.slice (some (← newRow e cells)) len len) : Sem Value)
      | _ => stuck "buildSlice: a part of the wrong size") K Kp st := by
    intro zz hzz
    have hcells : ((Array.range (len * size)).map (fun x => zz[x % zz.size]!)).toList = zerosL z len := by
      by_cases h0 : len * size = 0
      · have hl0 : len = 0 := by
          rcases Nat.mul_eq_zero.1 h0 with h | h
          · exact h
          · omega
        subst hl0
        simp [zerosL]
      · rw [hzz h0, ← hzs, ← hzl]
        exact zerosL_eq zv.cells (by omega) len
    have hf := fill_eq (elemPlaces size) parts.toList ((Array.range (len * size)).map (fun x => zz[x % zz.size]!)) l (by rw [hcells]; exact hl)
    unfold elemPlaces at hf
    rw [hf]
    simp only
    rw [wpS_bind]
    refine wpS_newRow fun b hb => ?_
    obtain ⟨g, this⟩ := h b hb
    refine ⟨g, ?_⟩
    rw [wpS_pure]
    simpa using this
  by_cases h0 : len * size = 0
  · rw [if_pos h0, wpS_bind, wpS_pure]
    exact key #[] (fun hne => absurd h0 hne)
  · rw [if_neg h0, wpS_bind, wpS_zeroValue hz', wpS_bind, wpS_pure]
    exact key zv.cells (fun _ => rfl)
section
variable {P : Program} {W0 : World} {E : Env} {K : Value → Heap → Prop} {Kp : List PanicEntry → Heap → Prop} {st : Heap} {d : Option Nat} {ty : TypeId} {pos : String} {af : Array Edge} {g : Option (Nat × Bool)}
theorem X_box {e : TypeId} {x : Operand} (h : boxX e (E.ev x) K st) : opW P W0 ⟨d, .box e x, ty, pos, af, g⟩ E K Kp st := by
  show wpS P _ _ _ _
  unfold execOp
  refine execOp_v ?_
  unfold Instr.box newVar
  rw [wpS_bind]
  refine wpS_newRow fun b hb => ?_
  obtain ⟨g, this⟩ := h b hb
  refine ⟨g, ?_⟩
  rw [wpS_pure]
  show K _ _
  simpa using this
theorem X_alloc {e : TypeId} (h : optK (zeroOf P e) fun z => boxX e z K st) : opW P W0 ⟨d, .alloc e, ty, pos, af, g⟩ E K Kp st := by
  obtain ⟨z, hz, h⟩ := optK_iff.1 h
  show wpS P _ _ _ _
  unfold execOp
  refine execOp_v ?_
  unfold Instr.alloc newVar
  rw [wpS_bind, wpS_zeroValue hz]
  simp only
  rw [wpS_bind]
  refine wpS_newRow fun b hb => ?_
  obtain ⟨g, this⟩ := h b hb
  refine ⟨g, ?_⟩
  rw [wpS_pure]
  show K _ _
  simpa using this
theorem X_build {t : TypeId} {parts : Array (Nat × Operand)} (h : optK (buildV P t (parts.toList.map fun p => (p.1, E.ev p.2))) fun v => K v st) : opW P W0 ⟨d, .build t parts, ty, pos, af, g⟩ E K Kp st := by
  obtain ⟨v, hv, h⟩ := optK_iff.1 h
  show wpS P _ _ _ _
  unfold execOp
  refine execOp_v (build_spec (v := v) ?_ h)
  simpa using hv
theorem X_buildSlice {t : TypeId} {len : Nat} {parts : Array (Nat × Operand)} (h : buildSliceX P t len (parts.toList.map fun p => (p.1, E.ev p.2)) K st) : opW P W0 ⟨d, .buildSlice t len parts, ty, pos, af, g⟩ E K Kp st := by
  show wpS P _ _ _ _
  unfold execOp
  refine execOp_v (buildSlice_spec ?_)
  show buildSliceX P t len _ K st
  simpa using h
end
end Go.Proofs.Ytenencpnnjacdaa
