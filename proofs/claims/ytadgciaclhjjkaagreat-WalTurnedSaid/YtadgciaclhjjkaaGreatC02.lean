/- The model's operations in plain forms, second part: comparisons, conversions, slices, what is made, append, maps, calls. -/
import Derived.Test.YtadgciaclhjjkaaGreatC01
import Derived.Laws.BytesString
set_option linter.unusedVariables false
set_option linter.unusedSimpArgs false
namespace Go.Proofs.YtadgciaclhjjkaaGreat
open Go.RowKit (Below)

section
variable {P : Program} {W0 : World} {E : Env} {K : Value → Heap → Prop} {Kp : List PanicEntry → Heap → Prop} {st : Heap} {d : Option Nat} {ty : TypeId} {pos : String} {af : Array Edge} {g : Option (Nat × Bool)}
theorem strBin_spec {op : BinOp} {t : TypeId} {a b : ByteArray} {v : Value} {K : Value → Heap → Prop} {Kp : Value → Heap → Prop} (h : strBin op a b = some v) (hk : K v st) : wpS P (binOp op t (.string a) (.string b)) K Kp st := by
  unfold binOp
  cases op <;> simp only [strBin] at h <;> first
    | (cases h; done)
    | (injection h with h; subst h; simp only [Op.stringOp, strEq_spec, ByteArray.toList_eq]; exact hk)
    | (split at h
       · rename_i hb; injection h with h; subst h
         simp only [Op.stringOp]
         rw [if_neg (by simp only [IntKind.max_i64]; omega)]
         exact hk
       · cases h)
theorem eqBin_spec {t : TypeId} {x y : Value} {b : Bool} {K : Bool → Heap → Prop} {Kp : Value → Heap → Prop} (h : eqB (P.underlying t) x y = some b) (hk : K b st) : wpS P (Op.equal t x y) K Kp st := by
  unfold eqB at h
  unfold Op.equal Op.maxDepth Op.equalIn
  split at h <;> first
    | (cases h; done)
    | (rename_i hu
       injection h with h; subst h
       rw [wpS_bind, wpS_underlying hu]
       exact hk)
    | (rename_i hu
       split at h
       · injection h with h; subst h
         rw [wpS_bind, wpS_underlying hu]
         exact hk
       · cases h)
theorem eqBin_guard {op : BinOp} {t : TypeId} {x y : Operand} {u v : Value} {b : Bool} {K : Unit → Heap → Prop} {Kp : Value → Heap → Prop} (h : eqB (P.underlying t) u v = some b) (hk : K () st) : wpS P (eqGuard op t x y u v) K Kp st := by
  have key : (∃ ms, P.underlying t = some (.interface ms) ∧ ms.isEmpty = true ∧ u = .nilIface ∧ v = .nilIface) ∨ (eqGuard op t x y u v = pure ()) := by
    unfold eqB at h
    split at h <;> first
      | (cases h; done)
      | (right; unfold eqGuard; cases op <;> rfl)
      | (rename_i hu
         split at h
         · exact .inl ⟨_, hu, ‹_›, rfl, rfl⟩
         · cases h)
  rcases key with ⟨ms, hu, hms, rfl, rfl⟩ | he
  · have h1 : wpS P (Op.eqGuardIn Op.maxDepth t .nilIface .nilIface) (fun b st => b = false ∧ K () st) Kp st := by
      unfold Op.maxDepth Op.eqGuardIn
      rw [wpS_bind, wpS_underlying hu]
      simp only [hms, Bool.not_true]
      exact ⟨rfl, hk⟩
    unfold eqGuard
    cases op <;> first
      | exact hk
      | (simp only [Bool.not_true, Bool.false_eq_true, if_false]
         (repeat' split) <;> first
           | exact hk
           | (rw [wpS_bind]
              refine wpS_mono _ ?_ (fun _ _ h => h) h1
              rintro b st' ⟨rfl, hk'⟩
              exact hk'))
  · rw [he]
    exact hk
theorem eqBin_binOp_eql {t : TypeId} {x y : Value} {b : Bool} (h : eqB (P.underlying t) x y = some b) : binOp .eql t x y = (do pure (.bool (← Op.equal t x y)) : Sem Value) := by
  unfold eqB at h
  split at h <;> first | (cases h; done) | rfl
theorem eqBin_binOp_neq {t : TypeId} {x y : Value} {b : Bool} (h : eqB (P.underlying t) x y = some b) : binOp .neq t x y = (do pure (.bool (!(← Op.equal t x y))) : Sem Value) := by
  unfold eqB at h
  split at h <;> first | (cases h; done) | rfl
theorem guard_int {op : BinOp} {t : TypeId} {x y : Operand} {k : IntKind} {n : Int} {v : Value} : eqGuard op t x y (.int k n) v = pure () := by cases op <;> rfl
theorem guard_str {op : BinOp} {t : TypeId} {x y : Operand} {s : ByteArray} {v : Value} : eqGuard op t x y (.string s) v = pure () := by cases op <;> rfl
theorem guard_float {op : BinOp} {t : TypeId} {x y : Operand} {k : FloatKind} {n : Nat} {v : Value} : eqGuard op t x y (.float k n) v = pure () := by cases op <;> rfl
theorem part_plain {t : TypeId} {d : TypeDesc} {cs : Array Value} {off : Nat} {v : Value} {K : Value → Heap → Prop} {Kp : Value → Heap → Prop} (hu : P.underlying t = some d) (hd : (match d with | .struct _ | .array _ _ => true | _ => false) = false) (hv : cs[off]? = some v) (hk : K v st) : wpS P (part t cs off) K Kp st := by
  unfold part isAgg
  rw [wpS_bind, wpS_bind, wpS_underlying hu]
  cases d <;> simp at hd <;> simp [wpS_pure, hv] <;> exact hk
theorem eqInt_wp {d : Nat} {t : TypeId} {k' k : IntKind} {a b : Int} {K : Bool → Heap → Prop} {Kp : Value → Heap → Prop} (hu : P.underlying t = some (.int k')) (hk : K (a == b) st) : wpS P (Op.equalIn (d + 1) t (.int k a) (.int k b)) K Kp st := by
  unfold Op.equalIn
  rw [wpS_bind, wpS_underlying hu]
  simp [wpS_pure]
  exact hk
theorem eqStr_wp {d : Nat} {t : TypeId} {a b : ByteArray} {K : Bool → Heap → Prop} {Kp : Value → Heap → Prop} (hu : P.underlying t = some .string) (hk : K (strEq a b) st) : wpS P (Op.equalIn (d + 1) t (.string a) (.string b)) K Kp st := by
  unfold Op.equalIn
  rw [wpS_bind, wpS_underlying hu]
  simp only [wpS_pure]
  have : (a == b) = strEq a b := by
    unfold strEq
    obtain ⟨⟨x⟩⟩ := a
    obtain ⟨⟨y⟩⟩ := b
    show ((⟨x⟩ : Array UInt8) == ⟨y⟩) = (x == y)
    simp
  rw [this]
  exact hk
theorem eqBool_wp {d : Nat} {t : TypeId} {a b : Bool} {K : Bool → Heap → Prop} {Kp : Value → Heap → Prop} (hu : P.underlying t = some .bool) (hk : K (a == b) st) : wpS P (Op.equalIn (d + 1) t (.bool a) (.bool b)) K Kp st := by
  unfold Op.equalIn
  rw [wpS_bind, wpS_underlying hu]
  simp only [wpS_pure]
  exact hk
theorem eqAgg_spec {t : TypeId} {xs ys : Array Value} {b : Bool} {K : Bool → Heap → Prop} {Kp : Value → Heap → Prop} (h : aggEqB P t xs ys = some b) (hk : K b st) : wpS P (Op.equal t (.agg xs) (.agg ys)) K Kp st := by
  unfold aggEqB at h
  split at h
  · rename_i fs hu
    split at h
    · rename_i hc
      unfold Op.equal Op.maxDepth Op.equalIn
      rw [wpS_bind, wpS_underlying hu]
      simp only [wpS_bind, wpS_program, hc.1, Bool.false_eq_true, if_false]
      rw [← Array.forIn_toList]
      generalize fs.toList = l at h
      clear hu
      induction l with
      | nil =>
        unfold fieldsEq at h; injection h with h; subst h
        simp [wpS_pure]
        exact hk
      | cons f fs ih =>
        rw [List.forIn_cons, wpS_bind]
        unfold fieldsEq at h
        split at h
        · rename_i k0 k a k' c hu h1 h2
          split at h
          · rename_i hn
            obtain ⟨hn, rfl⟩ := hn
            rw [if_pos hn, wpS_bind]
            refine part_plain hu rfl h1 ?_
            rw [wpS_bind]
            refine part_plain hu rfl h2 ?_
            rw [wpS_bind]
            refine eqInt_wp hu ?_
            split at h
            · rename_i hab
              rw [hab]
              simp only [Bool.not_true, Bool.false_eq_true, if_false, wpS_pure]
              exact ih h
            · rename_i hab
              injection h with h; subst h
              have : (a == c) = false := by simpa using hab
              rw [this]
              simp [wpS_pure]
              exact hk
          · cases h
        · rename_i a c hu h1 h2
          split at h
          · rename_i hn
            rw [if_pos hn, wpS_bind]
            refine part_plain hu rfl h1 ?_
            rw [wpS_bind]
            refine part_plain hu rfl h2 ?_
            rw [wpS_bind]
            refine eqStr_wp hu ?_
            split at h
            · rename_i hab
              rw [hab]
              simp only [Bool.not_true, Bool.false_eq_true, if_false, wpS_pure]
              exact ih h
            · rename_i hab
              injection h with h; subst h
              have : strEq a c = false := by simpa using hab
              rw [this]
              simp [wpS_pure]
              exact hk
          · cases h
        · rename_i a c hu h1 h2
          split at h
          · rename_i hn
            rw [if_pos hn, wpS_bind]
            refine part_plain hu rfl h1 ?_
            rw [wpS_bind]
            refine part_plain hu rfl h2 ?_
            rw [wpS_bind]
            refine eqBool_wp hu ?_
            split at h
            · rename_i hab
              rw [hab]
              simp only [Bool.not_true, Bool.false_eq_true, if_false, wpS_pure]
              exact ih h
            · rename_i hab
              injection h with h; subst h
              have : (a == c) = false := by simpa using hab
              rw [this]
              simp [wpS_pure]
              exact hk
          · cases h
        · cases h
    · cases h
  · cases h
theorem aggGuard {op : BinOp} {t : TypeId} {x y : Operand} {xs ys : Array Value} {b : Bool} {K : Unit → Heap → Prop} {Kp : Value → Heap → Prop} (h : aggEqB P t xs ys = some b) (hk : K () st) : wpS P (eqGuard op t x y (.agg xs) (.agg ys)) K Kp st := by
  unfold aggEqB at h
  split at h
  · split at h
    · rename_i hc
      unfold eqGuard
      cases op <;> simp [wpS_bind, wpS_program, wpS_pure, hc.2] <;> exact hk
    · cases h
  · cases h
theorem X_bin {op : BinOp} {t u : TypeId} {x y : Operand} (h : optK (binV P op t (E.ev x) (E.ev y)) fun v => K v st) : opW P W0 ⟨d, .binOp op t x y u, ty, pos, af, g⟩ E K Kp st := by
  obtain ⟨v, hv, hk⟩ := optK_iff.1 h
  clear h
  show wpS P _ _ _ _
  unfold execOp
  refine execOp_v ?_
  generalize E.ev x = a at *
  generalize E.ev y = b at *
  unfold binV at hv
  split at hv
  · rename_i k p k' q
    rw [guard_int, wpS_bind, wpS_pure]
    split at hv
    · rename_i hs; exact shiftBin_spec hs hv hk
    · rename_i hs
      split at hv
      · rename_i hkk; subst hkk
        exact intBin_spec (by rw [if_neg hs]; exact hv) hk
      · cases hv
  · rw [guard_str, wpS_bind, wpS_pure]
    exact strBin_spec hv hk
  · rw [guard_float, wpS_bind, wpS_pure]
    split at hv
    · rename_i hkk; subst hkk; exact floatBin_spec hv hk
    · cases hv
  · split at hv
    · obtain ⟨c, hc, rfl⟩ := Option.map_eq_some_iff.1 hv
      unfold eqBin at hc
      split at hc
      · rw [wpS_bind]
        refine aggGuard hc ?_
        show wpS P (do pure (.bool (← Op.equal t (.agg _) (.agg _))) : Sem Value) _ _ _
        rw [wpS_bind]
        exact eqAgg_spec hc hk
      · rw [wpS_bind]
        refine eqBin_guard hc ?_
        rw [eqBin_binOp_eql hc, wpS_bind]
        exact eqBin_spec hc hk
    · obtain ⟨c, hc, rfl⟩ := Option.map_eq_some_iff.1 hv
      unfold eqBin at hc
      split at hc
      · rw [wpS_bind]
        refine aggGuard hc ?_
        show wpS P (do pure (.bool (!(← Op.equal t (.agg _) (.agg _)))) : Sem Value) _ _ _
        rw [wpS_bind]
        exact eqAgg_spec hc hk
      · rw [wpS_bind]
        refine eqBin_guard hc ?_
        rw [eqBin_binOp_neq hc, wpS_bind]
        exact eqBin_spec hc hk
    · cases hv
theorem X_un {op : UnOp} {t : TypeId} {x : Operand} (h : optK (unV op (E.ev x)) fun v => K v st) : opW P W0 ⟨d, .unOp op t x, ty, pos, af, g⟩ E K Kp st := by
  obtain ⟨v, hv, hk⟩ := optK_iff.1 h
  clear h
  show wpS P _ _ _ _
  unfold execOp
  refine execOp_v ?_
  generalize E.ev x = a at *
  unfold unV at hv
  split at hv
  · injection hv with hv; subst hv; exact hk
  · injection hv with hv; subst hv; exact hk
  · injection hv with hv; subst hv; exact hk
  · cases hv
end

/-! ### Slices, as they are read -/
/-- The cells of n elements of a slice or of a text. -/
def srcCells (size : Nat) (st : Heap) : Value → Option (Nat × List Value)
  | .slice none n _ => if n = 0 then some (0, []) else none
  | .slice (some a) n _ => if n = 0 then some (0, []) else (lkN st a (n * size)).map fun l => (n, l)
  | .string s => if size = 1 then some (s.size, s.data.toList.map fun b => .int .u8 b.toNat) else none
  | _ => none
theorem src_spec {P : Program} {Kp : Value → Heap → Prop} {size n : Nat} {st : Heap} {x : Value} {l : List Value} (h : srcCells size st x = some (n, l)) :
    (∀ (K : Nat → Heap → Prop), K n st → wpS P (Builtin.lenOf x) K Kp st) ∧ (∀ (K : Array Value → Heap → Prop), K l.toArray st → wpS P (Builtin.firstCells size n x) K Kp st) := by
  unfold srcCells at h
  split at h
  · split at h
    · rename_i h0
      injection h with h; injection h with h1 h2; subst h1; subst h2; subst h0
      exact ⟨fun K hk => hk, fun K hk => hk⟩
    · cases h
  · split at h
    · rename_i h0
      injection h with h; injection h with h1 h2; subst h1; subst h2; subst h0
      exact ⟨fun K hk => hk, fun K hk => by unfold Builtin.firstCells; rw [Nat.zero_mul]; exact hk⟩
    · obtain ⟨l', hl, he⟩ := Option.map_eq_some_iff.1 h
      injection he with h1 h2; subst h1; subst h2
      exact ⟨fun K hk => hk, fun K hk => wpS_loadCells hl hk⟩
  · split at h
    · rename_i hs
      injection h with h; injection h with h1 h2; subst h1; subst h2
      refine ⟨fun K hk => hk, fun K hk => ?_⟩
      unfold Builtin.firstCells
      rename_i s
      have : (((s.extract 0 s.size).data.map fun b => Value.int .u8 b.toNat) : Array Value) = (s.data.toList.map fun b => Value.int .u8 b.toNat).toArray := by
        apply Array.ext'
        simp [ByteArray.data_extract]
      show K _ st
      rw [this]
      exact hk
    · cases h
  · cases h

/-! ### Lengths -/
def lenV (P : Program) (st : Heap) (t : TypeId) (x : Value) : Option Value :=
  match P.underlying t, x with
  | some .string, .string s => some (.int .i64 s.size)
  | some (.slice _), .slice _ n _ => some (.int .i64 n)
  | some (.map _ _), .map none => some (.int .i64 0)
  | some (.map _ _), .map (some r) => match st r with
    | some (.map _ es) => some (.int .i64 es.length)
    | _ => none
  | _, _ => none
theorem len_spec {P : Program} {K : Value → Heap → Prop} {Kp : Value → Heap → Prop} {st : Heap} {t r : TypeId} {x v : Value} (h : lenV P st t x = some v) (hk : K v st) : wpS P (Builtin.len_ #[t] r #[x]) K Kp st := by
  unfold lenV at h
  unfold Builtin.len_
  simp only [List.getElem?_toArray, List.getElem?_cons_zero]
  split at h
  · rename_i hu; injection h with h; subst h; rw [wpS_bind, wpS_underlying hu]; exact hk
  · rename_i hu; injection h with h; subst h; rw [wpS_bind, wpS_underlying hu]; exact hk
  · rename_i hu; injection h with h; subst h; rw [wpS_bind, wpS_underlying hu]; exact hk
  · rename_i hu
    split at h
    · rename_i r g es hes
      injection h with h; subst h
      rw [wpS_bind, wpS_underlying hu]
      simp only
      rw [wpS_bind]
      refine .inl ⟨g, es, hes, fun ents clock hm => ?_⟩
      have : ents.size = es.length := by rw [← hm.kv]; simp
      show K _ _
      rw [goInt, this]
      exact hk
    · cases h
  · cases h

/-! ### What is made -/
theorem wpS_newRow {P : Program} {Kp : Value → Heap → Prop} {st : Heap} {e : TypeId} {c : Array Value} {K : Addr → Heap → Prop} (h : ∀ b, st b = none → ∃ g : Tg, K ⟨b, 0, none⟩ (upd st b (.cells true c.toList c.size g))) : wpS P (newRow e c) K Kp st := by
  unfold newRow
  rw [wpS_bind]
  exact ⟨rfl, fun b hb => let ⟨g, h'⟩ := h b hb; ⟨_, g, List.prefix_rfl, h'⟩⟩
theorem wpS_newRow_le {P : Program} {Kp : Value → Heap → Prop} {st : Heap} {e : TypeId} {c : Array Value} {K : Addr → Heap → Prop} (xs : List Value) (hx : xs <+: c.toList) (h : ∀ b, st b = none → ∃ g : Tg, K ⟨b, 0, none⟩ (upd st b (.cells true xs c.size g))) : wpS P (newRow e c) K Kp st := by
  unfold newRow
  rw [wpS_bind]
  exact ⟨rfl, fun b hb => let ⟨g, h'⟩ := h b hb; ⟨xs, g, hx, h'⟩⟩
def newX (e : TypeId) (c : List Value) (K : Nat → Heap → Prop) (st : Heap) : Prop := ∀ b, st b = none → ∃ g : Tg, K b (upd st b (.cells true c c.length g))
def boxX (e : TypeId) (v : Value) (K : Value → Heap → Prop) (st : Heap) : Prop := newX e v.cells.toList (fun b st' => K (.pointer (some ⟨b, 0, none⟩)) st') st
def splice (l : List Value) (off : Nat) (v : List Value) : List Value := l.take off ++ (v ++ l.drop (off + v.length))
theorem splice_one (l : List Value) (off : Nat) (v : Value) (h : off < l.length) : splice l off [v] = l.set off v := by
  simp [splice, List.set_eq_take_append_cons_drop, h]
/-- Parts laid into zero cells. -/
def fillL (places : Nat → Option (Nat × Nat)) (cells : List Value) : List (Nat × Value) → Option (List Value)
  | [] => some cells
  | (i, v) :: rest => match places i with
    | none => none
    | some (off, size) => if v.cells.size = size ∧ off + size ≤ cells.length then fillL places (splice cells off v.cells.toList) rest else none
theorem foldl_splice (off : Nat) : ∀ (v : List Value) (j : Nat) (cs : Array Value), off + j + v.length ≤ cs.size →
    ((v.zipIdx j).foldl (fun cs (p : Value × Nat) => cs.setIfInBounds (off + p.2) p.1) cs).toList = splice cs.toList (off + j) v
  | [], j, cs, _ => by simp [splice]
  | x :: v, j, cs, h => by
    simp only [List.length_cons] at h
    rw [List.zipIdx_cons, List.foldl_cons]
    rw [foldl_splice off v (j + 1) _ (by simp; omega)]
    simp only [Array.toList_setIfInBounds, splice, List.length_cons]
    have hlt : off + j < cs.toList.length := by simp; omega
    rw [show off + (j + 1) = off + j + 1 from by omega]
    rw [List.take_add_one, List.take_set_of_le (Nat.le_refl _), List.getElem?_set_self hlt, List.drop_set_of_lt (by omega)]
    simp [Nat.add_assoc, Nat.add_comm 1]
theorem fill_eq (places : Nat → Option (Nat × Nat)) : ∀ (ps : List (Nat × Value)) (cells : Array Value) (out : List Value), fillL places cells.toList ps = some out → Instr.fill places cells ps = some out.toArray
  | [], cells, out, h => by
    injection h with h
    subst h
    simp [Instr.fill]
  | (i, v) :: rest, cells, out, h => by
    unfold fillL at h
    unfold Instr.fill
    split at h
    · cases h
    · rename_i off size hp
      split at h
      · rename_i hc
        obtain ⟨h1, h2⟩ := hc
        simp only [hp]
        rw [if_neg (by simp only [Array.length_toList] at h2; simp [h1]; omega)]
        refine fill_eq places rest _ out ?_
        have := foldl_splice off v.cells.toList 0 cells (by simp only [Array.length_toList] at h2 ⊢; omega)
        simp only [Nat.add_zero] at this
        have e2 : (Array.foldl (fun cs x => match x with | (c, j) => cs.setIfInBounds (off + j) c) cells v.cells.zipIdx).toList = splice cells.toList off v.cells.toList := by
          rw [← this, ← Array.foldl_toList, Array.toList_zipIdx]
        rw [e2]
        exact h
      · cases h
def buildV (P : Program) (t : TypeId) (parts : List (Nat × Value)) : Option Value :=
  match bldInfo P t with
  | some (z, ps) => (fillL (fun i => ps[i]?) z parts).map fun l => .agg l.toArray
  | none => none
theorem mapM_places {P : Program} {Kp : Value → Heap → Prop} {st : Heap} : ∀ (fs : List Field) (ps : List (Nat × Nat)) (K : List (Nat × Nat) → Heap → Prop), fs.mapM (fun x => (P.info? x.type).map (fun j => (x.offset, j.size))) = some ps → K ps st →
    wpS P (fs.mapM fun f => (do pure (f.offset, ← sizeOf f.type) : Sem (Nat × Nat))) K Kp st
  | [], ps, K, h, hk => by
    simp only [List.mapM_nil] at h ⊢
    injection h with h; subst h
    exact hk
  | f :: fs, ps, K, h, hk => by
    simp only [List.mapM_cons] at h ⊢
    obtain ⟨p, hp, h⟩ := Option.bind_eq_some_iff.1 h
    obtain ⟨qs, hq, h⟩ := Option.bind_eq_some_iff.1 h
    injection h with h; subst h
    obtain ⟨i, hi, rfl⟩ := Option.map_eq_some_iff.1 hp
    rw [wpS_bind, wpS_bind, wpS_sizeOf hi, wpS_pure, wpS_bind]
    exact mapM_places fs qs _ hq hk
theorem fillL_places {f g : Nat → Option (Nat × Nat)} (h : ∀ i p, f i = some p → g i = some p) : ∀ {parts : List (Nat × Value)} {z l : List Value}, fillL f z parts = some l → fillL g z parts = some l
  | [], z, l, hl => hl
  | (i, v) :: rest, z, l, hl => by
    unfold fillL at hl ⊢
    split at hl
    · cases hl
    · rename_i off size hp
      rw [h i _ hp]
      simp only
      split at hl
      · rename_i hc
        rw [if_pos hc]
        exact fillL_places h hl
      · cases hl
theorem build_spec {P : Program} {K : Value → Heap → Prop} {Kp : Value → Heap → Prop} {st : Heap} {t : TypeId} {parts : Array (Nat × Value)} {v : Value} (h : buildV P t parts.toList = some v) (hk : K v st) : wpS P (Instr.build t parts) K Kp st := by
  unfold buildV at h
  split at h
  · rename_i z ps hb
    obtain ⟨l, hl, rfl⟩ := Option.map_eq_some_iff.1 h
    unfold bldInfo at hb
    split at hb
    · rename_i fs i hu hi
      split at hb
      · rename_i zz qs hz hm
        injection hb with hb; injection hb with h1 h2; subst h1; subst h2
        unfold Instr.build
        have hz' : zeroOf P t = some zz := by simp [zeroOf, hi, hz]
        rw [wpS_bind, wpS_zeroValue hz', wpS_bind, wpS_underlying hu]
        simp only
        rw [wpS_bind, Array.mapM_eq_mapM_toList]
        rw [wpS_map]
        refine mapM_places _ _ _ hm ?_
        have := fill_eq (fun i => qs[i]?) parts.toList zz.cells l hl
        simp only [List.getElem?_toArray, this]
        exact hk
      · cases hb
    · rename_i n e i hu hi
      split at hb
      · rename_i zz j hz hj
        injection hb with hb; injection hb with h1 h2; subst h1; subst h2
        unfold Instr.build
        have hz' : zeroOf P t = some zz := by simp [zeroOf, hi, hz]
        rw [wpS_bind, wpS_zeroValue hz', wpS_bind, wpS_underlying hu]
        simp only
        rw [wpS_bind, wpS_sizeOf hj]
        have h2 := fillL_places (g := fun i => some (i * j.size, j.size)) (fun i p hp => by
          rw [List.getElem?_map] at hp
          obtain ⟨k, hk, rfl⟩ := Option.map_eq_some_iff.1 hp
          have hlt := (List.getElem?_eq_some_iff.1 hk).1
          rw [List.getElem?_range (by simpa using hlt)] at hk
          injection hk with hk
          subst hk
          rfl) hl
        have := fill_eq (fun i => some (i * j.size, j.size)) parts.toList zz.cells l h2
        simp only [this]
        exact hk
      · cases hb
    · cases hb
  · cases h
/-- Zero cells of n elements. -/
def zerosL (z : List Value) : Nat → List Value
  | 0 => []
  | n + 1 => z ++ zerosL z n
theorem zerosL_length (z : List Value) : ∀ n, (zerosL z n).length = n * z.length
  | 0 => by simp [zerosL]
  | n + 1 => by simp [zerosL, zerosL_length z n, Nat.succ_mul, Nat.add_comm]
theorem zerosL_eq (z : Array Value) (hz : 0 < z.size) : ∀ n, ((Array.range (n * z.size)).map fun i => z[i % z.size]!).toList = zerosL z.toList n := by
  have get : ∀ n i, i < n * z.size → (zerosL z.toList n)[i]? = some (z[i % z.size]!) := by
    intro n
    induction n with
    | zero => intro i h; simp at h
    | succ n ih =>
      intro i h
      unfold zerosL
      rcases Nat.lt_or_ge i z.size with hi | hi
      · rw [List.getElem?_append_left (by simpa using hi), Nat.mod_eq_of_lt hi]
        simp [hi]
      · rw [List.getElem?_append_right (by simpa using hi)]
        rw [Nat.succ_mul] at h
        have := ih (i - z.size) (by omega)
        rw [Array.length_toList, this]
        congr 2
        exact (Nat.mod_eq_sub_mod hi).symm
  intro n
  apply List.ext_getElem?
  intro i
  rcases Nat.lt_or_ge i (n * z.size) with h | h
  · rw [get n i h]
    simp [h]
  · rw [List.getElem?_eq_none (by simpa using h), List.getElem?_eq_none (by rw [zerosL_length]; simpa using h)]
def elemPlaces (size : Nat) : Nat → Option (Nat × Nat) := fun i => some (i * size, size)
def buildSliceX (P : Program) (t : TypeId) (len : Nat) (parts : List (Nat × Value)) (K : Value → Heap → Prop) (st : Heap) : Prop :=
  optK (slInfo P t) fun i => len * i.2.1 ≤ 16777216 ∧ optK (fillL (elemPlaces i.2.1) (zerosL i.2.2.2 len) parts) fun l => newX i.1 l (fun b st' => K (.slice (some ⟨b, 0, none⟩) len len) st') st
theorem slInfo_some {P : Program} {t : TypeId} {e size bytes : Nat} {z : List Value} (h : slInfo P t = some (e, size, bytes, z)) : P.underlying t = some (.slice e) ∧ ∃ i zv, P.info? e = some i ∧ i.size = size ∧ i.bytes = bytes ∧ i.zero = some zv ∧ zv.cells.toList = z ∧ zv.cells.size = size ∧ 0 < size ∧ 0 < bytes := by
  unfold slInfo at h
  split at h
  · rename_i e' hu
    split at h
    · rename_i i hi
      split at h
      · rename_i zv hz
        split at h
        · rename_i hc
          injection h with h; injection h with h1 h2; injection h2 with h2 h3; injection h3 with h3 h4
          subst h1; subst h2; subst h3; subst h4
          exact ⟨hu, i, zv, hi, rfl, rfl, hz, rfl, hc.1, hc.2.1, hc.2.2⟩
        · cases h
      · cases h
    · cases h
  · cases h
theorem buildSlice_spec {P : Program} {K : Value → Heap → Prop} {Kp : Value → Heap → Prop} {st : Heap} {t : TypeId} {len : Nat} {parts : Array (Nat × Value)} (h : buildSliceX P t len parts.toList K st) : wpS P (Instr.buildSlice t len parts) K Kp st := by
  obtain ⟨⟨e, size, bytes, z⟩, hi, hle, h⟩ := optK_iff.1 h
  obtain ⟨l, hl, h⟩ := optK_iff.1 h
  obtain ⟨hu, i, zv, hinfo, hsz, hby, hz, hzl, hzs, hpos, hbpos⟩ := slInfo_some hi
  simp only at hle hl h
  unfold Instr.buildSlice
  have hz' : zeroOf P e = some zv := by simp [zeroOf, hinfo, hz]
  rw [wpS_bind, wpS_underlying hu]
  simp only
  rw [wpS_bind, wpS_sizeOf hinfo, hsz]
  rw [if_neg (by omega)]
  have key : ∀ zz : Array Value, (len * size ≠ 0 → zz = zv.cells) → wpS P (match Instr.fill (fun i => some (i * size, size)) ((Array.range (len * size)).map (fun x => zz[x % zz.size]!)) parts.toList with
      | some cells => (do pure (.slice (some (← newRow e cells)) len len) : Sem Value)
      | _ => stuck "buildSlice: a part of the wrong size") K Kp st := by
    intro zz hzz
    have hcells : ((Array.range (len * size)).map (fun x => zz[x % zz.size]!)).toList = zerosL z len := by
      by_cases h0 : len * size = 0
      · have hl0 : len = 0 := by
          rcases Nat.mul_eq_zero.1 h0 with h | h
          · exact h
          · omega
        subst hl0
        simp [zerosL]
      · rw [hzz h0, ← hzs, ← hzl]
        exact zerosL_eq zv.cells (by omega) len
    have hf := fill_eq (elemPlaces size) parts.toList ((Array.range (len * size)).map (fun x => zz[x % zz.size]!)) l (by rw [hcells]; exact hl)
    unfold elemPlaces at hf
    rw [hf]
    simp only
    rw [wpS_bind]
    refine wpS_newRow fun b hb => ?_
    obtain ⟨g, this⟩ := h b hb
    refine ⟨g, ?_⟩
    rw [wpS_pure]
    simpa using this
  by_cases h0 : len * size = 0
  · rw [if_pos h0, wpS_bind, wpS_pure]
    exact key #[] (fun hne => absurd h0 hne)
  · rw [if_neg h0, wpS_bind, wpS_zeroValue hz', wpS_bind, wpS_pure]
    exact key zv.cells (fun _ => rfl)
section
variable {P : Program} {W0 : World} {E : Env} {K : Value → Heap → Prop} {Kp : List PanicEntry → Heap → Prop} {st : Heap} {d : Option Nat} {ty : TypeId} {pos : String} {af : Array Edge} {g : Option (Nat × Bool)}
theorem X_box {e : TypeId} {x : Operand} (h : boxX e (E.ev x) K st) : opW P W0 ⟨d, .box e x, ty, pos, af, g⟩ E K Kp st := by
  show wpS P _ _ _ _
  unfold execOp
  refine execOp_v ?_
  unfold Instr.box newVar
  rw [wpS_bind]
  refine wpS_newRow fun b hb => ?_
  obtain ⟨g, this⟩ := h b hb
  refine ⟨g, ?_⟩
  rw [wpS_pure]
  show K _ _
  simpa using this
theorem X_alloc {e : TypeId} (h : optK (zeroOf P e) fun z => boxX e z K st) : opW P W0 ⟨d, .alloc e, ty, pos, af, g⟩ E K Kp st := by
  obtain ⟨z, hz, h⟩ := optK_iff.1 h
  show wpS P _ _ _ _
  unfold execOp
  refine execOp_v ?_
  unfold Instr.alloc newVar
  rw [wpS_bind, wpS_zeroValue hz]
  simp only
  rw [wpS_bind]
  refine wpS_newRow fun b hb => ?_
  obtain ⟨g, this⟩ := h b hb
  refine ⟨g, ?_⟩
  rw [wpS_pure]
  show K _ _
  simpa using this
theorem X_build {t : TypeId} {parts : Array (Nat × Operand)} (h : optK (buildV P t (parts.toList.map fun p => (p.1, E.ev p.2))) fun v => K v st) : opW P W0 ⟨d, .build t parts, ty, pos, af, g⟩ E K Kp st := by
  obtain ⟨v, hv, h⟩ := optK_iff.1 h
  show wpS P _ _ _ _
  unfold execOp
  refine execOp_v (build_spec (v := v) ?_ h)
  simpa using hv
theorem X_buildSlice {t : TypeId} {len : Nat} {parts : Array (Nat × Operand)} (h : buildSliceX P t len (parts.toList.map fun p => (p.1, E.ev p.2)) K st) : opW P W0 ⟨d, .buildSlice t len parts, ty, pos, af, g⟩ E K Kp st := by
  show wpS P _ _ _ _
  unfold execOp
  refine execOp_v (buildSlice_spec ?_)
  show buildSliceX P t len _ K st
  simpa using h
end
end Go.Proofs.YtadgciaclhjjkaaGreat
set_option linter.unusedVariables false
set_option linter.unusedSimpArgs false
namespace Go.Proofs.YtadgciaclhjjkaaGreat
open Go.RowKit (Below)

theorem upd_upd (st : Heap) (b : Nat) (o o' : HObj) : upd (upd st b o) b o' = upd st b o' := by
  funext k; unfold upd; split <;> rfl
theorem upd_self {st : Heap} {b : Nat} {o : HObj} (h : st b = some o) : upd st b o = st := by
  funext k; unfold upd; split
  · rename_i hk; rw [hk, h]
  · rfl

/-! ### Several cells written one behind the other -/
theorem stN_onto {b : Nat} {n : Nat} {e : Tg} : ∀ (ys : List Value) (xs : List Value) (st : Heap), st b = some (.cells true xs n e) → xs.length + ys.length ≤ n → (∀ y ∈ ys, y.oneCell' = true) → stN st b xs.length ys = some (upd st b (.cells true (xs ++ ys) n e))
  | [], xs, st, hb, _, _ => by simp [stN, upd_self hb]
  | y :: ys, xs, st, hb, hn, h1 => by
    unfold stN
    simp only [List.length_cons] at hn
    rw [if_pos (h1 y (by simp))]
    have : stC st ⟨b, xs.length, none⟩ y = some (upd st b (.cells true (xs ++ [y]) n e)) := by
      unfold stC
      simp only [hb]
      rw [if_pos (by omega)]
      simp [putCell]
    rw [this]
    simp only [Option.bind_some]
    have ih := stN_onto ys (xs ++ [y]) (upd st b (.cells true (xs ++ [y]) n e)) (upd_same _ _ _) (by simp; omega) (fun z hz => h1 z (by simp [hz]))
    rw [List.length_append, List.length_singleton] at ih
    rw [ih, upd_upd]
    simp
theorem stN_splice {b : Nat} {n : Nat} {e : Tg} : ∀ (ys : List Value) (o : Nat) (xs : List Value) (st : Heap), st b = some (.cells true xs n e) → o + ys.length ≤ xs.length → xs.length ≤ n → (∀ y ∈ ys, y.oneCell' = true) → stN st b o ys = some (upd st b (.cells true (splice xs o ys) n e))
  | [], o, xs, st, hb, _, _, _ => by simp [stN, splice, upd_self hb]
  | y :: ys, o, xs, st, hb, ho, hn, h1 => by
    unfold stN
    simp only [List.length_cons] at ho
    rw [if_pos (h1 y (by simp))]
    have : stC st ⟨b, o, none⟩ y = some (upd st b (.cells true (xs.set o y) n e)) := by
      unfold stC
      simp only [hb]
      rw [if_pos (by omega)]
      have : o < xs.length := by omega
      simp [putCell, this]
    rw [this]
    simp only [Option.bind_some]
    rw [stN_splice ys (o + 1) (xs.set o y) (upd st b (.cells true (xs.set o y) n e)) (upd_same _ _ _) (by simp; omega) (by simpa using hn) (fun z hz => h1 z (by simp [hz])), upd_upd]
    congr 3
    have hlt : o < xs.length := by omega
    simp only [splice, List.length_cons]
    rw [List.take_add_one, List.take_set_of_le (Nat.le_refl _), List.getElem?_set_self hlt, List.drop_set_of_lt (by omega)]
    simp [Nat.add_assoc, Nat.add_comm 1]

theorem lkN_length {st : Heap} {a : Addr} {n : Nat} {l : List Value} (h : lkN st a n = some l) : l.length = n := by
  unfold lkN at h
  split at h
  · cases h
  · split at h
    · injection h with h; subst h; simp; omega
    · cases h
theorem src_length {size n : Nat} {st : Heap} {x : Value} {l : List Value} (h : srcCells size st x = some (n, l)) : l.length = n * size := by
  unfold srcCells at h
  split at h
  · split at h
    · rename_i h0; injection h with h; injection h with h1 h2; subst h1; subst h2; simp
    · cases h
  · split at h
    · rename_i h0; injection h with h; injection h with h1 h2; subst h1; subst h2; simp
    · obtain ⟨l', hl', he⟩ := Option.map_eq_some_iff.1 h
      injection he with h1 h2; subst h1; subst h2
      exact lkN_length hl'
  · split at h
    · rename_i s hs; injection h with h; injection h with h1 h2; subst h1; subst h2; subst hs; simp
    · cases h
  · cases h
theorem src_slice {size n len cap : Nat} {st : Heap} {base : Option Addr} {l : List Value} (h : srcCells size st (.slice base len cap) = some (n, l)) : n = len := by
  cases base with
  | none =>
    simp only [srcCells] at h
    split at h
    · rename_i h0; injection h with h; injection h with h1 h2; omega
    · cases h
  | some a =>
    simp only [srcCells] at h
    split at h
    · rename_i h0; injection h with h; injection h with h1 h2; omega
    · obtain ⟨l', hl', he⟩ := Option.map_eq_some_iff.1 h
      injection he with h1 h2; exact h1.symm

/-! ### append -/
def appX (P : Program) (t : TypeId) (v x : Value) (K : Value → Heap → Prop) (st : Heap) : Prop :=
  optK (slInfo P t) fun i => match v with
  | .slice base len cap => optK (srcCells i.2.1 st x) fun s =>
    if s.1 = 0 ∧ len ≤ cap then K v st else
    (len + s.1) * i.2.2.1 ≤ 140737488355328 ∧
    (len + s.1 ≤ cap → match base with
      | some a => a.spot = none ∧ ∃ xs n e, st a.block = some (.cells true xs n e) ∧ xs.length = a.off + len * i.2.1 ∧ a.off + cap * i.2.1 ≤ n ∧ (∀ y ∈ s.2, y.oneCell' = true) ∧ K (.slice base (len + s.1) cap) (upd st a.block (.cells true (xs ++ s.2) n e))
      | none => False) ∧
    (cap < len + s.1 → optK (srcCells i.2.1 st v) fun o => ∀ b c, st b = none → len + s.1 ≤ c → ∃ g : Tg, K (.slice (some ⟨b, 0, none⟩) (len + s.1) c) (upd st b (.cells true (o.2 ++ s.2) (c * i.2.1) g)))
  | _ => False
theorem wpS_mark {P : Program} {K : Unit → Heap → Prop} {Kp : Value → Heap → Prop} {st : Heap} (n : Nat) : wpS P (askRoom n) K Kp st = K () st := by
  unfold askRoom; split <;> rfl
theorem append_spec {P : Program} {K : Value → Heap → Prop} {Kp : Value → Heap → Prop} {st : Heap} {t r : TypeId} {v x : Value} (h : appX P t v x K st) : wpS P (Builtin.append_ #[t, t] r #[v, x]) K Kp st := by
  obtain ⟨⟨e, size, bytes, z⟩, hi, h⟩ := optK_iff.1 h
  obtain ⟨hu, i, zv, hinfo, hsz, hby, hz, hzl, hzs, hpos, hbpos⟩ := slInfo_some hi
  have hz' : zeroOf P e = some zv := by simp [zeroOf, hinfo, hz]
  cases v with
  | slice base len cap =>
    obtain ⟨⟨m, ys⟩, hs, h⟩ := optK_iff.1 h
    simp only at hs h
    obtain ⟨hl, hf⟩ := src_spec (P := P) (Kp := Kp) hs
    unfold Builtin.append_
    simp only [List.getElem?_toArray, List.getElem?_cons_zero, List.getElem?_cons_succ]
    rw [wpS_bind, wpS_underlying hu]
    simp only
    rw [wpS_bind, wpS_sizeOf hinfo, hsz, wpS_bind, wpS_underlying hu]
    simp only
    rw [wpS_bind, wpS_pure]
    simp only [Bool.false_eq_true, if_false, Bool.not_false, if_true]
    rw [wpS_bind]
    refine hl _ ?_
    by_cases h0 : m = 0 ∧ len ≤ cap
    · rw [if_pos h0] at h
      obtain ⟨rfl, hle⟩ := h0
      rw [if_pos (by omega), wpS_bind]
      refine hf _ ?_
      have hys : ys = [] := List.eq_nil_of_length_eq_zero (by simpa using src_length hs)
      subst hys
      cases base with
      | none => simpa [wpS_bind, wpS_pure] using h
      | some a => simpa [wpS_bind, wpS_pure, storeCells] using h
    · rw [if_neg h0] at h
      obtain ⟨hbytes, hin, hnew⟩ := h
      by_cases hle : len + m ≤ cap
      · have h := hin hle
        rw [if_pos hle, wpS_bind]
        refine hf _ ?_
        cases base with
        | none => exact h.elim
        | some a =>
          obtain ⟨hsp, xs, n, e', hb, hxl, hcap, h1, hk⟩ := h
          have hyl := src_length hs
          obtain ⟨b, o, sp⟩ := a
          simp only at hsp hb hxl hcap hk
          subst hsp
          simp only
          rw [wpS_bind, add_mk]
          refine wpS_storeCells b ys (o + len * size) 0 st _ _ ?_ hk
          have hmul : (len + m) * size ≤ cap * size := Nat.mul_le_mul_right _ hle
          rw [Nat.add_mul] at hmul
          have := stN_onto ys xs st hb (by omega) h1
          rwa [hxl] at this
      · rw [if_neg hle]
        have hlt : cap < len + m := by omega
        obtain ⟨⟨ol, os⟩, ho, h⟩ := optK_iff.1 (hnew hlt)
        simp only at ho h
        have hol := src_length ho
        have hyl := src_length hs
        have hol' := src_slice ho
        subst hol'
        have hneed : ol + m ≤ 140737488355328 := Nat.le_trans (Nat.le_mul_of_pos_right _ hbpos) hbytes
        rw [wpS_bind, wpS_typeInfo hinfo]
        rw [if_neg (by simp only [Bool.false_eq_true, false_or]; rintro ⟨_, h⟩; omega)]
        rw [wpS_bind, wpS_typeInfo hinfo, hby]
        rw [if_neg (by have := growslice_fits hlt hbytes; omega)]
        rw [wpS_bind]
        show wpS P (Sem.choose _ Sem.pure) _ _ _
        unfold wpS
        rw [if_neg (by simp [Question.forced])]
        intro c0
        generalize hc : (Question.appendCap (ol + m) cap e).cut c0 = c
        have hcle : ol + m ≤ c := by rw [← hc]; simp [Question.cut]
        rw [wpS_pure', wpS_bind, wpS_typeInfo hinfo, wpS_bind, wpS_mark, wpS_bind]
        refine (src_spec (P := P) (Kp := Kp) ho).2 _ ?_
        rw [wpS_bind]
        refine hf _ ?_
        rw [wpS_bind, wpS_zeroValue hz', wpS_bind]
        refine wpS_newRow_le (os ++ ys) ?_ fun b hb => ?_
        · exact ⟨_, by simp [Array.toList_append]; rfl⟩
        · obtain ⟨g, hk⟩ := h b c hb hcle
          refine ⟨g, ?_⟩
          rw [wpS_pure]
          have hsize : (os.toArray ++ ys.toArray ++ Builtin.zeroCells zv.cells (c - (ol + m))).size = c * size := by
            have e1 : os.length = ol * size := hol
            have e2 : ys.length = m * size := hyl
            have e3 : (Builtin.zeroCells zv.cells (c - (ol + m))).size = (c - (ol + m)) * size := by simp [Builtin.zeroCells, hzs]
            simp only [Array.size_append, List.size_toArray, e1, e2, e3, ← Nat.add_mul]
            congr 1
            omega
          rw [hsize]
          exact hk
  | _ => exact h.elim
end Go.Proofs.YtadgciaclhjjkaaGreat
set_option linter.unusedVariables false
set_option linter.unusedSimpArgs false
namespace Go.Proofs.YtadgciaclhjjkaaGreat
open Go.RowKit (Below)

/-! ### Bytes -/
def bytesV (l : List UInt8) : List Value := l.map fun b => .int .u8 b.toNat
def byteOf : Value → Option UInt8
  | .int .u8 n => some (UInt8.ofNat n.toNat)
  | _ => none
theorem wpS_pushBytes {P : Program} {Kp : Value → Heap → Prop} {st : Heap} : ∀ (l : List Value) (bs : List UInt8) (s : ByteArray) (K : ByteArray → Heap → Prop), l.mapM byteOf = some bs → K ⟨s.data ++ bs.toArray⟩ st →
    wpS P (forIn l s fun c s => (match c with | .int .u8 n => pure (ForInStep.yield (s.push (UInt8.ofNat n.toNat))) | _ => stuck "bytesToString: byte expected" : Sem (ForInStep ByteArray))) K Kp st
  | [], bs, s, K, h, hk => by
    simp only [List.mapM_nil] at h
    injection h with h; subst h
    simpa [wpS_pure] using hk
  | c :: l, bs, s, K, h, hk => by
    simp only [List.mapM_cons] at h
    obtain ⟨x, hx, h⟩ := Option.bind_eq_some_iff.1 h
    obtain ⟨xs, hxs, h⟩ := Option.bind_eq_some_iff.1 h
    injection h with h; subst h
    rw [List.forIn_cons, wpS_bind]
    unfold byteOf at hx
    split at hx
    · injection hx with hx; subst hx
      rw [wpS_pure]
      refine wpS_pushBytes l xs _ K hxs ?_
      rename_i v n _
      have e : (s.push (UInt8.ofNat n.toNat)).data ++ xs.toArray = s.data ++ ((UInt8.ofNat n.toNat) :: xs).toArray := by
        apply Array.ext'
        simp [ByteArray.push]
      rw [e]
      exact hk
    · cases hx
/-- A slice of bytes as a text. -/
def textOf (st : Heap) : Value → Option ByteArray
  | .slice none _ _ => some .empty
  | .slice (some a) len _ => if len = 0 then some .empty else (lkN st a len).bind fun l => (l.mapM byteOf).map fun bs => ⟨bs.toArray⟩
  | _ => none
theorem toString_spec {P : Program} {Kp : Value → Heap → Prop} {st : Heap} {x : Value} {s : ByteArray} {K : Value → Heap → Prop} (h : textOf st x = some s) (hk : K (.string s) st) : wpS P (Conv.bytesToString x) K Kp st := by
  unfold textOf at h
  unfold Conv.bytesToString
  split at h
  · injection h with h; subst h; exact hk
  · split at h
    · rename_i h0; subst h0
      injection h with h; subst h
      exact hk
    obtain ⟨l, hl, h⟩ := Option.bind_eq_some_iff.1 h
    obtain ⟨bs, hbs, rfl⟩ := Option.map_eq_some_iff.1 h
    simp only
    rw [wpS_bind]
    refine wpS_loadCells hl ?_
    rw [wpS_bind]
    have e : (fun (a : ByteArray) st => wpS P (pure (Value.string a) : Sem Value) K Kp st) = fun a st => K (.string a) st := rfl
    rw [e]
    have := wpS_pushBytes (P := P) (Kp := Kp) (st := st) l bs ByteArray.empty (fun a st => K (.string a) st) hbs (by
      have e0 : (⟨ByteArray.empty.data ++ bs.toArray⟩ : ByteArray) = ⟨bs.toArray⟩ := by
        show (⟨#[] ++ bs.toArray⟩ : ByteArray) = ⟨bs.toArray⟩
        rw [Array.empty_append]
      rw [e0]; exact hk)
    rw [← List.forIn_toArray] at this
    exact this
  · cases h
def convX (P : Program) (src dst : TypeId) (x : Value) (K : Value → Heap → Prop) (st : Heap) : Prop :=
  match P.underlying dst, x with
  | some (.int k), .int _ n => (∃ d, P.underlying src = some d) ∧ K (.int k (k.wrap n)) st
  | some .string, .string s => (P.underlying src = some .string) ∧ K (.string s) st
  | some (.slice e), .string s => (P.underlying src = some .string) ∧ P.underlying e = some (.int .u8) ∧ ∀ b c, st b = none → s.size ≤ c → ∃ g : Tg, K (.slice (some ⟨b, 0, none⟩) s.size c) (upd st b (.cells true (bytesV s.data.toList) c g))
  | some (.slice e), .slice (some a) _ _ => src = dst ∧ P.underlying e = some (.int .u8) ∧ (∃ xs n e, st a.block = some (.cells true xs n e)) ∧ K x st
  | some .string, .slice a n c => (∃ e, P.underlying src = some (.slice e) ∧ P.underlying e = some (.int .u8)) ∧ optK (textOf st (.slice a n c)) fun s => K (.string s) st
  | _, _ => False
section
variable {P : Program} {W0 : World} {E : Env} {K : Value → Heap → Prop} {Kp : List PanicEntry → Heap → Prop} {st : Heap} {d : Option Nat} {ty : TypeId} {pos : String} {af : Array Edge} {g : Option (Nat × Bool)}
theorem toBytes_spec {Kp : Value → Heap → Prop} {e : TypeId} {s : ByteArray} {K : Value → Heap → Prop} (h : ∀ b c, st b = none → s.size ≤ c → ∃ g : Tg, K (.slice (some ⟨b, 0, none⟩) s.size c) (upd st b (.cells true (bytesV s.data.toList) c g))) : wpS P (Conv.stringToBytes e s) K Kp st := by
  unfold Conv.stringToBytes
  rw [wpS_bind]
  show wpS P (Sem.choose _ Sem.pure) _ _ _
  unfold wpS
  rw [if_neg (by simp [Question.forced])]
  intro c0
  generalize hc : (Question.appendCap s.size 0 e).cut c0 = c
  have hcle : s.size ≤ c := by rw [← hc]; simp [Question.cut]
  rw [wpS_pure', wpS_bind]
  refine wpS_newRow_le (bytesV s.data.toList) ?_ fun b hb => ?_
  · exact ⟨_, by simp [bytesV]; rfl⟩
  · have hsize : ((s.data.map fun b => Value.int .u8 b.toNat) ++ Array.replicate (c - s.size) (Value.int .u8 0)).size = c := by
      simp; omega
    rw [hsize]
    obtain ⟨g, h⟩ := h b c hb hcle
    refine ⟨g, ?_⟩
    rw [wpS_bind]
    unfold markStringish
    rw [wpS_bind]
    refine .inl ⟨true, _, _, _, upd_same _ _ _, fun tt => ?_⟩
    simp only
    exact ⟨_, _, _, upd_same _ _ _, Nat.le_refl _, h⟩
theorem X_conv {src dst : TypeId} {x : Operand} (h : convX P src dst (E.ev x) K st) : opW P W0 ⟨d, .convert src dst x, ty, pos, af, g⟩ E K Kp st := by
  show wpS P _ _ _ _
  unfold execOp
  refine execOp_v ?_
  show wpS P _ K _ st
  generalize E.ev x = a at *
  unfold convX at h
  unfold convert
  split at h
  · rename_i k kk n hd
    obtain ⟨⟨ds, hs⟩, h⟩ := h
    rw [wpS_bind, wpS_underlying hs, wpS_bind, wpS_underlying hd]
    cases ds <;> exact h
  · rename_i s hd
    obtain ⟨hs, h⟩ := h
    rw [wpS_bind, wpS_underlying hs, wpS_bind, wpS_underlying hd]
    exact h
  · rename_i e s hd
    obtain ⟨hs, he, h⟩ := h
    rw [wpS_bind, wpS_underlying hs, wpS_bind, wpS_underlying hd]
    simp only
    rw [wpS_bind, wpS_underlying he]
    exact toBytes_spec h
  · rename_i e a n c hd
    obtain ⟨hsd, he, ⟨xs, n', e', hb⟩, h⟩ := h
    subst hsd
    rw [wpS_bind, wpS_underlying hd, wpS_bind, wpS_underlying hd]
    simp only
    rw [wpS_bind, wpS_underlying he]
    simp only [beq_self_eq_true]
    rw [wpS_bind]
    unfold markStringish
    rw [wpS_bind]
    refine .inl ⟨true, _, _, _, hb, fun tt => ?_⟩
    exact ⟨_, _, _, hb, Nat.le_refl _, h⟩
  · rename_i b n c hd
    obtain ⟨⟨e, hs, he⟩, h⟩ := h
    obtain ⟨s, ht, h⟩ := optK_iff.1 h
    rw [wpS_bind, wpS_underlying hs, wpS_bind, wpS_underlying hd]
    simp only
    rw [wpS_bind, wpS_underlying he]
    exact toString_spec ht h
  · exact h.elim

/-! ### Places in slices, arrays, texts -/
def indexAddrX (P : Program) (t : TypeId) (x i : Value) (K : Value → Heap → Prop) (st : Heap) : Prop :=
  match x, i with
  | .slice (some a) len _, .int _ n => optK (slInfo P t) fun s => 0 ≤ n ∧ n < len ∧ K (.pointer (some (a.add (n.toNat * s.2.1)))) st
  | .pointer (some a), .int _ n => optK (arrInfo P t) fun s => 0 ≤ n ∧ n < s.1 ∧ K (.pointer (some (a.add (n.toNat * s.2.2.1)))) st
  | _, _ => False
theorem arrInfo_some {P : Program} {t : TypeId} {n k : Nat} {ag : Bool} {z : List Value} (h : arrInfo P t = some (n, ag, k, z)) : ∃ e, P.underlying t = some (.array n e) ∧ tyInfo P e = some (ag, k) := by
  unfold arrInfo at h
  split at h
  · rename_i n' e hu
    split at h
    · rename_i a k' zz he hz
      injection h with h; injection h with h1 h2; injection h2 with h2 h3; injection h3 with h3 h4
      subst h1; subst h2; subst h3
      exact ⟨e, hu, he⟩
    · cases h
  · cases h
theorem X_indexAddr {t : TypeId} {x i : Operand} (h : indexAddrX P t (E.ev x) (E.ev i) K st) : opW P W0 ⟨d, .indexAddr t x i, ty, pos, af, g⟩ E K Kp st := by
  show wpS P _ _ _ _
  unfold execOp
  refine execOp_v ?_
  show wpS P _ K _ st
  generalize E.ev x = a at *
  generalize E.ev i = b at *
  unfold indexAddrX at h
  unfold Instr.indexAt
  split at h
  · rename_i ad len cap k n
    obtain ⟨⟨e, size, bytes, z⟩, hi, h⟩ := optK_iff.1 h
    obtain ⟨hu, inf, zv, hinfo, hsz, _⟩ := slInfo_some hi
    obtain ⟨h0, h1, h⟩ := h
    simp only [asIntOf]
    rw [wpS_bind, wpS_pure]
    simp only
    rw [wpS_bind, wpS_underlying hu]
    simp only
    rw [wpS_bind, wpS_pure]
    simp only
    rw [wpS_bind, wpS_underlying hu]
    simp only
    rw [if_pos ⟨h0, h1⟩, wpS_bind, wpS_sizeOf hinfo, hsz]
    exact h
  · rename_i ad k n
    obtain ⟨⟨m, ag, size, z⟩, hi, h⟩ := optK_iff.1 h
    obtain ⟨e, hu, hte⟩ := arrInfo_some hi
    obtain ⟨h0, h1, h⟩ := h
    simp only [asIntOf]
    rw [wpS_bind, wpS_pure]
    simp only
    rw [wpS_bind, wpS_underlying hu]
    simp only [Instr.sureAddr]
    rw [wpS_bind, wpS_pure, wpS_bind, wpS_pure]
    simp only
    rw [wpS_bind, wpS_underlying hu]
    simp only
    rw [if_pos ⟨h0, h1⟩, wpS_bind, wpS_size hte]
    exact h
  · exact h.elim
def btOf (s : ByteArray) (n : Int) : Int := ((s.data.toList[n.toNat]?).map fun b => (b.toNat : Int)).getD 0
def indexX (P : Program) (t : TypeId) (x i : Value) (K : Value → Heap → Prop) (st : Heap) : Prop :=
  match x, i with
  | .string s, .int _ n => P.underlying t = some .string ∧ 0 ≤ n ∧ n < s.size ∧ K (.int .u8 (btOf s n)) st
  | .agg cs, .int _ n => optK (arrInfo P t) fun s => 0 ≤ n ∧ n < s.1 ∧ (if s.2.1 = true then K (.agg (cs.extract (n.toNat * s.2.2.1) (n.toNat * s.2.2.1 + s.2.2.1))) st else optK cs[n.toNat * s.2.2.1]? fun u => K u st)
  | _, _ => False
theorem X_index {t : TypeId} {x i : Operand} (h : indexX P t (E.ev x) (E.ev i) K st) : opW P W0 ⟨d, .index t x i, ty, pos, af, g⟩ E K Kp st := by
  show wpS P _ _ _ _
  unfold execOp
  refine execOp_v ?_
  show wpS P _ K _ st
  generalize E.ev x = a at *
  generalize E.ev i = b at *
  unfold indexX at h
  unfold Instr.index
  split at h
  · rename_i s k n
    obtain ⟨hu, h0, h1, h⟩ := h
    simp only [asIntOf]
    rw [wpS_bind, wpS_pure]
    simp only
    rw [wpS_bind, wpS_underlying hu]
    simp only
    rw [if_pos h0]
    have hlt : n.toNat < s.size := by omega
    have : s[n.toNat]? = some s[n.toNat] := getElem?_pos s n.toNat hlt
    rw [this]
    have hb : btOf s n = (s[n.toNat].toNat : Int) := by
      unfold btOf
      have hl : n.toNat < s.data.toList.length := by simpa using hlt
      rw [List.getElem?_eq_getElem hl]
      rfl
    rw [hb] at h
    exact h
  · rename_i cs k n
    obtain ⟨⟨m, ag, size, z⟩, hi, h⟩ := optK_iff.1 h
    obtain ⟨e, hu, hte⟩ := arrInfo_some hi
    obtain ⟨h0, h1, h⟩ := h
    simp only [asIntOf]
    rw [wpS_bind, wpS_pure]
    simp only
    rw [wpS_bind, wpS_underlying hu]
    simp only
    rw [if_pos ⟨h0, h1⟩, wpS_bind, wpS_size hte]
    exact part_get hte h
  · exact h.elim
def bnd (x : Option Value) (dflt : Nat) : Option Nat :=
  match x with
  | none => some dflt
  | some (.int _ n) => if 0 ≤ n then some n.toNat else none
  | _ => none
theorem bound_spec {Kp : Value → Heap → Prop} {v : Value} {dflt y n : Nat} {code : BoundsCode} {K : Nat → Heap → Prop} (h : bnd (some v) dflt = some n) (hy : n ≤ y) (hk : K n st) : wpS P (Instr.sliceBound v y code) K Kp st := by
  unfold bnd at h
  split at h
  · cases v <;> simp_all
  · rename_i k m hv
    injection hv with hv; subst hv
    split at h
    · rename_i h0
      injection h with h; subst h
      unfold Instr.sliceBound
      simp only [asIntOf]
      rw [wpS_bind, wpS_pure]
      simp only
      rw [if_pos ⟨h0, by omega⟩]
      exact hk
    · cases h
  · cases h
def sliceX (P : Program) (t : TypeId) (x : Value) (lo hi mx : Option Value) (K : Value → Heap → Prop) (st : Heap) : Prop :=
  match x with
  | .string s => P.underlying t = some .string ∧ mx = none ∧ optK (bnd hi s.size) fun h => h ≤ s.size ∧ optK (bnd lo 0) fun l => l ≤ h ∧ K (.string (s.extract l h)) st
  | .slice a len cap => (mx = none ∨ hi ≠ none) ∧ optK (slInfo P t) fun s => optK (bnd mx cap) fun m => m ≤ cap ∧ optK (bnd hi len) fun h => (h ≤ m ∨ hi = none) ∧ optK (bnd lo 0) fun l => l ≤ h ∧
      K (.slice (if m = l then a else a.map (·.add (l * s.2.1))) (h - l) (m - l)) st
  | .pointer (some a) => (mx = none ∨ hi ≠ none) ∧ optK (arrInfo P t) fun s => optK (bnd mx s.1) fun m => m ≤ s.1 ∧ optK (bnd hi s.1) fun h => (h ≤ m ∨ hi = none) ∧ optK (bnd lo 0) fun l => l ≤ h ∧
      K (.slice (if m = l then some a else (some a).map (·.add (l * s.2.2.1))) (h - l) (m - l)) st
  | _ => False
theorem bounds_spec {Kp : Value → Heap → Prop} {isS : Bool} {len cap m h l : Nat} {lo hi mx : Option Value} {K : Nat × Nat × Nat → Heap → Prop} (hm : bnd mx cap = some m) (hmc : m ≤ cap) (hh : bnd hi len = some h) (hhm : h ≤ m ∨ hi = none) (hl : bnd lo 0 = some l) (hlh : l ≤ h)
    (hor : mx = none ∨ hi ≠ none) (hk : K (l, h, m) st) : wpS P (Instr.sliceBounds isS len cap lo hi mx) K Kp st := by
  unfold Instr.sliceBounds
  cases mx with
  | none =>
    injection hm with hm; subst hm
    cases hi with
    | none =>
      injection hh with hh; subst hh
      dsimp only
      rw [wpS_bind, wpS_pure, wpS_bind, wpS_pure]
      cases lo with
      | none => injection hl with hl; subst hl; exact hk
      | some v =>
        dsimp only
        rw [wpS_bind]
        exact bound_spec hl hlh hk
    | some u =>
      have hle : h ≤ cap := by
        rcases hhm with h | h
        · exact h
        · cases h
      dsimp only
      rw [wpS_bind, wpS_pure, wpS_bind]
      refine bound_spec hh hle ?_
      cases lo with
      | none => injection hl with hl; subst hl; exact hk
      | some v =>
        dsimp only
        rw [wpS_bind]
        exact bound_spec hl hlh hk
  | some x =>
    cases hi with
    | none => rcases hor with h | h <;> simp at h
    | some u =>
      have hle : h ≤ m := by
        rcases hhm with h | h
        · exact h
        · cases h
      dsimp only
      rw [wpS_bind]
      refine bound_spec hm hmc ?_
      rw [wpS_bind]
      refine bound_spec hh hle ?_
      cases lo with
      | none => injection hl with hl; subst hl; exact hk
      | some v =>
        dsimp only
        rw [wpS_bind]
        exact bound_spec hl hlh hk
theorem X_slice {t : TypeId} {x : Operand} {lo hi mx : Option Operand} (h : sliceX P t (E.ev x) (lo.map E.ev) (hi.map E.ev) (mx.map E.ev) K st) : opW P W0 ⟨d, .slice t x lo hi mx, ty, pos, af, g⟩ E K Kp st := by
  show wpS P _ _ _ _
  unfold execOp
  refine execOp_v ?_
  show wpS P _ K _ st
  generalize E.ev x = a at *
  generalize lo.map E.ev = lo' at *
  generalize hi.map E.ev = hi' at *
  generalize mx.map E.ev = mx' at *
  unfold sliceX at h
  unfold Instr.sliceAt Instr.slice
  split at h
  · obtain ⟨hu, rfl, h⟩ := h
    obtain ⟨hh, h1, h⟩ := optK_iff.1 h
    obtain ⟨h2, h⟩ := h
    obtain ⟨l, h3, h⟩ := optK_iff.1 h
    obtain ⟨h4, h⟩ := h
    rw [wpS_bind, wpS_underlying hu]
    simp only
    rw [wpS_bind, wpS_underlying hu]
    simp only [Option.isSome_none, Bool.false_eq_true, if_false]
    rw [wpS_bind]
    exact bounds_spec rfl (Nat.le_refl _) h1 (.inl h2) h3 h4 (.inl rfl) h
  · obtain ⟨hor, h⟩ := h
    obtain ⟨⟨e, size, bytes, z⟩, hi0, h⟩ := optK_iff.1 h
    obtain ⟨hu, inf, zv, hinfo, hsz, _⟩ := slInfo_some hi0
    obtain ⟨m, h1, h2, h⟩ := optK_iff.1 h
    obtain ⟨hh, h3, h4, h⟩ := optK_iff.1 h
    obtain ⟨l, h5, h6, h⟩ := optK_iff.1 h
    rw [wpS_bind, wpS_underlying hu]
    simp only
    rw [wpS_bind, wpS_underlying hu]
    simp only
    rw [wpS_bind]
    refine bounds_spec h1 h2 h3 h4 h5 h6 hor ?_
    rw [wpS_bind, wpS_sizeOf hinfo, hsz]
    exact h
  · rename_i ad
    obtain ⟨hor, h⟩ := h
    obtain ⟨⟨n, ag, size, z⟩, hi0, h⟩ := optK_iff.1 h
    obtain ⟨e, hu, hte⟩ := arrInfo_some hi0
    obtain ⟨m, h1, h2, h⟩ := optK_iff.1 h
    obtain ⟨hh, h3, h4, h⟩ := optK_iff.1 h
    obtain ⟨l, h5, h6, h⟩ := optK_iff.1 h
    rw [wpS_bind, wpS_underlying hu]
    simp only [Instr.sureAddr]
    rw [wpS_bind, wpS_pure, wpS_bind]
    refine bounds_spec h1 h2 h3 h4 h5 h6 hor ?_
    rw [wpS_bind, wpS_size hte]
    have he : (if m = l then some ad else (some ad).map (·.add (l * size))) = some (if m = l then ad else ad.add (l * size)) := by split <;> rfl
    rw [he] at h
    exact h
  · exact h.elim
end
end Go.Proofs.YtadgciaclhjjkaaGreat
set_option linter.unusedVariables false
set_option linter.unusedSimpArgs false
namespace Go.Proofs.YtadgciaclhjjkaaGreat
open Go.RowKit (Below)

/-! ### copy -/
def copyX (P : Program) (t : TypeId) (dst src : Value) (K : Value → Heap → Prop) (st : Heap) : Prop :=
  optK (slInfo P t) fun i => match dst with
  | .slice base dl cap => optK (srcCells i.2.1 st src) fun s =>
      match base with
      | some a => optK (stN st a.block a.off (s.2.take (Nat.min s.1 dl * i.2.1))) fun st' => a.spot = none ∧ K (.int .i64 (Nat.min s.1 dl)) st'
      | none => K (.int .i64 (Nat.min s.1 dl)) st
  | _ => False
theorem src_first {P : Program} {Kp : Value → Heap → Prop} {size n m : Nat} {st : Heap} {x : Value} {l : List Value} (h : srcCells size st x = some (n, l)) (hm : m ≤ n) {K : Array Value → Heap → Prop} (hk : K (l.take (m * size)).toArray st) : wpS P (Builtin.firstCells size m x) K Kp st := by
  unfold srcCells at h
  split at h
  · split at h
    · injection h with h; injection h with h1 h2; subst h2
      show K #[] st
      simpa using hk
    · cases h
  · rename_i a n' c
    split at h
    · rename_i h0
      injection h with h; injection h with h1 h2; subst h1; subst h2
      have hm0 : m = 0 := by omega
      subst hm0
      unfold Builtin.firstCells
      rw [Nat.zero_mul]
      simp only [Nat.zero_mul, List.take_nil] at hk
      exact hk
    obtain ⟨l', hl, he⟩ := Option.map_eq_some_iff.1 h
    injection he with h1 h2; subst h1; subst h2
    refine wpS_loadCells (l := l'.take (m * size)) ?_ hk
    have hmul : m * size ≤ n' * size := Nat.mul_le_mul_right _ hm
    unfold lkN at hl ⊢
    split at hl
    · cases hl
    · split at hl
      · rename_i hs hle
        injection hl with hl; subst hl
        rw [if_pos (by omega), List.take_take, Nat.min_eq_left hmul]
      · cases hl
  · split at h
    · rename_i s hs
      injection h with h; injection h with h1 h2; subst h1; subst h2; subst hs
      unfold Builtin.firstCells
      have : (((s.extract 0 m).data.map fun b => Value.int .u8 b.toNat) : Array Value) = ((s.data.toList.map fun b => Value.int .u8 b.toNat).take (m * 1)).toArray := by
        apply Array.ext'
        simp [ByteArray.data_extract, List.map_take]
      show K _ st
      rw [this]
      exact hk
    · cases h
  · cases h
theorem copy_spec {P : Program} {K : Value → Heap → Prop} {Kp : Value → Heap → Prop} {st : Heap} {t u r : TypeId} {dst src : Value} (h : copyX P t dst src K st) : wpS P (Builtin.copy_ #[t, u] r #[dst, src]) K Kp st := by
  obtain ⟨⟨e, size, bytes, z⟩, hi, h⟩ := optK_iff.1 h
  obtain ⟨hu, i, zv, hinfo, hsz, hby, hz, hzl, hzs, hpos, hbpos⟩ := slInfo_some hi
  cases dst with
  | slice base dl cap =>
    obtain ⟨⟨m, ys⟩, hs, h⟩ := optK_iff.1 h
    simp only at hs h
    obtain ⟨hl, hf⟩ := src_spec (P := P) (Kp := Kp) hs
    unfold Builtin.copy_
    simp only [List.getElem?_toArray, List.getElem?_cons_zero, List.getElem?_cons_succ]
    rw [wpS_bind, wpS_underlying hu]
    simp only
    rw [wpS_bind]
    refine hl _ ?_
    rw [wpS_bind, wpS_sizeOf hinfo, hsz, wpS_bind]
    refine src_first hs (Nat.min_le_left _ _) ?_
    cases base with
    | none => simpa [wpS_bind, wpS_pure, goInt] using h
    | some a =>
      obtain ⟨st', hst, hsp, hk⟩ := optK_iff.1 h
      obtain ⟨b, o, sp⟩ := a
      simp only at hsp hst
      subst hsp
      simp only
      rw [wpS_bind]
      exact wpS_storeCells b _ o 0 st st' _ hst hk
  | _ => exact h.elim

/-! ### clear -/
def clearX (P : Program) (t : TypeId) (x : Value) (K : Value → Heap → Prop) (st : Heap) : Prop :=
  optK (slInfo P t) fun i => match x with
  | .slice none _ _ => K (.tuple #[]) st
  | .slice (some a) n _ => if n = 0 then K (.tuple #[]) st else optK (stN st a.block a.off (zerosL i.2.2.2 n)) fun st' => a.spot = none ∧ K (.tuple #[]) st'
  | _ => False
theorem clear_spec {P : Program} {K : Value → Heap → Prop} {Kp : Value → Heap → Prop} {st : Heap} {t r : TypeId} {x : Value} (h : clearX P t x K st) : wpS P (Builtin.clear_ #[t] r #[x]) K Kp st := by
  obtain ⟨⟨e, size, bytes, z⟩, hi, h⟩ := optK_iff.1 h
  obtain ⟨hu, i, zv, hinfo, hsz, hby, hz, hzl, hzs, hpos, hbpos⟩ := slInfo_some hi
  have hz' : zeroOf P e = some zv := by simp [zeroOf, hinfo, hz]
  unfold Builtin.clear_
  simp only [List.getElem?_toArray, List.getElem?_cons_zero]
  rw [wpS_bind, wpS_underlying hu]
  cases x with
  | slice base n cap =>
    cases base with
    | none => simpa [wpS_bind, wpS_pure] using h
    | some a =>
      cases n with
      | zero => simpa [wpS_bind, wpS_pure] using h
      | succ n =>
        simp only [Nat.add_one_ne_zero, if_false] at h
        obtain ⟨st', hst, hsp, hk⟩ := optK_iff.1 h
        obtain ⟨b, o, sp⟩ := a
        simp only at hsp hst
        subst hsp
        simp only
        rw [wpS_bind, wpS_zeroValue hz']
        have hcells : (Builtin.zeroCells zv.cells (n + 1)).toList = zerosL z (n + 1) := by
          unfold Builtin.zeroCells
          rw [zerosL_eq zv.cells (by omega), hzl]
        rw [hcells, wpS_bind]
        exact wpS_storeCells b _ o 0 st st' _ hst hk
  | _ => exact h.elim

/-! ### make -/
def makeSliceX (P : Program) (t : TypeId) (l c : Value) (K : Value → Heap → Prop) (st : Heap) : Prop :=
  match l, c with
  | .int .i64 n, .int .i64 m => optK (slInfo P t) fun i => 0 ≤ n ∧ n ≤ m ∧ m * i.2.2.1 ≤ 281474976710656 ∧
      newX i.1 (zerosL i.2.2.2 m.toNat) (fun b st' => K (.slice (some ⟨b, 0, none⟩) n.toNat m.toNat) st') st
  | _, _ => False
theorem makeSlice_spec {P : Program} {K : Value → Heap → Prop} {Kp : Value → Heap → Prop} {st : Heap} {t : TypeId} {l c : Value} (h : makeSliceX P t l c K st) : wpS P (Instr.makeSlice t l c) K Kp st := by
  unfold makeSliceX at h
  split at h
  · rename_i n m
    obtain ⟨⟨e, size, bytes, z⟩, hi, h0, h1, h2, h⟩ := optK_iff.1 h
    obtain ⟨hu, i, zv, hinfo, hsz, hby, hz, hzl, hzs, hpos, hbpos⟩ := slInfo_some hi
    simp only at h2 h
    have hz' : zeroOf P e = some zv := by simp [zeroOf, hinfo, hz]
    have hmle : m ≤ 281474976710656 := by
      have hb : (1 : Int) ≤ bytes := by omega
      have : m * 1 ≤ m * bytes := Int.mul_le_mul_of_nonneg_left hb (by omega)
      omega
    have hwn : IntKind.i64.wrap n = n := IntWalk.i64_in _ (by omega)
    have hwm : IntKind.i64.wrap m = m := IntWalk.i64_in _ (by omega)
    unfold Instr.makeSlice
    rw [wpS_bind, wpS_underlying hu]
    simp only [asInt, asIntOf]
    simp only [pure_bind]
    rw [wpS_bind, wpS_typeInfo hinfo, hby]
    simp only [hwn, hwm]
    have c1 : (decide (m < 0) || decide ((bytes : Int) * m > 2 ^ 48)) = false := by
      rw [Int.mul_comm]
      simp
      omega
    rw [if_neg (by simp only [c1]; simp; omega)]
    rw [wpS_bind, wpS_mark, wpS_bind, wpS_sizeOf hinfo, hsz]
    have key : ∀ zz : Array Value, (m.toNat * size ≠ 0 → zz = zv.cells) → wpS P (do
        let a ← newRow e ((Array.range (m.toNat * size)).map (fun x => zz[x % zz.size]!))
        pure (.slice (some a) n.toNat m.toNat) : Sem Value) K Kp st := by
      intro zz hzz
      have hcells : ((Array.range (m.toNat * size)).map (fun x => zz[x % zz.size]!)).toList = zerosL z m.toNat := by
        by_cases hz0 : m.toNat * size = 0
        · have hl0 : m.toNat = 0 := by
            rcases Nat.mul_eq_zero.1 hz0 with h | h
            · exact h
            · omega
          rw [hl0]
          simp [zerosL]
        · rw [hzz hz0, ← hzs, ← hzl]
          exact zerosL_eq zv.cells (by omega) m.toNat
      rw [wpS_bind]
      refine wpS_newRow fun b hb => ?_
      obtain ⟨g, this⟩ := h b hb
      refine ⟨g, ?_⟩
      rw [wpS_pure]
      rw [← hcells] at this
      simpa using this
    by_cases hz0 : m.toNat * size = 0
    · rw [if_pos hz0]
      exact key #[] (fun hne => absurd hz0 hne)
    · rw [if_neg hz0, wpS_bind, wpS_zeroValue hz']
      exact key zv.cells (fun _ => rfl)
  · exact h.elim

def minV (greatest : Bool) : Value → Value → Option Value
  | .int k x, .int k' y => some (.int k (if greatest then (if x < y then y else x) else (if y < x then y else x)))
  | _, _ => none
def notIface (P : Program) (t : TypeId) : Bool :=
  match P.underlying t with
  | some (.interface _) => false
  | some _ => true
  | none => false
section
variable {P : Program} {W0 : World} {E : Env} {K : Value → Heap → Prop} {Kp : List PanicEntry → Heap → Prop} {st : Heap} {d : Option Nat} {ty : TypeId} {pos : String} {af : Array Edge} {g : Option (Nat × Bool)}
theorem X_makeSlice {t : TypeId} {x y : Operand} (h : makeSliceX P t (E.ev x) (E.ev y) K st) : opW P W0 ⟨d, .makeSlice t x y, ty, pos, af, g⟩ E K Kp st := by
  show wpS P _ _ _ _
  unfold execOp
  exact execOp_v (makeSlice_spec h)
theorem X_makeMap {t : TypeId} (h : ∀ b, st b = none → ∃ g : Tg, K (.map (some b)) (upd st b (.map g []))) : opW P W0 ⟨d, .makeMap t none, ty, pos, af, g⟩ E K Kp st := by
  show wpS P _ _ _ _
  unfold execOp
  refine execOp_v ?_
  unfold Instr.makeMap
  simp only [Option.map_none]
  exact ⟨rfl, h⟩
theorem X_makeFunc {fn : Fn} {first captured : Array Operand} (h : K (.func fn (first.map E.ev) (captured.map E.ev)) st) : opW P W0 ⟨d, .makeFunc fn first captured, ty, pos, af, g⟩ E K Kp st := h
theorem X_makeInterface {t : TypeId} {x : Operand} (hn : notIface P t = true) (h : K (.iface t (E.ev x)) st) : opW P W0 ⟨d, .makeInterface t x, ty, pos, af, g⟩ E K Kp st := by
  show wpS P _ _ _ _
  unfold execOp
  refine execOp_v ?_
  unfold Instr.makeInterface
  unfold notIface at hn
  split at hn
  · cases hn
  · rename_i ds hu hno
    rw [wpS_bind, wpS_underlying hno]
    cases ds <;> first | exact h | exact absurd rfl (hu _)
  · cases hn

/-! ### Calls -/
/-- A function that the model itself answers. -/
def ExtF (P : Program) (f : FuncId) (e : Array Value → Sem Value) : Prop := ∃ fn, P.funcs[f]? = some fn ∧ (fn.name == "runtime.NumGoroutine") = false ∧ fn.body.isNone = true ∧ Extern.findNext fn = none ∧ Extern.find fn = some e
theorem ExtF.not_ok {P : Program} {f : FuncId} {e : Array Value → Sem Value} (h : ExtF P f e) : callOK P f = false := by
  obtain ⟨fn, h1, h2, h3, _⟩ := h
  unfold callOK
  rw [h1]
  cases hb : fn.body with
  | none => simp [hb]
  | some c => rw [hb] at h3; cases h3
theorem ExtF.same {P : Program} {f : FuncId} {e e' : Array Value → Sem Value} (h : ExtF P f e) (h' : ExtF P f e') : e = e' := by
  obtain ⟨fn, h1, _, _, _, h2⟩ := h
  obtain ⟨fn', h1', _, _, _, h2'⟩ := h'
  rw [h1] at h1'
  injection h1' with h1'
  subst h1'
  rw [h2] at h2'
  injection h2'
def callX (P : Program) (W0 : World) (f : Value) (args : Array Value) (K : Value → Heap → Prop) (Kp : List PanicEntry → Heap → Prop) (st : Heap) : Prop :=
  match f with
  | .func (.func fid) first captured => (callOK P fid = true ∧ ICalls P W0 fid (first ++ args ++ captured) st (EndI K Kp)) ∨ ∃ e, ExtF P fid e ∧ wpS P (e (first ++ args ++ captured)) K (fun v st => Kp (one v) st) st
  | .func (.yield l) first captured => ∃ r : Loop, st l = some (.other (.loop r)) ∧ (first ++ args).size = r.params.size ∧ RoundI P W0 l r.fn ((r.params.zip (first ++ args)).foldl (fun tmps (t, a) => tmps.setIfInBounds t a) r.tmps) r.assign r.body st (EndI K Kp)
  | _ => False
theorem X_call {f : Operand} {args : Array Operand} {at_ : Array TypeId} (h : callX P W0 (E.ev f) (args.map E.ev) K Kp st) : opW P W0 ⟨d, .call ⟨.value f, args, at_⟩, ty, pos, af, g⟩ E K Kp st := by
  unfold callX at h
  split at h
  · rename_i fid first captured he
    show wpS P _ _ _ _
    unfold execOp
    simp only [resolve, he, Deferred.ofValue]
    rw [wpS_bind, wpS_pure]
    unfold invoke
    simp only
    unfold callFunc
    rw [wpS_bind, wpS_program]
    rcases h with ⟨hok, h⟩ | ⟨e, ⟨fn, hf, hn, hb, hx, hy⟩, h⟩
    rotate_left
    · simp only [hf, hn, hb, hx, hy, Bool.false_eq_true, if_false, if_true]
      rw [wpS_bind]
      show wpS P (do let v ← e (first ++ args.map E.ev ++ captured); pure (Next.value v)) (NextI P W0 K Kp) (fun v st => Kp (one v) st) st
      rw [wpS_bind]
      exact h
    unfold callOK at hok
    split at hok
    · rename_i fn hf
      simp only [Bool.and_eq_true, Bool.not_eq_true'] at hok
      simp only [hf]
      rw [if_neg (by simp [hok.1])]
      have hb : fn.body.isNone = false := by
        cases hfb : fn.body with
        | none => rw [hfb] at hok; simp at hok
        | some c => rfl
      rw [if_neg (by simp [hb])]
      exact h
    · cases hok
  · rename_i l first captured he
    obtain ⟨r, hl, hsz, h⟩ := h
    show wpS P _ _ _ _
    unfold execOp
    simp only [resolve, he, Deferred.ofValue]
    rw [wpS_bind, wpS_pure]
    unfold invoke
    simp only
    unfold Instr.yield
    rw [wpS_bind]
    unfold Instr.getLoop
    rw [wpS_bind]
    refine .inr ⟨_, hl, ?_⟩
    show wpS P (if (first ++ args.map E.ev).size ≠ r.params.size then _ else _) _ _ _
    rw [if_neg (fun hne => hne hsz)]
    exact h
  · exact h.elim
theorem X_builtin {b : Builtin} {args : Array Operand} {at_ : Array TypeId} {s : Sem Value} (hs : ∀ c, builtin b at_ ty c (args.map E.ev) = (do pure (.value (← s)) : Sem Next)) (h : wpS P s K (fun v st => Kp (one v) st) st) :
    opW P W0 ⟨d, .call ⟨.builtin b, args, at_⟩, ty, pos, af, g⟩ E K Kp st := by
  show wpS P _ _ _ _
  unfold execOp
  simp only [resolve]
  rw [wpS_bind, wpS_pure]
  unfold invoke
  simp only
  rw [hs]
  exact execOp_v h
theorem X_len {x : Operand} {t : TypeId} (h : optK (lenV P st t (E.ev x)) fun v => K v st) : opW P W0 ⟨d, .call ⟨.builtin .len, #[x], #[t]⟩, ty, pos, af, g⟩ E K Kp st := by
  obtain ⟨v, hv, hk⟩ := optK_iff.1 h
  exact X_builtin (s := Builtin.len_ #[t] ty #[E.ev x]) (by intro c; simp [builtin]) (len_spec hv hk)
theorem X_append {x y : Operand} {t : TypeId} (h : appX P t (E.ev x) (E.ev y) K st) : opW P W0 ⟨d, .call ⟨.builtin .append, #[x, y], #[t, t]⟩, ty, pos, af, g⟩ E K Kp st :=
  X_builtin (s := Builtin.append_ #[t, t] ty #[E.ev x, E.ev y]) (by intro c; simp [builtin]) (append_spec h)
theorem append_text {t u r : TypeId} {v : Value} {s : ByteArray} {Kp : Value → Heap → Prop} (hu : P.underlying u = some .string) (h : appX P t v (.string s) K st) : wpS P (Builtin.append_ #[t, u] r #[v, .string s]) K Kp st := by
  have := append_spec (r := r) (Kp := Kp) h
  obtain ⟨⟨e, size, bytes, z⟩, hi, _⟩ := optK_iff.1 h
  obtain ⟨hut, i, zv, hinfo, _⟩ := slInfo_some hi
  unfold Builtin.append_ at this ⊢
  simp only [List.getElem?_toArray, List.getElem?_cons_zero, List.getElem?_cons_succ] at this ⊢
  rw [wpS_bind, wpS_underlying hut] at this ⊢
  simp only at this ⊢
  cases v with
  | slice a l c =>
    simp only at this ⊢
    rw [wpS_bind, wpS_sizeOf hinfo, wpS_bind, wpS_underlying hut] at this
    rw [wpS_bind, wpS_sizeOf hinfo, wpS_bind, wpS_underlying hu]
    exact this
  | _ => exact this
/-- So many bytes that are 0. -/
def zerosT (n : Nat) : ByteArray := ⟨(List.replicate n (0 : UInt8)).toArray⟩
theorem zeroCells_u8 {z : Array Value} (hz : z.toList = [.int .u8 0]) (n : Nat) : (Builtin.zeroCells z n).toList = List.replicate n (.int .u8 0) := by
  have hz' : z = #[.int .u8 0] := by
    apply Array.ext'
    simpa using hz
  subst hz'
  unfold Builtin.zeroCells
  apply List.ext_getElem
  · simp
  · intro i h1 h2
    simp [Nat.mod_one]
theorem append_zero {t u r e : TypeId} {k k' : IntKind} {v : Value} {n : Int} {Kp : Value → Heap → Prop} (hux : P.underlying u = some (.int k)) (hn : 0 ≤ n) (hn2 : n ≤ 140737488355328) (hi : slInfo P t = some (e, 1, 1, [.int .u8 0])) (h : appX P t v (.string (zerosT n.toNat)) K st) : wpS P (Builtin.append_ #[t, u] r #[v, .int k' n]) K Kp st := by
  obtain ⟨i0, hi0, h2⟩ := optK_iff.1 h
  clear h
  rw [hi] at hi0
  injection hi0 with hi0
  subst hi0
  obtain ⟨hu, i, zv, hinfo, hsz, hby, hz, hzl, hzs, hpos, hbpos⟩ := slInfo_some hi
  have hz' : zeroOf P e = some zv := by simp [zeroOf, hinfo, hz]
  have hw : IntKind.i64.wrap n = n := by rw [IntKind.wrap_i64]; omega
  have hsrc : srcCells 1 st (.string (zerosT n.toNat)) = some (n.toNat, List.replicate n.toNat (.int .u8 0)) := by
    simp [srcCells, zerosT, ByteArray.size]
  have hzc : Builtin.zeroCells zv.cells n.toNat = (List.replicate n.toNat (Value.int .u8 0)).toArray := by
    apply Array.ext'
    rw [zeroCells_u8 hzl]
  cases v with
  | slice base len cap =>
    obtain ⟨⟨m, ys⟩, hs, h⟩ := optK_iff.1 h2
    clear h2
    simp only at hs h
    rw [hsrc] at hs
    injection hs with hs
    injection hs with h1 h2
    subst h1
    subst h2
    unfold Builtin.append_
    simp only [List.getElem?_toArray, List.getElem?_cons_zero, List.getElem?_cons_succ]
    rw [wpS_bind, wpS_underlying hu]
    simp only
    rw [wpS_bind, wpS_sizeOf hinfo, hsz, wpS_bind, wpS_underlying hux]
    simp only
    rw [wpS_bind, wpS_pure]
    simp only [if_true, Bool.not_true, Bool.false_eq_true, if_false]
    simp only [asInt, asIntOf]
    rw [wpS_bind, wpS_bind, wpS_pure, wpS_pure, hw, if_neg (by omega), wpS_bind, wpS_typeInfo hinfo, hby, if_neg (by omega), wpS_bind, wpS_pure]
    generalize hm : n.toNat = m at *
    obtain ⟨ys, hys⟩ : ∃ ys, List.replicate m (Value.int .u8 0) = ys := ⟨_, rfl⟩
    rw [hys] at h hzc hsrc
    have hyl : ys.length = m := by rw [← hys]; simp
    have hf : ∀ (K : Array Value → Heap → Prop) (st : Heap), K ys.toArray st → wpS P (if m * 1 = 0 then pure #[] else do pure (Builtin.zeroCells (← zeroValue e).cells m) : Sem (Array Value)) K Kp st := by
      intro K st hk
      by_cases hm0 : m = 0
      · rw [if_pos (by omega), wpS_pure]
        have : ys = [] := List.eq_nil_of_length_eq_zero (by omega)
        subst this
        exact hk
      · rw [if_neg (by omega), wpS_bind, wpS_zeroValue hz', wpS_pure, hzc]
        exact hk
    by_cases h0 : m = 0 ∧ len ≤ cap
    · rw [if_pos h0] at h
      obtain ⟨hm0, hle⟩ := h0
      rw [if_pos (by omega), wpS_bind]
      refine hf _ _ ?_
      have : ys = [] := List.eq_nil_of_length_eq_zero (by omega)
      subst this
      subst hm0
      cases base with
      | none => simpa [wpS_bind, wpS_pure] using h
      | some a => simpa [wpS_bind, wpS_pure, storeCells] using h
    · rw [if_neg h0] at h
      obtain ⟨hbytes, hin, hnew⟩ := h
      by_cases hle : len + m ≤ cap
      · have h := hin hle
        rw [if_pos hle, wpS_bind]
        refine hf _ _ ?_
        cases base with
        | none => exact h.elim
        | some a =>
          obtain ⟨hsp, xs, nn, e', hb, hxl, hcap, h1, hk⟩ := h
          obtain ⟨b, o, sp⟩ := a
          simp only at hsp hb hxl hcap hk
          subst hsp
          simp only
          rw [wpS_bind, add_mk]
          refine wpS_storeCells b ys (o + len * 1) 0 st _ _ ?_ hk
          have := stN_onto ys xs st hb (by omega) h1
          rwa [hxl] at this
      · rw [if_neg hle]
        have hlt : cap < len + m := by omega
        obtain ⟨⟨ol, os⟩, ho, h⟩ := optK_iff.1 (hnew hlt)
        simp only at ho h
        have hol := src_length ho
        have hol' := src_slice ho
        subst hol'
        rw [wpS_bind, wpS_typeInfo hinfo]
        rw [if_neg (by rintro ⟨h1, _⟩; have : IntKind.i64.max = 9223372036854775807 := by decide
                       omega)]
        rw [wpS_bind, wpS_typeInfo hinfo, hby]
        rw [if_neg (by have := growslice_fits hlt hbytes; omega)]
        rw [wpS_bind]
        show wpS P (Sem.choose _ Sem.pure) _ _ _
        unfold wpS
        rw [if_neg (by simp [Question.forced])]
        intro c0
        generalize hc : (Question.appendCap (ol + m) cap e).cut c0 = c
        have hcle : ol + m ≤ c := by rw [← hc]; simp [Question.cut]
        rw [wpS_pure', wpS_bind, wpS_typeInfo hinfo, wpS_bind, wpS_mark, wpS_bind]
        refine (src_spec (P := P) (Kp := Kp) ho).2 _ ?_
        rw [wpS_bind]
        refine hf _ _ ?_
        rw [wpS_bind, wpS_zeroValue hz', wpS_bind]
        refine wpS_newRow_le (os ++ ys) ?_ fun b hb => ?_
        · exact ⟨_, by simp [Array.toList_append]; rfl⟩
        · obtain ⟨g, hk⟩ := h b c hb hcle
          refine ⟨g, ?_⟩
          rw [wpS_pure]
          have hsize : (os.toArray ++ ys.toArray ++ Builtin.zeroCells zv.cells (c - (ol + m))).size = c * 1 := by
            have e1 : os.length = ol * 1 := hol
            have e3 : (Builtin.zeroCells zv.cells (c - (ol + m))).size = (c - (ol + m)) * 1 := by simp [Builtin.zeroCells, hzs]
            simp only [Array.size_append, List.size_toArray, e1, hyl, e3]
            omega
          rw [hsize]
          exact hk
  | _ => exact h2.elim
theorem X_append3 {x y : Operand} {t u e : TypeId} {k k' : IntKind} {n : Int} (hu : P.underlying u = some (.int k)) (hn : 0 ≤ n) (hn2 : n ≤ 140737488355328) (hi : slInfo P t = some (e, 1, 1, [.int .u8 0])) (hy : E.ev y = .int k' n) (h : appX P t (E.ev x) (.string (zerosT n.toNat)) K st) : opW P W0 ⟨d, .call ⟨.builtin .append, #[x, y], #[t, u]⟩, ty, pos, af, g⟩ E K Kp st := by
  refine X_builtin (s := Builtin.append_ #[t, u] ty #[E.ev x, E.ev y]) (by intro c; simp [builtin]) ?_
  rw [hy]
  exact append_zero hu hn hn2 hi h
theorem X_append2 {x y : Operand} {t u : TypeId} {s : ByteArray} (hu : P.underlying u = some .string) (hy : E.ev y = .string s) (h : appX P t (E.ev x) (E.ev y) K st) : opW P W0 ⟨d, .call ⟨.builtin .append, #[x, y], #[t, u]⟩, ty, pos, af, g⟩ E K Kp st := by
  rw [hy] at h
  refine X_builtin (s := Builtin.append_ #[t, u] ty #[E.ev x, E.ev y]) (by intro c; simp [builtin]) ?_
  rw [hy]
  exact append_text hu h
theorem X_copy {x y : Operand} {t u : TypeId} (h : copyX P t (E.ev x) (E.ev y) K st) : opW P W0 ⟨d, .call ⟨.builtin .copy, #[x, y], #[t, u]⟩, ty, pos, af, g⟩ E K Kp st :=
  X_builtin (s := Builtin.copy_ #[t, u] ty #[E.ev x, E.ev y]) (by intro c; simp [builtin]) (copy_spec h)
theorem X_clear {x : Operand} {t : TypeId} (h : clearX P t (E.ev x) K st) : opW P W0 ⟨d, .call ⟨.builtin .clear, #[x], #[t]⟩, ty, pos, af, g⟩ E K Kp st :=
  X_builtin (s := Builtin.clear_ #[t] ty #[E.ev x]) (by intro c; simp [builtin]) (clear_spec h)
theorem X_min {x y : Operand} {at_ : Array TypeId} (h : optK (minV false (E.ev x) (E.ev y)) fun v => K v st) : opW P W0 ⟨d, .call ⟨.builtin .min, #[x, y], at_⟩, ty, pos, af, g⟩ E K Kp st := by
  obtain ⟨v, hv, hk⟩ := optK_iff.1 h
  refine X_builtin (s := Builtin.min_ at_ ty #[E.ev x, E.ev y]) (by intro c; simp [builtin]) ?_
  generalize E.ev x = a at *
  generalize E.ev y = b at *
  unfold minV at hv
  split at hv
  · cases hv; exact hk
  · cases hv
theorem X_max {x y : Operand} {at_ : Array TypeId} (h : optK (minV true (E.ev x) (E.ev y)) fun v => K v st) : opW P W0 ⟨d, .call ⟨.builtin .max, #[x, y], at_⟩, ty, pos, af, g⟩ E K Kp st := by
  obtain ⟨v, hv, hk⟩ := optK_iff.1 h
  refine X_builtin (s := Builtin.max_ at_ ty #[E.ev x, E.ev y]) (by intro c; simp [builtin]) ?_
  generalize E.ev x = a at *
  generalize E.ev y = b at *
  unfold minV at hv
  split at hv
  · cases hv; exact hk
  · cases hv
end
end Go.Proofs.YtadgciaclhjjkaaGreat
