/- The model's operations in plain forms, sixth part: maps. -/
import Derived.Test.YtadgciaclhjjkaaGreatC02
set_option linter.unusedVariables false
set_option linter.unusedSimpArgs false
namespace Go.Proofs.YtadgciaclhjjkaaGreat
open Go.RowKit (Below)

abbrev KV := List (Value × Value)
/-- Where a key lies. -/
def mfind (kind : TypeDesc) (k : Value) : KV → Nat → Option (Option (Nat × Value))
  | [], _ => some none
  | e :: es, i => match Instr.sameNow kind k e.1 with
    | some true => some (some (i, e.2))
    | some false => mfind kind k es (i + 1)
    | none => none
theorem mfind_eq (kind : TypeDesc) (k : Value) : ∀ (l : List MapEntry) (i : Nat), Instr.findNow kind k l i = mfind kind k (l.map fun x => (x.key, x.val)) i
  | [], i => rfl
  | e :: l, i => by
    unfold Instr.findNow
    simp only [List.map_cons, mfind]
    cases h : Instr.sameNow kind k e.key with
    | none => rfl
    | some b => cases b with
      | true => rfl
      | false => exact mfind_eq kind k l (i + 1)
def plainKey (kind : TypeDesc) : Bool := match kind with | .string | .int _ | .bool => true | _ => false
/-- A map type: its key's description, its element's zero. -/
def mapInfo (P : Program) (t : TypeId) : Option (TypeId × TypeDesc × Value) :=
  match P.underlying t with
  | some (.map key elem) => match P.underlying key, zeroOf P elem with
    | some kd, some z => if plainKey kd then some (key, kd, z) else none
    | _, _ => none
  | _ => none
theorem mapInfo_some {P : Program} {t key : TypeId} {kd : TypeDesc} {z : Value} (h : mapInfo P t = some (key, kd, z)) : ∃ elem, P.underlying t = some (.map key elem) ∧ P.underlying key = some kd ∧ zeroOf P elem = some z ∧ plainKey kd = true := by
  unfold mapInfo at h
  split at h
  · rename_i k e hu
    split at h
    · rename_i kd' z' hk hz
      split at h
      · rename_i hp
        injection h with h; injection h with h1 h2; injection h2 with h2 h3
        subst h1; subst h2; subst h3
        exact ⟨e, hu, hk, hz, hp⟩
      · cases h
    · cases h
  · cases h
theorem wpS_checkKey {P : Program} {Kp : Value → Heap → Prop} {st : Heap} {key : TypeId} {kd : TypeDesc} {e : Bool} {v : Value} {K : Unit → Heap → Prop} (hk : P.underlying key = some kd) (hp : plainKey kd = true) (h : K () st) : wpS P (Instr.checkKey e 10000 key v) K Kp st := by
  unfold Instr.checkKey
  rw [wpS_bind, wpS_underlying hk]
  cases kd <;> first | exact h | (simp [plainKey] at hp)
theorem wpS_findKey {P : Program} {Kp : Value → Heap → Prop} {st : Heap} {key : TypeId} {kd : TypeDesc} {v : Value} {l : List MapEntry} {r : Option (Nat × Value)} {K : Option (Nat × Value) → Heap → Prop} (hk : P.underlying key = some kd) (hf : mfind kd v (l.map fun x => (x.key, x.val)) 0 = some r) (h : K r st) : wpS P (Instr.findKey key v l) K Kp st := by
  unfold Instr.findKey
  rw [wpS_bind, wpS_underlying hk, mfind_eq, hf]
  exact h
/-- What a map has. -/
def mapOf (st : Heap) : Value → Option KV
  | .map none => some []
  | .map (some r) => match st r with
    | some (.map _ es) => some es
    | _ => none
  | _ => none
def lookupX (P : Program) (t : TypeId) (x k : Value) (ok : Bool) (K : Value → Heap → Prop) (st : Heap) : Prop :=
  optK (mapInfo P t) fun i => optK (mapOf st x) fun es => optK (mfind i.2.1 k es 0) fun r =>
    K (if ok then .tuple #[(match r with | some (_, v) => v | none => i.2.2), .bool r.isSome] else (match r with | some (_, v) => v | none => i.2.2)) st
theorem lookup_spec {P : Program} {K : Value → Heap → Prop} {Kp : Value → Heap → Prop} {st : Heap} {t : TypeId} {x k : Value} {ok : Bool} (h : lookupX P t x k ok K st) : wpS P (Instr.lookup t x k ok) K Kp st := by
  obtain ⟨⟨key, kd, z⟩, hi, h⟩ := optK_iff.1 h
  obtain ⟨es, hes, h⟩ := optK_iff.1 h
  obtain ⟨r, hr, h⟩ := optK_iff.1 h
  obtain ⟨elem, hu, hk, hz, hp⟩ := mapInfo_some hi
  simp only at hr h
  unfold Instr.lookup
  rw [wpS_bind, wpS_underlying hu]
  simp only
  have fin : ∀ l : List MapEntry, l.map (fun x => (x.key, x.val)) = es → ∀ b, wpS P (do
      Instr.checkKey b 10000 key k
      let (v, ok') ← match ← Instr.findKey key k l with
        | some (_, v) => pure (v, true)
        | none => do pure (← zeroValue elem, false)
      pure (if ok then Value.tuple #[v, .bool ok'] else v) : Sem Value) K Kp st := by
    intro l hl b
    rw [wpS_bind]
    refine wpS_checkKey hk hp ?_
    rw [wpS_bind]
    refine wpS_findKey hk (by rw [hl]; exact hr) ?_
    cases r with
    | some iv => obtain ⟨i, v⟩ := iv; exact h
    | none =>
      dsimp only
      rw [wpS_bind, wpS_zeroValue hz]
      exact h
  unfold mapOf at hes
  split at hes
  · injection hes with hes; subst hes
    dsimp only
    rw [wpS_bind, wpS_pure]
    exact fin [] rfl _
  · split at hes
    · rename_i m g es' hm
      injection hes with hes; subst hes
      dsimp only
      rw [wpS_bind]
      refine .inl ⟨g, es', hm, fun ents clock ha => ?_⟩
      rw [wpS_pure']
      dsimp only
      rw [wpS_bind, wpS_pure]
      exact fin ents.toList ha.kv _
    · cases hes
  · cases hes

/-! A key set, a key struck. -/
def mset (kd : TypeDesc) (k v : Value) (es : KV) : Option KV :=
  match mfind kd k es 0 with
  | some (some (i, _)) => some (es.set i (k, v))
  | some none => some (es ++ [(k, v)])
  | none => none
def mdel (kd : TypeDesc) (k : Value) (es : KV) : Option KV :=
  match mfind kd k es 0 with
  | some (some (i, _)) => some (es.eraseIdx i)
  | some none => some es
  | none => none
theorem mfind_at {kd : TypeDesc} {k : Value} : ∀ {es : KV} {i j : Nat} {v : Value}, mfind kd k es i = some (some (j, v)) → ∃ m, j = i + m ∧ ∃ e, es[m]? = some e ∧ e.2 = v ∧ Instr.sameNow kd k e.1 = some true
  | [], i, j, v, h => by cases h
  | e :: es, i, j, v, h => by
    unfold mfind at h
    split at h
    · rename_i hs; injection h with h; injection h with h; injection h with h1 h2
      exact ⟨0, by omega, e, rfl, h2, hs⟩
    · obtain ⟨m, hm, e', he, hv, hs⟩ := mfind_at h
      exact ⟨m + 1, by omega, e', by simpa using he, hv, hs⟩
    · cases h
theorem beq_bytes {a b : ByteArray} : (a == b) = true ↔ a = b := by
  obtain ⟨x⟩ := a
  obtain ⟨y⟩ := b
  show (x == y) = true ↔ _
  simp
theorem sameNow_sameBits {kd : TypeDesc} {a b : Value} (h : Instr.sameNow kd a b = some true) : Instr.sameBits 10000 b a = true := by
  unfold Instr.sameNow at h
  split at h
  · rename_i k x k' y
    split at h
    · rename_i hk; subst hk; injection h with h; have h := eq_of_beq h; subst h; simp [Instr.sameBits]
    · cases h
  · injection h with h; have h := beq_bytes.1 h; subst h; simp [Instr.sameBits, beq_bytes]
  · injection h with h; have h := eq_of_beq h; subst h; simp [Instr.sameBits]
  · cases h
theorem wpS_keyStays {P : Program} {Kp : Value → Heap → Prop} {st : Heap} {kd : TypeDesc} {a b : Value} {K : Value → Heap → Prop} (hs : Instr.sameNow kd a b = some true) (h : K a st) : wpS P (Instr.keyThatStays b a) K Kp st := by
  unfold Instr.keyThatStays
  rw [if_pos (sameNow_sameBits hs)]
  exact h
theorem MapAt.modify {ents : Array MapEntry} {clock : Nat} {es : KV} (h : MapAt ents clock es) (i : Nat) (k v : Value) : MapAt (ents.modify i fun e => { e with key := k, val := v }) clock (es.set i (k, v)) := by
  refine ⟨?_, ?_, ?_⟩
  · rw [← h.kv]
    apply List.ext_getElem?
    intro j
    simp only [List.getElem?_map, Array.getElem?_toList, Array.getElem?_modify, List.getElem?_set, List.length_map, Array.length_toList]
    by_cases hj : i = j
    · subst hj
      simp only [if_true]
      by_cases hl : i < ents.size
      · simp [hl]
      · simp [hl]
    · simp [hj]
  · have : ((ents.modify i fun e => { e with key := k, val := v }).toList.map fun x => x.born) = ents.toList.map fun x => x.born := by
      apply List.ext_getElem?
      intro j
      simp only [List.getElem?_map, Array.getElem?_toList, Array.getElem?_modify]
      split
      · cases ents[j]? <;> rfl
      · rfl
    rw [this]
    exact h.inc
  · intro x hx
    obtain ⟨j, hj⟩ := List.getElem?_of_mem hx
    rw [Array.getElem?_toList, Array.getElem?_modify] at hj
    split at hj
    · obtain ⟨y, hy, rfl⟩ := Option.map_eq_some_iff.1 hj
      exact h.lt y (by rw [← Array.getElem?_toList] at hy; exact List.mem_of_getElem? hy)
    · exact h.lt x (by rw [← Array.getElem?_toList] at hj; exact List.mem_of_getElem? hj)
theorem MapAt.push {ents : Array MapEntry} {clock : Nat} {es : KV} (h : MapAt ents clock es) (k v : Value) : MapAt (ents.push { key := k, val := v, born := clock }) (clock + 1) (es ++ [(k, v)]) := by
  refine ⟨by simp [h.kv], ?_, ?_⟩
  · simp only [Array.toList_push, List.map_append, List.map_cons, List.map_nil]
    refine List.pairwise_append.2 ⟨h.inc, by simp, ?_⟩
    intro a ha b hb
    obtain ⟨x, hx, rfl⟩ := List.mem_map.1 ha
    simp at hb
    subst hb
    exact h.lt x hx
  · intro x hx
    simp only [Array.toList_push, List.mem_append, List.mem_singleton] at hx
    rcases hx with hx | rfl
    · exact Nat.lt_succ_of_lt (h.lt x hx)
    · simp
theorem eraseIdx_map' {α β : Type} (f : α → β) : ∀ (l : List α) (i : Nat), (l.eraseIdx i).map f = (l.map f).eraseIdx i
  | [], _ => rfl
  | a :: l, 0 => rfl
  | a :: l, i + 1 => by simp [eraseIdx_map' f l i]
theorem MapAt.erase {ents : Array MapEntry} {clock : Nat} {es : KV} (h : MapAt ents clock es) (i : Nat) : MapAt (ents.eraseIdxIfInBounds i) clock (es.eraseIdx i) := by
  have e : (ents.eraseIdxIfInBounds i).toList = ents.toList.eraseIdx i := by
    unfold Array.eraseIdxIfInBounds
    split
    · simp
    · rename_i hi
      rw [List.eraseIdx_of_length_le (by simpa using hi)]
  refine ⟨?_, ?_, ?_⟩
  · rw [e, ← h.kv, eraseIdx_map']
  · rw [e, eraseIdx_map']
    exact h.inc.sublist (List.eraseIdx_sublist _ _)
  · intro x hx
    rw [e] at hx
    exact h.lt x (List.mem_of_mem_eraseIdx hx)
def mapTag (o : Option HObj) : Tg := match o with | some (.map g _) => g | _ => .ty 0
def mapUpdX (P : Program) (t : TypeId) (x k v : Value) (K : Value → Heap → Prop) (st : Heap) : Prop :=
  match x with
  | .map (some r) => optK (mapInfo P t) fun i => optK (mapOf st (.map (some r))) fun es => optK (mset i.2.1 k v es) fun es' => K undef (upd st r (.map (mapTag (st r)) es'))
  | _ => False
theorem mapOf_some {st : Heap} {r : Nat} {es : KV} (h : mapOf st (.map (some r)) = some es) : st r = some (.map (mapTag (st r)) es) := by
  unfold mapOf at h
  simp only at h
  split at h
  · rename_i g es' hm; injection h with h; subst h; rw [hm]; rfl
  · cases h
theorem mapUpd_spec {P : Program} {K : Value → Heap → Prop} {Kp : Value → Heap → Prop} {st : Heap} {t : TypeId} {x k v : Value} (h : mapUpdX P t x k v K st) : wpS P (Instr.mapUpdate t x k v) (fun _ st => K undef st) Kp st := by
  unfold mapUpdX at h
  split at h
  · rename_i r
    obtain ⟨⟨key, kd, z⟩, hi, h⟩ := optK_iff.1 h
    obtain ⟨es, hes, h⟩ := optK_iff.1 h
    obtain ⟨es', hs, h⟩ := optK_iff.1 h
    obtain ⟨elem, hu, hk, hz, hp⟩ := mapInfo_some hi
    simp only at hs
    unfold Instr.mapUpdate
    rw [wpS_bind, wpS_underlying hu]
    simp only
    rw [wpS_bind]
    refine .inl ⟨_, es, mapOf_some hes, fun ents clock ha => ?_⟩
    rw [wpS_pure']
    dsimp only
    rw [wpS_bind]
    refine wpS_checkKey hk hp ?_
    rw [wpS_bind]
    unfold mset at hs
    split at hs
    · rename_i i w hf
      injection hs with hs; subst hs
      refine wpS_findKey hk (by rw [ha.kv]; exact hf) ?_
      dsimp only
      rw [wpS_bind]
      obtain ⟨m, hm, e, he, hv, hsame⟩ := mfind_at hf
      have him : i = m := by omega
      subst him
      have hent : ((ents[i]?).map (·.key)).getD k = e.1 := by
        rw [← ha.kv, List.getElem?_map, Array.getElem?_toList] at he
        obtain ⟨y, hy, hye⟩ := Option.map_eq_some_iff.1 he
        rw [hy, ← hye]
        rfl
      rw [hent]
      refine wpS_keyStays hsame ?_
      exact .inl ⟨_, es, _, _, _, mapOf_some hes, rfl, ha.modify i k v, h⟩
    · rename_i hf
      injection hs with hs; subst hs
      refine wpS_findKey hk (by rw [ha.kv]; exact hf) ?_
      exact .inl ⟨_, es, _, _, _, mapOf_some hes, rfl, ha.push k v, h⟩
    · cases hs
  · exact h.elim
def delX (P : Program) (t : TypeId) (x k : Value) (K : Value → Heap → Prop) (st : Heap) : Prop :=
  match x with
  | .map (some r) => optK (mapInfo P t) fun i => optK (mapOf st (.map (some r))) fun es => optK (mdel i.2.1 k es) fun es' => K (.tuple #[]) (upd st r (.map (mapTag (st r)) es'))
  | _ => False
theorem del_spec {P : Program} {K : Value → Heap → Prop} {Kp : Value → Heap → Prop} {st : Heap} {t u ty : TypeId} {x k : Value} (h : delX P t x k K st) : wpS P (Builtin.delete_ #[t, u] ty #[x, k]) K Kp st := by
  unfold delX at h
  split at h
  · rename_i r
    obtain ⟨⟨key, kd, z⟩, hi, h⟩ := optK_iff.1 h
    obtain ⟨es, hes, h⟩ := optK_iff.1 h
    obtain ⟨es', hs, h⟩ := optK_iff.1 h
    obtain ⟨elem, hu, hk, hz, hp⟩ := mapInfo_some hi
    simp only at hs
    unfold Builtin.delete_
    simp only [List.getElem?_toArray, List.getElem?_cons_zero, List.getElem?_cons_succ]
    rw [wpS_bind, wpS_underlying hu]
    simp only
    rw [wpS_bind]
    refine .inl ⟨_, es, mapOf_some hes, fun ents clock ha => ?_⟩
    rw [wpS_pure']
    dsimp only
    rw [wpS_bind]
    refine wpS_checkKey hk hp ?_
    rw [wpS_bind]
    unfold mdel at hs
    split at hs
    · rename_i i w hf
      injection hs with hs; subst hs
      refine wpS_findKey hk (by rw [ha.kv]; exact hf) ?_
      dsimp only
      rw [wpS_bind]
      exact .inl ⟨_, es, _, _, _, mapOf_some hes, rfl, ha.erase i, h⟩
    · rename_i hf
      injection hs with hs; subst hs
      refine wpS_findKey hk (by rw [ha.kv]; exact hf) ?_
      dsimp only
      rw [wpS_bind]
      exact .inl ⟨_, es, _, _, _, mapOf_some hes, rfl, ha, h⟩
    · cases hs
  · exact h.elim
section
variable {P : Program} {W0 : World} {E : Env} {K : Value → Heap → Prop} {Kp : List PanicEntry → Heap → Prop} {st : Heap} {d : Option Nat} {ty : TypeId} {pos : String} {af : Array Edge} {g : Option (Nat × Bool)}
theorem X_lookup {t : TypeId} {x k : Operand} {ok : Bool} (h : lookupX P t (E.ev x) (E.ev k) ok K st) : opW P W0 ⟨d, .lookup t x k ok, ty, pos, af, g⟩ E K Kp st := by
  show wpS P _ _ _ _
  unfold execOp
  exact execOp_v (lookup_spec h)
theorem X_mapUpdate {t : TypeId} {x k v : Operand} (h : mapUpdX P t (E.ev x) (E.ev k) (E.ev v) K st) : opW P W0 ⟨d, .mapUpdate t x k v, ty, pos, af, g⟩ E K Kp st := by
  show wpS P _ _ _ _
  unfold execOp
  simp only
  rw [wpS_bind]
  exact mapUpd_spec h
theorem X_delete {x y : Operand} {t u : TypeId} (h : delX P t (E.ev x) (E.ev y) K st) : opW P W0 ⟨d, .call ⟨.builtin .delete, #[x, y], #[t, u]⟩, ty, pos, af, g⟩ E K Kp st :=
  X_builtin (s := Builtin.delete_ #[t, u] ty #[E.ev x, E.ev y]) (by intro c; simp [builtin]) (del_spec h)
end
end Go.Proofs.YtadgciaclhjjkaaGreat
set_option linter.unusedVariables false
set_option linter.unusedSimpArgs false
namespace Go.Proofs.YtadgciaclhjjkaaGreat
open Go.RowKit (Below)

def opSem (P : Program) (W0 : World) (o : Oper) (E : Env) (K : Value → Heap → Prop) (Kp : List PanicEntry → Heap → Prop) (st : Heap) : Prop :=
  ∀ w, Sim W0 st w → Ran W0 (NextI P W0 K Kp) (fun v st => Kp (one v) st) ((execOp E.ev o).run P w)
theorem opSem_of {P : Program} {W0 : World} {o : Oper} {E : Env} {K : Value → Heap → Prop} {Kp : List PanicEntry → Heap → Prop} {st : Heap} (h : opW P W0 o E K Kp st) : opSem P W0 o E K Kp st := fun w hs => wpS_sound _ h hs

/-! ### Ranging over a map; a map's entry taken and written -/
def rangeX (x : Value) (K : Value → Heap → Prop) (st : Heap) : Prop :=
  match x with
  | .map (some m) => ∃ g es, st m = some (.map g es) ∧ ∀ ents clock b, MapAt ents clock es → st b = none → K (.pointer (some ⟨b, 0, none⟩)) (upd (upd st m (.other (.map ents clock))) b (.other (.mapIter (some m) clock #[] clock)))
  | _ => False
def nextX (x : Value) (K : Value → Heap → Prop) (st : Heap) : Prop :=
  match x with
  | .pointer (some ⟨r, 0, _⟩) => ∃ m ents clock seen g es, st r = some (.other (.mapIter (some m) clock seen clock)) ∧ st m = some (.other (.map ents clock)) ∧ MapAt ents clock es ∧
      ((∀ x ∈ ents.toList, x.born ∈ seen.toList) → K (.tuple #[.bool false]) (upd st m (.map g es))) ∧
      (∀ e ∈ ents.toList, e.born ∉ seen.toList → K (.tuple #[.bool true, e.key, e.val]) (upd st r (.other (.mapIter (some m) clock (seen.push e.born) clock))))
  | _ => False
def entryX (x : Value) (K : Value → Heap → Prop) (st : Heap) : Prop :=
  match x with
  | .pointer (some ⟨r, 0, _⟩) => ∃ (m : Nat) (ents : Array MapEntry) (clock since : Nat) (seen : Array Nat) (e : MapEntry), st r = some (.other (.mapIter (some m) since (seen.push e.born) clock)) ∧ st m = some (.other (.map ents clock)) ∧ e ∈ ents.toList ∧ (ents.toList.map (fun x => x.born)).Pairwise (· < ·) ∧ K (.tuple #[e.key, e.val]) st
  | _ => False
theorem Sim.strong {W0 w : World} {st : Heap} (h : Sim W0 st w) {m : Nat} {g : Tg} {es : KV} (hm : st m = some (.map g es)) : ∃ ents clock, MapAt ents clock es ∧ w.heap[m]? = some (.map ents clock) ∧ Sim W0 (upd st m (.other (.map ents clock))) w := by
  obtain ⟨h0, ents, clock, h1, h2⟩ := h.objs _ _ hm
  refine ⟨ents, clock, h2, h1, h.below, fun b o hb => ?_⟩
  unfold upd at hb
  split at hb
  · rename_i hbm; subst hbm; injection hb with hb; subst hb; exact ⟨h0, h1, by simp⟩
  · exact h.objs b o hb
theorem Sim.weakMap {W0 w : World} {st : Heap} (h : Sim W0 st w) {m : Nat} {ents : Array MapEntry} {clock : Nat} {g : Tg} {es : KV} (hm : st m = some (.other (.map ents clock))) (ha : MapAt ents clock es) : Sim W0 (upd st m (.map g es)) w := by
  obtain ⟨h0, h1, _⟩ := h.objs _ _ hm
  refine ⟨h.below, fun b o hb => ?_⟩
  unfold upd at hb
  split at hb
  · rename_i hbm; subst hbm; injection hb with hb; subst hb; exact ⟨h0, ents, clock, h1, ha⟩
  · exact h.objs b o hb
section
variable {P : Program} {W0 : World} {E : Env} {K : Value → Heap → Prop} {Kp : List PanicEntry → Heap → Prop} {st : Heap} {d : Option Nat} {ty : TypeId} {pos : String} {af : Array Edge} {g : Option (Nat × Bool)}
theorem X_range {t key elem : TypeId} {x : Operand} (hu : P.underlying t = some (.map key elem)) (h : rangeX (E.ev x) K st) : opSem P W0 ⟨d, .range t x, ty, pos, af, g⟩ E K Kp st := by
  unfold rangeX at h
  split at h
  · rename_i m he
    obtain ⟨gg, es, hm, h⟩ := h
    intro w hs
    obtain ⟨ents, clock, ha, hw, hs'⟩ := hs.strong hm
    refine wpS_sound (P := P) (s := execOp E.ev ⟨d, .range t x, ty, pos, af, g⟩) ?_ hs'
    unfold execOp
    refine execOp_v ?_
    unfold Instr.range
    simp only [he]
    rw [wpS_bind, wpS_underlying hu, wpS_bind]
    refine .inr ⟨_, upd_same _ _ _, ?_⟩
    rw [wpS_pure']
    dsimp only
    rw [wpS_bind, wpS_pure, wpS_bind]
    intro b hb
    refine h ents clock b ha ?_
    unfold upd at hb
    split at hb
    · cases hb
    · exact hb
  · exact h.elim
theorem filter_none {α : Type} {p : α → Bool} {l : Array α} (h : ∀ x ∈ l.toList, p x = false) : l.filter p = #[] := by
  apply Array.ext'
  simp only [Array.toList_filter]
  rw [List.filter_eq_nil_iff]
  intro x hx
  simp [h x hx]
theorem X_next {x : Operand} (h : nextX (E.ev x) K st) : opSem P W0 ⟨d, .next x false, ty, pos, af, g⟩ E K Kp st := by
  unfold nextX at h
  split at h
  · rename_i r sp he
    obtain ⟨m, ents, clock, seen, gg, es, hr, hm, ha, hover, hmore⟩ := h
    intro w hs
    have hne : m ≠ r := by
      rintro rfl
      rw [hr] at hm
      cases hm
    have hnew : (ents.filter fun e => !seen.contains e.born).filter (fun e => decide (e.born ≥ clock)) = #[] := by
      apply filter_none
      intro y hy
      simp only [Array.toList_filter, List.mem_filter] at hy
      have := ha.lt y hy.1
      simp; omega
    have hold : (ents.filter fun e => !seen.contains e.born).filter (fun e => decide (e.born < clock)) = ents.filter fun e => !seen.contains e.born := by
      apply Array.ext'
      simp only [Array.toList_filter]
      rw [List.filter_eq_self]
      intro y hy
      have := ha.lt y (List.mem_filter.1 hy).1
      simpa using this
    have hrun : wpS P (execOp E.ev ⟨d, .next x false, ty, pos, af, g⟩) (fun nx st' => (nx = .value (.tuple #[.bool false]) ∧ st' = st ∧ ∀ x ∈ ents.toList, x.born ∈ seen.toList) ∨ (∃ e ∈ ents.toList, e.born ∉ seen.toList ∧ nx = .value (.tuple #[.bool true, e.key, e.val]) ∧ st' = upd st r (.other (.mapIter (some m) clock (seen.push e.born) clock)))) (fun _ _ => False) st := by
      unfold execOp
      refine execOp_v ?_
      unfold Instr.next
      simp only [he]
      rw [wpS_bind]
      refine .inr ⟨_, hr, ?_⟩
      rw [wpS_pure']
      dsimp only
      rw [wpS_bind]
      refine .inr ⟨_, hm, ?_⟩
      rw [wpS_pure']
      dsimp only
      have hguard : (!seen.isEmpty && !ents.isEmpty && ents.all (fun x => decide (x.born ≥ clock))) = false := by
        cases hemp : ents.isEmpty with
        | true => simp
        | false =>
          have hne0 : ents.size ≠ 0 := by
            intro h0
            rw [Array.isEmpty_iff_size_eq_zero.2 h0] at hemp
            cases hemp
          have hlt : 0 < ents.size := by omega
          have hb := ha.lt ents[0] (by simp)
          have : ents.all (fun x => decide (x.born ≥ clock)) = false := by
            rw [Array.all_eq_false]
            exact ⟨0, hlt, by simpa using hb⟩
          simp [this]
      rw [if_neg (by rw [hguard]; simp)]
      rw [hold, hnew]
      rw [wpS_bind]
      rw [wpS_choose]
      have fin : ∀ k : Nat, k < ((if (ents.filter fun (e : MapEntry) => !seen.contains e.born).isEmpty = true then #[(none : Option MapEntry)] else #[]) ++ (((ents.filter fun (e : MapEntry) => !seen.contains e.born) ++ #[]).map some)).size → wpS P (match ((if (ents.filter fun (e : MapEntry) => !seen.contains e.born).isEmpty = true then #[(none : Option MapEntry)] else #[]) ++ (((ents.filter fun (e : MapEntry) => !seen.contains e.born) ++ #[]).map some))[k]? with
          | some (some e) => (do
            setObj r (.mapIter (some m) clock (seen.push e.born) clock)
            pure (.tuple #[.bool true, e.key, e.val]) : Sem Value)
          | some none => pure (.tuple #[.bool false])
          | none => stuck "Next: no such candidate") (fun v st' => (Next.value v = .value (.tuple #[.bool false]) ∧ st' = st ∧ ∀ x ∈ ents.toList, x.born ∈ seen.toList) ∨ (∃ e ∈ ents.toList, e.born ∉ seen.toList ∧ Next.value v = .value (.tuple #[.bool true, e.key, e.val]) ∧ st' = upd st r (.other (.mapIter (some m) clock (seen.push e.born) clock)))) (fun _ _ => False) st := by
        intro k hk
        generalize hL : (ents.filter fun e => !seen.contains e.born) = L at hk ⊢
        have hmem : ∀ e ∈ L.toList, e ∈ ents.toList ∧ e.born ∉ seen.toList := by
          intro e hel
          rw [← hL] at hel
          simp only [Array.toList_filter, List.mem_filter] at hel
          refine ⟨hel.1, ?_⟩
          have := hel.2
          simpa using this
        by_cases hemp : L.isEmpty = true
        · rw [if_pos hemp]
          have hL0 : L = #[] := Array.isEmpty_iff.1 hemp
          subst hL0
          rw [if_pos hemp] at hk
          simp at hk
          subst hk
          have e0 : (#[(none : Option MapEntry)] ++ Array.map some (#[] ++ #[]))[0]? = some none := by simp
          rw [e0]
          dsimp only
          rw [wpS_pure]
          refine Or.inl ⟨rfl, rfl, fun y hy => ?_⟩
          rcases Classical.em (y.born ∈ seen.toList) with h' | h'
          · exact h'
          · exfalso
            have : y ∈ (ents.filter fun e => !seen.contains e.born).toList := by
              simp only [Array.toList_filter, List.mem_filter]
              exact ⟨hy, by simpa using h'⟩
            rw [hL] at this
            simp at this
        · rw [if_neg hemp] at hk ⊢
          simp only [Array.append_empty, Array.empty_append, Array.size_map] at hk ⊢
          simp only [Array.getElem?_map, Array.getElem?_eq_getElem hk, Option.map_some]
          obtain ⟨h1, h2⟩ := hmem L[k] (by simp)
          rw [wpS_bind]
          exact .inr ⟨_, hr, by simp, .inr ⟨L[k], h1, h2, rfl, rfl⟩⟩
      have hpos : 0 < ((if (ents.filter fun (e : MapEntry) => !seen.contains e.born).isEmpty = true then #[(none : Option MapEntry)] else #[]) ++ (((ents.filter fun (e : MapEntry) => !seen.contains e.born) ++ #[]).map some)).size := by
        split
        · simp; omega
        · rename_i hne'
          have : (ents.filter fun e => !seen.contains e.born).size ≠ 0 := fun h0 => hne' (Array.isEmpty_iff_size_eq_zero.2 h0)
          simp only [Array.append_empty, Array.empty_append, Array.size_map]
          omega
      by_cases hfz : (Question.mapNext ((if (ents.filter fun (e : MapEntry) => !seen.contains e.born).isEmpty = true then #[(none : Option MapEntry)] else #[]) ++ (((ents.filter fun (e : MapEntry) => !seen.contains e.born) ++ #[]).map some)).size).forced = true
      · rw [if_pos hfz]
        exact fin 0 hpos
      · rw [if_neg hfz]
        intro c
        refine fin _ ?_
        simp only [Question.cut]
        exact Nat.mod_lt _ hpos
    have hr0 := wpS_sound _ hrun hs
    generalize (execOp E.ev ⟨d, .next x false, ty, pos, af, g⟩).run P w = res at hr0
    cases res with
    | ok nx w' =>
      obtain ⟨st', hs', hcase⟩ := hr0
      rcases hcase with ⟨rfl, rfl, hall⟩ | ⟨e, hel, hns, rfl, rfl⟩
      · exact ⟨_, hs'.weakMap hm ha, hover hall⟩
      · exact ⟨_, hs', hmore e hel hns⟩
    | halt y w' => cases y <;> first | exact hr0.elim | (obtain ⟨_, _, h⟩ := hr0; exact h.elim)
  · exact h.elim
theorem find_born {ents : List MapEntry} (hp : (ents.map (fun x => x.born)).Pairwise (· < ·)) {e : MapEntry} (he : e ∈ ents) : ents.find? (fun y => y.born == e.born) = some e := by
  induction ents with
  | nil => cases he
  | cons a l ih =>
    simp only [List.map_cons, List.pairwise_cons] at hp
    rcases List.mem_cons.1 he with rfl | hl
    · simp
    · have hlt := hp.1 _ (List.mem_map.2 ⟨e, hl, rfl⟩)
      rw [List.find?_cons_of_neg (by simp; omega)]
      exact ih hp.2 hl
theorem X_entry {x : Operand} (h : entryX (E.ev x) K st) : opSem P W0 ⟨d, .entry x, ty, pos, af, g⟩ E K Kp st := by
  unfold entryX at h
  split at h
  · rename_i r sp he
    obtain ⟨m, ents, clock, since, seen, e, hr, hm, hmem, hinc, hk⟩ := h
    refine opSem_of ?_
    show wpS P _ _ _ _
    unfold execOp
    refine execOp_v ?_
    unfold Instr.entry
    simp only [he]
    rw [wpS_bind]
    refine .inr ⟨_, hr, ?_⟩
    rw [wpS_pure']
    dsimp only
    simp only [Array.back?_push]
    rw [wpS_bind]
    refine .inr ⟨_, hm, ?_⟩
    rw [wpS_pure']
    dsimp only
    rw [if_neg (by simp)]
    have hf : ents.find? (fun y => y.born == e.born) = some e := by
      rw [← Array.find?_toList]
      exact find_born hinc hmem
    rw [hf]
    exact hk
  · exact h.elim

/-- An entry is taken: its value, and a mark of it. -/
def mapEntryX (P : Program) (t : TypeId) (x k : Value) (K : Value → Heap → Prop) (st : Heap) : Prop :=
  match x with
  | .map (some r) => optK (mapInfo P t) fun i => optK (mapOf st (.map (some r))) fun es => optK (mfind i.2.1 k es 0) fun f =>
      ∀ (ents : Array MapEntry) (clock : Nat), MapAt ents clock (match f with | some (j, v) => es.set j (k, v) | none => es ++ [(k, i.2.2)]) → ∀ e : MapEntry, ents[(match f with | some (j, _) => j | none => es.length : Nat)]? = some e →
        K (.tuple #[(match f with | some (_, v) => v | none => i.2.2), .int .i64 e.born]) (upd st r (.other (.map ents clock)))
  | _ => False
def entryStoreX (x n v : Value) (K : Value → Heap → Prop) (st : Heap) : Prop :=
  match x, n with
  | .map (some r), .int _ z => ∃ ents clock g es j e, st r = some (.other (.map ents clock)) ∧ MapAt ents clock es ∧ ents[j]? = some e ∧ (e.born : Int) = z ∧ K undef (upd st r (.map g (es.set j (e.key, v))))
  | _, _ => False
theorem X_entryStore {t : TypeId} {x n v : Operand} (h : entryStoreX (E.ev x) (E.ev n) (E.ev v) K st) : opSem P W0 ⟨d, .entryStore t x n v, ty, pos, af, g⟩ E K Kp st := by
  unfold entryStoreX at h
  split at h
  · rename_i r kk z hx hn
    obtain ⟨ents, clock, gg, es, j, e, hr, ha, he, rfl, hk⟩ := h
    intro w hs
    have hrun : wpS P (execOp E.ev ⟨d, .entryStore t x n v, ty, pos, af, g⟩) (fun nx st' => nx = .skip ∧ st' = upd st r (.other (.map (ents.modify j fun e => { e with val := E.ev v }) clock))) (fun _ _ => False) st := by
      unfold execOp
      simp only
      rw [wpS_bind]
      unfold Instr.entryStore
      simp only [hx, hn]
      rw [wpS_bind]
      refine .inr ⟨_, hr, ?_⟩
      rw [wpS_pure']
      dsimp only
      simp only [asInt, asIntOf, pure_bind]
      have hf : ents.findIdx? (fun y => (y.born : Int) == (e.born : Int)) = some j := by
        have hlt : j < ents.size := by
          rcases Nat.lt_or_ge j ents.size with h | h
          · exact h
          · rw [Array.getElem?_eq_none h] at he; cases he
        rw [Array.findIdx?_eq_some_iff_getElem]
        refine ⟨hlt, ?_, ?_⟩
        · rw [Array.getElem?_eq_getElem hlt] at he
          injection he with he
          rw [he]
          simp
        · intro i hij
          have hp := List.pairwise_iff_getElem.1 ha.inc i j (by simp; omega) (by simpa using hlt) hij
          rw [Array.getElem?_eq_getElem hlt] at he
          injection he with he
          simp only [List.getElem_map, Array.getElem_toList, he] at hp
          simp
          omega
      rw [hf]
      exact .inr ⟨_, hr, by simp, rfl, rfl⟩
    have hr0 := wpS_sound _ hrun hs
    generalize (execOp E.ev ⟨d, .entryStore t x n v, ty, pos, af, g⟩).run P w = res at hr0
    have ha' : MapAt (ents.modify j fun e => { e with val := E.ev v }) clock (es.set j (e.key, E.ev v)) := by
      have h1 := ha.modify j e.key (E.ev v)
      have h2 : (ents.modify j fun e' => { e' with key := e.key, val := E.ev v }) = ents.modify j fun e => { e with val := E.ev v } := by
        apply Array.ext_getElem?
        intro i
        simp only [Array.getElem?_modify]
        split
        · rename_i hij; subst hij; rw [he]; rfl
        · rfl
      rw [h2] at h1
      exact h1
    cases res with
    | ok nx w' =>
      obtain ⟨st', hs', rfl, rfl⟩ := hr0
      refine ⟨_, hs'.weakMap (g := gg) (upd_same _ _ _) ha', ?_⟩
      rw [upd_upd]
      exact hk
    | halt y w' => cases y <;> first | exact hr0.elim | (obtain ⟨_, _, h⟩ := hr0; exact h.elim)
  · exact h.elim
theorem X_mapEntry {t : TypeId} {x k : Operand} (h : mapEntryX P t (E.ev x) (E.ev k) K st) : opSem P W0 ⟨d, .mapEntry t x k, ty, pos, af, g⟩ E K Kp st := by
  unfold mapEntryX at h
  split at h
  · rename_i r hx
    obtain ⟨⟨key, kd, z⟩, hi, h⟩ := optK_iff.1 h
    obtain ⟨es, hes, h⟩ := optK_iff.1 h
    obtain ⟨f, hf, h⟩ := optK_iff.1 h
    obtain ⟨elem, hu, hkd, hz, hp⟩ := mapInfo_some hi
    simp only at hf h
    intro w hs
    obtain ⟨ents, clock, ha, hw, hs1⟩ := hs.strong (mapOf_some hes)
    refine wpS_sound (P := P) (s := execOp E.ev ⟨d, .mapEntry t x k, ty, pos, af, g⟩) ?_ hs1
    unfold execOp
    refine execOp_v ?_
    unfold Instr.mapEntry
    simp only [hx]
    rw [wpS_bind, wpS_underlying hu]
    simp only
    rw [wpS_bind]
    refine .inr ⟨_, upd_same _ _ _, ?_⟩
    rw [wpS_pure']
    dsimp only
    rw [wpS_bind]
    refine wpS_checkKey hkd hp ?_
    rw [wpS_bind]
    refine wpS_findKey hkd (by rw [ha.kv]; exact hf) ?_
    cases f with
    | some jv =>
      obtain ⟨j, v⟩ := jv
      obtain ⟨m, hm, e, he, hv, hsame⟩ := mfind_at hf
      have hjm : j = m := by omega
      subst hjm
      subst hv
      dsimp only at h ⊢
      rw [← ha.kv, List.getElem?_map, Array.getElem?_toList] at he
      obtain ⟨y, hy, hye⟩ := Option.map_eq_some_iff.1 he
      subst hye
      rw [wpS_bind, hy]
      refine wpS_keyStays hsame ?_
      dsimp only
      rw [wpS_bind]
      refine .inr ⟨_, upd_same _ _ _, by simp, ?_⟩
      rw [upd_upd, wpS_pure', wpS_pure]
      have ha' := ha.modify j (E.ev k) y.val
      have h2 : (ents.modify j fun e' => { e' with key := E.ev k, val := y.val }) = ents.modify j fun e => { e with key := E.ev k } := by
        apply Array.ext_getElem?
        intro i
        simp only [Array.getElem?_modify]
        split
        · rename_i hij; subst hij; rw [hy]; rfl
        · rfl
      rw [h2] at ha'
      exact h _ clock ha' { y with key := E.ev k } (by simp [Array.getElem?_modify, hy])
    | none =>
      dsimp only at h ⊢
      rw [wpS_bind, wpS_zeroValue hz, wpS_bind]
      refine .inr ⟨_, upd_same _ _ _, by simp, ?_⟩
      rw [upd_upd, wpS_pure', wpS_pure]
      have hsz : ents.size = es.length := by rw [← ha.kv]; simp
      exact h _ (clock + 1) (ha.push (E.ev k) z) { key := E.ev k, val := z, born := clock } (by rw [← hsz]; simp)
  · exact h.elim
end
end Go.Proofs.YtadgciaclhjjkaaGreat
