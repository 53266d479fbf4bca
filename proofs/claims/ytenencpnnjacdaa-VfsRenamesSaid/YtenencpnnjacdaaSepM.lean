/- The model's operations in plain forms, sixth part: maps. -/
import Derived.Test.YtenencpnnjacdaaSepT
set_option linter.unusedVariables false
set_option linter.unusedSimpArgs false
namespace Go.Proofs.Ytenencpnnjacdaa
open Go.RowKit (Below)

abbrev KV := List (Value × Value)
/-- Where a key lies. -/
def mfind (kind : TypeDesc) (k : Value) : KV → Nat → Option (Option (Nat × Value))
  | [], _ => some none
  | e :: es, i => match Instr.sameNow kind k e.1 with
    | some true => some (some (i, e.2))
    | some false => mfind kind k es (i + 1)
    | none => none
theorem mfind_eq (kind : TypeDesc) (k : Value) : ∀ (l : List MapEntry) (i : Nat), Instr.findNow kind k l i = mfind kind k (l.map fun x => (x.key, x.val)) i
  | [], i => rfl
  | e :: l, i => by
    unfold Instr.findNow
    simp only [List.map_cons, mfind]
    cases h : Instr.sameNow kind k e.key with
    | none => rfl
    | some b => cases b with
      | true => rfl
      | false => exact mfind_eq kind k l (i + 1)
def plainKey (kind : TypeDesc) : Bool := match kind with | .string | .int _ | .bool => true | _ => false
/-- A map type: its key's description, its element's zero. -/
def mapInfo (P : Program) (t : TypeId) : Option (TypeId × TypeDesc × Value) :=
  match P.underlying t with
  | some (.map key elem) => match P.underlying key, zeroOf P elem with
    | some kd, some z => if plainKey kd then some (key, kd, z) else none
    | _, _ => none
  | _ => none
theorem mapInfo_some {P : Program} {t key : TypeId} {kd : TypeDesc} {z : Value} (h : mapInfo P t = some (key, kd, z)) : ∃ elem, P.underlying t = some (.map key elem) ∧ P.underlying key = some kd ∧ zeroOf P elem = some z ∧ plainKey kd = true := by
  unfold mapInfo at h
  split at h
  · rename_i k e hu
    split at h
    · rename_i kd' z' hk hz
      split at h
      · rename_i hp
        injection h with h; injection h with h1 h2; injection h2 with h2 h3
        subst h1; subst h2; subst h3
        exact ⟨e, hu, hk, hz, hp⟩
      · cases h
    · cases h
  · cases h
theorem wpS_checkKey {P : Program} {Kp : Value → Heap → Prop} {st : Heap} {key : TypeId} {kd : TypeDesc} {e : Bool} {v : Value} {K : Unit → Heap → Prop} (hk : P.underlying key = some kd) (hp : plainKey kd = true) (h : K () st) : wpS P (Instr.checkKey e 10000 key v) K Kp st := by
  unfold Instr.checkKey
  rw [wpS_bind, wpS_underlying hk]
  cases kd <;> first | exact h | (simp [plainKey] at hp)
theorem wpS_findKey {P : Program} {Kp : Value → Heap → Prop} {st : Heap} {key : TypeId} {kd : TypeDesc} {v : Value} {l : List MapEntry} {r : Option (Nat × Value)} {K : Option (Nat × Value) → Heap → Prop} (hk : P.underlying key = some kd) (hf : mfind kd v (l.map fun x => (x.key, x.val)) 0 = some r) (h : K r st) : wpS P (Instr.findKey key v l) K Kp st := by
  unfold Instr.findKey
  rw [wpS_bind, wpS_underlying hk, mfind_eq, hf]
  exact h
/-- What a map has. -/
def mapOf (st : Heap) : Value → Option KV
  | .map none => some []
  | .map (some r) => match st r with
    | some (.map _ es) => some es
    | _ => none
  | _ => none
def lookupX (P : Program) (t : TypeId) (x k : Value) (ok : Bool) (K : Value → Heap → Prop) (st : Heap) : Prop :=
  optK (mapInfo P t) fun i => optK (mapOf st x) fun es => optK (mfind i.2.1 k es 0) fun r =>
    K (if ok then .tuple #[(match r with | some (_, v) => v | none => i.2.2), .bool r.isSome] else (match r with | some (_, v) => v | none => i.2.2)) st
theorem lookup_spec {P : Program} {K : Value → Heap → Prop} {Kp : Value → Heap → Prop} {st : Heap} {t : TypeId} {x k : Value} {ok : Bool} (h : lookupX P t x k ok K st) : wpS P (Instr.lookup t x k ok) K Kp st := by
  obtain ⟨⟨key, kd, z⟩, hi, h⟩ := optK_iff.1 h
  obtain ⟨es, hes, h⟩ := optK_iff.1 h
  obtain ⟨r, hr, h⟩ := optK_iff.1 h
  obtain ⟨elem, hu, hk, hz, hp⟩ := mapInfo_some hi
  simp only at hr h
  unfold Instr.lookup
  rw [wpS_bind, wpS_underlying hu]
  simp only
  have fin : ∀ l : List MapEntry, l.map (fun x => (x.key, x.val)) = es → ∀ b, wpS P (do
      Instr.checkKey b 10000 key k
      let (v, ok') ← match ← Instr.findKey key k l with
        | some (_, v) => pure (v, true)
        | none => do pure (← zeroValue elem, false)
      pure (if ok then Value.tuple #[v, .bool ok'] else v) : Sem Value) K Kp st := by
    intro l hl b
    rw [wpS_bind]
    refine wpS_checkKey hk hp ?_
    rw [wpS_bind]
    refine wpS_findKey hk (by rw [hl]; exact hr) ?_
    cases r with
    | some iv => obtain ⟨i, v⟩ := iv; exact h
    | none =>
      dsimp only
      rw [wpS_bind, wpS_zeroValue hz]
      exact h
  unfold mapOf at hes
  split at hes
  · injection hes with hes; subst hes
    dsimp only
    rw [wpS_bind, wpS_pure]
    exact fin [] rfl _
  · split at hes
    · rename_i m g es' hm
      injection hes with hes; subst hes
      dsimp only
      rw [wpS_bind]
      refine .inl ⟨g, es', hm, fun ents clock ha => ?_⟩
      rw [wpS_pure']
      dsimp only
      rw [wpS_bind, wpS_pure]
      exact fin ents.toList ha.kv _
    · cases hes
  · cases hes

/-! A key set, a key struck. -/
def mset (kd : TypeDesc) (k v : Value) (es : KV) : Option KV :=
  match mfind kd k es 0 with
  | some (some (i, _)) => some (es.set i (k, v))
  | some none => some (es ++ [(k, v)])
  | none => none
def mdel (kd : TypeDesc) (k : Value) (es : KV) : Option KV :=
  match mfind kd k es 0 with
  | some (some (i, _)) => some (es.eraseIdx i)
  | some none => some es
  | none => none
theorem mfind_at {kd : TypeDesc} {k : Value} : ∀ {es : KV} {i j : Nat} {v : Value}, mfind kd k es i = some (some (j, v)) → ∃ m, j = i + m ∧ ∃ e, es[m]? = some e ∧ e.2 = v ∧ Instr.sameNow kd k e.1 = some true
  | [], i, j, v, h => by cases h
  | e :: es, i, j, v, h => by
    unfold mfind at h
    split at h
    · rename_i hs; injection h with h; injection h with h; injection h with h1 h2
      exact ⟨0, by omega, e, rfl, h2, hs⟩
    · obtain ⟨m, hm, e', he, hv, hs⟩ := mfind_at h
      exact ⟨m + 1, by omega, e', by simpa using he, hv, hs⟩
    · cases h
theorem beq_bytes {a b : ByteArray} : (a == b) = true ↔ a = b := by
  obtain ⟨x⟩ := a
  obtain ⟨y⟩ := b
  show (x == y) = true ↔ _
  simp
theorem sameNow_sameBits {kd : TypeDesc} {a b : Value} (h : Instr.sameNow kd a b = some true) : Instr.sameBits 10000 b a = true := by
  unfold Instr.sameNow at h
  split at h
  · rename_i k x k' y
    split at h
    · rename_i hk; subst hk; injection h with h; have h := eq_of_beq h; subst h; simp [Instr.sameBits]
    · cases h
  · injection h with h; have h := beq_bytes.1 h; subst h; simp [Instr.sameBits, beq_bytes]
  · injection h with h; have h := eq_of_beq h; subst h; simp [Instr.sameBits]
  · cases h
theorem wpS_keyStays {P : Program} {Kp : Value → Heap → Prop} {st : Heap} {kd : TypeDesc} {a b : Value} {K : Value → Heap → Prop} (hs : Instr.sameNow kd a b = some true) (h : K a st) : wpS P (Instr.keyThatStays b a) K Kp st := by
  unfold Instr.keyThatStays
  rw [if_pos (sameNow_sameBits hs)]
  exact h
theorem MapAt.modify {ents : Array MapEntry} {clock : Nat} {es : KV} (h : MapAt ents clock es) (i : Nat) (k v : Value) : MapAt (ents.modify i fun e => { e with key := k, val := v }) clock (es.set i (k, v)) := by
  refine ⟨?_, ?_, ?_⟩
  · rw [← h.kv]
    apply List.ext_getElem?
    intro j
    simp only [List.getElem?_map, Array.getElem?_toList, Array.getElem?_modify, List.getElem?_set, List.length_map, Array.length_toList]
    by_cases hj : i = j
    · subst hj
      simp only [if_true]
      by_cases hl : i < ents.size
      · simp [hl]
      · simp [hl]
    · simp [hj]
  · have : ((ents.modify i fun e => { e with key := k, val := v }).toList.map fun x => x.born) = ents.toList.map fun x => x.born := by
      apply List.ext_getElem?
      intro j
      simp only [List.getElem?_map, Array.getElem?_toList, Array.getElem?_modify]
      split
      · cases ents[j]? <;> rfl
      · rfl
    rw [this]
    exact h.inc
  · intro x hx
    obtain ⟨j, hj⟩ := List.getElem?_of_mem hx
    rw [Array.getElem?_toList, Array.getElem?_modify] at hj
    split at hj
    · obtain ⟨y, hy, rfl⟩ := Option.map_eq_some_iff.1 hj
      exact h.lt y (by rw [← Array.getElem?_toList] at hy; exact List.mem_of_getElem? hy)
    · exact h.lt x (by rw [← Array.getElem?_toList] at hj; exact List.mem_of_getElem? hj)
theorem MapAt.push {ents : Array MapEntry} {clock : Nat} {es : KV} (h : MapAt ents clock es) (k v : Value) : MapAt (ents.push { key := k, val := v, born := clock }) (clock + 1) (es ++ [(k, v)]) := by
  refine ⟨by simp [h.kv], ?_, ?_⟩
  · simp only [Array.toList_push, List.map_append, List.map_cons, List.map_nil]
    refine List.pairwise_append.2 ⟨h.inc, by simp, ?_⟩
    intro a ha b hb
    obtain ⟨x, hx, rfl⟩ := List.mem_map.1 ha
    simp at hb
    subst hb
    exact h.lt x hx
  · intro x hx
    simp only [Array.toList_push, List.mem_append, List.mem_singleton] at hx
    rcases hx with hx | rfl
    · exact Nat.lt_succ_of_lt (h.lt x hx)
    · simp
theorem eraseIdx_map' {α β : Type} (f : α → β) : ∀ (l : List α) (i : Nat), (l.eraseIdx i).map f = (l.map f).eraseIdx i
  | [], _ => rfl
  | a :: l, 0 => rfl
  | a :: l, i + 1 => by simp [eraseIdx_map' f l i]
theorem MapAt.erase {ents : Array MapEntry} {clock : Nat} {es : KV} (h : MapAt ents clock es) (i : Nat) : MapAt (ents.eraseIdxIfInBounds i) clock (es.eraseIdx i) := by
  have e : (ents.eraseIdxIfInBounds i).toList = ents.toList.eraseIdx i := by
    unfold Array.eraseIdxIfInBounds
    split
    · simp
    · rename_i hi
      rw [List.eraseIdx_of_length_le (by simpa using hi)]
  refine ⟨?_, ?_, ?_⟩
  · rw [e, ← h.kv, eraseIdx_map']
  · rw [e, eraseIdx_map']
    exact h.inc.sublist (List.eraseIdx_sublist _ _)
  · intro x hx
    rw [e] at hx
    exact h.lt x (List.mem_of_mem_eraseIdx hx)
def mapTag (o : Option HObj) : Tg := match o with | some (.map g _) => g | _ => .ty 0
def mapUpdX (P : Program) (t : TypeId) (x k v : Value) (K : Value → Heap → Prop) (st : Heap) : Prop :=
  match x with
  | .map (some r) => optK (mapInfo P t) fun i => optK (mapOf st (.map (some r))) fun es => optK (mset i.2.1 k v es) fun es' => K undef (upd st r (.map (mapTag (st r)) es'))
  | _ => False
theorem mapOf_some {st : Heap} {r : Nat} {es : KV} (h : mapOf st (.map (some r)) = some es) : st r = some (.map (mapTag (st r)) es) := by
  unfold mapOf at h
  simp only at h
  split at h
  · rename_i g es' hm; injection h with h; subst h; rw [hm]; rfl
  · cases h
theorem mapUpd_spec {P : Program} {K : Value → Heap → Prop} {Kp : Value → Heap → Prop} {st : Heap} {t : TypeId} {x k v : Value} (h : mapUpdX P t x k v K st) : wpS P (Instr.mapUpdate t x k v) (fun _ st => K undef st) Kp st := by
  unfold mapUpdX at h
  split at h
  · rename_i r
    obtain ⟨⟨key, kd, z⟩, hi, h⟩ := optK_iff.1 h
    obtain ⟨es, hes, h⟩ := optK_iff.1 h
    obtain ⟨es', hs, h⟩ := optK_iff.1 h
    obtain ⟨elem, hu, hk, hz, hp⟩ := mapInfo_some hi
    simp only at hs
    unfold Instr.mapUpdate
    rw [wpS_bind, wpS_underlying hu]
    simp only
    rw [wpS_bind]
    refine .inl ⟨_, es, mapOf_some hes, fun ents clock ha => ?_⟩
    rw [wpS_pure']
    dsimp only
    rw [wpS_bind]
    refine wpS_checkKey hk hp ?_
    rw [wpS_bind]
    unfold mset at hs
    split at hs
    · rename_i i w hf
      injection hs with hs; subst hs
      refine wpS_findKey hk (by rw [ha.kv]; exact hf) ?_
      dsimp only
      rw [wpS_bind]
      obtain ⟨m, hm, e, he, hv, hsame⟩ := mfind_at hf
      have him : i = m := by omega
      subst him
      have hent : ((ents[i]?).map (·.key)).getD k = e.1 := by
        rw [← ha.kv, List.getElem?_map, Array.getElem?_toList] at he
        obtain ⟨y, hy, hye⟩ := Option.map_eq_some_iff.1 he
        rw [hy, ← hye]
        rfl
      rw [hent]
      refine wpS_keyStays hsame ?_
      exact .inl ⟨_, es, _, _, _, mapOf_some hes, rfl, ha.modify i k v, h⟩
    · rename_i hf
      injection hs with hs; subst hs
      refine wpS_findKey hk (by rw [ha.kv]; exact hf) ?_
      exact .inl ⟨_, es, _, _, _, mapOf_some hes, rfl, ha.push k v, h⟩
    · cases hs
  · exact h.elim
def delX (P : Program) (t : TypeId) (x k : Value) (K : Value → Heap → Prop) (st : Heap) : Prop :=
  match x with
  | .map (some r) => optK (mapInfo P t) fun i => optK (mapOf st (.map (some r))) fun es => optK (mdel i.2.1 k es) fun es' => K (.tuple #[]) (upd st r (.map (mapTag (st r)) es'))
  | _ => False
theorem del_spec {P : Program} {K : Value → Heap → Prop} {Kp : Value → Heap → Prop} {st : Heap} {t u ty : TypeId} {x k : Value} (h : delX P t x k K st) : wpS P (Builtin.delete_ #[t, u] ty #[x, k]) K Kp st := by
  unfold delX at h
  split at h
  · rename_i r
    obtain ⟨⟨key, kd, z⟩, hi, h⟩ := optK_iff.1 h
    obtain ⟨es, hes, h⟩ := optK_iff.1 h
    obtain ⟨es', hs, h⟩ := optK_iff.1 h
    obtain ⟨elem, hu, hk, hz, hp⟩ := mapInfo_some hi
    simp only at hs
    unfold Builtin.delete_
    simp only [List.getElem?_toArray, List.getElem?_cons_zero, List.getElem?_cons_succ]
    rw [wpS_bind, wpS_underlying hu]
    simp only
    rw [wpS_bind]
    refine .inl ⟨_, es, mapOf_some hes, fun ents clock ha => ?_⟩
    rw [wpS_pure']
    dsimp only
    rw [wpS_bind]
    refine wpS_checkKey hk hp ?_
    rw [wpS_bind]
    unfold mdel at hs
    split at hs
    · rename_i i w hf
      injection hs with hs; subst hs
      refine wpS_findKey hk (by rw [ha.kv]; exact hf) ?_
      dsimp only
      rw [wpS_bind]
      exact .inl ⟨_, es, _, _, _, mapOf_some hes, rfl, ha.erase i, h⟩
    · rename_i hf
      injection hs with hs; subst hs
      refine wpS_findKey hk (by rw [ha.kv]; exact hf) ?_
      dsimp only
      rw [wpS_bind]
      exact .inl ⟨_, es, _, _, _, mapOf_some hes, rfl, ha, h⟩
    · cases hs
  · exact h.elim
section
variable {P : Program} {W0 : World} {E : Env} {K : Value → Heap → Prop} {Kp : List PanicEntry → Heap → Prop} {st : Heap} {d : Option Nat} {ty : TypeId} {pos : String} {af : Array Edge} {g : Option (Nat × Bool)}
theorem X_lookup {t : TypeId} {x k : Operand} {ok : Bool} (h : lookupX P t (E.ev x) (E.ev k) ok K st) : opW P W0 ⟨d, .lookup t x k ok, ty, pos, af, g⟩ E K Kp st := by
  show wpS P _ _ _ _
  unfold execOp
  exact execOp_v (lookup_spec h)
theorem X_mapUpdate {t : TypeId} {x k v : Operand} (h : mapUpdX P t (E.ev x) (E.ev k) (E.ev v) K st) : opW P W0 ⟨d, .mapUpdate t x k v, ty, pos, af, g⟩ E K Kp st := by
  show wpS P _ _ _ _
  unfold execOp
  simp only
  rw [wpS_bind]
  exact mapUpd_spec h
theorem X_delete {x y : Operand} {t u : TypeId} (h : delX P t (E.ev x) (E.ev y) K st) : opW P W0 ⟨d, .call ⟨.builtin .delete, #[x, y], #[t, u]⟩, ty, pos, af, g⟩ E K Kp st :=
  X_builtin (s := Builtin.delete_ #[t, u] ty #[E.ev x, E.ev y]) (by intro c; simp [builtin]) (del_spec h)
end
end Go.Proofs.Ytenencpnnjacdaa
