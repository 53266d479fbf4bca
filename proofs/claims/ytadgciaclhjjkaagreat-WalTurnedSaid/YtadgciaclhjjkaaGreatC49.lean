/- One byte that is turned turns the sum: plain laws. -/
import Derived.Test.YtadgciaclhjjkaaGreatC43
import Derived.Test.YtadgciaclhjjkaaGreatC47
import Derived.Test.YtadgciaclhjjkaaGreatC48
import Derived.Test.YtadgciaclhjjkaaGreatC34
set_option linter.unusedVariables false
set_option linter.unusedSimpArgs false
set_option maxRecDepth 100000
set_option maxHeartbeats 1000000
namespace Go.Proofs.YtadgciaclhjjkaaGreat
open Go.RowKit (Below)
theorem crcTab_top : ∀ k : Fin 16, crcTab.getD k.1 0 / 268435456 = k.1 := by decide
theorem crcTab_lt2 : ∀ k : Fin 16, crcTab.getD k.1 0 < 4294967296 := by decide
theorem xor_div (a b : Nat) : (a ^^^ b) / 268435456 = (a / 268435456) ^^^ (b / 268435456) := by
  have h : ∀ n : Nat, n / 268435456 = n >>> 28 := fun n => by rw [Nat.shiftRight_eq_div_pow]
  rw [h, h, h, Nat.shiftRight_xor_distrib]
theorem crcNib_top {r : Nat} (h : r < 4294967296) : crcNib r / 268435456 = r % 16 := by
  unfold crcNib
  rw [xor_div, crcTab_top ⟨r % 16, by omega⟩]
  have : r / 16 / 268435456 = 0 := by omega
  rw [this, Nat.zero_xor]
theorem crcNib_lt2 {r : Nat} (h : r < 4294967296) : crcNib r < 4294967296 := by
  have h1 := crcTab_lt2 ⟨r % 16, by omega⟩
  unfold crcNib
  exact Nat.xor_lt_two_pow (n := 32) (by omega) h1
theorem crcNib_inj {r s : Nat} (h : r < 4294967296) (h' : s < 4294967296) (he : crcNib r = crcNib s) : r = s := by
  have h1 := crcNib_top h
  rw [he, crcNib_top h'] at h1
  unfold crcNib at he
  rw [h1] at he
  have h2 := congrArg (· ^^^ crcTab.getD (r % 16) 0) he
  simp only [Nat.xor_assoc, Nat.xor_self, Nat.xor_zero] at h2
  omega
theorem xor_byte_lt {r : Nat} {x : UInt8} (h : r < 4294967296) : r ^^^ x.toNat < 4294967296 := Nat.xor_lt_two_pow (n := 32) h (by have := x.toNat_lt; omega)
theorem crcByte_lt2 {r : Nat} {x : UInt8} (h : r < 4294967296) : crcByte r x < 4294967296 := crcNib_lt2 (crcNib_lt2 (xor_byte_lt h))
theorem xor_cancel {a b c : Nat} (h : a ^^^ c = b ^^^ c) : a = b := by
  have h2 := congrArg (· ^^^ c) h
  simpa only [Nat.xor_assoc, Nat.xor_self, Nat.xor_zero] using h2
theorem crcByte_left {r s : Nat} {x : UInt8} (h : r < 4294967296) (h' : s < 4294967296) (he : crcByte r x = crcByte s x) : r = s :=
  xor_cancel (crcNib_inj (xor_byte_lt h) (xor_byte_lt h') (crcNib_inj (crcNib_lt2 (xor_byte_lt h)) (crcNib_lt2 (xor_byte_lt h')) he))
theorem crcByte_right {r : Nat} {x y : UInt8} (h : r < 4294967296) (he : crcByte r x = crcByte r y) : x = y := by
  have h1 := crcNib_inj (xor_byte_lt h) (xor_byte_lt h) (crcNib_inj (crcNib_lt2 (xor_byte_lt h)) (crcNib_lt2 (xor_byte_lt h)) he)
  rw [Nat.xor_comm r, Nat.xor_comm r] at h1
  exact UInt8.toNat_inj.1 (xor_cancel h1)
theorem crcs_lt : ∀ {l : Bs} {r : Nat}, r < 4294967296 → l.foldl crcByte r < 4294967296
  | [], _, h => h
  | _ :: l, _, h => crcs_lt (l := l) (crcByte_lt2 h)
theorem crcs_inj : ∀ {l : Bs} {r s : Nat}, r < 4294967296 → s < 4294967296 → l.foldl crcByte r = l.foldl crcByte s → r = s
  | [], _, _, _, _, he => he
  | _ :: l, _, _, h, h', he => crcByte_left h h' (crcs_inj (l := l) (crcByte_lt2 h) (crcByte_lt2 h') he)
theorem crcM_turned {l r : Bs} {x y : UInt8} (h : x ≠ y) : crcM (l ++ x :: r) ≠ crcM (l ++ y :: r) := by
  intro he
  unfold crcM at he
  have h1 := xor_cancel he
  simp only [List.foldl_append, List.foldl_cons] at h1
  have hl := crcs_lt (l := l) (r := 4294967295) (by omega)
  exact h (crcByte_right hl (crcs_inj (crcByte_lt2 hl) (crcByte_lt2 hl) h1))
theorem le4R_turned {s : Bs} (hs : s.length = 4) {k : Nat} (hk : k < 4) {x : UInt8} (hx : s[k]? ≠ some x) : le4R (s.set k x) ≠ le4R s := by
  match s, hs with
  | [a, b, c, d], _ =>
    have ha := a.toNat_lt
    have hb := b.toNat_lt
    have hc := c.toNat_lt
    have hd := d.toNat_lt
    have hxl := x.toNat_lt
    have ne : ∀ {u v : UInt8}, (some u : Option UInt8) ≠ some v → u.toNat ≠ v.toNat := fun h e => h (by rw [UInt8.toNat_inj.1 e])
    match k, hk with
    | 0, _ =>
      have := ne (u := a) (v := x) (by simpa using hx)
      simp only [List.set_cons_zero, le4R]
      omega
    | 1, _ =>
      have := ne (u := b) (v := x) (by simpa using hx)
      simp only [List.set_cons_zero, List.set_cons_succ, le4R]
      omega
    | 2, _ =>
      have := ne (u := c) (v := x) (by simpa using hx)
      simp only [List.set_cons_zero, List.set_cons_succ, le4R]
      omega
    | 3, _ =>
      have := ne (u := d) (v := x) (by simpa using hx)
      simp only [List.set_cons_zero, List.set_cons_succ, le4R]
      omega
theorem frame_bad {P Q s4 body : Bs} (h1 : 1 ≤ body.length) (h2 : body.length ≤ 1048576) (h4 : s4.length = 4) (hne : crcM body ≠ le4R s4) : ∃ e, frameGetM (P ++ (vputM body.length ++ (s4 ++ (body ++ Q)))) P.length = .error e := by
  obtain ⟨B, hB⟩ : ∃ B, P ++ (vputM body.length ++ (s4 ++ (body ++ Q))) = B := ⟨_, rfl⟩
  have hdrop : B.drop P.length = vputM body.length ++ (s4 ++ (body ++ Q)) := by rw [← hB, List.drop_left]
  have hp : Pre (vputM body.length) B P.length := ⟨s4 ++ (body ++ Q), hdrop.symm⟩
  have hv := vget_put (a := P.length) (n := body.length) (by omega) hp
  have hvl := vputM_len body.length (by omega)
  have hBl := congrArg List.length hB
  simp only [List.length_append] at hBl
  have d1 : B.drop (P.length + (vputM body.length).length) = s4 ++ (body ++ Q) := by rw [← List.drop_drop, hdrop, List.drop_left]
  have d2 : B.drop (P.length + (vputM body.length).length + 4) = body ++ Q := by rw [← List.drop_drop, d1, ← h4, List.drop_left]
  rw [hB]
  refine ⟨4, ?_⟩
  unfold frameGetM
  rw [if_neg (by omega), if_neg (by omega), hv]
  simp only
  rw [if_neg (by omega), d1, d2, List.take_left, ← h4, List.take_left, if_pos hne]
theorem frames_stop : ∀ (bodies : List Bs) {B t : Bs} {a k : Nat}, B.drop a = bodies.flatMap frameM ++ t → a ≤ B.length → (∀ b ∈ bodies, 1 ≤ b.length ∧ b.length ≤ 1048576) → (∃ e, frameGetM B ((a + (bodies.flatMap frameM).length : Nat) : Int) = .error e) → bodies.length < k → framesM k B a = (bodies, ((a + (bodies.flatMap frameM).length : Nat) : Int))
  | [], B, t, a, k, hd, ha, _, ht, hk => by
    obtain ⟨k, rfl⟩ : ∃ j, k = j + 1 := ⟨k - 1, by simp at hk; omega⟩
    obtain ⟨x, hx⟩ := ht
    simp only [List.flatMap_nil, List.length_nil, Nat.add_zero] at hx ⊢
    unfold framesM
    rw [hx]
  | b :: bs, B, t, a, k, hd, ha, hb, ht, hk => by
    obtain ⟨k, rfl⟩ : ∃ j, k = j + 1 := ⟨k - 1, by simp at hk; omega⟩
    have h1 := hb b (by simp)
    have hp : Pre (frameM b) B a := ⟨bs.flatMap frameM ++ t, by rw [hd]; simp⟩
    have hl := hp.len ha
    have hg := frame_at h1.1 h1.2 hp ha
    have e1 : a + (frameM b).length + (bs.flatMap frameM).length = a + ((b :: bs).flatMap frameM).length := by rw [List.flatMap_cons, List.length_append]; omega
    have ih := frames_stop bs (B := B) (t := t) (a := a + (frameM b).length) (k := k) (by rw [← List.drop_drop, hd]; simp) hl (fun x hx => hb x (by simp [hx])) (by rw [e1]; exact ht) (by simp at hk; omega)
    unfold framesM
    rw [hg]
    simp only
    rw [ih, e1]
/-- A log with a frame that is turned, behind whole ones. -/
theorem log_stop {rs : List RcD} {t : Bs} (h : ∀ r ∈ rs, RcGood r) (ht : ∃ e, frameGetM (encL rs ++ t) (encL rs).length = .error e) : bodiesM (encL rs ++ t) = rs.map recB ∧ endsM (encL rs ++ t) = (encL rs).length := by
  have hb : ∀ b ∈ rs.map recB, 1 ≤ b.length ∧ b.length ≤ 1048576 := fun b hb => by obtain ⟨r, hr, rfl⟩ := List.mem_map.1 hb; exact ⟨(h r hr).pos, (h r hr).len⟩
  have hlen : ∀ {bodies : List Bs}, (∀ b ∈ bodies, 1 ≤ b.length ∧ b.length ≤ 1048576) → bodies.length ≤ (bodies.flatMap frameM).length := by
    intro bodies
    induction bodies with
    | nil => intro _; simp
    | cons b bs ih =>
      intro hb
      have := ih fun x hx => hb x (by simp [hx])
      have := frameM_len b (hb b (by simp)).2
      simp only [List.flatMap_cons, List.length_append, List.length_cons]
      omega
  have hl := hlen hb
  rw [encL_eq] at ht ⊢
  have hf := frames_stop (rs.map recB) (B := (rs.map recB).flatMap frameM ++ t) (t := t) (a := 0) (k := ((rs.map recB).flatMap frameM ++ t).length + 1) (by simp) (by simp) hb (by rw [Nat.zero_add]; exact ht) (by rw [List.length_append]; omega)
  unfold bodiesM endsM
  have h' : framesM (((rs.map recB).flatMap frameM ++ t).length + 1) ((rs.map recB).flatMap frameM ++ t) 0 = _ := hf
  rw [h', Nat.zero_add]
  exact ⟨rfl, rfl⟩
/-- One byte of a frame turned, behind its length. -/
theorem frame_turned {P Q body : Bs} {d : Nat} {x y : UInt8} (h1 : 1 ≤ body.length) (h2 : body.length ≤ 1048576) (hd : d < 4 + body.length) (hx : (le4 (crcM body) ++ body)[d]? = some x) (hxy : x ≠ y) : ∃ e, frameGetM (P ++ (vputM body.length ++ ((le4 (crcM body) ++ body).set d y ++ Q))) P.length = .error e := by
  have h4 : (le4 (crcM body)).length = 4 := rfl
  have hc := le4_back (crcM_lt body)
  by_cases hlt : d < 4
  · have hs : (le4 (crcM body) ++ body).set d y = (le4 (crcM body)).set d y ++ body := by rw [List.set_append_left _ _ (by omega)]
    rw [hs, List.append_assoc]
    refine frame_bad h1 h2 (by simp [h4]) ?_
    rw [List.getElem?_append_left (by omega)] at hx
    have h5 := le4R_turned h4 hlt (x := y) (by rw [hx]; intro e; injection e with e; exact hxy e)
    rw [hc] at h5
    exact h5.symm
  · obtain ⟨j, rfl⟩ : ∃ j, d = 4 + j := ⟨d - 4, by omega⟩
    have hs : (le4 (crcM body) ++ body).set (4 + j) y = le4 (crcM body) ++ body.set j y := by
      rw [List.set_append_right _ _ (by omega), h4, show 4 + j - 4 = j by omega]
    rw [hs, List.append_assoc]
    have hl : (body.set j y).length = body.length := by simp
    rw [← hl]
    refine frame_bad (by omega) (by omega) h4 ?_
    rw [hc]
    rw [List.getElem?_append_right (by omega), h4, show 4 + j - 4 = j by omega] at hx
    have hjl := (List.getElem?_eq_some_iff.1 hx).1
    have e1 : body = body.take j ++ x :: body.drop (j + 1) := by
      conv => lhs; rw [← List.take_append_drop j body, List.drop_eq_getElem_cons hjl]
      rw [List.getElem?_eq_getElem hjl] at hx
      injection hx with hx
      rw [hx]
    have e2 : body.set j y = body.take j ++ y :: body.drop (j + 1) := List.set_eq_take_append_cons_drop.trans (by rw [if_pos hjl])
    intro h
    rw [e2] at h
    conv at h => rhs; rw [e1]
    exact crcM_turned (l := body.take j) (r := body.drop (j + 1)) (x := y) (y := x) (Ne.symm hxy) h
end Go.Proofs.YtadgciaclhjjkaaGreat
set_option linter.unusedVariables false
set_option linter.unusedSimpArgs false
set_option maxRecDepth 100000
set_option maxHeartbeats 4000000
namespace Go.Proofs.YtadgciaclhjjkaaGreat
open Go.RowKit (Below)
theorem bits_xor8 (a b : Nat) (ha : a < 2 ^ 8) (hb : b < 2 ^ 8) : bits .xor .u8 (a : Int) (b : Int) = ((a ^^^ b : Nat) : Int) := by
  have h1 : (BitVec.ofNat 8 a ^^^ BitVec.ofNat 8 b).toNat = a ^^^ b := by
    rw [BitVec.toNat_xor, BitVec.toNat_ofNat, BitVec.toNat_ofNat, Nat.mod_eq_of_lt ha, Nat.mod_eq_of_lt hb]
  unfold bits
  simp only [BitVec.ofInt_natCast]
  show IntKind.u8.wrap ((BitVec.ofNat 8 a ^^^ BitVec.ofNat 8 b).toNat : Int) = _
  rw [h1]
  have := Nat.xor_lt_two_pow ha hb
  rw [IntKind.wrap_u8]
  omega
theorem byte_turned (x : UInt8) {b : Nat} (hb : b < 256) (h0 : b ≠ 0) : ∃ y : UInt8, x ≠ y ∧ bits .xor .u8 (x.toNat : Int) (b : Int) = ((y.toNat : Nat) : Int) := by
  have hx := x.toNat_lt
  have hl := Nat.xor_lt_two_pow (n := 8) hx hb
  have h3 : x.toNat ^^^ (x.toNat ^^^ b) = b := by rw [← Nat.xor_assoc, Nat.xor_self, Nat.zero_xor]
  rw [bits_xor8 _ _ hx hb]
  obtain ⟨z, hz⟩ : ∃ z, x.toNat ^^^ b = z := ⟨_, rfl⟩
  rw [hz] at hl h3 ⊢
  have h2 : (UInt8.ofNat z).toNat = z := by simp; omega
  refine ⟨UInt8.ofNat z, fun e => ?_, by rw [h2]⟩
  have h1 := congrArg UInt8.toNat e
  rw [h2] at h1
  rw [h1, Nat.xor_self] at h3
  exact h0 h3.symm
theorem open_stop1 {get : Int → Option Bs} {k : Nat} {n e : Int} {L : LogD} {q qs : List RcD} {B : Bs} {bs : List Bs} (h1 : get n = some B) (h2 : bodiesM B = bs) (h3 : endsM B = e) (h4 : e ≠ B.length) (h5 : recsM bs = some qs) (hw : L.wants ≠ 2) (h6 : get (n + 1) = none) : openGo get (k + 2) n L q = some (⟨n, e, 2⟩, q ++ qs) := by
  rw [openGo, h1]
  simp only
  rw [if_neg hw, h2, h5]
  simp only
  rw [h3, if_neg h4, openGo_torn h6]
theorem open_stop2 {get : Int → Option Bs} {k : Nat} {n e : Int} {L : LogD} {q qs : List RcD} {B b : Bs} {bs : List Bs} (h1 : get n = some B) (h2 : bodiesM B = bs) (h3 : endsM B = e) (h4 : e ≠ B.length) (h5 : recsM bs = some qs) (hw : L.wants ≠ 2) (h6 : get (n + 1) = some b) : openGo get (k + 2) n L q = none := by
  rw [openGo, h1]
  simp only
  rw [if_neg hw, h2, h5]
  simp only
  rw [h3, if_neg h4, openGo, h6]
  simp
theorem two_row {st : Heap} {g : Tg} {v : Value} {B : Bs} (h : Reg st g 1 v (bytesV B) B.length) (hl : B.length ≤ 1000000) : ∀ (i : Nat) (b : Bs) (w : Value), [B, []][i]? = some b → [v, .slice none 0 0][i]? = some w → Reg st g 1 w (bytesV b) b.length ∧ b.length ≤ 1000000 := fun i b w hb hw => by
  match i with
  | 0 =>
    simp at hb hw
    subst hb; subst hw
    exact ⟨h, hl⟩
  | 1 =>
    simp at hb hw
    subst hb; subst hw
    exact ⟨Reg.nil, by simp⟩
  | i + 2 => simp at hb
/-- What the first loop makes. -/
def TurI (s : Heap) (m : Nat) (x v w : Value) : Prop := ∃ (i : Nat) (rs : List RcD) (ends : List Nat), i ≤ m ∧ x = Val.i i ∧ TorR rs ∧ rs.length = i ∧ ends.length = i ∧ Vec s (.ty 6) 1 v (bytesV (encL rs)) (encL rs).length ∧ Vec s (.ty 5) 1 w (ends.map fun n => Val.i (n : Nat)) i ∧ ∀ (j e : Nat), ends[j]? = some e → e = (encL (rs.take (j + 1))).length
theorem lay_two {b d : Bs} : laysOK .new [nameT logB 1, nameT logB 2] = true ∧ fillM (laysM .new [nameT logB 1, nameT logB 2]) ([nameT logB 1, nameT logB 2].zip [b, d]) = some (calm 1 [b, d] c00) := by
  have hok1 := okName_log (n := 1) (by unfold nameOKM; omega)
  have hok2 := okName_log (n := 2) (by unfold nameOKM; omega)
  have hl1 := lay_calm (fro := 1) (gs := []) (c := c00) (r := []) (by omega) (by simp)
  have hl2 := lay_calm (fro := 1) (gs := [[]]) (c := c00) (r := []) (by omega) (by simp)
  simp only [List.length_nil, List.length_cons, Int.natCast_zero, Int.add_zero, List.nil_append, Nat.zero_add, List.cons_append] at hl1 hl2
  have e2 : (1 : Int) + ((1 : Nat) : Int) = 2 := rfl
  rw [e2] at hl2
  have hg1 := logD_get (fro := 1) (j := 0) (n := 2) (by omega) (by omega)
  have hg2 := logD_get (fro := 1) (j := 1) (n := 2) (by omega) (by omega)
  have hg3 := logD_get (fro := 1) (j := 1) (n := 1) (by omega) (by omega)
  rw [if_pos (by omega)] at hg1 hg2
  rw [if_neg (by omega)] at hg3
  simp only [Int.natCast_zero, Int.add_zero] at hg1
  rw [e2] at hg2 hg3
  refine ⟨?_, ?_⟩
  · have h3 : aget (VFS.new.lay (nameT logB 1) []).now (nameT logB 2) = none := by rw [new_calm 1, hl1]; exact hg3
    simp [laysOK, hok1, hok2, VFS.new, aget_nil]
    simpa [VFS.new] using h3
  · show fillM ((VFS.new.lay _ []).lay _ []) [(_, b), (_, d)] = _
    rw [new_calm 1, hl1, hl2, fillM]
    have h1 : aget (calm 1 [[], []] c00).now (nameT logB 1) = some 0 := hg1
    rw [h1]
    simp only [Option.bind_some]
    rw [fillM]
    have h2 : aget ((calm 1 [[], []] c00).fillF 0 b).now (nameT logB 2) = some 1 := hg2
    rw [h2]
    rfl
/-- What is there behind the count of frames ahead of the byte. -/
def TurP (s : Heap) (v x y z : Value) : Prop := ∃ (rs : List RcD) (j k : Nat) (vb : Option Addr) (vc : Nat), TorR rs ∧ rs.length ≤ 8 ∧ v = .slice vb (encL rs).length vc ∧ Vec s (.ty 6) 1 (.slice vb (encL rs).length vc) (bytesV (encL rs)) (encL rs).length ∧ x = Val.i k ∧ y = Val.i j ∧ z = Val.i (encL (rs.take j)).length ∧ j < rs.length ∧ (encL (rs.take j)).length ≤ k ∧ k < (encL (rs.take (j + 1))).length
section
variable {W0 : World} {st : Heap}
theorem walTurned_walk {n at_ : Int} {by_ : Nat} {last : Bool} (hby : by_ < 256) : ICalls Tryz.prog W0 5 #[Val.i n, Val.i at_, .int .u8 (by_ : Int), .bool last] st fun e st' => e = .returned (.bool true) := by
  have awk : ∀ {st : Heap}, ICalls Tryz.prog W0 20 #[] st fun e st' => e = .returned (.bool true) := awake17_spec.mono fun e st' h => h.1
  have hlog : (⟨#[108, 111, 103, 45]⟩ : ByteArray) = logB := rfl
  refine enter (args := [_, _, _, _]) Tryz.func5 rfl ?_
  iterate 10 refine IW_assoc ?_
  refine IW_cut' (fun E' s => by_ ≠ 0 ∧ E' 2 = .int .u8 (by_ : Int) ∧ E' 3 = .bool last ∧ TurP s (E' 9) (E' 13) (E' 14) (E' 15)) ?_ ?_
  rotate_left
  · rintro E s ⟨hb0, e2, e3, rs, j, k, vb, vc, hO, hlen, e9, hB, e13, e14, e15, hj, hj1, hj2⟩
    have hgood := hO.good (by omega)
    have hBl := encL_law hgood
    obtain ⟨r, hr⟩ : ∃ r, rs[j]? = some r := ⟨_, List.getElem?_eq_getElem hj⟩
    have hrg := (hgood r (List.mem_of_getElem? hr)).1
    have hrf := recF_len hrg
    have hd : rs.drop j = r :: rs.drop (j + 1) := by rw [List.drop_eq_getElem_cons hj]; congr 1; rw [List.getElem?_eq_getElem hj] at hr; exact Option.some.inj hr
    have ht1 : rs.take (j + 1) = rs.take j ++ [r] := by rw [List.take_add_one, hr]; rfl
    obtain ⟨P, hP⟩ : ∃ P, encL (rs.take j) = P := ⟨_, rfl⟩
    obtain ⟨Q, hQ⟩ : ∃ Q, encL (rs.drop (j + 1)) = Q := ⟨_, rfl⟩
    have hsplit : encL rs = P ++ (recF r ++ Q) := by
      conv => lhs; rw [← List.take_append_drop j rs, hd]
      unfold encL
      rw [List.flatMap_append, List.flatMap_cons, ← hP, ← hQ]
      rfl
    rw [ht1, encL_snoc, List.length_append, hP] at hj2
    rw [hP] at hj1 e15
    obtain ⟨body, hbody⟩ : ∃ body, recB r = body := ⟨_, rfl⟩
    have hb1 := hrg.pos
    have hb2 := hrg.len
    have hfr : recF r = vputM body.length ++ (le4 (crcM body) ++ body) := by unfold recF; rw [hbody]; rfl
    rw [hbody] at hb1 hb2 hrf
    obtain ⟨vl, hvl⟩ : ∃ vl, (vputM body.length).length = vl := ⟨_, rfl⟩
    have hfl : (recF r).length = vl + (4 + body.length) := by rw [hfr, List.length_append, List.length_append, hvl]; rfl
    obtain ⟨N, hN⟩ : ∃ N, (encL rs).length = N := ⟨_, rfl⟩
    have hNl : N = P.length + ((recF r).length + Q.length) := by rw [← hN, hsplit, List.length_append, List.length_append]
    rw [hN] at hB e9 hBl
    simp [go_sem, e9, e15]
    unfold NewP
    intro t16 ht16
    refine ⟨.own t16 0 94, ?_⟩
    have k1 := (New.refl s).add (b := t16) (o := .cells true [.slice vb N vc, Val.i (P.length : Int), .bool false] 3 (.own t16 0 94)) ht16
    have g16 := upd_same s t16 (.cells true [.slice vb N vc, Val.i (P.length : Int), .bool false] 3 (.own t16 0 94))
    simp [go_sem]
    generalize upd s t16 (.cells true [.slice vb N vc, Val.i (P.length : Int), .bool false] 3 (.own t16 0 94)) = s1 at *
    have hB1 := hB.new' k1
    have hrefat : RefAt s1 t16 (.slice vb N vc) (some (P.length : Int)) := g16
    refine (refNum_spec (b := encL rs) hrefat (by rw [hN]; exact hB1.reg) Free.ty (by omega)).mono ?_
    rintro e s2 ⟨hk2, rfl, hat⟩
    have hnum : numR (encL rs) (some (P.length : Int)) = (body.length, some ((P.length + vl : Nat) : Int)) := by
      have hp : Pre (vputM body.length) (encL rs) P.length := ⟨(le4 (crcM body) ++ body) ++ Q, by rw [hsplit, List.drop_left, hfr]; simp⟩
      have := vget_put (a := P.length) (n := body.length) (by omega) hp
      unfold numR
      simp only [Option.bind_some]
      rw [this, hvl]
    rw [hnum] at hat
    have hat' : s2 t16 = some (refC (.slice vb N vc) ((P.length + vl : Nat) : Int) false t16) := hat
    unfold refC at hat'
    have hB2 : Vec s2 (.ty 6) 1 (.slice vb N vc) (bytesV (encL rs)) N := by
      obtain ⟨w1, wb, wc, we, w3, w4⟩ := hB1
      refine ⟨w1, wb, wc, we, w3, w4.imp ?_ id⟩
      rintro ⟨b, m, h1, h2, h3⟩
      exact ⟨b, m, h1, hk2 _ _ (by rintro rfl; rw [g16] at h2; injection h2 with h2; injection h2 with _ _ _ h2; cases h2) h2, h3⟩
    simp [go_sem, e13, hat']
    by_cases hkl : k < P.length + vl
    · have q : ((k : Int) < (P.length : Int) + (vl : Int)) = True := eq_true (by omega)
      simp [go_sem, q]
      refine awk.mono ?_
      rintro e s3 rfl
      simp [go_sem]
    have q : ((k : Int) < (P.length : Int) + (vl : Int)) = False := eq_false (by omega)
    obtain ⟨d, hdd⟩ : ∃ d, k - (P.length + vl) = d := ⟨_, rfl⟩
    have hd4 : d < 4 + body.length := by omega
    obtain ⟨x, hx⟩ : ∃ x, (le4 (crcM body) ++ body)[d]? = some x := ⟨_, List.getElem?_eq_getElem (by rw [List.length_append]; exact hd4)⟩
    obtain ⟨y, hxy, hbits⟩ := byte_turned x hby hb0
    have hBk : (encL rs)[k]? = some x := by
      rw [hsplit, hfr, List.getElem?_append_right (by omega), List.append_assoc, List.getElem?_append_right (by rw [hvl]; omega), hvl, show k - P.length - vl = d by omega, List.getElem?_append_left (by rw [List.length_append]; exact hd4)]
      exact hx
    obtain ⟨B2, hB2e⟩ : ∃ B2, (encL rs).set k y = B2 := ⟨_, rfl⟩
    have hB2s : B2 = P ++ (vputM body.length ++ ((le4 (crcM body) ++ body).set d y ++ Q)) := by
      rw [← hB2e, hsplit, hfr, List.set_append_right _ _ (by omega), List.append_assoc, List.set_append_right _ _ (by rw [hvl]; omega), hvl, show k - P.length - vl = d by omega, List.set_append_left _ _ (by rw [List.length_append]; exact hd4)]
    have hB2l : B2.length = N := by rw [← hB2e, List.length_set, hN]
    obtain ⟨w1, wb, wc, we, w3, w4⟩ := hB2
    injection we with we1 we2 we3
    subst we1; subst we3
    rcases w4 with ⟨bb, nn, rfl, hbb, hnn⟩ | ⟨rfl, hc0⟩
    rotate_left
    · omega
    have hkN : k < N := by omega
    have q2 : ((k : Int) < (N : Int)) = True := eq_true (by omega)
    have hcell : (bytesV (encL rs))[k]? = some (.int .u8 (x.toNat : Int)) := by unfold bytesV; rw [List.getElem?_map, hBk]; rfl
    have hcell' : ∀ h : k < (bytesV (encL rs)).length, (bytesV (encL rs))[k] = .int .u8 (x.toNat : Int) := fun h => by
      rw [List.getElem?_eq_getElem h] at hcell; exact Option.some.inj hcell
    have hbl : (bytesV (encL rs)).length = N := by rw [bytesV_length, hN]
    have hkN1 : k ≤ N := by omega
    have hknn : k < nn := by omega
    have hset : (bytesV (encL rs)).set k (.int .u8 (y.toNat : Int)) = bytesV B2 := by rw [← hB2e]; unfold bytesV; rw [List.map_set]
    simp [go_sem, q, e2, e9, e13, q2, hkN, hbb, hcell, hcell', hbl, hbits, hkN1, hknn, hset]
    have hB3 : Vec (upd s2 bb (.cells true (bytesV B2) nn (.ty 6))) (.ty 6) 1 (.slice (some ⟨bb, 0, none⟩) N vc) (bytesV B2) N := ⟨by rw [bytesV_length, hB2l]; omega, _, _, rfl, w3, .inl ⟨bb, nn, rfl, upd_same _ _ _, hnn⟩⟩
    generalize upd s2 bb (.cells true (bytesV B2) nn (.ty 6)) = s3 at *
    refine walName_exact.mono ?_
    rintro e s4 ⟨rfl, hN4⟩
    simp [go_sem, hlog]
    unfold NewS
    intro nb1 hnb1
    refine ⟨.ty 5, ?_⟩
    have k5 := (New.refl s4).add (b := nb1) (o := .cells true [.string (nameT logB 1)] 1 (.ty 5)) hnb1
    have hNm5 : Vec (upd s4 nb1 (.cells true [.string (nameT logB 1)] 1 (.ty 5))) (.ty 5) 1 (.slice (some ⟨nb1, 0, none⟩) 1 1) [.string (nameT logB 1)] 1 := ⟨rfl, _, _, rfl, by omega, .inl ⟨nb1, 1, rfl, upd_same _ _ _, by omega⟩⟩
    simp [go_sem]
    generalize upd s4 nb1 (.cells true [.string (nameT logB 1)] 1 (.ty 5)) = s5 at *
    simp [go_sem, e9]
    intro nb2 hnb2
    refine ⟨.ty 4, ?_⟩
    have k6 := (New.refl s5).add (b := nb2) (o := .cells true [.slice (some ⟨bb, 0, none⟩) N vc] 1 (.ty 4)) hnb2
    have hDt6 : Vec (upd s5 nb2 (.cells true [.slice (some ⟨bb, 0, none⟩) N vc] 1 (.ty 4))) (.ty 4) 1 (.slice (some ⟨nb2, 0, none⟩) 1 1) [.slice (some ⟨bb, 0, none⟩) N vc] 1 := ⟨rfl, _, _, rfl, by omega, .inl ⟨nb2, 1, rfl, upd_same _ _ _, by omega⟩⟩
    simp [go_sem]
    generalize upd s5 nb2 (.cells true [.slice (some ⟨bb, 0, none⟩) N vc] 1 (.ty 4)) = s6 at *
    have hB6 := (hB3.new' hN4).new' (k5.trans k6)
    have hNm6 := hNm5.new' k6
    obtain ⟨hbd, hen⟩ := log_stop (rs := rs.take j) (t := vputM body.length ++ ((le4 (crcM body) ++ body).set d y ++ Q)) (fun r hr => (hgood r (List.mem_of_mem_take hr)).1) (by
      rw [hP]
      exact frame_turned hb1 hb2 hd4 hx hxy)
    rw [hP, ← hB2s] at hbd hen
    have hrt : recsM ((rs.take j).map recB) = some ((rs.take j).map plainR) := recsM_map fun r hr => (hgood r (List.mem_of_mem_take hr)).1
    have hjl : (rs.take j).length = j := by rw [List.length_take]; omega
    have hPN : P.length < N := by omega
    cases last with
    | true =>
      obtain ⟨hlok, hfill⟩ := lay_one (fro := 1) (b := B2) (by omega) (by omega)
      have hvs := one_row (v := .slice (some ⟨bb, 0, none⟩) N vc) (B := B2) (by rw [hB2l]; exact hB6.reg) (by omega)
      simp [go_sem, e3]
      refine ICalls.mono (by simpa using Laid_spec (W0 := W0) (names := [nameT logB 1]) (datas := [B2]) (vs := [.slice (some ⟨bb, 0, none⟩) N vc]) (gn := .ty 5) (gd := .ty 4) (gb := .ty 6) (nb := some ⟨nb1, 0, none⟩) (db := some ⟨nb2, 0, none⟩) (nc := 1) (dc := 1) rfl rfl hNm6.reg hDt6.reg hvs Free.ty Free.ty Free.ty (by simp) hlok hfill) ?_
      rintro e s7 ⟨f2, rfl, hf2n, hF2, k7⟩
      simp [go_sem]
      have hop : openM (calm 1 [B2] c00) 1 = some (⟨1, P.length, 2⟩, (rs.take j).map plainR) := by
        have g1 := getL_calm (fro := 1) (fs := [B2]) (c := c00) (by omega) (by simp) 0
        have g2 := getL_calm (fro := 1) (fs := [B2]) (c := c00) (by omega) (by simp) 1
        unfold openM
        exact (open_stop1 (k := 99999998) (by simpa using g1) hbd hen (by rw [hB2l]; omega) hrt (by simp) (by simpa using g2)).trans (by simp)
      refine (Open_spec (A := 1) (B := 1000) hF2 (fun F hF => ?_) (by omega) (by omega) (by omega) (fun n hn => calm_cap (by omega) (by simp) n (by simpa using hn))).mono ?_
      · obtain ⟨i, b, h1, rfl⟩ := logFs_mem hF
        have := List.mem_of_getElem? h1
        simp at this
        show b.length ≤ 1000
        rw [this]
        omega
      rintro e s8 ⟨hN8, hm⟩
      rw [if_pos (show nameOKM 1 by unfold nameOKM; omega), hop] at hm
      obtain ⟨lp, v, cs, rfl, hlp, hL, ⟨t, ht, hFr, hV⟩, hR⟩ := hm
      rw [List.length_map, hjl] at hV
      obtain ⟨b8, n8, rfl⟩ := hV.slice
      simp [go_sem, e3, e14]
      refine awk.mono ?_
      rintro e s9 rfl
      simp [go_sem]
    | false =>
      simp [go_sem, e3]
      refine walName_exact.mono ?_
      rintro e s7 ⟨rfl, hN7⟩
      simp [go_sem, hlog]
      intro nb3 hnb3
      refine ⟨.ty 1, ?_⟩
      have k8 := (New.refl s7).add (b := nb3) (o := .cells true [.string (nameT logB 2)] 1 (.ty 1)) hnb3
      have g8 := upd_same s7 nb3 (.cells true [.string (nameT logB 2)] 1 (.ty 1))
      simp [go_sem]
      generalize upd s7 nb3 (.cells true [.string (nameT logB 2)] 1 (.ty 1)) = s8 at *
      refine AppI_vec (g := .ty 5) (m := 1) (ys := [.string (nameT logB 2)]) si32 ((hNm6.new' hN7).new' k8) (by simp [srcCells, lkN_mk, g8, cellsOf]) (by simp [Value.oneCell']) (by omega) ?_
      intro nb9 nc9 s9 hNm9 hE9
      have K9 : Keep (fun g => g ≠ .ty 5) s8 s9 := hE9.toKeep (by simp)
      have hDt9 := ((hDt6.new' hN7).new' k8).keep K9 (by simp)
      have hB9 := ((hB6.new' hN7).new' k8).keep K9 (by simp)
      simp [go_sem]
      intro nb10 hnb10
      refine ⟨.ty 1, ?_⟩
      have k10 := (New.refl s9).add (b := nb10) (o := .cells true [.slice none 0 0] 1 (.ty 1)) hnb10
      have g10 := upd_same s9 nb10 (.cells true [.slice none 0 0] 1 (.ty 1))
      simp [go_sem]
      generalize upd s9 nb10 (.cells true [.slice none 0 0] 1 (.ty 1)) = s10 at *
      refine AppI_vec (g := .ty 4) (m := 1) (ys := [.slice none 0 0]) si64 (hDt9.new' k10) (by simp [srcCells, lkN_mk, g10, cellsOf]) (by simp [Value.oneCell']) (by omega) ?_
      intro nb11 nc11 s11 hDt11 hE11
      have K11 : Keep (fun g => g ≠ .ty 4) s10 s11 := hE11.toKeep (by simp)
      have hNm11 := (hNm9.new' k10).keep K11 (by simp)
      have hB11 := (hB9.new' k10).keep K11 (by simp)
      simp only [List.cons_append, List.nil_append, Nat.reduceAdd] at hNm11 hDt11
      obtain ⟨hlok, hfill⟩ := lay_two (b := B2) (d := [])
      simp [go_sem]
      refine ICalls.mono (by simpa using Laid_spec (W0 := W0) (names := [nameT logB 1, nameT logB 2]) (datas := [B2, []]) (vs := [.slice (some ⟨bb, 0, none⟩) N vc, .slice none 0 0]) (gn := .ty 5) (gd := .ty 4) (gb := .ty 6) (nb := nb9) (db := nb11) (nc := nc9) (dc := nc11) rfl rfl hNm11.reg hDt11.reg (two_row (by rw [hB2l]; exact hB11.reg) (by omega)) Free.ty Free.ty Free.ty (by simp) hlok hfill) ?_
      rintro e s12 ⟨f2, rfl, hf2n, hF2, k12⟩
      simp [go_sem]
      have hop : openM (calm 1 [B2, []] c00) 1 = none := by
        have g1 := getL_calm (fro := 1) (fs := [B2, []]) (c := c00) (by omega) (by simp) 0
        have g2 := getL_calm (fro := 1) (fs := [B2, []]) (c := c00) (by omega) (by simp) 1
        unfold openM
        exact open_stop2 (k := 99999998) (by simpa using g1) hbd hen (by rw [hB2l]; omega) hrt (by simp) (b := []) (by simpa using g2)
      refine (Open_spec (A := 2) (B := 1000) hF2 (fun F hF => ?_) (by omega) (by omega) (by omega) (fun n hn => calm_cap (by omega) (by simp) n (by simpa using hn))).mono ?_
      · obtain ⟨i, b, h1, rfl⟩ := logFs_mem hF
        have := List.mem_of_getElem? h1
        simp at this
        show b.length ≤ 1000
        rcases this with h | h
        · rw [h]; omega
        · rw [h]; simp
      rintro e s13 ⟨hN13, hm⟩
      rw [if_pos (show nameOKM 1 by unfold nameOKM; omega), hop] at hm
      simp only at hm
      subst hm
      simp [go_sem, e3]
      refine awk.mono ?_
      rintro e s14 rfl
      simp [go_sem]
  simp [Tryz.f5, go_sem]
  refine (Place_spec (k := 8) (by omega) (by omega)).mono ?_
  rintro e st0 ⟨⟨m0, hm0, rfl⟩, rfl⟩
  have hwm : IntKind.i64.wrap (1 + (m0 : Int)) = ((m0 + 1 : Nat) : Int) := by rw [wrap_id (by omega) (by omega)]; omega
  obtain ⟨m, hm⟩ : ∃ m, m0 + 1 = m := ⟨_, rfl⟩
  rw [hm] at hwm
  have hm1 : 1 ≤ m := by omega
  have hm8 : m ≤ 8 := by omega
  clear hm hm0
  simp [go_sem, hwm]
  refine ⟨fun E s => E 0 = Val.i m ∧ E 1 = Val.i at_ ∧ E 2 = .int .u8 (by_ : Int) ∧ E 3 = .bool last ∧ TurI s m (E 11) (E 9) (E 10),
    fun E _ => match E 11 with | .int _ j => m - j.toNat | _ => 0, ⟨st0, .rfl' _, by simp [go_sem], by simp [go_sem], by simp [go_sem], by simp [go_sem], 0, [], [], by omega, by simp [go_sem], fun i r hi => by simp at hi, rfl, rfl, by simp [go_sem]; exact Vec.nil, by simp [go_sem]; exact Vec.nil, by simp⟩, ?_⟩
  rintro E s ⟨e0, e1, e2, e3, i, rs, ends, him, e11, hO, hlen, hel, hB, hV, hends⟩
  obtain ⟨v9, e9⟩ : ∃ v, E 9 = v := ⟨_, rfl⟩
  obtain ⟨v10, e10⟩ : ∃ v, E 10 = v := ⟨_, rfl⟩
  rw [e9] at hB
  rw [e10] at hV
  have hgood := hO.good (by omega)
  have hBl := encL_law hgood
  by_cases hlt : i < m
  · have q : ((i : Int) < m) = True := eq_true (by omega)
    have hwi : IntKind.i64.wrap ((i : Int) + 1) = (i : Int) + 1 := wrap_id (by omega) (by omega)
    have hz1 : I64 ((i : Int) + 1) := ⟨by omega, by omega⟩
    have hz2 : I64 (i : Int) := ⟨by omega, by omega⟩
    simp [go_sem, e0, e9, e10, e11, q, hlt, hwi]
    refine rec_spec.mono ?_
    rintro e s2 ⟨hN2, cs, ls, rfl, hR, hG⟩
    have hlen80 := lawR_len hz1 hz2 hG
    have hgr := lawR_good hz1 hz2 hG
    have hfl := recF_len hgr
    simp [go_sem]
    refine (putRec17_spec (.ty 7) (by simp) hR hgr.fits hgr.rc).mono ?_
    rintro e s3 ⟨v3, rfl, hV3, hF3, hN3⟩
    obtain ⟨b3, c3, rfl⟩ := hV3.slice
    simp [go_sem, e9]
    refine (put05_spec (.ty 7) hV3.reg (by omega)).mono ?_
    rintro e s4 ⟨v4, rfl, hV4, hF4, hN4⟩
    have K4 := (hN2.trans hN3).trans hN4
    have hB4 := hB.new' K4
    obtain ⟨bb, bc, hbe⟩ := hB4.slice
    simp [go_sem]
    have hrf : frameM (recB (lawR ((i : Int) + 1) i ls)) = recF (lawR ((i : Int) + 1) i ls) := rfl
    rw [hrf] at hV4
    generalize hRR : lawR ((i : Int) + 1) i ls = R at *
    refine AppI_vec (g := .ty 6) si40 hB4 hV4.src (bytesV_one _) (by omega) ?_
    intro vb7 vc7 s7 hB7 hE7
    have K7 : Keep (fun g => g ≠ .ty 6) s4 s7 := hE7.toKeep (by simp)
    have hV7 := (hV.new' K4).keep K7 (by simp)
    have hB7' : Vec s7 (.ty 6) 1 (.slice vb7 (encL (rs ++ [R])).length vc7) (bytesV (encL (rs ++ [R]))) (encL (rs ++ [R])).length := by
      rw [encL_snoc, bytesV_append, List.length_append]; exact hB7
    have hll : (encL rs).length + (recF R).length = (encL (rs ++ [R])).length := by rw [encL_snoc, List.length_append]
    rw [hll]
    have hl2 : (encL (rs ++ [R])).length ≤ 1000 := by rw [← hll]; omega
    obtain ⟨z, hz⟩ : ∃ z, (encL (rs ++ [R])).length = z := ⟨_, rfl⟩
    rw [hz] at hB7' hl2 ⊢
    simp [go_sem, e10]
    unfold NewS
    intro b0 hb0
    refine ⟨.ty 1, ?_⟩
    have k8 := (New.refl s7).add (b := b0) (o := .cells true [Val.i (z : Int)] 1 (.ty 1)) hb0
    have gb := upd_same s7 b0 (.cells true [Val.i (z : Int)] 1 (.ty 1))
    simp [go_sem]
    generalize upd s7 b0 (.cells true [Val.i (z : Int)] 1 (.ty 1)) = s8 at *
    refine AppI_vec (g := .ty 5) (m := 1) (ys := [Val.i (z : Int)]) si58 (hV7.new' k8) (by simp [srcCells, lkN_mk, gb, cellsOf]) (by simp [Value.oneCell']) (by omega) ?_
    intro vb9 vc9 s9 hV9 hE9
    have K9 : Keep (fun g => g ≠ .ty 5) s8 s9 := hE9.toKeep (by simp)
    simp [go_sem, e0, e1, e2, e3, e11, hwi]
    refine ⟨_, .rfl' _, ⟨i + 1, rs ++ [R], ends ++ [z], by omega, by simp, ?_, by simp [hlen], by simp [hel], ?_, ?_, ?_⟩, by omega⟩
    · have := hO.snoc hG
      rw [hlen, hRR] at this
      exact this
    · rw [hz]; exact (hB7'.new' k8).keep K9 (by simp)
    · rw [List.map_append]
      exact hV9
    · intro j e hj
      by_cases hji : j < ends.length
      · rw [List.getElem?_append_left hji] at hj
        rw [List.take_append_of_le_length (by omega)]
        exact hends j e hj
      · have hji2 : j = ends.length := by
          have := (List.getElem?_eq_some_iff.1 hj).1
          simp at this
          omega
        subst hji2
        simp at hj
        rw [List.take_of_length_le (by simp; omega), hz]
        exact hj.symm
  · have hq : i = m := by omega
    subst hq
    simp [go_sem, e0, e1, e2, e3, e9, e10, e11]
    by_cases hb0 : by_ = 0
    · simp [go_sem, hb0]
      refine awk.mono ?_
      rintro e s5 rfl
      simp [go_sem]
    have qb : ((by_ : Int) = 0) = False := eq_false (by omega)
    have hLpos : 0 < (encL rs).length := by
      cases rs with
      | nil => simp at hlen; omega
      | cons r rs =>
        have := recF_len (hgood r (by simp)).1
        have e : encL (r :: rs) = recF r ++ encL rs := rfl
        rw [e, List.length_append]
        omega
    obtain ⟨vb, vc, rfl⟩ := hB.slice
    obtain ⟨eb, ec, rfl⟩ := hV.slice
    simp [go_sem, qb, hb0, e1, e9]
    refine (Place_spec (k := ((encL rs).length : Int)) (by omega) (by omega)).mono ?_
    rintro e s6 ⟨⟨k, hk, rfl⟩, rfl⟩
    have hk' : k < (encL rs).length := by omega
    simp [go_sem]
    refine ⟨fun E s => E 2 = .int .u8 (by_ : Int) ∧ E 3 = .bool last ∧ E 9 = .slice vb (encL rs).length vc ∧ E 10 = .slice eb i ec ∧ E 13 = Val.i k ∧ s = s6 ∧ ∃ j : Nat, j < i ∧ E 14 = Val.i j ∧ (encL (rs.take j)).length ≤ k,
      fun E _ => match E 14 with | .int _ j => i - j.toNat | _ => 0, ⟨s6, .rfl' _, by simp [go_sem, e2], by simp [go_sem, e3], by simp [go_sem, e9], by simp [go_sem, e10], by simp [go_sem], rfl, 0, by omega, by simp [go_sem], by simp [encL]⟩, ?_⟩
    clear e0 e1 e2 e3 e9 e10 e11 E
    rintro E s ⟨e2, e3, e9, e10, e13, rfl, j, hj, e14, hjk⟩
    have q1 : ((j : Int) < (i : Int)) = True := eq_true (by omega)
    have hwj : IntKind.i64.wrap ((j : Int) + 1) = (j : Int) + 1 := wrap_id (by omega) (by omega)
    obtain ⟨x, hx⟩ : ∃ x, ends[j]? = some x := ⟨_, List.getElem?_eq_getElem (by omega)⟩
    have hxe := hends j x hx
    obtain ⟨blk, off, rfl, hg⟩ := src_get hV.src (by omega)
    have g0 := hg j (by omega)
    rw [List.getElem?_map, hx] at g0
    simp only [Option.map_some] at g0
    by_cases hc : x ≤ k
    · have q2 : ((x : Int) ≤ (k : Int)) = True := eq_true (by omega)
      have hji : j + 1 < i := by
        rcases Nat.lt_or_ge (j + 1) i with h | h
        · exact h
        · have h1 : rs.take (j + 1) = rs := List.take_of_length_le (by omega)
          rw [h1] at hxe
          omega
      clear hg
      simp [go_sem, e2, e3, e9, e10, e13, e14, q1, q2, hj, hwj, g0, hc]
      exact ⟨_, .rfl' _, ⟨rfl, j + 1, by omega, by simp, by omega⟩, by omega⟩
    · have q2 : ((x : Int) ≤ (k : Int)) = False := eq_false (by omega)
      by_cases hj0 : 0 < j
      · have q3 : ((0 : Int) < (j : Int)) = True := eq_true (by omega)
        have hwp : IntKind.i64.wrap ((j : Int) - 1) = ((j - 1 : Nat) : Int) := by rw [wrap_id (by omega) (by omega)]; omega
        obtain ⟨p, hp⟩ : ∃ p, j - 1 = p := ⟨_, rfl⟩
        have hpj : j = p + 1 := by omega
        obtain ⟨y, hy⟩ : ∃ y, ends[p]? = some y := ⟨_, List.getElem?_eq_getElem (by omega)⟩
        have hye := hends p y hy
        have g1 := hg p (by omega)
        rw [List.getElem?_map, hy] at g1
        simp only [Option.map_some] at g1
        rw [hp] at hwp
        have q4 : ((p : Int) < (i : Int)) = True := eq_true (by omega)
        have q4' : p < i := by omega
        rw [← hpj] at hye
        clear hg
        simp [go_sem, e2, e3, e9, e10, e13, e14, q1, q2, q3, hj, hwj, g0, hc, hj0, hwp, g1, q4, q4']
        rw [hye]
        exact ⟨rs, j, k, vb, vc, hO, by omega, rfl, hB, rfl, rfl, rfl, by omega, hjk, by omega⟩
      · have hj0' : j = 0 := by omega
        subst hj0'
        rw [Nat.add_zero] at g0
        clear hg
        simp [go_sem, e2, e3, e9, e10, e13, e14, q1, q2, hj, hwj, g0, hc]
        exact ⟨rs, 0, k, vb, vc, hO, by omega, rfl, hB, rfl, rfl, by simp [encL], by omega, hjk, by omega⟩
theorem walTurned_int {n at_ b : Int} {last : Bool} (hb : 0 ≤ b ∧ b < 256) : ICalls Tryz.prog W0 5 #[Val.i n, Val.i at_, .int .u8 b, .bool last] st fun e st' => e = .returned (.bool true) := by
  obtain ⟨k, rfl⟩ : ∃ k : Nat, b = k := ⟨b.toNat, by omega⟩
  exact walTurned_walk (by omega)
end
end Go.Proofs.YtadgciaclhjjkaaGreat
