/- Matchers: Check. -/
import Derived.Test.YtahgfnbkkfpcnaaGreatC10
import Derived.Test.YtahgfnbkkfpcnaaGreatC11
set_option linter.unusedVariables false
set_option linter.unusedSimpArgs false
set_option maxRecDepth 100000
set_option maxHeartbeats 2000000
namespace Go.Proofs.YtahgfnbkkfpcnaaGreat
open Go.RowKit (Below)
section
variable {W0 : World} {st : Heap}
theorem z95 (m : Mat) {cs : List Value} (hm : MatAt st cs m) : z00 Tryz.prog W0 148 #[.agg cs.toArray] st fun e st' => e = .returned (.bool (z1n m)) ∧ New st st' := by
 obtain ⟨op, name, value, vals, kids⟩ := m
 have hm0 := hm
 unfold MatAt at hm
 obtain ⟨vv, kv, ks, rfl, hv, hk, hkids⟩ := hm
 obtain ⟨vb, vc, rfl⟩ := hv.slice
 obtain ⟨kb, kc, rfl⟩ := hk.slice
 refine enter (args := [_]) Tryz.func148 rfl ?_
 simp [Tryz.f148, go_sem]
 unfold NewP
 intro tb htb
 refine ⟨.ty 0, ?_⟩
 simp [go_sem]
 intro rb hrb
 refine ⟨.own rb 0 60, ?_⟩
 have hne : tb ≠ rb := by rintro rfl; rw [upd_same] at hrb; cases hrb
 have hne' := Ne.symm hne
 simp [go_sem, hne, hne']
 have hrb' : st rb = none := by rw [upd_ne _ _ hne'] at hrb; exact hrb
 have hN : New st (upd (upd st tb (.cells true [Val.i op, .string name, .string value, .slice vb vals.length vc, .slice kb kids.length kc] 5 (.ty 0))) rb (roomC 64 4096 rb)) := ((New.refl _).add htb).add hrb
 refine (zde (.mk op name value vals kids) (deep := 1) (n := 64) (b := 4096) (r := rb) (hm0.new hN) (upd_same _ _ _) (by decide) (by decide) (by decide) (by decide) (by decide)).mono ?_
 rintro e st2 ⟨rfl, hr, hk2⟩
 simp [go_sem]
 refine ⟨rfl, ?_⟩
 intro k o hko
 exact hk2 _ _ (ne_of_new hko hrb') (hN _ _ hko)
def oldB (ops : List Oper) (t i : Nat) : Bool := ops.all fun o => o.dst != some t || o.after.toList.any fun e => bnds e && e.on == i
theorem z1c {ops : List Oper} {t i : Nat} (h : oldB ops t i = true) : ∀ (j : Nat) (oj : Oper), ops[j]? = some oj → oj.dst = some t → ∃ e ∈ oj.after.toList, bnds e = true ∧ e.on = i := by
 intro j oj hj ho
 have := List.all_eq_true.1 h oj (List.mem_of_getElem? hj)
 simp only [ho, bne_self_eq_false, Bool.false_or] at this
 obtain ⟨e, he, h1⟩ := List.any_eq_true.1 this
 simp only [Bool.and_eq_true, beq_iff_eq] at h1
 exact ⟨e, he, h1⟩
theorem z4d {ops : List Oper} {t : Nat} (h : (ops.all fun o => o.dst != some t) = true) : ∀ (j : Nat) (oj : Oper), ops[j]? = some oj → oj.dst ≠ some t := by
 intro j oj hj ho
 have := List.all_eq_true.1 h oj (List.mem_of_getElem? hj)
 simp [ho] at this
end
end Go.Proofs.YtahgfnbkkfpcnaaGreat
