/- The law NatOrder: Cmp is a total order that Add keeps. -/
import Derived.Test.YtflgmookgadodaaN1
import Derived.Test.YtflgmookgadodaaN5
namespace Go.Fx.Try
open Go Go.Fx Go.Fx.Num
set_option linter.unusedVariables false
set_option linter.unusedSimpArgs false

theorem natOrder_true (a b c : List Int) (wa : ∀ x ∈ a, (Lit.int .u32 x).wf = true) (la : a.length * 4 ≤ 140737488351232) (wb : ∀ x ∈ b, (Lit.int .u32 x).wf = true) (lb : b.length * 4 ≤ 140737488351232)
    (wc : ∀ x ∈ c, (Lit.int .u32 x).wf = true) (lc : c.length * 4 ≤ 140737488351232) : fulcrumlaw01_NatOrder.F (a, b, c, ()) = some (true, ()) := by
  have ha := limbs_of wa
  have hb := limbs_of wb
  have hc := limbs_of wc
  have va := val_nonneg ha
  have vb := val_nonneg hb
  have vc := val_nonneg hc
  have l1 : Limbs [1, 0] := Limbs.cons (by decide) (Limbs.cons (by decide) Limbs.nil)
  have l2 : Limbs [0, 1] := Limbs.cons (by decide) (Limbs.cons (by decide) Limbs.nil)
  have e0 : nat_Cmp.F ([1, 0], [0, 1], ()) = some (-1, ()) := by
    rw [Cmp_F l1 l2 (by simp) (by simp)]; rfl
  have hac := canon_add_len ha hc (n := 35184372087808) (by omega) (by omega)
  have hbc := canon_add_len hb hc (n := 35184372087808) (by omega) (by omega)
  have e1 := Cmp_F (canon_limbs (val a + val c)) (canon_limbs (val b + val c)) (by omega) (by omega)
  rw [val_canon (by omega), val_canon (by omega), cmpI_add] at e1
  have na := canon_val_len ha
  have e2 : (cmpI (val a) (val b) == 0) = decide (canon (val a) = canon (val b)) := by
    rw [show (cmpI (val a) (val b) == 0) = decide (cmpI (val a) (val b) = 0) from rfl]
    exact decide_eq_decide.2 ((cmpI_zero _ _).trans (canon_eq_iff va vb).symm)
  refine fulcrumlaw01_NatOrder.of 0 a b c ?_
  simp (disch := omega) only [fulcrumlaw01_NatOrder.e, twin_F, e0, Cmp_F ha hb, Cmp_F hb ha, Cmp_F hb hc, Cmp_F ha hc, rNorm_F ha, rNorm_F hb, same_F, Add_F ha hc, Add_F hb hc, e1, cmpI_neg, e2, Option.bind_some, bne_self_eq_false, beq_self_eq_true, Bool.not_true, cond_false, cond_true]
  by_cases h : cmpI (val a) (val b) = cmpI (val b) (val c)
  · rw [show (cmpI (val a) (val b) == cmpI (val b) (val c)) = true from beq_iff_eq.2 h, cmpI_trans h]
    simp only [cond_true, bne_self_eq_false, cond_false]
  · rw [show (cmpI (val a) (val b) == cmpI (val b) (val c)) = false from beq_eq_false_iff_ne.2 h]
    rfl
end Go.Fx.Try
