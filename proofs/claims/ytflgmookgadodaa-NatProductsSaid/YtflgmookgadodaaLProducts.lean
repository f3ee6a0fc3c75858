/- The law NatProducts: Mul and Div of any two numbers. -/
import Derived.Test.YtflgmookgadodaaN1
import Derived.Test.YtflgmookgadodaaN16
namespace Go.Fx.Try
open Go Go.Fx Go.Fx.Num
set_option linter.unusedVariables false
set_option linter.unusedSimpArgs false

theorem natProducts_true (a b : List Int) (wa : ∀ x ∈ a, (Lit.int .u32 x).wf = true) (la : a.length * 4 ≤ 140737488351232) (wb : ∀ x ∈ b, (Lit.int .u32 x).wf = true) (lb : b.length * 4 ≤ 140737488351232) : fulcrumlaw01_NatProducts.F (a, b, ()) = some (true, ()) := by
  have ha : Nm a (val a) 35184372087808 := ⟨limbs_of wa, rfl, by omega⟩
  have hb : Nm b (val b) 35184372087808 := ⟨limbs_of wb, rfl, by omega⟩
  generalize val a = x at ha
  generalize val b = y at hb
  have sn := fun (v : Int) (n : Nat) (h : Nm (canon v) v n) (hn : n ≤ 70368744177664) => same_F (canon v) (canon v) (Nat.le_trans h.len hn)
  have k1 := ha.Mul_F hb (by decide)
  have k2 := ha.rMul_F hb (by decide)
  have s1 := sn _ _ (ha.mul hb) (by decide)
  have k3 := ha.Div_F hb (by decide) (by decide)
  have k4 := ha.rDiv_F hb (by decide) (by decide)
  have h5 : Nm [5, 0] 5 2 := ⟨Limbs.cons (by decide) (Limbs.cons (by decide) Limbs.nil), by simp [val_cons, val_nil], by simp⟩
  have k5 := ha.Mul_F h5 (by decide)
  have k6 := (ha.mul h5).Div_F (Nm.one (x := 5) (by decide)) (by decide) (by decide)
  rw [divI_pos (by decide), Int.mul_ediv_cancel _ (by decide), Int.mul_emod_left, canon_zero] at k6
  have k7 := ha.rNorm_F (by decide)
  have s7 := sn _ _ ha.norm (by decide)
  have s0 := same_F [] [] (by simp)
  refine fulcrumlaw01_NatProducts.of 0 a b ?_
  by_cases h0 : y = 0
  · rw [divI_zero h0] at k3 k4
    simp (disch := omega) only [fulcrumlaw01_NatProducts.e, twin_F, k1, k2, s1, k3, k4, k5, k6, k7, s7, s0, Option.bind_some, decide_true, Bool.not_true, cond_false, cond_true, bne_self_eq_false, beq_self_eq_true, List.length_nil]
    rfl
  · rw [divI_pos h0] at k3 k4
    have s2 := sn _ _ (ha.quo hb) (by decide)
    have s3 := sn _ _ (ha.rem hb h0) (by decide)
    simp (disch := omega) only [fulcrumlaw01_NatProducts.e, twin_F, k1, k2, s1, s2, s3, k3, k4, k5, k6, k7, s7, s0, Option.bind_some, decide_true, Bool.not_true, cond_false, cond_true, bne_self_eq_false, beq_self_eq_true, List.length_nil]
    rfl
end Go.Fx.Try
