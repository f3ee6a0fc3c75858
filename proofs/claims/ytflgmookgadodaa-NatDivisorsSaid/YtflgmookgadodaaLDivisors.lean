/- The law NatDivisors: Gcd of any two numbers. -/
import Derived.Test.YtflgmookgadodaaNB
import Derived.Test.YtflgmookgadodaaNE
namespace Go.Fx.Try
open Go Go.Fx Go.Fx.Num
set_option linter.unusedVariables false
set_option linter.unusedSimpArgs false

theorem natDivisors_true (a b : List Int) (wa : ∀ x ∈ a, (Lit.int .u32 x).wf = true) (la : a.length * 4 ≤ 140737488351232) (wb : ∀ x ∈ b, (Lit.int .u32 x).wf = true) (lb : b.length * 4 ≤ 140737488351232) : fulcrumlaw01_NatDivisors.F (a, b, ()) = some (true, ()) := by
  have ha : Nm a (val a) 35184372087808 := ⟨limbs_of wa, rfl, by omega⟩
  have hb : Nm b (val b) 35184372087808 := ⟨limbs_of wb, rfl, by omega⟩
  generalize val a = x at ha
  generalize val b = y at hb
  have k1 := (Nm.one (x := 12) (by decide)).Gcd_F (Nm.one (x := 18) (by decide)) (by decide)
  rw [show gcdI 12 18 = 6 by decide, canon_one (by decide)] at k1
  have k2 := ha.Gcd_F hb (by decide)
  have k3 := ha.rGcd_F hb (by decide)
  have s1 := same_F (canon (gcdI x y)) (canon (gcdI x y)) (Nat.le_trans (Nm.canon (gcdI_nonneg x y) (gcdI_lt ha.pos hb.pos ha.lt hb.lt)).len (by decide))
  have s0 := same_F [6] [6] (by decide)
  refine fulcrumlaw01_NatDivisors.of 0 a b ?_
  simp (disch := omega) only [c_dec, c_beq, c_bne, c_and, c_or, c_not, blt_dec, up1, dn1, if_t, if_f, if_true, if_false, Int.toNat_natCast, Option.bind_some, ne_eq, not_true_eq_false, not_false_eq_true, true_and, and_true, fulcrumlaw01_NatDivisors.e, twin_F, k1, k2, k3, s0, s1, decide_true, cond_true, cond_false, Bool.not_true]
end Go.Fx.Try
