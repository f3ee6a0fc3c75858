/- The law WholeReckons: sums, differences, products, and the order. -/
import Derived.Test.YtjhbcpnliiegoaaP2
namespace Go.Fx.Try
open Go Go.Fx Go.Fx.Num
set_option linter.unusedVariables false
set_option linter.unusedSimpArgs false

theorem wholeReckons_true (a b : Bool × List Int) (wa : ∀ x ∈ a.2, (Lit.int .u32 x).wf = true) (la : a.2.length * 4 ≤ 140737488351232) (wb : ∀ x ∈ b.2, (Lit.int .u32 x).wf = true) (lb : b.2.length * 4 ≤ 140737488351232) :
    fulcrumlaw02_WholeReckons.F (a, b, ()) = some (true, ()) := by
  have ha : Wn a (wv a) 35184372087808 := ⟨limbs_of wa, rfl, by omega⟩
  have hb : Wn b (wv b) 35184372087808 := ⟨limbs_of wb, rfl, by omega⟩
  generalize wv a = y at ha
  generalize wv b = z at hb
  have hl : 35184372087808 < 70368744177664 := by decide
  refine fulcrumlaw02_WholeReckons.of 0 a b ?_
  simp only [fulcrumlaw02_WholeReckons.e, pe, ha.Add_F hb hl, ha.rAdd_F hb hl, (ha.add hb).same (by decide), ha.Sub_F hb hl, ha.rSub_F hb hl, (ha.sub hb).same (by decide), ha.Mul_F hb (by decide), ha.rMul_F hb (by decide), (ha.mul hb).same (by decide),
    ha.Cmp_F hb hl, ha.rCmp_F hb hl, Option.bind_some, beq_self_eq_true, Bool.not_true, cond_false, cond_true]
end Go.Fx.Try
