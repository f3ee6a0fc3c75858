/- The law WholeDivides: the three ways to divide. -/
import Derived.Test.YtjhbcpnliiegoaaPA
namespace Go.Fx.Try
open Go Go.Fx Go.Fx.Num
set_option linter.unusedVariables false
set_option linter.unusedSimpArgs false

theorem wholeDivides_true (a b : Bool × List Int) (wa : ∀ x ∈ a.2, (Lit.int .u32 x).wf = true) (la : a.2.length * 4 ≤ 140737488351232) (wb : ∀ x ∈ b.2, (Lit.int .u32 x).wf = true) (lb : b.2.length * 4 ≤ 140737488351232) : fulcrumlaw02_WholeDivides.F (a, b, ()) = some (true, ()) := by
  have ha : Wn a (wv a) 35184372087808 := ⟨limbs_of wa, rfl, by omega⟩
  have hb : Wn b (wv b) 35184372087808 := ⟨limbs_of wb, rfl, by omega⟩
  generalize wv a = y at ha
  generalize wv b = z at hb
  have k1 := ha.Quo_F hb (by decide) (by decide)
  have k2 := ha.rQuo_F hb (by decide) (by decide)
  have k3 := ha.Floor_F hb (by decide) (by decide) (.inl (by decide))
  have k4 := ha.rFloor_F hb (by decide) (by decide) (.inl (by decide))
  have k5 := ha.Euclid_F hb (by decide) (by decide) (.inl (by decide))
  have k6 := ha.rEuclid_F hb (by decide) (by decide) (.inl (by decide))
  refine fulcrumlaw02_WholeDivides.of 0 a b ?_
  by_cases h0 : z = 0
  · have s0 := wsame_F (false, []) (false, []) (by decide)
    simp only [quoI, flI, euI, zerr, if_pos h0] at k1 k2 k3 k4 k5 k6
    simp only [fulcrumlaw02_WholeDivides.e, pe, k1, k2, k3, k4, k5, k6, s0, Option.bind_some, bne_self_eq_false, beq_self_eq_true, decide_true, Bool.not_true, cond_false, cond_true]
  · simp only [quoI, flI, euI, if_neg h0] at k1 k2 k3 k4 k5 k6
    have s1 := (ha.quo hb).same (by decide)
    have s2 := (ha.rem hb h0).same (by decide)
    have s3 := (ha.fq hb).same (by decide)
    have s4 := (ha.fr hb h0).same (by decide)
    have s5 := (ha.uq hb).same (by decide)
    have s6 := (ha.ur hb h0).same (by decide)
    simp only [fulcrumlaw02_WholeDivides.e, pe, k1, k2, k3, k4, k5, k6, s1, s2, s3, s4, s5, s6, Option.bind_some, bne_self_eq_false, beq_self_eq_true, decide_true, Bool.not_true, cond_false, cond_true]
end Go.Fx.Try
