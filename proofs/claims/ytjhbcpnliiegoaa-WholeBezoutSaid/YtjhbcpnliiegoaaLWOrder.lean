/- The law WholeOrder: a total order, which sums keep, and products with what is above 0. -/
import Derived.Test.YtjhbcpnliiegoaaPA
namespace Go.Fx.Try
open Go Go.Fx Go.Fx.Num
set_option linter.unusedVariables false
set_option linter.unusedSimpArgs false

theorem one_F : fulcrumlaw02_one.F () = some (wc 1, ()) := by
  refine fulcrumlaw02_one.of 0 ?_
  simp only [fulcrumlaw02_one.e, pe, WOf_F (n := 1) (by decide), Option.bind_some]
theorem awake_F : fulcrumlaw02_awake.F () = some (true, ()) := by
  refine fulcrumlaw02_awake.of 0 ?_
  have w0 : Wn (wc 0) 0 2 := Wof_bound (by decide)
  have w1 : Wn (wc 1) 1 2 := Wof_bound (by decide)
  have w2 : Wn (wc 2) 2 2 := Wof_bound (by decide)
  simp only [fulcrumlaw02_awake.e, pe, one_F, WOf_F (n := 2) (by decide), WOf_F (n := 0) (by decide), w2.Cmp_F w1 (by decide), w1.Sign_F (by decide), w0.Sign_F (by decide), Option.bind_some]
  rfl
theorem sgn_neg (z : Int) : IntKind.i64.wrap (0 - sgn z) = sgn (-z) := by
  have t1 := tri z
  have t2 := tri (-z)
  rw [IntWalk.i64_in _ (by have := sgn_cases z; omega)]
  omega
theorem wholeOrder_true (a b c : Bool × List Int) (wa : ∀ x ∈ a.2, (Lit.int .u32 x).wf = true) (la : a.2.length * 4 ≤ 140737488351232) (wb : ∀ x ∈ b.2, (Lit.int .u32 x).wf = true) (lb : b.2.length * 4 ≤ 140737488351232)
    (wcc : ∀ x ∈ c.2, (Lit.int .u32 x).wf = true) (lc : c.2.length * 4 ≤ 140737488351232) : fulcrumlaw02_WholeOrder.F (a, b, c, ()) = some (true, ()) := by
  have ha : Wn a (wv a) 35184372087808 := ⟨limbs_of wa, rfl, by omega⟩
  have hb : Wn b (wv b) 35184372087808 := ⟨limbs_of wb, rfl, by omega⟩
  have hc : Wn c (wv c) 35184372087808 := ⟨limbs_of wcc, rfl, by omega⟩
  generalize wv a = x at ha
  generalize wv b = y at hb
  generalize wv c = z at hc
  have hl : 35184372087808 < 70368744177664 := by decide
  have t1 := tri (x - y)
  have t2 := tri (y - z)
  have t3 := tri (x - z)
  have t4 := tri z
  have k1 := hb.Cmp_F ha hl
  have e1 : y - x = -(x - y) := by omega
  rw [e1] at k1
  have k2 := ha.Cmp_F ha hl
  rw [Int.sub_self] at k2
  have e0 : sgn 0 = 0 := rfl
  have k3 := (ha.add hc).Cmp_F (hb.add hc) (by decide)
  rw [show x + z - (y + z) = x - y by omega] at k3
  have k4 := (ha.mul hc).Cmp_F (hb.mul hc) (by decide)
  rw [← Int.sub_mul] at k4
  refine fulcrumlaw02_WholeOrder.of 0 a b c ?_
  simp only [fulcrumlaw02_WholeOrder.e, pe, ha.Cmp_F hb hl, hb.Cmp_F hc hl, k1, k2, e0, ha.Cmp_F hc hl, ha.Add_F hc hl, hb.Add_F hc hl, k3, hc.Sign_F (Nat.le_of_lt hl), ha.Mul_F hc (by decide), hb.Mul_F hc (by decide), k4, awake_F, sgn_neg, Option.bind_some, bne_self_eq_false, cond_false]
  have hz : 0 < sgn z → sgn ((x - y) * z) = sgn (x - y) := by
    intro h
    have hz : 0 < z := by omega
    rcases tri (x - y) with ⟨hy, h1, _⟩ | ⟨hy, h1, _⟩ | ⟨hy, h1, _⟩
    · have := Int.mul_neg_of_neg_of_pos hy hz
      have := tri ((x - y) * z)
      omega
    · rw [hy, Int.zero_mul]
    · have := Int.mul_pos hy hz
      have := tri ((x - y) * z)
      omega
  have hr : ¬ sgn (x - y) < -1 ∧ ¬ sgn (x - y) > 1 := by omega
  have ht : sgn (x - y) ≤ 0 → sgn (y - z) ≤ 0 → ¬ sgn (x - z) > 0 := by omega
  by_cases h4 : 0 < sgn z
  · rw [hz h4]
    by_cases h1 : sgn (x - y) ≤ 0
    · by_cases h2 : sgn (y - z) ≤ 0
      · have h3 := ht h1 h2
        simp (disch := omega) only [c_dec, c_beq, c_bne, c_and, c_or, c_not, blt_dec, up1, dn1, if_t, if_f, if_true, if_false, Int.toNat_natCast, Option.bind_some, ne_eq, not_true_eq_false, not_false_eq_true, true_and, and_true, bne_self_eq_false, cond_false]
      · simp (disch := omega) only [c_dec, c_beq, c_bne, c_and, c_or, c_not, blt_dec, up1, dn1, if_t, if_f, if_true, if_false, Int.toNat_natCast, Option.bind_some, ne_eq, not_true_eq_false, not_false_eq_true, true_and, and_true, bne_self_eq_false, cond_false]
    · simp (disch := omega) only [c_dec, c_beq, c_bne, c_and, c_or, c_not, blt_dec, up1, dn1, if_t, if_f, if_true, if_false, Int.toNat_natCast, Option.bind_some, ne_eq, not_true_eq_false, not_false_eq_true, true_and, and_true, bne_self_eq_false, cond_false]
  · by_cases h1 : sgn (x - y) ≤ 0
    · by_cases h2 : sgn (y - z) ≤ 0
      · have h3 := ht h1 h2
        simp (disch := omega) only [c_dec, c_beq, c_bne, c_and, c_or, c_not, blt_dec, up1, dn1, if_t, if_f, if_true, if_false, Int.toNat_natCast, Option.bind_some, ne_eq, not_true_eq_false, not_false_eq_true, true_and, and_true, bne_self_eq_false, cond_false]
      · simp (disch := omega) only [c_dec, c_beq, c_bne, c_and, c_or, c_not, blt_dec, up1, dn1, if_t, if_f, if_true, if_false, Int.toNat_natCast, Option.bind_some, ne_eq, not_true_eq_false, not_false_eq_true, true_and, and_true, bne_self_eq_false, cond_false]
    · simp (disch := omega) only [c_dec, c_beq, c_bne, c_and, c_or, c_not, blt_dec, up1, dn1, if_t, if_f, if_true, if_false, Int.toNat_natCast, Option.bind_some, ne_eq, not_true_eq_false, not_false_eq_true, true_and, and_true, bne_self_eq_false, cond_false]
end Go.Fx.Try
