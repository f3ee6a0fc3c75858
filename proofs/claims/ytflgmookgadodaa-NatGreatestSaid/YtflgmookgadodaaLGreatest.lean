/- The law NatGreatest: Gcd divides both, and Gcd of multiples is the multiple. -/
import Derived.Test.YtflgmookgadodaaNB
import Derived.Test.YtflgmookgadodaaNE
namespace Go.Fx.Try
open Go Go.Fx Go.Fx.Num
set_option linter.unusedVariables false
set_option linter.unusedSimpArgs false

set_option maxHeartbeats 1000000 in
theorem natGreatest_true (a b c : List Int) (wa : ∀ x ∈ a, (Lit.int .u32 x).wf = true) (la : a.length * 4 ≤ 140737488351232) (wb : ∀ x ∈ b, (Lit.int .u32 x).wf = true) (lb : b.length * 4 ≤ 140737488351232)
    (wc : ∀ x ∈ c, (Lit.int .u32 x).wf = true) (lc : c.length * 4 ≤ 140737488351232) : fulcrumlaw01_NatGreatest.F (a, b, c, ()) = some (true, ()) := by
  have ha : Nm a (val a) 35184372087808 := ⟨limbs_of wa, rfl, by omega⟩
  have hb : Nm b (val b) 35184372087808 := ⟨limbs_of wb, rfl, by omega⟩
  have hc : Nm c (val c) 35184372087808 := ⟨limbs_of wc, rfl, by omega⟩
  generalize val a = x at ha
  generalize val b = y at hb
  generalize val c = z at hc
  have k1 := (Nm.one (x := 4) (by decide)).Gcd_F (Nm.one (x := 6) (by decide)) (by decide)
  rw [show gcdI 4 6 = 2 by decide, canon_one (by decide)] at k1
  have k2 := ha.Gcd_F hb (by decide)
  have hg := Nm.canon (gcdI_nonneg x y) (gcdI_lt ha.pos hb.pos ha.lt hb.lt)
  have k3 := ha.rNorm_F (by decide)
  have k4 := hb.rNorm_F (by decide)
  have d1 := ha.Div_F hg (by decide) (by decide)
  have d2 := hb.Div_F hg (by decide) (by decide)
  have m1 := ha.Mul_F hc (by decide)
  have m2 := hb.Mul_F hc (by decide)
  have m3 := hg.Mul_F hc (by decide)
  have k5 := (ha.mul hc).Gcd_F (hb.mul hc) (by decide)
  rw [gcdI_mul _ _ _ hc.pos] at k5
  have s1 := same_F (canon (gcdI x y * z)) (canon (gcdI x y * z)) (Nat.le_trans (hg.mul hc).len (by decide))
  have s0 := same_F [2] [2] (by decide)
  have lx := canon_len_zero ha.pos
  have ly := canon_len_zero hb.pos
  have e1 : x % gcdI x y = 0 := Int.emod_eq_zero_of_dvd (gcdI_dvd_left x y)
  have e2 : y % gcdI x y = 0 := Int.emod_eq_zero_of_dvd (gcdI_dvd_right x y)
  have e3 : canon 0 = [] := (canon_nil_iff (Int.le_refl 0)).2 rfl
  refine fulcrumlaw01_NatGreatest.of 0 a b c ?_
  by_cases h0 : x = 0
  · have h1 := lx.2 h0
    by_cases h2 : y = 0
    · have h3 := ly.2 h2
      simp (disch := omega) only [c_dec, c_beq, c_bne, c_and, c_or, c_not, blt_dec, up1, dn1, if_t, if_f, if_true, if_false, Int.toNat_natCast, Option.bind_some, ne_eq, not_true_eq_false, not_false_eq_true, true_and, and_true, fulcrumlaw01_NatGreatest.e, twin_F, k1, k2, k3, k4, k5, h1, h3, m1, m2, m3, s0, s1, decide_true, cond_true, cond_false, Bool.not_true]
    · have h3 : (canon y).length ≠ 0 := fun h => h2 (ly.1 h)
      have hp := gcdI_pos (x := x) (.inr h2)
      rw [divI_pos (by omega), e1, e3] at d1
      rw [divI_pos (by omega), e2, e3] at d2
      simp (disch := omega) only [c_dec, c_beq, c_bne, c_and, c_or, c_not, blt_dec, up1, dn1, if_t, if_f, if_true, if_false, Int.toNat_natCast, Option.bind_some, ne_eq, not_true_eq_false, not_false_eq_true, true_and, and_true, fulcrumlaw01_NatGreatest.e, twin_F, k1, k2, k3, k4, k5, h1, d1, d2, m1, m2, m3, s0, s1, decide_true, cond_true, cond_false, Bool.not_true, List.length_nil]
  · have h1 : (canon x).length ≠ 0 := fun h => h0 (lx.1 h)
    have hp := gcdI_pos (y := y) (.inl h0)
    rw [divI_pos (by omega), e1, e3] at d1
    rw [divI_pos (by omega), e2, e3] at d2
    simp (disch := omega) only [c_dec, c_beq, c_bne, c_and, c_or, c_not, blt_dec, up1, dn1, if_t, if_f, if_true, if_false, Int.toNat_natCast, Option.bind_some, ne_eq, not_true_eq_false, not_false_eq_true, true_and, and_true, fulcrumlaw01_NatGreatest.e, twin_F, k1, k2, k3, k4, k5, d1, d2, m1, m2, m3, s0, s1, decide_true, cond_true, cond_false, Bool.not_true, List.length_nil]
end Go.Fx.Try
