/- The law WholeInverse: an inverse is one, within its bounds; where there is none a and m have a divisor above 1, or m is 0. -/
import Derived.Test.YtjhbcpnliiegoaaPB
import Derived.Test.YtjhbcpnliiegoaaLWOrder
namespace Go.Fx.Try
open Go Go.Fx Go.Fx.Num
set_option linter.unusedVariables false
set_option linter.unusedSimpArgs false

theorem wholeInverse_true (a m : Bool × List Int) (wa : ∀ x ∈ a.2, (Lit.int .u32 x).wf = true) (la : a.2.length * 4 ≤ 140737488351232) (wm : ∀ x ∈ m.2, (Lit.int .u32 x).wf = true) (lm : m.2.length * 4 ≤ 140737488351232) : fulcrumlaw02_WholeInverse.F (a, m, ()) = some (true, ()) := by
  have ha : Wn a (wv a) 35184372087808 := ⟨limbs_of wa, rfl, by omega⟩
  have hm : Wn m (wv m) 35184372087808 := ⟨limbs_of wm, rfl, by omega⟩
  generalize wv a = y at ha
  generalize wv m = z at hm
  refine fulcrumlaw02_WholeInverse.of 0 a m ?_
  have kg := ha.Gcd_F hm (by decide)
  have ks := hm.Sign_F (by decide)
  have hG := ha.gcd hm
  have hg0 := gcdI_nonneg y z
  have tz := tri z
  by_cases hz : z = 0
  · have k1 := ha.Inverse_zero hm (by decide) hz
    rw [show sgn z = 0 by omega] at ks
    simp (disch := omega) only [c_dec, c_beq, c_bne, c_and, c_or, c_not, blt_dec, up1, dn1, if_t, if_f, if_true, if_false, Int.toNat_natCast, Option.bind_some, ne_eq, not_true_eq_false, not_false_eq_true, true_and, and_true, fulcrumlaw02_WholeInverse.e, pe, k1, kg, awake_F, cond_true, ks]
  · have hI := ha.Inverse_F hm (by decide) (by decide) hz
    have hg := gcdI_pos_iff (y := y) hz
    by_cases h1 : gcdI y z = 1
    · obtain ⟨v, hv, k1⟩ := hI.1 h1
      have hvz := hv.lt' hz
      have hvp := hv.pos
      have wv := (hv.wn ha hm hz).1
      have k2 := ha.Mul_F wv (by decide)
      have k3 := (ha.mul wv).Sub_F ((wc1 (Nat.le_refl 1)).mono (by decide)) (by decide)
      have w3 := (ha.mul wv).sub ((wc1 (Nat.le_refl 1)).mono (by decide))
      have k4 := w3.Euclid_F hm (by decide) (by decide) (.inr (by decide))
      unfold euI at k4
      rw [if_neg hz] at k4
      have hd := hv.dvd
      rw [h1] at hd
      have he := eu_spec (y * v - 1) hz
      have e0 : euR (y * v - 1) z = 0 := by
        have h2 : z ∣ euR (y * v - 1) z := by
          obtain ⟨b, hb⟩ := hd
          exact ⟨b - euQ (y * v - 1) z, by have := he.1; grind⟩
        rcases Int.lt_or_eq_of_le he.2.1 with h3 | h3
        · have := Int.le_of_dvd h3 (dvd_ab.2 h2); omega
        · exact h3.symm
      rw [e0] at k4
      have k5 := (wc0_wn (n := 1)).Sign_F (by decide)
      rw [show sgn 0 = 0 from rfl] at k5
      have k6 := wv.Sign_F (by decide)
      have k7 := hm.Abs_F (by decide)
      have wz : Wn (wc (ab z)) (ab z) 35184372087808 := .of (by have := hm.bound; omega)
      have k8 := wv.Cmp_F wz (by decide)
      have e9 : (false, canon (ab z)) = wc (ab z) := (wc_pos (ab_nonneg z)).symm
      have tv := tri v
      have td := tri (v - ab z)
      have c1 : sgn v ≥ 0 := by omega
      have c2 : sgn (v - ab z) = -1 := by omega
      simp (disch := omega) only [c_dec, c_beq, c_bne, c_and, c_or, c_not, blt_dec, up1, dn1, if_t, if_f, if_true, if_false, Int.toNat_natCast, Option.bind_some, ne_eq, not_true_eq_false, not_false_eq_true, true_and, and_true, fulcrumlaw02_WholeInverse.e, pe, k1, kg, k2, one_F, k3, k4, k5, k6, k7, e9, k8, c1, c2]
      rfl
    · have k1 := hI.2 h1
      have c1 : sgn z ≠ 0 := by omega
      have wg : Wn (wc (gcdI y z)) (gcdI y z) 35184372087808 := .of (by have := hG.lt; have := pw_pos 35184372087808; omega)
      have k2 := wg.Cmp_F ((wc1 (Nat.le_refl 1)).mono (by decide)) (by decide)
      have e9 : (false, canon (gcdI y z)) = wc (gcdI y z) := (wc_pos hg0).symm
      have td := tri (gcdI y z - 1)
      have c2 : sgn (gcdI y z - 1) = 1 := by omega
      simp (disch := omega) only [c_dec, c_beq, c_bne, c_and, c_or, c_not, blt_dec, up1, dn1, if_t, if_f, if_true, if_false, Int.toNat_natCast, Option.bind_some, ne_eq, not_true_eq_false, not_false_eq_true, true_and, and_true, fulcrumlaw02_WholeInverse.e, pe, k1, kg, awake_F, cond_true, ks, c1, one_F, e9, k2, c2]
      rfl
end Go.Fx.Try
