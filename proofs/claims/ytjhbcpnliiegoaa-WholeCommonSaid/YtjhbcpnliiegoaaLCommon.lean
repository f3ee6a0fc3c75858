/- The law WholeCommon: what divides both, what both divide, Bezout's numbers, the inverse. -/
import Derived.Test.YtjhbcpnliiegoaaPB
namespace Go.Fx.Try
open Go Go.Fx Go.Fx.Num
set_option linter.unusedVariables false
set_option linter.unusedSimpArgs false

theorem same_nat (a : List Int) (h : a.length ≤ 70368744177664) : fulcrummem_SameNat.F (a, a, ()) = some (true, ()) := by rw [SameNat_F a a h]; simp
theorem wholeCommon_true (a b : Bool × List Int) (wa : ∀ x ∈ a.2, (Lit.int .u32 x).wf = true) (la : a.2.length * 4 ≤ 140737488351232) (wb : ∀ x ∈ b.2, (Lit.int .u32 x).wf = true) (lb : b.2.length * 4 ≤ 140737488351232) : fulcrumlaw02_WholeCommon.F (a, b, ()) = some (true, ()) := by
  have ha : Wn a (wv a) 35184372087808 := ⟨limbs_of wa, rfl, by omega⟩
  have hb : Wn b (wv b) 35184372087808 := ⟨limbs_of wb, rfl, by omega⟩
  generalize wv a = y at ha
  generalize wv b = z at hb
  have g1 := ha.Gcd_F hb (by decide)
  have g2 := ha.rGcd_F hb (by decide)
  have sg := same_nat (canon (gcdI y z)) (Nat.le_trans (ha.gcd hb).len (by decide))
  have l1 := ha.Lcm_F hb (by decide) (by decide)
  have l2 := ha.rLcm_F hb (by decide) (by decide)
  have sl := same_nat (canon (lcmV y z)) (by
    have h1 : 0 ≤ lcmV y z := Int.mul_nonneg (Int.ediv_nonneg (ab_nonneg y) (gcdI_nonneg y z)) (ab_nonneg z)
    have h2 := ((ha.nm.quo (ha.gcd hb)).mul hb.nm).len
    exact Nat.le_trans h2 (by decide))
  refine fulcrumlaw02_WholeCommon.of 0 a b ?_
  by_cases hz : z = 0
  · have b1 := ha.Bezout_zero hb (by decide) hz
    have b2 := ha.rBezout_zero hb (by decide) hz
    have i1 := ha.Inverse_zero hb (by decide) hz
    have i2 := ha.rInverse_zero hb (by decide) hz
    have hs := sgn_cases y
    have s1 : fulcrumlaw02_same.F (wc (sgn y), wc (sgn y), ()) = some (true, ()) := (Wof_bound (n := sgn y) (by omega)).same (by decide)
    have s2 : fulcrumlaw02_same.F (wc 0, wc 0, ()) = some (true, ()) := (Wof_bound (n := 0) (by decide)).same (by decide)
    have s0 : fulcrumlaw02_same.F ((false, []), (false, []), ()) = some (true, ()) := by rw [wsame_F _ _ (by decide)]; simp
    exact st g1 (st g2 (st sg (no rfl (st l1 (st l2 (st sl (no rfl (st b1 (st b2 (st sg (no rfl (st s1 (no rfl (st s2 (no rfl (st i1 (st i2 (yes rfl (st s0 rfl)))))))))))))))))))
  · obtain ⟨v, hv, b1⟩ := ha.Bezout_F hb (by decide) (by decide) hz
    obtain ⟨v', hv', b2⟩ := ha.rBezout_F hb (by decide) (by decide) hz
    rw [hv'.unique hz hv] at b2
    obtain ⟨wx, wy⟩ := hv.wn ha hb hz
    have s1 := wx.same (by decide)
    have s2 := wy.same (by decide)
    have i1 := ha.Inverse_F hb (by decide) (by decide) hz
    have i2 := ha.rInverse_F hb (by decide) (by decide) hz
    by_cases hg : gcdI y z = 1
    · obtain ⟨u, hu, j1⟩ := i1.1 hg
      obtain ⟨u', hu', j2⟩ := i2.1 hg
      rw [hu'.unique hz hu] at j2
      have s3 := (hu.wn ha hb hz).1.same (by decide)
      exact st g1 (st g2 (st sg (no rfl (st l1 (st l2 (st sl (no rfl (st b1 (st b2 (st sg (no rfl (st s1 (no rfl (st s2 (no rfl (st j1 (st j2 (yes rfl (st s3 rfl)))))))))))))))))))
    · have j1 := i1.2 hg
      have j2 := i2.2 hg
      have s0 : fulcrumlaw02_same.F ((false, []), (false, []), ()) = some (true, ()) := by rw [wsame_F _ _ (by decide)]; simp
      exact st g1 (st g2 (st sg (no rfl (st l1 (st l2 (st sl (no rfl (st b1 (st b2 (st sg (no rfl (st s1 (no rfl (st s2 (no rfl (st j1 (st j2 (yes rfl (st s0 rfl)))))))))))))))))))
end Go.Fx.Try
