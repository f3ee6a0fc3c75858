/- The law WholeBezout: Bezout's numbers make the greatest common divisor, which divides both; x is the least from 0 on. -/
import Derived.Test.YtjhbcpnliiegoaaPB
import Derived.Test.YtjhbcpnliiegoaaLWOrder
namespace Go.Fx.Try
open Go Go.Fx Go.Fx.Num
set_option linter.unusedVariables false
set_option linter.unusedSimpArgs false

theorem wholeBezout_true (a b : Bool × List Int) (wa : ∀ x ∈ a.2, (Lit.int .u32 x).wf = true) (la : a.2.length * 4 ≤ 140737488351232) (wb : ∀ x ∈ b.2, (Lit.int .u32 x).wf = true) (lb : b.2.length * 4 ≤ 140737488351232) : fulcrumlaw02_WholeBezout.F (a, b, ()) = some (true, ()) := by
  have ha : Wn a (wv a) 35184372087808 := ⟨limbs_of wa, rfl, by omega⟩
  have hb : Wn b (wv b) 35184372087808 := ⟨limbs_of wb, rfl, by omega⟩
  generalize wv a = y at ha
  generalize wv b = z at hb
  refine fulcrumlaw02_WholeBezout.of 0 a b ?_
  have ka := ha.Sign_F (by decide)
  have kb := hb.Sign_F (by decide)
  have hG := ha.gcd hb
  have hg0 := gcdI_nonneg y z
  have wg : Wn (wc (gcdI y z)) (gcdI y z) 35184372087808 := .of (by have := hG.lt; have := pw_pos 35184372087808; omega)
  have eg : (false, canon (gcdI y z)) = wc (gcdI y z) := (wc_pos hg0).symm
  have kn : whole_Norm.F ((false, canon (gcdI y z)), ()) = some (wc (gcdI y z), ()) := by rw [eg]; exact wg.Norm_F (by decide)
  have sn := wg.same (by decide)
  have kgs : whole_Sign.F ((false, canon (gcdI y z)), ()) = some (sgn (gcdI y z), ()) := by rw [eg]; exact wg.Sign_F (by decide)
  have w0 := wc0_wn (n := 1)
  have k0 := w0.Sign_F (by decide)
  rw [show sgn 0 = 0 from rfl] at k0
  have ty := tri y
  have tz := tri z
  by_cases hz : z = 0
  · have k1 := ha.Bezout_zero hb (by decide) hz
    have hs := sgn_cases y
    have wx : Wn (wc (sgn y)) (sgn y) 1 := .of (by have : pw 1 = 4294967296 := by decide
                                                   omega)
    have k2 := ha.Mul_F wx (by decide)
    have k3 := hb.Mul_F w0 (by decide)
    have k4 := (ha.mul wx).Add_F (hb.mul w0) (by decide)
    have eG : gcdI y z = ab y := by rw [hz, ← gcdI_ab]; exact gcdI_zero (ab_nonneg y)
    have e1 : y * sgn y + z * 0 = gcdI y z := by
      rw [eG, Int.mul_zero, Int.add_zero]
      rcases ty with ⟨h1, h2, h3⟩ | ⟨h1, h2, h3⟩ | ⟨h1, h2, h3⟩ <;> rw [h2, h3] <;> omega
    rw [e1] at k4
    have kx := wx.Sign_F (by decide)
    have tg := tri (gcdI y z)
    rw [show sgn z = 0 by omega] at kb
    by_cases hy : y = 0
    · rw [show sgn y = 0 by omega] at k1 k2 kx ka
      rw [show sgn y = 0 by omega] at k4
      rw [show sgn (gcdI y z) = 0 by omega] at kgs
      exact st k1 (st k2 (st k3 (st k4 (st kn (st sn (no rfl (st awake_F (no rfl (st kgs (yes rfl (st ka (yes rfl (st kb (yes rfl (st kx (yes rfl (st k0 rfl)))))))))))))))))
    · rw [show sgn (gcdI y z) = 1 by omega] at kgs
      have q1 : whole_Quo.F (a, (false, canon (gcdI y z)), ()) = some (quoI y (gcdI y z)) := by rw [eg]; exact ha.Quo_F wg (by decide) (by decide)
      have q2 : whole_Quo.F (b, (false, canon (gcdI y z)), ()) = some (quoI z (gcdI y z)) := by rw [eg]; exact hb.Quo_F wg (by decide) (by decide)
      unfold quoI at q1 q2
      rw [if_neg (by omega), Int.tmod_eq_zero_of_dvd (gcdI_dvd_left y z)] at q1
      rw [if_neg (by omega), Int.tmod_eq_zero_of_dvd (gcdI_dvd_right y z)] at q2
      have sx := wx.same (by decide)
      exact st k1 (st k2 (st k3 (st k4 (st kn (st sn (no rfl (st awake_F (no rfl (st kgs (no rfl (st q1 (st q2 (no rfl (no rfl (st k0 (no rfl (st k0 (no rfl (st kgs (no rfl (st kb (yes rfl (st k0 (yes rfl (st ka (st (WOf_F (n := sgn y) (by omega)) (st sx rfl)))))))))))))))))))))))))))
  · obtain ⟨v, hv, k1⟩ := ha.Bezout_F hb (by decide) (by decide) hz
    have hg := gcdI_pos_iff (y := y) hz
    have hvp := hv.pos
    obtain ⟨wx, wy⟩ := hv.wn ha hb hz
    have k2 := ha.Mul_F wx (by decide)
    have k3 := hb.Mul_F wy (by decide)
    have k4 := ((ha.mul wx).mono (by decide)).Add_F (hb.mul wy) (by decide)
    have e1 : y * v + z * bezY y z v = gcdI y z := by rw [hv.prod]; omega
    rw [e1] at k4
    have tg := tri (gcdI y z)
    rw [show sgn (gcdI y z) = 1 by omega] at kgs
    have c1 : sgn z ≠ 0 := by omega
    have q1 : whole_Quo.F (a, (false, canon (gcdI y z)), ()) = some (quoI y (gcdI y z)) := by rw [eg]; exact ha.Quo_F wg (by decide) (by decide)
    have q2 : whole_Quo.F (b, (false, canon (gcdI y z)), ()) = some (quoI z (gcdI y z)) := by rw [eg]; exact hb.Quo_F wg (by decide) (by decide)
    unfold quoI at q1 q2
    rw [if_neg (by omega), Int.tmod_eq_zero_of_dvd (gcdI_dvd_left y z)] at q1
    rw [if_neg (by omega), Int.tmod_eq_zero_of_dvd (gcdI_dvd_right y z)] at q2
    have wq := hb.quo wg
    have kx := wx.Sign_F (by decide)
    have kq := wq.Abs_F (by decide)
    have e2 := (gcd_parts y hz).2.1
    generalize z.tdiv (gcdI y z) = M at e2 wq kq q2
    have e3 : ab z = ab M * gcdI y z := by
      have := ab_mul M (gcdI y z)
      rw [e2] at this
      have t2 : ab (gcdI y z) = gcdI y z := by omega
      rw [this, t2]
    have hlt : v < ab M := by
      have h2 := hv.lt
      rw [e3, Int.mul_comm (ab M)] at h2
      exact Int.lt_of_mul_lt_mul_left h2 (Int.le_of_lt hg)
    have wM : Wn (wc (ab M)) (ab M) 35184372087808 := .of (by have := wq.bound; have := tri M; omega)
    have eM : (false, canon (ab M)) = wc (ab M) := (wc_pos (ab_nonneg M)).symm
    have kc : whole_Cmp.F (wc v, (false, canon (ab M)), ()) = some (sgn (v - ab M), ()) := by rw [eM]; exact wx.Cmp_F wM (by decide)
    have tv := tri v
    have td := tri (v - ab M)
    have c2 : sgn v ≥ 0 := by omega
    have c3 : sgn (v - ab M) = -1 := by omega
    rw [c3] at kc
    unfold bezI at k1
    exact st k1 (st k2 (st k3 (st k4 (st kn (st sn (no rfl (st awake_F (no rfl (st kgs (no rfl (st q1 (st q2 (no rfl (no rfl (st k0 (no rfl (st k0 (no rfl (st kgs (no rfl (st kb (no (beq_eq_false_iff_ne.2 c1) (st kx (yes (decide_eq_true c2) (st kq (st kc rfl))))))))))))))))))))))))))
end Go.Fx.Try
