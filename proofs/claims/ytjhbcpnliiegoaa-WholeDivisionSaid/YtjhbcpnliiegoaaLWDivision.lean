/- The law WholeDivision: of each way a is q b + r, and what is left is as it must be. -/
import Derived.Test.YtjhbcpnliiegoaaPA
import Derived.Test.YtjhbcpnliiegoaaLWOrder
namespace Go.Fx.Try
open Go Go.Fx Go.Fx.Num
set_option linter.unusedVariables false
set_option linter.unusedSimpArgs false

theorem ab_idem (z : Int) : ab (ab z) = ab z := by have := tri z; have := tri (ab z); omega
theorem wc_ab (z : Int) : (false, canon (ab z)) = wc (ab z) := (wc_pos (ab_nonneg z)).symm
theorem Wn.ab {p z n} (h : Wn p z n) : Wn (wc (Try.ab z)) (Try.ab z) n := .of (by have := h.bound; have := tri z; omega)
theorem Wn.within_F {p q r z n} (h : Wn p r n) (g : Wn q z n) (hn : n < 70368744177664) {s : Int} (hs : r = 0 ∨ sgn r = s) (hb : Try.ab r < Try.ab z) : fulcrumlaw02_within.F (p, q, s, ()) = some (true, ()) := by
  have hn' := Nat.le_of_lt hn
  refine fulcrumlaw02_within.of 0 p q s ?_
  have k1 := h.ab.Cmp_F g.ab hn
  have t := tri (Try.ab r - Try.ab z)
  rw [show sgn (Try.ab r - Try.ab z) = -1 by omega] at k1
  have tr := tri r
  by_cases h0 : sgn r = 0
  · simp only [fulcrumlaw02_within.e, pe, h.Sign_F hn', h0, h.Abs_F hn', g.Abs_F hn', wc_ab, k1, Option.bind_some, bne_self_eq_false, beq_self_eq_true, cond_false]
  · have h1 : sgn r = s := hs.resolve_left (by omega)
    have h2 : (sgn r != 0) = true := bne_iff_ne.2 h0
    simp only [fulcrumlaw02_within.e, pe, h.Sign_F hn', h2, ← h1, h.Abs_F hn', g.Abs_F hn', wc_ab, k1, Option.bind_some, bne_self_eq_false, beq_self_eq_true, cond_false, cond_true]
theorem wholeDivision_true (a b : Bool × List Int) (wa : ∀ x ∈ a.2, (Lit.int .u32 x).wf = true) (la : a.2.length * 4 ≤ 140737488351232) (wb : ∀ x ∈ b.2, (Lit.int .u32 x).wf = true) (lb : b.2.length * 4 ≤ 140737488351232) : fulcrumlaw02_WholeDivision.F (a, b, ()) = some (true, ()) := by
  have ha : Wn a (wv a) 35184372087808 := ⟨limbs_of wa, rfl, by omega⟩
  have hb : Wn b (wv b) 35184372087808 := ⟨limbs_of wb, rfl, by omega⟩
  generalize wv a = y at ha
  generalize wv b = z at hb
  have k1 := ha.Quo_F hb (by decide) (by decide)
  have k3 := ha.Floor_F hb (by decide) (by decide) (.inl (by decide))
  have k5 := ha.Euclid_F hb (by decide) (by decide) (.inl (by decide))
  have kz := hb.Sign_F (by decide)
  have ky := ha.Sign_F (by decide)
  have tz := tri z
  have ty := tri y
  refine fulcrumlaw02_WholeDivision.of 0 a b ?_
  by_cases h0 : z = 0
  · simp only [quoI, flI, euI, zerr, if_pos h0] at k1 k3 k5
    rw [show sgn z = 0 by omega] at kz
    simp only [fulcrumlaw02_WholeDivision.e, awake_F, pe, k1, k3, k5, kz, Option.bind_some, bne_self_eq_false, beq_self_eq_true, decide_true, Bool.not_true, cond_false, cond_true]
  · simp only [quoI, flI, euI, if_neg h0] at k1 k3 k5
    have hz : (sgn z == 0) = false := beq_eq_false_iff_ne.2 (by omega)
    have q1 := ha.quo hb
    have r1 := ha.rem hb h0
    have q2 := ha.fq hb
    have r2 := ha.fr hb h0
    have q3 := ha.uq hb
    have r3 := ha.ur hb h0
    have e1 := Int.tdiv_mul_add_tmod y z
    have e2 := fl_spec y h0
    have e3 := eu_spec y h0
    have b1 := tmod_bound y h0
    have t1 := tri (y.tmod z)
    have t2 := tri (flR y z)
    have t3 := tri (euR y z)
    have m1 := q1.Mul_F hb (by decide)
    have m2 := q2.Mul_F hb (by decide)
    have m3 := q3.Mul_F hb (by decide)
    have s1 := (q1.mul hb).Add_F (r1.mono (by decide)) (by decide)
    have s2 := (q2.mul hb).Add_F (r2.mono (by decide)) (by decide)
    have s3 := (q3.mul hb).Add_F (r3.mono (by decide)) (by decide)
    rw [e1] at s1
    rw [e2.1] at s2
    rw [e3.1] at s3
    have nn := ha.Norm_F (by decide)
    have sn := ha.norm.same (by decide)
    have w1 := r1.within_F hb (by decide) (s := sgn y) (by omega) (by omega)
    have w2 := r2.within_F hb (by decide) (s := sgn z) (by omega) (by omega)
    have w3 := r3.within_F hb (by decide) (s := 1) (by omega) (by omega)
    simp only [fulcrumlaw02_WholeDivision.e, awake_F, pe, k1, k3, k5, kz, ky, hz, m1, m2, m3, s1, s2, s3, nn, sn, w1, w2, w3, Option.bind_some, bne_self_eq_false, beq_self_eq_true, decide_true, Bool.not_true, cond_false, cond_true]
end Go.Fx.Try
