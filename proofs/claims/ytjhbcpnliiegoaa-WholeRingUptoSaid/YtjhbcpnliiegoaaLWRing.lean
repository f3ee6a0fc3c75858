/- The law WholeRing: sums and products are taken in any order, and products go over sums. -/
import Derived.Test.YtjhbcpnliiegoaaLWOrder
namespace Go.Fx.Try
open Go Go.Fx Go.Fx.Num
set_option linter.unusedVariables false
set_option linter.unusedSimpArgs false

theorem wholeRing_true (a b c : Bool × List Int) (wa : ∀ x ∈ a.2, (Lit.int .u32 x).wf = true) (la : a.2.length ≤ 1048576) (wb : ∀ x ∈ b.2, (Lit.int .u32 x).wf = true) (lb : b.2.length ≤ 1048576)
    (wcc : ∀ x ∈ c.2, (Lit.int .u32 x).wf = true) (lc : c.2.length ≤ 1048576) : fulcrumlaw02_WholeRing.F (a, b, c, ()) = some (true, ()) := by
  have ha : Wn a (wv a) 1048576 := ⟨limbs_of wa, rfl, la⟩
  have hb : Wn b (wv b) 1048576 := ⟨limbs_of wb, rfl, lb⟩
  have hc : Wn c (wv c) 1048576 := ⟨limbs_of wcc, rfl, lc⟩
  generalize wv a = x at ha
  generalize wv b = y at hb
  generalize wv c = z at hc
  have w1 : Wn (wc 1) 1 2 := Wof_bound (by decide)
  have ab := ha.add hb
  have bc := hb.add hc
  have mab := ha.mul hb
  have mbc := hb.mul hc
  have mac := ha.mul hc
  have k1 := ha.Add_F hb (by decide)
  have k2 := hb.Add_F ha (by decide)
  rw [Int.add_comm] at k2
  have k3 := ab.Add_F (hc.mono (by decide)) (by decide)
  have k4 := hb.Add_F hc (by decide)
  have k5 := (ha.mono (m := 1048577) (by decide)).Add_F bc (by decide)
  rw [← Int.add_assoc] at k5
  have k6 := ha.Mul_F hb (by decide)
  have k7 := hb.Mul_F ha (by decide)
  rw [Int.mul_comm] at k7
  have k8 := mab.Mul_F hc (by decide)
  have k9 := hb.Mul_F hc (by decide)
  have k10 := ha.Mul_F mbc (by decide)
  rw [← Int.mul_assoc] at k10
  have k11 := ab.Mul_F hc (by decide)
  have k12 := ha.Mul_F hc (by decide)
  have k13 := mac.Add_F mbc (by decide)
  rw [← Int.add_mul] at k13
  have k14 := ab.Sub_F (hb.mono (by decide)) (by decide)
  rw [show x + y - y = x by omega] at k14
  have k15 := ha.Norm_F (by decide)
  have k16 := ha.Mul_F w1 (by decide)
  rw [Int.mul_one] at k16
  have k17 := ha.Add_F (w1.mono (by decide)) (by decide)
  have k18 := (ha.add (w1.mono (m := 1048576) (by decide))).Cmp_F (ha.mono (by decide)) (by decide)
  rw [show x + 1 - x = 1 by omega, show sgn 1 = 1 from rfl] at k18
  have s1 := ab.same (by decide)
  have s2 := (ab.add (hc.mono (by decide))).same (by decide)
  have s3 := mab.same (by decide)
  have s4 := (mab.mul hc).same (by decide)
  have s5 := (ab.mul hc).same (by decide)
  have s6 := ha.norm.same (by decide)
  refine fulcrumlaw02_WholeRing.of 0 a b c ?_
  simp only [fulcrumlaw02_WholeRing.e, pe, one_F, k1, k2, k3, k4, k5, k6, k7, k8, k9, k10, k11, k12, k13, k14, k15, k16, k17, k18, s1, s2, s3, s4, s5, s6, Option.bind_some, Bool.not_true, cond_false, cond_true, beq_self_eq_true]
end Go.Fx.Try
