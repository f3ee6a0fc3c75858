/- The law NatRing: sums and products as a semiring has them. -/
import Derived.Test.YtflgmookgadodaaN1
import Derived.Test.YtflgmookgadodaaN6
namespace Go.Fx.Try
open Go Go.Fx Go.Fx.Num
set_option linter.unusedVariables false
set_option linter.unusedSimpArgs false

theorem natRing_true (a b c : List Int) (wa : ∀ x ∈ a, (Lit.int .u32 x).wf = true) (la : a.length ≤ 1048576) (wb : ∀ x ∈ b, (Lit.int .u32 x).wf = true) (lb : b.length ≤ 1048576)
    (wc : ∀ x ∈ c, (Lit.int .u32 x).wf = true) (lc : c.length ≤ 1048576) : fulcrumlaw01_NatRing.F (a, b, c, ()) = some (true, ()) := by
  have ha : Nm a (val a) 1048576 := ⟨limbs_of wa, rfl, la⟩
  have hb : Nm b (val b) 1048576 := ⟨limbs_of wb, rfl, lb⟩
  have hc : Nm c (val c) 1048576 := ⟨limbs_of wc, rfl, lc⟩
  generalize val a = x at ha
  generalize val b = y at hb
  generalize val c = z at hc
  have px := ha.pos
  have py := hb.pos
  have e1 := (Nm.one (x := 2) (by decide)).Add_F (Nm.one (x := 3) (by decide)) (by decide)
  rw [canon_one (by decide)] at e1
  have e2 := (Nm.one (x := 2 + 3) (by decide)).Mul_F (Nm.one (x := 4) (by decide)) (by decide)
  rw [canon_one (by decide), show (2 + 3 : Int) * 4 = 20 from rfl] at e2
  have s20 := same_F [20] [20] (by simp)
  have sn := fun (v : Int) (n : Nat) (h : Nm (canon v) v n) (hn : n ≤ 70368744177664) => same_F (canon v) (canon v) (Nat.le_trans h.len hn)
  have ab := ha.add hb
  have bc := hb.add hc
  have mab := ha.mul hb
  have mbc := hb.mul hc
  have mac := ha.mul hc
  have k1 := ha.Add_F hb (by decide)
  have k2 := hb.Add_F ha (by decide)
  rw [Int.add_comm] at k2
  have k3 := ab.Add_F (hc.mono (by decide)) (by decide)
  have k4 := hb.Add_F hc (by decide)
  have k5 := (ha.mono (m := 1048577) (by decide)).Add_F bc (by decide)
  rw [← Int.add_assoc] at k5
  have k6 := ha.Mul_F hb (by decide)
  have k7 := hb.Mul_F ha (by decide)
  rw [Int.mul_comm] at k7
  have k8 := mab.Mul_F hc (by decide)
  have k9 := hb.Mul_F hc (by decide)
  have k10 := ha.Mul_F mbc (by decide)
  rw [← Int.mul_assoc] at k10
  have k11 := ab.Mul_F hc (by decide)
  have k12 := ha.Mul_F hc (by decide)
  have k13 := mac.Add_F mbc (by decide)
  rw [← Int.add_mul] at k13
  have k14 := ab.Sub_F hb (by decide) (by decide)
  rw [if_neg (by omega), show x + y - y = x by omega] at k14
  have k15 := ha.Norm_F (by decide)
  have k16 := ha.Mul_F (Nm.one (x := 1) (by decide)) (by decide)
  rw [Int.mul_one] at k16
  have s1 := sn _ _ ab (by decide)
  have s2 := sn _ _ (ab.add (hc.mono (by decide))) (by decide)
  have s3 := sn _ _ mab (by decide)
  have s4 := sn _ _ (mab.mul hc) (by decide)
  have s5 := sn _ _ (ab.mul hc) (by decide)
  have s6 := sn _ _ ha.norm (by decide)
  refine fulcrumlaw01_NatRing.of 0 a b c ?_
  simp (disch := omega) only [fulcrumlaw01_NatRing.e, twin_F, e1, e2, s20, k1, k2, k3, k4, k5, k6, k7, k8, k9, k10, k11, k12, k13, k14, k15, k16, s1, s2, s3, s4, s5, s6, Option.bind_some, decide_true, Bool.not_true, cond_false, cond_true, beq_self_eq_true]
end Go.Fx.Try
