/- The law NatDivision: q and r of q b + r are found again. -/
import Derived.Test.YtflgmookgadodaaN1
import Derived.Test.YtflgmookgadodaaN16
namespace Go.Fx.Try
open Go Go.Fx Go.Fx.Num
set_option linter.unusedVariables false
set_option linter.unusedSimpArgs false

theorem natDivision_true (q b r : List Int) (wq : ∀ x ∈ q, (Lit.int .u32 x).wf = true) (lq : q.length * 4 ≤ 140737488351232) (wb : ∀ x ∈ b, (Lit.int .u32 x).wf = true) (lb : b.length * 4 ≤ 140737488351232)
    (wr : ∀ x ∈ r, (Lit.int .u32 x).wf = true) (lr : r.length * 4 ≤ 140737488351232) : fulcrumlaw01_NatDivision.F (q, b, r, ()) = some (true, ()) := by
  have hq : Nm q (val q) 35184372087808 := ⟨limbs_of wq, rfl, by omega⟩
  have hb : Nm b (val b) 35184372087808 := ⟨limbs_of wb, rfl, by omega⟩
  have hr : Nm r (val r) 35184372087808 := ⟨limbs_of wr, rfl, by omega⟩
  generalize val q = x at hq
  generalize val b = y at hb
  generalize val r = z at hr
  have py := hb.pos
  have pz := hr.pos
  have sn := fun (v : Int) (n : Nat) (h : Nm (canon v) v n) (hn : n ≤ 70368744177664) => same_F (canon v) (canon v) (Nat.le_trans h.len hn)
  have k1 := hr.Cmp_F hb (by decide) (by decide)
  have k2 := hr.Div_F hb (by decide) (by decide)
  have k3 := hb.rNorm_F (by decide)
  have hl := canon_len_zero py
  have k4 := hq.Mul_F hb (by decide)
  have k5 := (hq.mul hb).Add_F (hr.mono (by decide)) (by decide)
  have k6 := ((hq.mul hb).add (hr.mono (by decide))).Div_F hb (by decide) (by decide)
  have k7 := hq.rNorm_F (by decide)
  have k8 := hr.rNorm_F (by decide)
  have s1 := sn _ _ hq.norm (by decide)
  have s2 := sn _ _ hr.norm (by decide)
  refine fulcrumlaw01_NatDivision.of 0 q b r ?_
  by_cases hlt : z < y
  · have hd := div_unique (x := x * y + z) (q := x) (b := y) (r := z) rfl pz hlt
    rw [divI_pos (by omega), hd.1, hd.2] at k6
    have hc : ¬ (0 ≤ cmpI z y) := by rw [cmpI_lt hlt]; decide
    simp (disch := omega) only [c_dec, c_beq, c_bne, c_and, c_or, c_not, blt_dec, up1, dn1, if_t, if_f, if_true, if_false, Int.toNat_natCast, Option.bind_some, ne_eq, not_true_eq_false, not_false_eq_true, true_and, and_true, fulcrumlaw01_NatDivision.e, twin_F, k1, hc, k4, k5, k6, k7, k8, s1, s2, beq_self_eq_true, decide_true, cond_true, ge_iff_le]
  · have hc : 0 ≤ cmpI z y := by unfold cmpI; rw [if_neg hlt]; split <;> decide
    by_cases h0 : y = 0
    · have h1 := hl.2 h0
      rw [divI_zero h0] at k2
      simp (disch := omega) only [c_dec, c_beq, c_bne, c_and, c_or, c_not, blt_dec, up1, dn1, if_t, if_f, if_true, if_false, Int.toNat_natCast, Option.bind_some, ne_eq, not_true_eq_false, not_false_eq_true, true_and, and_true, fulcrumlaw01_NatDivision.e, twin_F, k1, hc, k2, k3, h1, ge_iff_le]
      rfl
    · have h1 : (canon y).length ≠ 0 := fun h => h0 (hl.1 h)
      have h2 : (((canon y).length : Int) == 0) = false := beq_eq_false_iff_ne.2 (by omega)
      rw [divI_pos h0] at k2
      simp (disch := omega) only [c_dec, c_beq, c_bne, c_and, c_or, c_not, blt_dec, up1, dn1, if_t, if_f, if_true, if_false, Int.toNat_natCast, Option.bind_some, ne_eq, not_true_eq_false, not_false_eq_true, true_and, and_true, fulcrumlaw01_NatDivision.e, twin_F, k1, hc, k2, k3, h2, ge_iff_le]
      rfl
end Go.Fx.Try
