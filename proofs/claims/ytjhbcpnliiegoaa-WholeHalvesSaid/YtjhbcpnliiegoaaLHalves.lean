/- The law WholeHalves: a shift up and down again is nothing; down it is Floor by the power of 2. -/
import Derived.Test.YtjhbcpnliiegoaaPA
import Derived.Test.YtjhbcpnliiegoaaLWOrder
namespace Go.Fx.Try
open Go Go.Fx Go.Fx.Num
set_option linter.unusedVariables false
set_option linter.unusedSimpArgs false

theorem halves_si64 {i : Int} (h : (Lit.int .i64 i).wf = true) : -9223372036854775808 ≤ i ∧ i ≤ 9223372036854775807 := by
  simp [Lit.wf, IntKind.min, IntKind.max, IntKind.bits, IntKind.signed] at h
  omega
set_option maxHeartbeats 2000000 in
theorem wholeHalves_true (a : Bool × List Int) (i : Int) (wa : ∀ x ∈ a.2, (Lit.int .u32 x).wf = true) (la : a.2.length * 4 ≤ 140737488351232) (wi : (Lit.int .i64 i).wf = true) : fulcrumlaw02_WholeHalves.F (a, i, ()) = some (true, ()) := by
  have ha : Wn a (wv a) 35184372087808 := ⟨limbs_of wa, rfl, by omega⟩
  generalize wv a = y at ha
  have hi := halves_si64 wi
  refine fulcrumlaw02_WholeHalves.of 0 a i ?_
  have k0 := ha.Shift_F (by decide) hi
  have w1 : Wn (wc 1) 1 1 := wc1 (Nat.le_refl _)
  by_cases ho : i < -1048576 ∨ 1048576 < i
  · unfold wshI at k0
    rw [if_pos ho] at k0
    by_cases h1 : i < -1048576
    · simp (disch := omega) only [c_dec, c_beq, c_bne, c_and, c_or, c_not, blt_dec, up1, dn1, if_t, if_f, if_true, if_false, Int.toNat_natCast, Option.bind_some, ne_eq, not_true_eq_false, not_false_eq_true, true_and, and_true, fulcrumlaw02_WholeHalves.e, pe, k0, awake_F]
    · simp (disch := omega) only [c_dec, c_beq, c_bne, c_and, c_or, c_not, blt_dec, up1, dn1, if_t, if_f, if_true, if_false, Int.toNat_natCast, Option.bind_some, ne_eq, not_true_eq_false, not_false_eq_true, true_and, and_true, fulcrumlaw02_WholeHalves.e, pe, k0, awake_F]
  · -- by N places
    have key : ∀ N : Nat, N ≤ 1048576 → ∃ U P : Int, whole_Shift.F (a, (N : Int), ()) = some (wc U, 0, ()) ∧ whole_Shift.F (wc U, -(N : Int), ()) = some (wc y, 0, ()) ∧ whole_Shift.F (wc 1, (N : Int), ()) = some (wc P, 0, ()) ∧
        (∃ R, whole_Floor.F (a, wc P, ()) = some (wc (y / P), R, 0, ())) ∧ whole_Shift.F (a, -(N : Int), ()) = some (wc (y / P), 0, ()) ∧ whole_Mul.F (a, wc P, ()) = some (wc U, ()) ∧ fulcrumlaw02_same.F (wc U, wc U, ()) = some (true, ()) ∧ fulcrumlaw02_same.F (wc (y / P), wc (y / P), ()) = some (true, ()) := by
      intro N hN
      have hD := two_pos N
      have hr : ¬((N : Int) < -1048576 ∨ 1048576 < (N : Int)) := by omega
      have hr' : ¬(-(N : Int) < -1048576 ∨ 1048576 < -(N : Int)) := by omega
      have k1 := ha.Shift_F (by decide) (i := (N : Int)) (by omega)
      have hU := ha.shifted hr
      have k2 := hU.Shift_F (by decide) (i := -(N : Int)) (by omega)
      have k3 := w1.Shift_F (by decide) (i := (N : Int)) (by omega)
      have hP := w1.shifted hr
      have k4 := ha.Floor_F hP (by decide) (by decide) (.inl (by decide))
      have k5 := ha.Shift_F (by decide) (i := -(N : Int)) (by omega)
      have k6 := ha.Mul_F hP (by decide)
      have hL := ha.shifted hr'
      unfold wshI at k1 k2 k3 k5
      rw [if_neg hr] at k1 k3
      rw [if_neg hr'] at k2 k5
      have eP : shiftV 1 (N : Int) = 2 ^ N := by rw [shiftV_up _ (by omega), Int.toNat_natCast, Int.one_mul]
      have eU : shiftV y (N : Int) = y * 2 ^ N := by rw [shiftV_up _ (by omega), Int.toNat_natCast]
      have eD : ∀ x : Int, shiftV x (-(N : Int)) = x / 2 ^ N := by
        intro x
        by_cases hz : N = 0
        · subst hz; simp [shiftV]
        · rw [shiftV_down _ (by omega), Int.neg_neg, Int.toNat_natCast]
      rw [eP] at k3 k4 k6
      rw [eU] at k1 k2
      rw [eD, Int.mul_ediv_cancel _ (by omega)] at k2
      rw [eD] at k5 hL
      unfold flI at k4
      rw [if_neg (by omega), flQ_pos y hD] at k4
      rw [eU] at hU
      exact ⟨y * 2 ^ N, 2 ^ N, k1, k2, k3, ⟨_, k4⟩, k5, k6, hU.same (by decide), hL.same (by decide)⟩
    have kn := ha.Norm_F (by decide)
    have sn := ha.norm.same (by decide)
    have c1 : ¬ i < -1048576 := by omega
    have c2 : ¬ i > 1048576 := by omega
    by_cases hneg : i < 0
    · obtain ⟨U, P, q1, q2, q3, ⟨R, q4⟩, q5, q6, q7, q8⟩ := key (-i).toNat (by omega)
      have e1 : (((-i).toNat : Nat) : Int) = 0 - i := by omega
      rw [e1] at q1 q2 q3 q5
      have e2 : -(0 - i) = i := by omega
      rw [e2] at q2 q5
      have e3 : 0 - (0 - i) = i := by omega
      simp (disch := omega) only [c_dec, c_beq, c_bne, c_and, c_or, c_not, blt_dec, up1, dn1, if_t, if_f, if_true, if_false, Int.toNat_natCast, Option.bind_some, ne_eq, not_true_eq_false, not_false_eq_true, true_and, and_true, fulcrumlaw02_WholeHalves.e, pe, c1, c2, hneg, IntWalk.i64_in (0 - i), e3, IntWalk.i64_in i, one_F, q1, q2, q3, q4, q5, q6, q7, q8, kn, sn, awake_F, cond_true]
    · obtain ⟨N, rfl⟩ := Int.eq_ofNat_of_zero_le (show 0 ≤ i by omega)
      obtain ⟨U, P, q1, q2, q3, ⟨R, q4⟩, q5, q6, q7, q8⟩ := key N (by omega)
      have e2 : 0 - (N : Int) = -(N : Int) := by omega
      simp (disch := omega) only [c_dec, c_beq, c_bne, c_and, c_or, c_not, blt_dec, up1, dn1, if_t, if_f, if_true, if_false, Int.toNat_natCast, Option.bind_some, ne_eq, not_true_eq_false, not_false_eq_true, true_and, and_true, fulcrumlaw02_WholeHalves.e, pe, c1, c2, hneg, e2, IntWalk.i64_in (-(N : Int)), one_F, q1, q2, q3, q4, q5, q6, q7, q8, kn, sn, awake_F, cond_true]
end Go.Fx.Try
