/- The law NatMoves: Shift is Mul and Div by a power of two. -/
import Derived.Test.YtflgmookgadodaaNB
import Derived.Test.YtflgmookgadodaaNC
import Derived.Test.YtflgmookgadodaaND
import Derived.Test.YtflgmookgadodaaNF
namespace Go.Fx.Try
open Go Go.Fx Go.Fx.Num
set_option linter.unusedVariables false
set_option linter.unusedSimpArgs false

theorem Nm.Bits_F {a x n} (h : Nm a x n) (hn : n ≤ 70368744177664) : nat_Bits.F (a, ()) = some ((blen x.toNat : Int), ()) := by
  rw [Try.Bits_F h.limbs (Nat.le_trans h.len hn), h.val]
theorem shift_far {a x n} (h : Nm a x n) (hn : n ≤ 70368744100000) : nat_Shift.F (a, 1048577, ()) = some ([], 12, ()) := by
  rw [h.Shift_F hn (by decide), shiftI_out (by decide)]
theorem natMoves_true (a : List Int) (i : Int) (wa : ∀ x ∈ a, (Lit.int .u32 x).wf = true) (la : a.length * 4 ≤ 140737488351232) (wi : (Lit.int .i64 i).wf = true) : fulcrumlaw01_NatMoves.F (a, i, ()) = some (true, ()) := by
  have ha : Nm a (val a) 35184372087808 := ⟨limbs_of wa, rfl, by omega⟩
  generalize val a = x at ha
  have k0 := shift_far ha (by decide)
  refine fulcrumlaw01_NatMoves.of 0 a i ?_
  by_cases h0 : i < 0
  · simp (disch := omega) only [c_dec, c_beq, c_bne, c_and, c_or, c_not, blt_dec, up1, dn1, if_t, if_f, if_true, if_false, Int.toNat_natCast, Option.bind_some, ne_eq, not_true_eq_false, not_false_eq_true, true_and, and_true, fulcrumlaw01_NatMoves.e, twin_F, k0, beq_self_eq_true]
  · by_cases h1 : 4096 < i
    · simp (disch := omega) only [c_dec, c_beq, c_bne, c_and, c_or, c_not, blt_dec, up1, dn1, if_t, if_f, if_true, if_false, Int.toNat_natCast, Option.bind_some, ne_eq, not_true_eq_false, not_false_eq_true, true_and, and_true, fulcrumlaw01_NatMoves.e, twin_F, k0, beq_self_eq_true]
    · obtain ⟨e, rfl⟩ := Int.eq_ofNat_of_zero_le (show 0 ≤ i by omega)
      have n2 : Nm [2] 2 1 := Nm.one (by decide)
      have k1 := Pow_F n2 (by decide) (i := (e : Int)) (by omega) (by omega)
      rw [Int.toNat_natCast] at k1
      have np := n2.pow e
      have hp := two_pos e
      have k2 := ha.Shift_F (by decide) (i := (e : Int)) (by omega)
      rw [shiftI_in (by omega), show shiftV x (e : Int) = x * 2 ^ e by unfold shiftV; rw [if_pos (by omega), Int.toNat_natCast]] at k2
      have e3 : negI .i64 (e : Int) = -(e : Int) := by
        unfold negI
        rw [IntWalk.i64_in _ (by omega)]; omega
      have k3 := ha.Shift_F (by decide) (i := -(e : Int)) (by omega)
      have e4 : shiftV x (-(e : Int)) = x / 2 ^ e := by
        unfold shiftV
        by_cases hz : e = 0
        · subst hz; simp
        · rw [if_neg (by omega), Int.neg_neg, Int.toNat_natCast]
      rw [shiftI_in (by omega), e4] at k3
      have k4 := np.Bits_F (by omega)
      rw [blen_int (t := e) (Int.le_refl _) (by rw [Int.pow_succ]; omega)] at k4
      have k5 := ha.Div_F np (by decide) (by omega)
      rw [divI_pos (by omega)] at k5
      have k6 := ha.Mul_F np (by omega)
      have s1 := same_F (canon (x * 2 ^ e)) (canon (x * 2 ^ e)) (Nat.le_trans (ha.mul np).len (by omega))
      have s2 := same_F (canon (x / 2 ^ e)) (canon (x / 2 ^ e)) (Nat.le_trans (ha.quo np).len (by decide))
      simp (disch := omega) only [c_dec, c_beq, c_bne, c_and, c_or, c_not, blt_dec, up1, dn1, if_t, if_f, if_true, if_false, Int.toNat_natCast, Option.bind_some, ne_eq, not_true_eq_false, not_false_eq_true, true_and, and_true, fulcrumlaw01_NatMoves.e, twin_F, k1, e3, k2, k3, k4, k5, k6, s1, s2, beq_self_eq_true, decide_true, cond_true]
end Go.Fx.Try
