/- The law NatShifts: Shift by any number, both ways. -/
import Derived.Test.YtflgmookgadodaaNB
import Derived.Test.YtflgmookgadodaaNE
namespace Go.Fx.Try
open Go Go.Fx Go.Fx.Num
set_option linter.unusedVariables false
set_option linter.unusedSimpArgs false

theorem si64_of {i : Int} (h : (Lit.int .i64 i).wf = true) : -9223372036854775808 ≤ i ∧ i ≤ 9223372036854775807 := by
  simp [Lit.wf, IntKind.min, IntKind.max, IntKind.bits, IntKind.signed] at h
  omega
theorem natShifts_true (a : List Int) (i : Int) (wa : ∀ x ∈ a, (Lit.int .u32 x).wf = true) (la : a.length * 4 ≤ 140737488351232) (wi : (Lit.int .i64 i).wf = true) : fulcrumlaw01_NatShifts.F (a, i, ()) = some (true, ()) := by
  have ha : Nm a (val a) 35184372087808 := ⟨limbs_of wa, rfl, by omega⟩
  generalize val a = x at ha
  have hi := si64_of wi
  have k1 := ha.Shift_F (by decide) hi
  have k2 := ha.rShift_F (by decide) hi
  have k3 := (Nm.one (x := 1) (by decide)).Shift_F (by decide) (i := 33) (by decide)
  have e3 : shiftI 1 33 = ([0, 2], 0, ()) := by
    rw [shiftI_in (by decide)]
    have : shiftV 1 33 = 0 + 4294967296 * 2 := by decide
    rw [this, canon_cons (by decide) (by decide) (by decide), canon_one (by decide)]
  rw [e3] at k3
  have s0 := same_F [] [] (by simp)
  have s1 := same_F [0, 2] [0, 2] (by simp)
  refine fulcrumlaw01_NatShifts.of 0 a i ?_
  by_cases ho : i < -1048576 ∨ 1048576 < i
  · rw [shiftI_out ho] at k1 k2
    simp (disch := omega) only [fulcrumlaw01_NatShifts.e, twin_F, k1, k2, k3, s0, s1, Option.bind_some, decide_true, Bool.not_true, cond_false, cond_true, bne_self_eq_false, beq_self_eq_true]
  · rw [shiftI_in ho] at k1 k2
    have s2 := same_F (canon (shiftV x i)) (canon (shiftV x i)) (Nat.le_trans (ha.shifted ho).len (by decide))
    simp (disch := omega) only [fulcrumlaw01_NatShifts.e, twin_F, k1, k2, k3, s2, s1, Option.bind_some, decide_true, Bool.not_true, cond_false, cond_true, bne_self_eq_false, beq_self_eq_true]
end Go.Fx.Try
