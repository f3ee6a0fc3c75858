/- The law WholeShifts: shifts either way, and refused ones. -/
import Derived.Test.YtjhbcpnliiegoaaPA
namespace Go.Fx.Try
open Go Go.Fx Go.Fx.Num
set_option linter.unusedVariables false
set_option linter.unusedSimpArgs false

theorem wsi64_of {i : Int} (h : (Lit.int .i64 i).wf = true) : -9223372036854775808 ≤ i ∧ i ≤ 9223372036854775807 := by
  simp [Lit.wf, IntKind.min, IntKind.max, IntKind.bits, IntKind.signed] at h
  omega
theorem wholeShifts_true (a : Bool × List Int) (i : Int) (wa : ∀ x ∈ a.2, (Lit.int .u32 x).wf = true) (la : a.2.length * 4 ≤ 140737488351232) (wi : (Lit.int .i64 i).wf = true) : fulcrumlaw02_WholeShifts.F (a, i, ()) = some (true, ()) := by
  have ha : Wn a (wv a) 35184372087808 := ⟨limbs_of wa, rfl, by omega⟩
  generalize wv a = y at ha
  have hi := wsi64_of wi
  have k1 := ha.Shift_F (by decide) hi
  have k2 := ha.rShift_F (by decide) hi
  have s1 : fulcrumlaw02_same.F ((wshI y i).1, (wshI y i).1, ()) = some (true, ()) := by
    unfold wshI
    by_cases ho : i < -1048576 ∨ 1048576 < i
    · rw [if_pos ho, wsame_F _ _ (by decide)]; simp
    · rw [if_neg ho]; exact (ha.shifted ho).same (by decide)
  refine fulcrumlaw02_WholeShifts.of 0 a i ?_
  simp only [fulcrumlaw02_WholeShifts.e, pe, k1, k2, s1, Option.bind_some, beq_self_eq_true, cond_true]
end Go.Fx.Try
