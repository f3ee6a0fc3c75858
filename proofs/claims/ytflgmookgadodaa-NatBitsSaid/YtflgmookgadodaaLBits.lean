/- The law NatBits: Bits, and Bit at any place. -/
import Derived.Test.YtflgmookgadodaaN1
import Derived.Test.YtflgmookgadodaaN8
namespace Go.Fx.Try
open Go Go.Fx Go.Fx.Num
set_option linter.unusedVariables false
set_option linter.unusedSimpArgs false

theorem i64_of {i : Int} (h : (Lit.int .i64 i).wf = true) : -9223372036854775808 ≤ i ∧ i ≤ 9223372036854775807 := by
  simp [Lit.wf, IntKind.min, IntKind.max, IntKind.bits, IntKind.signed] at h
  omega
theorem natBits_true (a : List Int) (i : Int) (wa : ∀ x ∈ a, (Lit.int .u32 x).wf = true) (la : a.length * 4 ≤ 140737488351232) (hi : (Lit.int .i64 i).wf = true) : fulcrumlaw01_NatBits.F (a, i, ()) = some (true, ()) := by
  have ha := limbs_of wa
  have h1 : Limbs [0, 1, 0] := Limbs.cons (by decide) (Limbs.cons (by decide) (Limbs.cons (by decide) Limbs.nil))
  have e1 := Bits_F h1 (by simp)
  have hb : blen (val [0, 1, 0]).toNat = 33 := by
    simp only [val_cons, val_nil]
    exact blen_unique (by decide) (by decide)
  rw [hb] at e1
  refine fulcrumlaw01_NatBits.of 0 a i ?_
  simp (disch := omega) only [fulcrumlaw01_NatBits.e, twin_F, e1, Bits_F ha, rBits_F ha, Bit_F ha (by omega) (i64_of hi), rBit_F ha (by omega) (i64_of hi), Option.bind_some, beq_self_eq_true, cond_true]
  rfl
end Go.Fx.Try
