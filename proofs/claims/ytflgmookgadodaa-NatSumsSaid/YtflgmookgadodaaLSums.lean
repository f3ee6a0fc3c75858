/- The law NatSums: sums and differences are the reference's. -/
import Derived.Test.YtflgmookgadodaaN1
import Derived.Test.YtflgmookgadodaaN5
namespace Go.Fx.Try
open Go Go.Fx Go.Fx.Num
set_option linter.unusedVariables false
set_option linter.unusedSimpArgs false

theorem natSums_true (a b : List Int) (wa : ∀ x ∈ a, (Lit.int .u32 x).wf = true) (la : a.length * 4 ≤ 140737488351232) (wb : ∀ x ∈ b, (Lit.int .u32 x).wf = true) (lb : b.length * 4 ≤ 140737488351232) : fulcrumlaw01_NatSums.F (a, b, ()) = some (true, ()) := by
  have ha := limbs_of wa
  have hb := limbs_of wb
  have h0 := val_nonneg ha
  have h1 := limbs1 (x := 1) (by decide)
  have hc := canon_add_len ha hb (n := 35184372087808) (by omega) (by omega)
  have hc1 := canon_add_len ha h1 (n := 35184372087808) (by omega) (by simp)
  rw [val1] at hc1
  have hd := Sub_F (canon_limbs (val a + 1)) ha (by omega) (by omega)
  rw [val_canon (by omega), if_neg (by omega), show val a + 1 - val a = 1 by omega] at hd
  have e1 := Add_F ha h1 (by omega) (by simp)
  rw [val1] at e1
  have c1 := canon_one (x := 1) (by decide)
  have hs : (canon (val a - val b)).length ≤ 70368744177664 := by
    by_cases h : val a < val b
    · unfold canon; rw [Int.toNat_eq_zero.2 (by omega), canonN_zero]; simp
    · have h2 := val_nonneg hb
      have := canon_len_le (n := val a - val b) (k := a.length) (by omega) (by have := val_lt ha; omega)
      omega
  have s1 := same_F [1] [1] (by simp)
  have s0 := same_F [] [] (by simp)
  refine fulcrumlaw01_NatSums.of 0 a b ?_
  by_cases hlt : val a < val b
  · simp (disch := omega) only [fulcrumlaw01_NatSums.e, twin_F, Cmp_F ha hb, rCmp_F ha hb, Add_F ha hb, rAdd_F ha hb, Sub_F ha hb, rSub_F ha hb, same_F, e1, hd, c1, s0, s1, Option.bind_some, decide_true, Bool.not_true, cond_false, cond_true, bne_self_eq_false, beq_self_eq_true, if_t, List.length_nil, List.length_cons]
  · simp (disch := omega) only [fulcrumlaw01_NatSums.e, twin_F, Cmp_F ha hb, rCmp_F ha hb, Add_F ha hb, rAdd_F ha hb, Sub_F ha hb, rSub_F ha hb, same_F, e1, hd, c1, s0, s1, Option.bind_some, decide_true, Bool.not_true, cond_false, cond_true, bne_self_eq_false, beq_self_eq_true, if_f, List.length_nil, List.length_cons]
end Go.Fx.Try
