/- Laws over Cmp, Add, Sub, Mul: facts on their numbers. -/
import Derived.Test.YtflgmookgadodaaN4
namespace Go.Fx.Try
open Go Go.Fx Go.Fx.Num
set_option linter.unusedVariables false
set_option linter.unusedSimpArgs false

theorem canon_add_len {a b : List Int} {n : Nat} (ha : Limbs a) (hb : Limbs b) (la : a.length ≤ n) (lb : b.length ≤ n) : (canon (val a + val b)).length ≤ n + 1 := by
  have h1 := val_lt ha
  have h2 := val_lt hb
  have h3 := val_nonneg ha
  have h4 := val_nonneg hb
  have h5 := pw_mono la
  have h6 := pw_mono lb
  refine canon_len_le (by omega) ?_
  rw [pw_succ]; omega
theorem canon_mul_len {a b : List Int} (ha : Limbs a) (hb : Limbs b) : (canon (val a * val b)).length ≤ a.length + b.length := by
  have h1 := val_lt ha
  have h2 := val_lt hb
  have h3 := val_nonneg ha
  have h4 := val_nonneg hb
  refine canon_len_le (Int.mul_nonneg h3 h4) ?_
  rw [pw_add]
  have h5 : val a * val b ≤ val a * pw b.length := Int.mul_le_mul_of_nonneg_left (by omega) h3
  have h6 : val a * pw b.length < pw a.length * pw b.length := Int.mul_lt_mul_of_pos_right h1 (pw_pos _)
  omega
theorem canon_one {x : Int} (h : 0 < x ∧ x < 4294967296) : canon x = [x] := by
  have h1 := canon_cons (x := x) (v := 0) (by omega) (by omega) (by omega)
  rw [canon_zero, Int.mul_zero, Int.add_zero] at h1
  exact h1
theorem limbs1 {x : Int} (h : 0 ≤ x ∧ x < 4294967296) : Limbs [x] := Limbs.cons h Limbs.nil
theorem val1 (x : Int) : val [x] = x := by simp [val_cons, val_nil]
theorem cmpI_range (x y : Int) : cmpI x y = -1 ∨ cmpI x y = 0 ∨ cmpI x y = 1 := by unfold cmpI; split <;> (try split) <;> simp
theorem cmpI_neg (x y : Int) : negI .i64 (cmpI x y) = cmpI y x := by
  unfold cmpI
  by_cases h1 : x < y
  · rw [if_pos h1, if_neg (by omega), if_pos h1]; decide
  · by_cases h2 : y < x
    · rw [if_neg h1, if_pos h2, if_pos h2]; decide
    · rw [if_neg h1, if_neg h2, if_neg h2, if_neg h1]; decide
theorem cmpI_zero (x y : Int) : cmpI x y = 0 ↔ x = y := by
  unfold cmpI
  by_cases h1 : x < y
  · rw [if_pos h1]; omega
  · by_cases h2 : y < x
    · rw [if_neg h1, if_pos h2]; omega
    · rw [if_neg h1, if_neg h2]; omega
theorem cmpI_trans {x y z : Int} (h : cmpI x y = cmpI y z) : cmpI x z = cmpI x y := by
  unfold cmpI at h ⊢
  by_cases h1 : x < y <;> by_cases h2 : y < z <;> by_cases h3 : y < x <;> by_cases h4 : z < y <;> simp only [h1, h2, h3, h4, if_true, if_false] at h ⊢ <;> first | omega | (split <;> first | omega | (split <;> omega))
theorem cmpI_add (x y z : Int) : cmpI (x + z) (y + z) = cmpI x y := by
  unfold cmpI
  by_cases h1 : x < y <;> by_cases h2 : y < x <;> simp only [h1, h2, if_true, if_false] <;> first | omega | (split <;> first | omega | (split <;> omega))
end Go.Fx.Try
