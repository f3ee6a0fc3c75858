/- Divisions of numbers with their size. -/
import Derived.Test.YtflgmookgadodaaN15
import Derived.Test.YtflgmookgadodaaN6
namespace Go.Fx.Try
open Go Go.Fx Go.Fx.Num
set_option linter.unusedVariables false
set_option linter.unusedSimpArgs false

theorem Nm.Div_F {a b x y n m} (h : Nm a x n) (g : Nm b y m) (hn : n < 70368744177664) (hm : m < 70368744177664) : nat_Div.F (a, b, ()) = some (divI x y) := by
  rw [Try.Div_F h.limbs g.limbs (Nat.lt_of_le_of_lt h.len hn) (Nat.lt_of_le_of_lt g.len hm), h.val, g.val]
theorem Nm.rDiv_F {a b x y n m} (h : Nm a x n) (g : Nm b y m) (hn : n < 70368744177664) (hm : m < 70368744177664) : fulcrumref01_Div.F (a, b, ()) = some (divI x y) := by
  rw [Try.rDiv_F h.limbs g.limbs (Nat.lt_of_le_of_lt h.len hn) (Nat.lt_of_le_of_lt g.len hm), h.val, g.val]
theorem divI_zero {x y : Int} (h : y = 0) : divI x y = ([], [], 11, ()) := if_pos h
theorem divI_pos {x y : Int} (h : y ≠ 0) : divI x y = (canon (x / y), canon (x % y), 0, ()) := if_neg h
theorem Nm.quo {a b x y n m} (h : Nm a x n) (g : Nm b y m) : Nm (Num.canon (x / y)) (x / y) n := by
  have hx := h.pos
  have hy := g.pos
  have := h.lt
  have := Int.ediv_le_self y hx
  exact .canon (Int.ediv_nonneg hx hy) (by omega)
theorem Nm.rem {a b x y n m} (h : Nm a x n) (g : Nm b y m) (h0 : y ≠ 0) : Nm (Num.canon (x % y)) (x % y) m := by
  have hy := g.pos
  have := g.lt
  have := Int.emod_nonneg x h0
  have := Int.emod_lt_of_pos x (show 0 < y by omega)
  exact .canon (by omega) (by omega)
end Go.Fx.Try
