/- A guess at a quotient's digit: what is known of it. -/
import Derived.Test.YtflgmookgadodaaN11
namespace Go.Fx.Try
open Go Go.Fx Go.Fx.Num
set_option linter.unusedVariables false
set_option linter.unusedSimpArgs false

/-- A divisor V of two limbs at least, what is divided (U), and the quotient's digit q. -/
structure Guess (v1 v2 vl u2 ul top P1 P2 V U q : Int) : Prop where
  hV : V = v1 * P1 + v2 * P2 + vl
  hU : U = top * P1 + u2 * P2 + ul
  hP : P1 = 4294967296 * P2
  p2 : 0 < P2
  v1 : 2147483648 ≤ v1 ∧ v1 < 4294967296
  v2 : 0 ≤ v2 ∧ v2 < 4294967296
  vl : 0 ≤ vl ∧ vl < P2
  u2 : 0 ≤ u2 ∧ u2 < 4294967296
  ul : 0 ≤ ul ∧ ul < P2
  lo : q * V ≤ U
  hi : U < (q + 1) * V
  q : 0 ≤ q ∧ q < 4294967296
  top : 0 ≤ top

section
variable {v1 v2 vl u2 ul top P1 P2 V U q : Int}

theorem Guess.vpos (h : Guess v1 v2 vl u2 ul top P1 P2 V U q) : 0 < V := by
  have h1 := h.hV
  have hP := h.hP
  have p2 := h.p2
  have a1 : 1 * P1 ≤ v1 * P1 := Int.mul_le_mul_of_nonneg_right (by have := h.v1; omega) (by omega)
  have a2 : 0 ≤ v2 * P2 := Int.mul_nonneg h.v2.1 (by omega)
  have := h.vl
  omega
theorem Guess.le_of {g : Int} (h : Guess v1 v2 vl u2 ul top P1 P2 V U q) (hg : g * V ≤ U) : g ≤ q := by
  have hv := h.vpos
  by_cases hc : g ≤ q
  · exact hc
  · have : (q + 1) * V ≤ g * V := Int.mul_le_mul_of_nonneg_right (by omega) (by omega)
    have := h.hi
    omega
theorem Guess.expand (h : Guess v1 v2 vl u2 ul top P1 P2 V U q) (g : Int) : g * V = (g * v1) * P1 + (g * v2) * P2 + g * vl := by
  rw [h.hV, Int.mul_add, Int.mul_add, ← Int.mul_assoc, ← Int.mul_assoc]
theorem Guess.top_le (h : Guess v1 v2 vl u2 ul top P1 P2 V U q) : top * P1 ≤ U := by
  have := h.hU
  have := h.ul
  have := Int.mul_nonneg h.u2.1 (Int.le_of_lt h.p2)
  omega
/-- The first guess is not too small. -/
theorem Guess.first (h : Guess v1 v2 vl u2 ul top P1 P2 V U q) : q ≤ top / v1 := by
  have hP := h.hP
  have p2 := h.p2
  have v1p := h.v1
  refine (Int.le_ediv_iff_mul_le (by omega)).2 ?_
  have e := h.expand q
  have a1 : 0 ≤ (q * v2) * P2 := Int.mul_nonneg (Int.mul_nonneg h.q.1 h.v2.1) (by omega)
  have a2 : 0 ≤ q * vl := Int.mul_nonneg h.q.1 h.vl.1
  have lo := h.lo
  have hU := h.hU
  have ul := h.ul
  have b1 : u2 * P2 ≤ 4294967295 * P2 := Int.mul_le_mul_of_nonneg_right (by have := h.u2; omega) (by omega)
  have b2 : (q * v1) * P1 < (top + 1) * P1 := by rw [Int.add_mul]; omega
  have := Int.lt_of_mul_lt_mul_right b2 (by omega)
  omega
theorem Guess.down {g rest : Int} (h : Guess v1 v2 vl u2 ul top P1 P2 V U q) (hg : 0 ≤ g) (ht : g * v1 + rest = top) (hc : rest * 4294967296 + u2 < g * v2) : q < g := by
  by_cases hle : g ≤ q
  · exfalso
    have hv := h.vpos
    have hP := h.hP
    have p2 := h.p2
    have a0 : g * V ≤ q * V := Int.mul_le_mul_of_nonneg_right hle (by omega)
    have e := h.expand g
    have a1 : (rest * 4294967296 + u2 + 1) * P2 ≤ (g * v2) * P2 := Int.mul_le_mul_of_nonneg_right (by omega) (by omega)
    have a2 : 0 ≤ g * vl := Int.mul_nonneg hg h.vl.1
    have lo := h.lo
    have hU := h.hU
    have ul := h.ul
    have e2 : top * P1 = (g * v1) * P1 + rest * P1 := by rw [← ht, Int.add_mul]
    have e3 : rest * P1 = 4294967296 * (rest * P2) := by rw [hP, Int.mul_left_comm]
    have e4 : (rest * 4294967296 + u2 + 1) * P2 = 4294967296 * (rest * P2) + u2 * P2 + P2 := by rw [Int.add_mul, Int.add_mul, Int.mul_assoc, Int.mul_left_comm, Int.one_mul]
    omega
  · omega
theorem Guess.stop {g rest : Int} (h : Guess v1 v2 vl u2 ul top P1 P2 V U q) (hg : 0 ≤ g ∧ g < 4294967296) (ht : g * v1 + rest = top) (hc : g * v2 ≤ rest * 4294967296 + u2) : g ≤ q + 1 := by
  have hv := h.vpos
  have hP := h.hP
  have p2 := h.p2
  have e := h.expand g
  have a1 : (g * v2) * P2 ≤ (rest * 4294967296 + u2) * P2 := Int.mul_le_mul_of_nonneg_right hc (by omega)
  have a2 : g * vl ≤ 4294967295 * vl := Int.mul_le_mul_of_nonneg_right (by omega) h.vl.1
  have a3 : 1 * P1 ≤ v1 * P1 := Int.mul_le_mul_of_nonneg_right (by have := h.v1; omega) (by omega)
  have a4 : 0 ≤ v2 * P2 := Int.mul_nonneg h.v2.1 (by omega)
  have hU := h.hU
  have hV := h.hV
  have ul := h.ul
  have vl := h.vl
  have e2 : top * P1 = (g * v1) * P1 + rest * P1 := by rw [← ht, Int.add_mul]
  have e3 : rest * P1 = 4294967296 * (rest * P2) := by rw [hP, Int.mul_left_comm]
  have e4 : (rest * 4294967296 + u2) * P2 = 4294967296 * (rest * P2) + u2 * P2 := by rw [Int.add_mul, Int.mul_assoc, Int.mul_left_comm]
  have : (g - 1) * V ≤ U := by rw [Int.sub_mul, Int.one_mul]; omega
  have := h.le_of this
  omega
theorem Guess.great {g rest : Int} (h : Guess v1 v2 vl u2 ul top P1 P2 V U q) (hg : 0 ≤ g ∧ g ≤ 4294967296) (ht : g * v1 + rest = top) (hc : 4294967296 ≤ rest) : g ≤ q := by
  have hv := h.vpos
  have hP := h.hP
  have p2 := h.p2
  have e := h.expand g
  refine h.le_of ?_
  have a1 : v2 * P2 ≤ 4294967295 * P2 := Int.mul_le_mul_of_nonneg_right (by have := h.v2; omega) (by omega)
  have hvl := h.vl
  have a2 : g * (v2 * P2 + vl) ≤ g * P1 := Int.mul_le_mul_of_nonneg_left (by omega) hg.1
  have a3 : g * P1 ≤ 4294967296 * P1 := Int.mul_le_mul_of_nonneg_right hg.2 (by omega)
  have a4 : 4294967296 * P1 ≤ rest * P1 := Int.mul_le_mul_of_nonneg_right hc (by omega)
  have e2 : top * P1 = (g * v1) * P1 + rest * P1 := by rw [← ht, Int.add_mul]
  have e3 : g * (v2 * P2 + vl) = (g * v2) * P2 + g * vl := by rw [Int.mul_add, ← Int.mul_assoc]
  have ht := h.top_le
  omega
end
end Go.Fx.Try
