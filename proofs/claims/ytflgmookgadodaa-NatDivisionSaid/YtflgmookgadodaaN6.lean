/- Numbers with their size: what each function tells of them. -/
import Derived.Test.YtflgmookgadodaaN5
namespace Go.Fx.Try
open Go Go.Fx Go.Fx.Num
set_option linter.unusedVariables false
set_option linter.unusedSimpArgs false

/-- A list of limbs, its number, and a bound of its length. -/
structure Nm (a : List Int) (x : Int) (n : Nat) : Prop where
  limbs : Limbs a
  val : val a = x
  len : a.length ≤ n
theorem Nm.pos {a x n} (h : Nm a x n) : 0 ≤ x := h.val ▸ val_nonneg h.limbs
theorem Nm.lt {a x n} (h : Nm a x n) : x < pw n := by
  have := val_lt h.limbs
  have := pw_mono h.len
  have := h.val
  omega
theorem Nm.mono {a x n m} (h : Nm a x n) (hm : n ≤ m) : Nm a x m := ⟨h.limbs, h.val, Nat.le_trans h.len hm⟩
theorem Nm.canon {x : Int} {n : Nat} (h : 0 ≤ x) (hn : x < pw n) : Nm (canon x) x n := ⟨canon_limbs x, val_canon h, canon_len_le h hn⟩
theorem Nm.norm {a x n} (h : Nm a x n) : Nm (Num.canon x) x n := .canon h.pos h.lt
theorem Nm.add {a b x y n} (h : Nm a x n) (g : Nm b y n) : Nm (Num.canon (x + y)) (x + y) (n + 1) := by
  have := h.pos
  have := g.pos
  have := h.lt
  have := g.lt
  exact .canon (by omega) (by rw [pw_succ]; omega)
theorem Nm.mul {a b x y n m} (h : Nm a x n) (g : Nm b y m) : Nm (Num.canon (x * y)) (x * y) (n + m) := by
  refine .canon (Int.mul_nonneg h.pos g.pos) ?_
  rw [pw_add]
  have h5 : x * y ≤ x * pw m := Int.mul_le_mul_of_nonneg_left (Int.le_of_lt g.lt) h.pos
  have h6 : x * pw m < pw n * pw m := Int.mul_lt_mul_of_pos_right h.lt (pw_pos _)
  omega
theorem Nm.sub {a b x y n m} (h : Nm a x n) (g : Nm b y m) (hle : y ≤ x) : Nm (Num.canon (x - y)) (x - y) n := by
  have := h.lt
  have := g.pos
  exact .canon (by omega) (by omega)
theorem Nm.one {x : Int} (h : 0 ≤ x ∧ x < 4294967296) : Nm [x] x 1 := ⟨limbs1 h, val1 x, Nat.le_refl _⟩

theorem Nm.Add_F {a b x y n} (h : Nm a x n) (g : Nm b y n) (hn : n < 70368744177664) : nat_Add.F (a, b, ()) = some (Num.canon (x + y), ()) := by
  rw [Try.Add_F h.limbs g.limbs (Nat.lt_of_le_of_lt h.len hn) (Nat.lt_of_le_of_lt g.len hn), h.val, g.val]
theorem Nm.rAdd_F {a b x y n} (h : Nm a x n) (g : Nm b y n) (hn : n < 70368744177664) : fulcrumref01_Add.F (a, b, ()) = some (Num.canon (x + y), ()) := by
  rw [Try.rAdd_F h.limbs g.limbs (Nat.lt_of_le_of_lt h.len hn) (Nat.lt_of_le_of_lt g.len hn), h.val, g.val]
theorem Nm.Mul_F {a b x y n m} (h : Nm a x n) (g : Nm b y m) (hn : n + m ≤ 70368744177664) : nat_Mul.F (a, b, ()) = some (Num.canon (x * y), ()) := by
  rw [Try.Mul_F h.limbs g.limbs (Nat.le_trans (Nat.add_le_add h.len g.len) hn), h.val, g.val]
theorem Nm.rMul_F {a b x y n m} (h : Nm a x n) (g : Nm b y m) (hn : n + m ≤ 70368744177664) : fulcrumref01_Mul.F (a, b, ()) = some (Num.canon (x * y), ()) := by
  rw [Try.rMul_F h.limbs g.limbs (Nat.le_trans (Nat.add_le_add h.len g.len) hn), h.val, g.val]
theorem Nm.Sub_F {a b x y n m} (h : Nm a x n) (g : Nm b y m) (hn : n ≤ 70368744177664) (hm : m ≤ 70368744177664) : nat_Sub.F (a, b, ()) = some (if x < y then ([], 10, ()) else (Num.canon (x - y), 0, ())) := by
  rw [Try.Sub_F h.limbs g.limbs (Nat.le_trans h.len hn) (Nat.le_trans g.len hm), h.val, g.val]
theorem Nm.rSub_F {a b x y n m} (h : Nm a x n) (g : Nm b y m) (hn : n ≤ 70368744177664) (hm : m ≤ 70368744177664) : fulcrumref01_Sub.F (a, b, ()) = some (if x < y then ([], 10, ()) else (Num.canon (x - y), 0, ())) := by
  rw [Try.rSub_F h.limbs g.limbs (Nat.le_trans h.len hn) (Nat.le_trans g.len hm), h.val, g.val]
theorem Nm.Cmp_F {a b x y n m} (h : Nm a x n) (g : Nm b y m) (hn : n ≤ 70368744177664) (hm : m ≤ 70368744177664) : nat_Cmp.F (a, b, ()) = some (cmpI x y, ()) := by
  rw [Try.Cmp_F h.limbs g.limbs (Nat.le_trans h.len hn) (Nat.le_trans g.len hm), h.val, g.val]
theorem Nm.rCmp_F {a b x y n m} (h : Nm a x n) (g : Nm b y m) (hn : n ≤ 70368744177664) (hm : m ≤ 70368744177664) : fulcrumref01_Cmp.F (a, b, ()) = some (cmpI x y, ()) := by
  rw [Try.rCmp_F h.limbs g.limbs (Nat.le_trans h.len hn) (Nat.le_trans g.len hm), h.val, g.val]
theorem Nm.Norm_F {a x n} (h : Nm a x n) (hn : n ≤ 70368744177664) : nat_Norm.F (a, ()) = some (Num.canon x, ()) := by
  rw [Try.Norm_F h.limbs (Nat.le_trans h.len hn), h.val]
theorem Nm.rNorm_F {a x n} (h : Nm a x n) (hn : n ≤ 70368744177664) : fulcrumref01_Norm.F (a, ()) = some (Num.canon x, ()) := by
  rw [Try.rNorm_F h.limbs (Nat.le_trans h.len hn), h.val]
theorem Nm.Small_F {a x n} (h : Nm a x n) (hn : n ≤ 70368744177664) : nat_Small.F (a, ()) = some (if x < 18446744073709551616 then (x, true, ()) else (0, false, ())) := by
  rw [Try.Small_F h.limbs (Nat.le_trans h.len hn), h.val]
theorem Nm.rSmall_F {a x n} (h : Nm a x n) (hn : n ≤ 70368744177664) : fulcrumref01_Small.F (a, ()) = some (if x < 18446744073709551616 then (x, true, ()) else (0, false, ())) := by
  rw [Try.rSmall_F h.limbs (Nat.le_trans h.len hn), h.val]
end Go.Fx.Try
