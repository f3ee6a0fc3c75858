/- moved: a number times a power of two below a limb's. -/
import Derived.Test.YtflgmookgadodaaN8
namespace Go.Fx.Try
open Go Go.Fx Go.Fx.Num
set_option linter.unusedVariables false
set_option linter.unusedSimpArgs false

theorem two_nat (n : Nat) : ((2 ^ n : Nat) : Int) = 2 ^ n := by push_cast; rfl
theorem two_split {u : Nat} (h : u ≤ 32) : (4294967296 : Int) = 2 ^ u * 2 ^ (32 - u) := by
  rw [← Int.pow_add, show u + (32 - u) = 32 by omega]; decide
theorem shift_parts {x : Int} {u : Nat} (hx : 0 ≤ x ∧ x < 4294967296) (hu : u < 32) :
    (x * 2 ^ u) % 4294967296 + 4294967296 * (x / 2 ^ (32 - u)) = x * 2 ^ u ∧ 0 ≤ x / 2 ^ (32 - u) ∧ x / 2 ^ (32 - u) < 2 ^ u ∧ ∃ z, 0 ≤ z ∧ (x * 2 ^ u) % 4294967296 = 2 ^ u * z := by
  have hB := two_split (u := u) (by omega)
  have p1 := two_pos u
  have p2 := two_pos (32 - u)
  have e : x * 2 ^ u / 4294967296 = x / 2 ^ (32 - u) := by
    rw [hB, Int.mul_comm x, Int.mul_ediv_mul_of_pos _ _ p1]
  refine ⟨by have := Int.emod_add_mul_ediv (x * 2 ^ u) 4294967296; rw [e] at this; exact this, Int.ediv_nonneg hx.1 (Int.le_of_lt p2), ?_, x % 2 ^ (32 - u), Int.emod_nonneg _ (by omega), ?_⟩
  · rw [Int.ediv_lt_iff_lt_mul p2, ← hB]; exact hx.2
  · rw [hB, Int.mul_comm x, Int.mul_emod_mul_of_pos _ _ p1]

theorem moved_F {a : List Int} {up : Nat} (ha : Limbs a) (la : a.length < 70368744177664) (hu : up < 32) :
    ∃ c, nat_moved.F (a, (up : Int), ()) = some (c, ()) ∧ Limbs c ∧ c.length = a.length + 1 ∧ val c = val a * 2 ^ up := by
  have p1 := two_pos up
  have p32 : (2 : Int) ^ up < 4294967296 := by
    have : (2 : Nat) ^ up < 2 ^ 32 := Nat.pow_lt_pow_right (by decide) hu
    have h := two_nat up
    omega
  obtain ⟨c, ⟨h1, h2, h3⟩, j, hj⟩ := upTo (fun k (s : Nat × List Int) => nat_moved.L3 k a up s.2 a.length (s.1 : Int)) (fun k (c : List Int) => some (c, ()))
    (fun i c => c.length = a.length + 1 ∧ Limbs c ∧ (∀ j, i < j → c.getD j 0 = 0) ∧ c.getD i 0 < 2 ^ up ∧ val c = val (a.take i) * 2 ^ up) (fun c => Limbs c ∧ c.length = a.length + 1 ∧ val c = val a * 2 ^ up) a.length
    (fun i c hi ⟨h1, h2, h3, h4, h5⟩ => by
      have ga := ha.get i
      have gc := h2.get i
      obtain ⟨s1, s2, s3, z, s4, s5⟩ := shift_parts ga hu
      have e1 : shlI .u32 (a.getD i 0) up = (a.getD i 0 * 2 ^ up) % 4294967296 := by rw [shl_eq .u32 _ up (by show up ≤ 32; omega), w32]
      have e2 : bitsOp .or .u32 (c.getD i 0) ((a.getD i 0 * 2 ^ up) % 4294967296) = (a.getD i 0 * 2 ^ up) % 4294967296 + c.getD i 0 :=
        or32_add' up z s5 s4 ⟨gc.1, h4⟩ (by
          have hm : (a.getD i 0 * 2 ^ up) % 4294967296 ≤ 4294967296 - 2 ^ up := by
            rw [s5]
            have hB := two_split (u := up) (by omega)
            have hlt : 2 ^ up * z < 2 ^ up * 2 ^ (32 - up) := by rw [← hB, ← s5]; omega
            have := Int.lt_of_mul_lt_mul_left hlt (Int.le_of_lt p1)
            have h8 : 2 ^ up * z ≤ 2 ^ up * (2 ^ (32 - up) - 1) := Int.mul_le_mul_of_nonneg_left (by omega) (Int.le_of_lt p1)
            rw [Int.mul_sub, ← hB, Int.mul_one] at h8
            exact h8
          omega)
      have e3 : (32 : Int) - (up : Int) = ((32 - up : Nat) : Int) := by omega
      have e4 : shrI .u64 (a.getD i 0) ((32 - up : Nat) : Int) = a.getD i 0 / 2 ^ (32 - up) := shr_eq .u64 _ _ (by show 32 - up ≤ 64; omega)
      have hb : (a.getD i 0 * 2 ^ up) % 4294967296 + c.getD i 0 < 4294967296 := by
        have h0 := s1
        have hm : 0 ≤ (a.getD i 0 * 2 ^ up) % 4294967296 := Int.emod_nonneg _ (by decide)
        have hB := two_split (u := up) (by omega)
        have hlt : 2 ^ up * z < 2 ^ up * 2 ^ (32 - up) := by rw [← hB, ← s5]; omega
        have := Int.lt_of_mul_lt_mul_left hlt (Int.le_of_lt p1)
        have h8 : 2 ^ up * z ≤ 2 ^ up * (2 ^ (32 - up) - 1) := Int.mul_le_mul_of_nonneg_left (by omega) (Int.le_of_lt p1)
        rw [Int.mul_sub, ← hB, Int.mul_one] at h8
        omega
      have hm : 0 ≤ (a.getD i 0 * 2 ^ up) % 4294967296 := Int.emod_nonneg _ (by decide)
      refine ⟨(c.set i ((a.getD i 0 * 2 ^ up) % 4294967296 + c.getD i 0)).set (i + 1) (a.getD i 0 / 2 ^ (32 - up)), ⟨by simpa using h1, (h2.set i ⟨by omega, hb⟩).set (i + 1) (by omega), fun j hj => ?_, ?_, ?_⟩, 1, fun k => ?_⟩
      · rw [getD_set (by simp; omega), if_neg (by omega), getD_set (by omega), if_neg (by omega)]; exact h3 j (by omega)
      · rw [getD_set (by simp; omega), if_pos rfl]; exact s3
      · have hn := carry_step (c := c) (i := i) (v := (a.getD i 0 * 2 ^ up) % 4294967296 + c.getD i 0) (carry := 0) (carry' := a.getD i 0 / 2 ^ (32 - up)) (x := a.getD i 0 * 2 ^ up) (S := val c) (by omega) (by omega) (by omega)
        rw [val_set _ (by simp; omega), getD_set (by omega), if_neg (by omega), h3 (i + 1) (by omega), Int.sub_zero, hn, h5, val_take_next, Int.add_mul, Int.mul_assoc, Int.mul_comm (2 ^ up), Int.mul_assoc]
      · simp (disch := omega) only [c_dec, c_beq, c_bne, c_and, c_or, c_not, blt_dec, up1, dn1, if_t, if_f, if_true, if_false, Int.toNat_natCast, Option.bind_some, ne_eq, not_true_eq_false, not_false_eq_true, true_and, and_true, nat_moved.L3_succ, nat_moved.b3, e1, e2, e3, e4, IntWalk.i64_in, IntWalk.u64_in, IntWalk.u32_in, List.length_set, Int.toNat_natCast]
        rw [show (i : Int) + 1 = ((i + 1 : Nat) : Int) by omega, Int.toNat_natCast])
    (fun c ⟨h1, h2, h3, h4, h5⟩ => by
      rw [List.take_length] at h5
      refine ⟨c, ⟨h2, h1, h5⟩, 1, fun k => ?_⟩
      simp (disch := omega) only [c_dec, c_beq, c_bne, c_and, c_or, c_not, blt_dec, up1, dn1, if_t, if_f, if_true, if_false, Int.toNat_natCast, Option.bind_some, ne_eq, not_true_eq_false, not_false_eq_true, true_and, and_true, nat_moved.L3_succ, nat_moved.b3]) 0 (List.replicate (a.length + 1) 0) (Nat.zero_le _) ⟨by simp, Limbs.zeros _, fun j _ => getD_zeros _ _, by rw [getD_zeros]; exact p1, by simp [val_zeros, val_nil]⟩
  refine ⟨c, nat_moved.of (0 + j) a up ?_, h1, h2, h3⟩
  simp (disch := omega) only [c_dec, c_beq, c_bne, c_and, c_or, c_not, blt_dec, up1, dn1, if_t, if_f, if_true, if_false, Int.toNat_natCast, Option.bind_some, ne_eq, not_true_eq_false, not_false_eq_true, true_and, and_true, nat_moved.e]
  exact hj 0
end Go.Fx.Try
