/- Bits, both: how many digits a number has in base 2. -/
import Derived.Test.YtflgmookgadodaaN7
namespace Go.Fx.Try
open Go Go.Fx Go.Fx.Num
set_option linter.unusedVariables false
set_option linter.unusedSimpArgs false

theorem blen_int {v : Int} {t : Nat} (h1 : 2 ^ t ≤ v) (h2 : v < 2 ^ (t + 1)) : blen v.toNat = t + 1 := by
  have h3 := two_pos t
  obtain ⟨n, rfl⟩ := Int.eq_ofNat_of_zero_le (show 0 ≤ v by omega)
  rw [Int.toNat_natCast]
  exact blen_unique (by exact_mod_cast h1) (by exact_mod_cast h2)

theorem Bits_F {a : List Int} (ha : Limbs a) (la : a.length ≤ 70368744177664) : nat_Bits.F (a, ()) = some ((blen (val a).toNat : Int), ()) := by
  refine nat_Bits.of 0 a ?_
  have hc := canon_nrm (val a)
  have hv := val_canon (val_nonneg ha)
  have hl := canon_val_len ha
  simp only [nat_Bits.e, trim_F ha la, Option.bind_some]
  rw [← hv, hv]
  generalize canon (val a) = c at hc hv hl ⊢
  rw [← hv]
  by_cases h0 : c.length = 0
  · rw [List.length_eq_zero_iff.1 h0]; rfl
  · obtain ⟨m, hm⟩ : ∃ m, c.length = m + 1 := ⟨c.length - 1, by omega⟩
    have hg := hc.1.get m
    have hz : c.getD m 0 ≠ 0 := by
      have := hc.2.resolve_left h0
      rwa [hm, Nat.add_sub_cancel] at this
    obtain ⟨x, hx⟩ := Int.eq_ofNat_of_zero_le hg.1
    have hx0 : x ≠ 0 := by omega
    obtain ⟨t, h1, h2, h3⟩ := blen_spec hx0
    have ht : t < 32 := by
      by_cases h : t < 32
      · exact h
      · have := Nat.pow_le_pow_right (n := 2) (by decide) (show 32 ≤ t by omega)
        omega
    have e1 := val_take_succ (a := c) (i := m) (by omega)
    rw [← hm, List.take_length, hx] at e1
    have h4 := val_lt (hc.1.take m)
    have h5 := val_nonneg (hc.1.take m)
    rw [List.length_take, Nat.min_eq_left (by omega)] at h4
    have hp := pw_pos m
    have h2' : (2 : Int) ^ t ≤ x := by exact_mod_cast h2
    have h3' : (x : Int) + 1 ≤ 2 ^ (t + 1) := by exact_mod_cast h3
    have hb : blen (val c).toNat = 32 * m + t + 1 := by
      refine blen_int ?_ ?_
      · rw [Int.pow_add, ← pw_two, Int.mul_comm]
        have := Int.mul_le_mul_of_nonneg_right h2' (Int.le_of_lt hp)
        omega
      · rw [Nat.add_assoc, Int.pow_add, ← pw_two, Int.mul_comm]
        have := Int.mul_le_mul_of_nonneg_right h3' (Int.le_of_lt hp)
        rw [Int.add_mul] at this
        omega
    have hL := Len32_F (x := x) (by omega)
    have e2 : (c.length : Int) - 1 = m := by omega
    simp (disch := omega) only [c_dec, c_beq, c_bne, c_and, c_or, c_not, blt_dec, up1, dn1, if_t, if_f, if_true, if_false, Int.toNat_natCast, Option.bind_some, ne_eq, not_true_eq_false, not_false_eq_true, true_and, and_true, e2, hm, sub1, IntWalk.i64_in, hx, hL, h1, hb]
    rw [show ((32 * m + t + 1 : Nat) : Int) = 32 * (m : Int) + ((t + 1 : Nat) : Int) by omega]

theorem rBits_F {a : List Int} (ha : Limbs a) (la : a.length ≤ 70368744177664) : fulcrumref01_Bits.F (a, ()) = some ((blen (val a).toNat : Int), ()) := by
  have hv := val_nonneg ha
  obtain ⟨j, hj⟩ := ends (fun k (n : Nat) => fulcrumref01_Bits.L2 k a ((n : Int) - 1)) ((blen (val a).toNat : Int), ()) (fun n => n ≤ 32 * a.length ∧ val a < 2 ^ n) id (fun n ⟨hn, hz⟩ => by
    rcases n with _ | m
    · refine .inr ⟨1, fun k => ?_⟩
      have : val a = 0 := by simp at hz; omega
      simp (disch := omega) only [c_dec, c_beq, c_bne, c_and, c_or, c_not, blt_dec, up1, dn1, if_t, if_f, if_true, if_false, Int.toNat_natCast, Option.bind_some, ne_eq, not_true_eq_false, not_false_eq_true, true_and, and_true, fulcrumref01_Bits.L2_succ, fulcrumref01_Bits.b2, sub0, this]
      rfl
    · have hp := two_pos m
      rw [Int.pow_succ] at hz
      have hB := rBit_F (i := (m : Int)) ha la (by omega)
      by_cases h1 : val a < 2 ^ m
      · refine .inl ⟨m, ⟨by omega, h1⟩, Nat.lt_succ_self m, 1, fun k => ?_⟩
        have : bitI (val a) (m : Int) = false := by
          unfold bitI
          rw [Int.toNat_natCast, Int.ediv_eq_zero_of_lt hv h1]; simp
        simp (disch := omega) only [c_dec, c_beq, c_bne, c_and, c_or, c_not, blt_dec, up1, dn1, if_t, if_f, if_true, if_false, Int.toNat_natCast, Option.bind_some, ne_eq, not_true_eq_false, not_false_eq_true, true_and, and_true, fulcrumref01_Bits.L2_succ, fulcrumref01_Bits.b2, sub1, hB, this, cond_false, IntWalk.i64_in]
      · refine .inr ⟨1, fun k => ?_⟩
        have hq : val a / 2 ^ m = 1 := by
          have := (Int.le_ediv_iff_mul_le hp (a := 1) (b := val a)).2 (by omega)
          have := (Int.ediv_lt_iff_lt_mul hp (a := val a) (b := 2)).2 (by omega)
          omega
        have : bitI (val a) (m : Int) = true := by
          unfold bitI
          rw [Int.toNat_natCast, hq]; simp
        have hb := blen_int (v := val a) (t := m) (by omega) (by rw [Int.pow_succ]; omega)
        simp (disch := omega) only [c_dec, c_beq, c_bne, c_and, c_or, c_not, blt_dec, up1, dn1, if_t, if_f, if_true, if_false, Int.toNat_natCast, Option.bind_some, ne_eq, not_true_eq_false, not_false_eq_true, true_and, and_true, fulcrumref01_Bits.L2_succ, fulcrumref01_Bits.b2, sub1, hB, this, cond_true, hb]) (32 * a.length) ⟨Nat.le_refl _, by rw [← pw_two]; exact val_lt ha⟩
  refine fulcrumref01_Bits.of (0 + j) a ?_
  have e : (32 : Int) * (a.length : Int) = ((32 * a.length : Nat) : Int) := by omega
  simp (disch := omega) only [c_dec, c_beq, c_bne, c_and, c_or, c_not, blt_dec, up1, dn1, if_t, if_f, if_true, if_false, Int.toNat_natCast, Option.bind_some, ne_eq, not_true_eq_false, not_false_eq_true, true_and, and_true, fulcrumref01_Bits.e, IntWalk.i64_in]
  rw [e]
  exact hj 0
end Go.Fx.Try
