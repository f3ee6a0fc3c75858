/- The reference's Add; Sub and Mul, both. -/
import Derived.Test.YtflgmookgadodaaN2
namespace Go.Fx.Try
open Go Go.Fx Go.Fx.Num
set_option linter.unusedVariables false
set_option linter.unusedSimpArgs false

theorem rAdd_F {a b : List Int} (ha : Limbs a) (hb : Limbs b) (la : a.length < 70368744177664) (lb : b.length < 70368744177664) : fulcrumref01_Add.F (a, b, ()) = some (canon (val a + val b), ()) := by
  have loop : ∀ n : Nat, n < 70368744177664 → a.length ≤ n → b.length ≤ n → ∃ j, ∀ k, fulcrumref01_Add.L7 (k + j) a b n (List.replicate (n + 1) 0) 0 0 = some (canon (val a + val b), ()) := by
    intro n hn hal hbl
    refine up (fun k (s : Nat × List Int × Int) => fulcrumref01_Add.L7 k a b n s.2.1 s.2.2 (s.1 : Int)) (canon (val a + val b), ()) (fun i s => s.1.length = n + 1 ∧ Limbs s.1 ∧ (0 ≤ s.2 ∧ s.2 ≤ 1) ∧ (∀ j, i ≤ j → s.1.getD j 0 = 0) ∧ val s.1 + s.2 * pw i = val (a.take i) + val (b.take i)) (n + 1) (fun i s hi ⟨h1, h2, h3, h4, h5⟩ => ?_) (fun s ⟨h1, h2, h3, h4, h5⟩ => ?_) 0 (List.replicate (n + 1) 0, 0) (Nat.zero_le _) ⟨by simp, Limbs.zeros _, by simp only; omega, fun j _ => getD_zeros _ _, by simp [val_zeros, val_nil]⟩
    · obtain ⟨c, q⟩ := s
      simp only at h1 h2 h3 h4 h5
      have g1 := ha.get i
      have g2 := hb.get i
      have g3 := h4 i (Nat.le_refl i)
      refine ⟨(c.set i ((a.getD i 0 + b.getD i 0 + q) % 4294967296), (a.getD i 0 + b.getD i 0 + q) / 4294967296), ⟨by simpa using h1, h2.set i (by omega), by simp only; omega, fun j hj => ?_, ?_⟩, 1, fun k => ?_⟩
      · rw [getD_set (by omega), if_neg (by omega)]; exact h4 j (by omega)
      · rw [carry_step (x := a.getD i 0 + b.getD i 0) (by omega) (by omega) h5, val_take_next, val_take_next, Int.add_mul]; omega
      · simp (disch := omega) only [c_dec, c_beq, c_bne, c_and, c_or, c_not, blt_dec, up1, dn1, if_t, if_f, if_true, if_false, Int.toNat_natCast, Option.bind_some, ne_eq, not_true_eq_false, not_false_eq_true, true_and, and_true, fulcrumref01_Add.L7_succ, fulcrumref01_Add.b7, at_F ha, at_F hb, IntWalk.u64_in, w32, shr64_32]
    · obtain ⟨c, q⟩ := s
      simp only at h1 h2 h3 h4 h5
      refine ⟨1, fun k => ?_⟩
      rw [val_take_all (by omega), val_take_all (by omega)] at h5
      have h6 := val_lt ha
      have h7 := val_lt hb
      have h8 := val_lt h2
      have h9 := val_nonneg h2
      have h10 := pw_mono hal
      have h11 := pw_mono hbl
      rw [h1] at h8
      have h14 := pw_pos n
      have h12 : q = 0 := by
        rcases (show q = 0 ∨ q = 1 by omega) with h | h
        · exact h
        · rw [h, Int.one_mul, pw_succ] at h5; omega
      have h13 : val c = val a + val b := by rw [← h5, h12]; omega
      simp (disch := omega) only [c_dec, c_beq, c_bne, c_and, c_or, c_not, blt_dec, up1, dn1, if_t, if_f, if_true, if_false, Int.toNat_natCast, Option.bind_some, ne_eq, not_true_eq_false, not_false_eq_true, true_and, and_true, fulcrumref01_Add.L7_succ, fulcrumref01_Add.b7, rNorm_F h2 (by omega), h13]
  by_cases hl : a.length < b.length
  · obtain ⟨j, hj⟩ := loop b.length lb (by omega) (Nat.le_refl _)
    refine fulcrumref01_Add.of (0 + j) a b ?_
    simp (disch := omega) only [c_dec, c_beq, c_bne, c_and, c_or, c_not, blt_dec, up1, dn1, if_t, if_f, if_true, if_false, Int.toNat_natCast, Option.bind_some, ne_eq, not_true_eq_false, not_false_eq_true, true_and, and_true, fulcrumref01_Add.e]
    exact hj 0
  · obtain ⟨j, hj⟩ := loop a.length la (Nat.le_refl _) (by omega)
    refine fulcrumref01_Add.of (0 + j) a b ?_
    simp (disch := omega) only [c_dec, c_beq, c_bne, c_and, c_or, c_not, blt_dec, up1, dn1, if_t, if_f, if_true, if_false, Int.toNat_natCast, Option.bind_some, ne_eq, not_true_eq_false, not_false_eq_true, true_and, and_true, fulcrumref01_Add.e]
    exact hj 0

/-! ### Sub -/
theorem all32 : (if IntKind.u32.signed then (-1 : Int) else IntKind.u32.max) = ((4294967295 : Nat) : Int) := by decide
theorem Sub32_F {x y b : Int} (hx : 0 ≤ x ∧ x < 4294967296) (hy : 0 ≤ y ∧ y < 4294967296) (hb : 0 ≤ b ∧ b ≤ 1) : bits_Sub32.F (x, y, b, ()) = some ((x - y - b) % 4294967296, (if x < y + b then 1 else 0), ()) := by
  refine bits_Sub32.of 0 x y b ?_
  obtain ⟨x, rfl⟩ := Int.eq_ofNat_of_zero_le hx.1
  obtain ⟨y, rfl⟩ := Int.eq_ofNat_of_zero_le hy.1
  obtain ⟨b, rfl⟩ := Int.eq_ofNat_of_zero_le hb.1
  have hd : ∃ d : Nat, (d : Int) = ((x : Int) - y - b) % 4294967296 := ⟨_, Int.toNat_of_nonneg (by omega)⟩
  obtain ⟨d, hd⟩ := hd
  have e1 : IntKind.u32.wrap (IntKind.u32.wrap ((x : Int) - y) - b) = d := by rw [w32, w32]; omega
  have h1 : (4294967295 ^^^ x) < 2 ^ 32 := Nat.xor_lt_two_pow (by decide) (by omega)
  have h2 : (x ^^^ y) < 2 ^ 32 := Nat.xor_lt_two_pow (by omega) (by omega)
  have h3 : (4294967295 ^^^ (x ^^^ y)) < 2 ^ 32 := Nat.xor_lt_two_pow (by decide) h2
  have h4 : ((4294967295 ^^^ x) &&& y) < 2 ^ 32 := Nat.and_lt_two_pow _ (by omega)
  have h5 : ((4294967295 ^^^ (x ^^^ y)) &&& d) < 2 ^ 32 := Nat.and_lt_two_pow _ (by omega)
  have h6 := borrow32 (x := x) (y := y) (b := b) (d := d) (by omega) (by omega) (by omega) hd
  simp only [bits_Sub32.e, e1, all32]
  rw [xor32 (by decide) (by omega), and32 h1 (by omega), xor32 (by omega) (by omega), xor32 (by decide) h2, and32 h3 (by omega), or32 h4 h5]
  simp (disch := omega) only [c_dec, c_beq, c_bne, c_and, c_or, c_not, blt_dec, up1, dn1, if_t, if_f, if_true, if_false, Int.toNat_natCast, Option.bind_some, ne_eq, not_true_eq_false, not_false_eq_true, true_and, and_true, show shrI .u32 ((((4294967295 ^^^ x) &&& y ||| (4294967295 ^^^ (x ^^^ y)) &&& d : Nat)) : Int) 31 = (((4294967295 ^^^ x) &&& y ||| (4294967295 ^^^ (x ^^^ y)) &&& d : Nat) : Int) / 2 ^ 31 from shr_eq .u32 _ 31 (by decide)]
  have h7 : ((((4294967295 ^^^ x) &&& y ||| (4294967295 ^^^ (x ^^^ y)) &&& d) : Nat) : Int) / 2 ^ 31 = (if (x : Int) < y + b then 1 else 0) := by
    have : ((((4294967295 ^^^ x) &&& y ||| (4294967295 ^^^ (x ^^^ y)) &&& d) / 2147483648 : Nat) : Int) = ((if x < y + b then 1 else 0 : Nat) : Int) := by rw [h6]
    by_cases hlt : x < y + b
    · rw [if_pos hlt] at this; rw [if_pos (by omega)]; omega
    · rw [if_neg hlt] at this; rw [if_neg (by omega)]; omega
  rw [h7, hd]

/-- What a difference's loop has at its end. -/
theorem sub_last {c a b : List Int} {q : Int} (hc : Limbs c) (ha : Limbs a) (hb : Limbs b) (hl : c.length = a.length) (hq : 0 ≤ q ∧ q ≤ 1) (hle : val b ≤ val a) (h : val c + -q * pw a.length = val (a.take a.length) - val (b.take a.length)) : val c = val a - val b := by
  have h1 := val_lt ha
  rw [List.take_length, val_take_of_lt hb (show val b < pw a.length by omega)] at h
  have h2 := val_lt hc
  rw [hl] at h2
  rcases (show q = 0 ∨ q = 1 by omega) with h0 | h0
  · rw [h0] at h; omega
  · rw [h0] at h; omega

theorem Sub_F {a b : List Int} (ha : Limbs a) (hb : Limbs b) (la : a.length ≤ 70368744177664) (lb : b.length ≤ 70368744177664) : nat_Sub.F (a, b, ()) = some (if val a < val b then ([], 10, ()) else (canon (val a - val b), 0, ())) := by
  by_cases hlt : val a < val b
  · refine nat_Sub.of 0 a b ?_
    simp (disch := omega) only [c_dec, c_beq, c_bne, c_and, c_or, c_not, blt_dec, up1, dn1, if_t, if_f, if_true, if_false, Int.toNat_natCast, Option.bind_some, ne_eq, not_true_eq_false, not_false_eq_true, true_and, and_true, nat_Sub.e, Cmp_F ha hb la lb, cmpI_lt hlt]
  · have hc : 0 ≤ cmpI (val a) (val b) := by unfold cmpI; rw [if_neg hlt]; split <;> decide
    have ht := canon_limbs (val b)
    have vt := val_canon (val_nonneg hb)
    obtain ⟨j, hj⟩ := up (fun k (s : Nat × List Int × Int) => nat_Sub.L7 k a (canon (val b)) s.2.1 s.2.2 a.length (s.1 : Int)) (canon (val a - val b), 0, ()) (fun i s => s.1.length = a.length ∧ Limbs s.1 ∧ (0 ≤ s.2 ∧ s.2 ≤ 1) ∧ (∀ j, i ≤ j → s.1.getD j 0 = 0) ∧ val s.1 + -s.2 * pw i = val (a.take i) - val ((canon (val b)).take i)) a.length (fun i s hi ⟨h1, h2, h3, h4, h5⟩ => by
        obtain ⟨c, q⟩ := s
        simp only at h1 h2 h3 h4 h5
        have g1 := ha.get i
        have g2 := ht.get i
        have g3 := h4 i (Nat.le_refl i)
        refine ⟨(c.set i ((a.getD i 0 - (canon (val b)).getD i 0 - q) % 4294967296), if a.getD i 0 < (canon (val b)).getD i 0 + q then 1 else 0), ⟨by simpa using h1, h2.set i (by omega), by simp only; split <;> omega, fun j hj => ?_, ?_⟩, 1, fun k => ?_⟩
        · rw [getD_set (by omega), if_neg (by omega)]; exact h4 j (by omega)
        · rw [carry_step (x := a.getD i 0 - (canon (val b)).getD i 0) (by omega) (by rw [g3]; split <;> omega) h5, val_take_next, val_take_next, Int.sub_mul]; omega
        · by_cases hb' : i < (canon (val b)).length
          · simp (disch := omega) only [c_dec, c_beq, c_bne, c_and, c_or, c_not, blt_dec, up1, dn1, if_t, if_f, if_true, if_false, Int.toNat_natCast, Option.bind_some, ne_eq, not_true_eq_false, not_false_eq_true, true_and, and_true, nat_Sub.L7_succ, nat_Sub.b7, Sub32_F g1 g2 h3]
          · have g4 : (canon (val b)).getD i 0 = 0 := getD_out (by omega)
            simp (disch := omega) only [c_dec, c_beq, c_bne, c_and, c_or, c_not, blt_dec, up1, dn1, if_t, if_f, if_true, if_false, Int.toNat_natCast, Option.bind_some, ne_eq, not_true_eq_false, not_false_eq_true, true_and, and_true, nat_Sub.L7_succ, nat_Sub.b7, g4, Sub32_F g1 (show 0 ≤ (0 : Int) ∧ (0 : Int) < 4294967296 by decide) h3]) (fun s ⟨h1, h2, h3, h4, h5⟩ => by
        obtain ⟨c, q⟩ := s
        simp only at h1 h2 h3 h4 h5
        refine ⟨1, fun k => ?_⟩
        have h6 := sub_last h2 ha ht h1 h3 (by omega) h5
        rw [vt] at h6
        simp (disch := omega) only [c_dec, c_beq, c_bne, c_and, c_or, c_not, blt_dec, up1, dn1, if_t, if_f, if_true, if_false, Int.toNat_natCast, Option.bind_some, ne_eq, not_true_eq_false, not_false_eq_true, true_and, and_true, nat_Sub.L7_succ, nat_Sub.b7, own_F h2 (by omega), h6]) 0 (List.replicate a.length 0, 0) (Nat.zero_le _) ⟨by simp, Limbs.zeros _, by simp only; omega, fun j _ => getD_zeros _ _, by simp [val_zeros, val_nil]⟩
    refine nat_Sub.of (0 + j) a b ?_
    simp (disch := omega) only [c_dec, c_beq, c_bne, c_and, c_or, c_not, blt_dec, up1, dn1, if_t, if_f, if_true, if_false, Int.toNat_natCast, Option.bind_some, ne_eq, not_true_eq_false, not_false_eq_true, true_and, and_true, nat_Sub.e, Cmp_F ha hb la lb, trim_F hb lb]
    exact hj 0

theorem rSub_F {a b : List Int} (ha : Limbs a) (hb : Limbs b) (la : a.length ≤ 70368744177664) (lb : b.length ≤ 70368744177664) : fulcrumref01_Sub.F (a, b, ()) = some (if val a < val b then ([], 10, ()) else (canon (val a - val b), 0, ())) := by
  by_cases hlt : val a < val b
  · refine fulcrumref01_Sub.of 0 a b ?_
    simp (disch := omega) only [c_dec, c_beq, c_bne, c_and, c_or, c_not, blt_dec, up1, dn1, if_t, if_f, if_true, if_false, Int.toNat_natCast, Option.bind_some, ne_eq, not_true_eq_false, not_false_eq_true, true_and, and_true, fulcrumref01_Sub.e, rCmp_F ha hb la lb, cmpI_lt hlt]
  · have hc : 0 ≤ cmpI (val a) (val b) := by unfold cmpI; rw [if_neg hlt]; split <;> decide
    obtain ⟨j, hj⟩ := up (fun k (s : Nat × List Int × Int) => fulcrumref01_Sub.L6 k a b s.2.1 s.2.2 (s.1 : Int)) (canon (val a - val b), 0, ()) (fun i s => s.1.length = a.length ∧ Limbs s.1 ∧ (0 ≤ s.2 ∧ s.2 ≤ 1) ∧ (∀ j, i ≤ j → s.1.getD j 0 = 0) ∧ val s.1 + -s.2 * pw i = val (a.take i) - val (b.take i)) a.length (fun i s hi ⟨h1, h2, h3, h4, h5⟩ => by
        obtain ⟨c, q⟩ := s
        simp only at h1 h2 h3 h4 h5
        have g1 := ha.get i
        have g2 := hb.get i
        have g3 := h4 i (Nat.le_refl i)
        refine ⟨(c.set i ((a.getD i 0 - b.getD i 0 - q) % 4294967296), ((a.getD i 0 - b.getD i 0 - q) % 18446744073709551616) / 9223372036854775808), ⟨by simpa using h1, h2.set i (by omega), by simp only; omega, fun j hj => ?_, ?_⟩, 1, fun k => ?_⟩
        · rw [getD_set (by omega), if_neg (by omega)]; exact h4 j (by omega)
        · rw [carry_step (x := a.getD i 0 - b.getD i 0) (by omega) (by rw [g3]; omega) h5, val_take_next, val_take_next, Int.sub_mul]; omega
        · simp (disch := omega) only [c_dec, c_beq, c_bne, c_and, c_or, c_not, blt_dec, up1, dn1, if_t, if_f, if_true, if_false, Int.toNat_natCast, Option.bind_some, ne_eq, not_true_eq_false, not_false_eq_true, true_and, and_true, fulcrumref01_Sub.L6_succ, fulcrumref01_Sub.b6, at_F ha, at_F hb, w64, w32, show ∀ x, shrI .u64 x 63 = x / 9223372036854775808 from fun x => shr_eq .u64 x 63 (by decide)]
          rw [show ((a.getD i 0 - b.getD i 0) % 18446744073709551616 - q) % 18446744073709551616 = (a.getD i 0 - b.getD i 0 - q) % 18446744073709551616 by omega, show (a.getD i 0 - b.getD i 0 - q) % 18446744073709551616 % 4294967296 = (a.getD i 0 - b.getD i 0 - q) % 4294967296 by omega]) (fun s ⟨h1, h2, h3, h4, h5⟩ => by
        obtain ⟨c, q⟩ := s
        simp only at h1 h2 h3 h4 h5
        refine ⟨1, fun k => ?_⟩
        have h6 := sub_last h2 ha hb h1 h3 (by omega) h5
        simp (disch := omega) only [c_dec, c_beq, c_bne, c_and, c_or, c_not, blt_dec, up1, dn1, if_t, if_f, if_true, if_false, Int.toNat_natCast, Option.bind_some, ne_eq, not_true_eq_false, not_false_eq_true, true_and, and_true, fulcrumref01_Sub.L6_succ, fulcrumref01_Sub.b6, rNorm_F h2 (by omega), h6]) 0 (List.replicate a.length 0, 0) (Nat.zero_le _) ⟨by simp, Limbs.zeros _, by simp only; omega, fun j _ => getD_zeros _ _, by simp [val_zeros, val_nil]⟩
    refine fulcrumref01_Sub.of (0 + j) a b ?_
    simp (disch := omega) only [c_dec, c_beq, c_bne, c_and, c_or, c_not, blt_dec, up1, dn1, if_t, if_f, if_true, if_false, Int.toNat_natCast, Option.bind_some, ne_eq, not_true_eq_false, not_false_eq_true, true_and, and_true, fulcrumref01_Sub.e, rCmp_F ha hb la lb]
    exact hj 0
end Go.Fx.Try
