/- nat: Cmp, Add, Sub, Mul; the reference's. -/
import Derived.Test.YtflgmookgadodaaWord
import Derived.Test.YtflgmookgadodaaN0
namespace Go.Fx.Try
open Go Go.Fx Go.Fx.Num
set_option linter.unusedVariables false
set_option linter.unusedSimpArgs false

def cmpI (x y : Int) : Int := if x < y then -1 else if y < x then 1 else 0
theorem cmpI_lt {x y : Int} (h : x < y) : cmpI x y = -1 := if_pos h
theorem cmpI_gt {x y : Int} (h : y < x) : cmpI x y = 1 := by unfold cmpI; rw [if_neg (by omega), if_pos h]
theorem cmpI_eq {x y : Int} (h : x = y) : cmpI x y = 0 := by unfold cmpI; rw [if_neg (by omega), if_neg (by omega)]
theorem sub1 (m : Nat) : ((m + 1 : Nat) : Int) - 1 = (m : Int) := by omega
theorem sub0 : ((0 : Nat) : Int) - 1 = -1 := rfl
theorem val_take_next (a : List Int) (i : Nat) : val (a.take (i + 1)) = val (a.take i) + a.getD i 0 * pw i := by
  by_cases h : i < a.length
  · exact val_take_succ h
  · rw [List.take_of_length_le (by omega), List.take_of_length_le (by omega), getD_out (by omega)]; omega
theorem carry_step {c : List Int} {i : Nat} {v carry carry' x S : Int} (hi : i < c.length) (hv : v + 4294967296 * carry' = c.getD i 0 + x + carry) (hI : val c + carry * pw i = S) :
    val (c.set i v) + carry' * pw (i + 1) = S + x * pw i := by
  rw [val_set v hi, pw_succ, ← hI]
  have e : v = c.getD i 0 + x + carry - 4294967296 * carry' := by omega
  rw [e]
  simp only [Int.sub_mul, Int.add_mul, Int.mul_assoc, Int.mul_left_comm]
  omega
theorem val_take_of_lt {b : List Int} {n : Nat} (hb : Limbs b) (h : val b < pw n) : val (b.take n) = val b := by
  by_cases hn : n ≤ b.length
  · have h1 := val_take_drop b n hn
    have h2 := val_nonneg (hb.drop n)
    have h3 := val_nonneg (hb.take n)
    have h4 := pw_pos n
    have h5 : val (b.drop n) = 0 := by
      by_cases h0 : val (b.drop n) = 0
      · exact h0
      · have : pw n * 1 ≤ pw n * val (b.drop n) := Int.mul_le_mul_of_nonneg_left (by omega) (by omega)
        omega
    rw [h5] at h1; omega
  · exact val_take_all (by omega)

/-! ### Cmp -/
theorem Cmp_F {a b : List Int} (ha : Limbs a) (hb : Limbs b) (la : a.length ≤ 70368744177664) (lb : b.length ≤ 70368744177664) : nat_Cmp.F (a, b, ()) = some (cmpI (val a) (val b), ()) := by
  have ca := canon_nrm (val a)
  have cb := canon_nrm (val b)
  have va := val_canon (val_nonneg ha)
  have vb := val_canon (val_nonneg hb)
  have na := canon_val_len ha
  have nb := canon_val_len hb
  have ea : nat_Cmp.F (a, b, ()) = nat_Cmp.F (a, b, ()) := rfl
  suffices h : ∃ k, nat_Cmp.e (nat_Cmp.L7 k) a b = some (cmpI (val a) (val b), ()) by obtain ⟨k, hk⟩ := h; exact nat_Cmp.of k a b hk
  simp only [nat_Cmp.e, trim_F ha la, trim_F hb lb, Option.bind_some]
  rw [← va, ← vb, va, vb]
  generalize canon (val a) = x at ca va na ⊢
  generalize canon (val b) = y at cb vb nb ⊢
  rw [← va, ← vb]
  have hx := val_lt ca.1
  have hy := val_lt cb.1
  by_cases hl : x.length = y.length
  · obtain ⟨j, hj⟩ := ends (fun k (n : Nat) => nat_Cmp.L7 k x y ((n : Int) - 1)) (cmpI (val x) (val y), ()) (fun n => n ≤ x.length ∧ ∀ j, n ≤ j → x.getD j 0 = y.getD j 0) id (fun n ⟨hn, hz⟩ => by
      rcases n with _ | m
      · refine .inr ⟨1, fun k => ?_⟩
        simp (disch := omega) only [c_dec, c_beq, c_bne, c_and, c_or, c_not, blt_dec, up1, dn1, if_t, if_f, if_true, if_false, Int.toNat_natCast, Option.bind_some, ne_eq, not_true_eq_false, not_false_eq_true, true_and, and_true, nat_Cmp.L7_succ, nat_Cmp.b7, sub0, cmpI_eq (val_ext fun j => hz j (Nat.zero_le j))]
      · by_cases h1 : x.getD m 0 = y.getD m 0
        · refine .inl ⟨m, ⟨by omega, fun j hj => ?_⟩, Nat.lt_succ_self m, 1, fun k => ?_⟩
          · by_cases hjm : j = m
            · rw [hjm, h1]
            · exact hz j (by omega)
          · simp (disch := omega) only [c_dec, c_beq, c_bne, c_and, c_or, c_not, blt_dec, up1, dn1, if_t, if_f, if_true, if_false, Int.toNat_natCast, Option.bind_some, ne_eq, not_true_eq_false, not_false_eq_true, true_and, and_true, nat_Cmp.L7_succ, nat_Cmp.b7, sub1, h1, IntWalk.i64_in]
        · refine .inr ⟨1, fun k => ?_⟩
          rcases Int.lt_or_gt_of_ne h1 with h2 | h2
          · simp (disch := omega) only [c_dec, c_beq, c_bne, c_and, c_or, c_not, blt_dec, up1, dn1, if_t, if_f, if_true, if_false, Int.toNat_natCast, Option.bind_some, ne_eq, not_true_eq_false, not_false_eq_true, true_and, and_true, nat_Cmp.L7_succ, nat_Cmp.b7, sub1, cmpI_lt (val_cmp ca.1 cb.1 (fun j hj => hz j hj) h2)]
          · simp (disch := omega) only [c_dec, c_beq, c_bne, c_and, c_or, c_not, blt_dec, up1, dn1, if_t, if_f, if_true, if_false, Int.toNat_natCast, Option.bind_some, ne_eq, not_true_eq_false, not_false_eq_true, true_and, and_true, nat_Cmp.L7_succ, nat_Cmp.b7, sub1, cmpI_gt (val_cmp cb.1 ca.1 (fun j hj => (hz j hj).symm) h2)]) x.length ⟨Nat.le_refl _, fun j hj => by rw [getD_out hj, getD_out (by omega)]⟩
    refine ⟨0 + j, ?_⟩
    simp (disch := omega) only [c_dec, c_beq, c_bne, c_and, c_or, c_not, blt_dec, up1, dn1, if_t, if_f, if_true, if_false, Int.toNat_natCast, Option.bind_some, ne_eq, not_true_eq_false, not_false_eq_true, true_and, and_true, IntWalk.i64_in]
    exact hj 0
  · refine ⟨0, ?_⟩
    by_cases hlt : x.length < y.length
    · have h1 := nrm_pos cb (by omega)
      have h2 := pw_mono (m := x.length) (n := y.length - 1) (by omega)
      simp (disch := omega) only [c_dec, c_beq, c_bne, c_and, c_or, c_not, blt_dec, up1, dn1, if_t, if_f, if_true, if_false, Int.toNat_natCast, Option.bind_some, ne_eq, not_true_eq_false, not_false_eq_true, true_and, and_true, cmpI_lt (show val x < val y by omega)]
    · have h1 := nrm_pos ca (by omega)
      have h2 := pw_mono (m := y.length) (n := x.length - 1) (by omega)
      simp (disch := omega) only [c_dec, c_beq, c_bne, c_and, c_or, c_not, blt_dec, up1, dn1, if_t, if_f, if_true, if_false, Int.toNat_natCast, Option.bind_some, ne_eq, not_true_eq_false, not_false_eq_true, true_and, and_true, cmpI_gt (show val y < val x by omega)]

theorem at_F {a : List Int} (ha : Limbs a) (i : Nat) : fulcrumref01_at.F (a, (i : Int), ()) = some (a.getD i 0, ()) := by
  refine fulcrumref01_at.of 0 a i ?_
  have h := ha.get i
  by_cases hi : i < a.length
  · simp (disch := omega) only [c_dec, c_beq, c_bne, c_and, c_or, c_not, blt_dec, up1, dn1, if_t, if_f, if_true, if_false, Int.toNat_natCast, Option.bind_some, ne_eq, not_true_eq_false, not_false_eq_true, true_and, and_true, fulcrumref01_at.e, IntWalk.u64_in]
  · simp (disch := omega) only [c_dec, c_beq, c_bne, c_and, c_or, c_not, blt_dec, up1, dn1, if_t, if_f, if_true, if_false, Int.toNat_natCast, Option.bind_some, ne_eq, not_true_eq_false, not_false_eq_true, true_and, and_true, fulcrumref01_at.e, getD_out (show a.length ≤ i by omega)]

theorem rCmp_F {a b : List Int} (ha : Limbs a) (hb : Limbs b) (la : a.length ≤ 70368744177664) (lb : b.length ≤ 70368744177664) : fulcrumref01_Cmp.F (a, b, ()) = some (cmpI (val a) (val b), ()) := by
  have loop : ∀ n, n ≤ 70368744177664 → (∀ j, n ≤ j → a.getD j 0 = b.getD j 0) → ∃ j, ∀ k, fulcrumref01_Cmp.L5 (k + j) a b ((n : Int) - 1) = some (cmpI (val a) (val b), ()) := by
    intro n hn hz
    refine ends (fun k (n : Nat) => fulcrumref01_Cmp.L5 k a b ((n : Int) - 1)) (cmpI (val a) (val b), ()) (fun n => n ≤ 70368744177664 ∧ ∀ j, n ≤ j → a.getD j 0 = b.getD j 0) id (fun n ⟨hn, hz⟩ => ?_) n ⟨hn, hz⟩
    rcases n with _ | m
    · refine .inr ⟨1, fun k => ?_⟩
      simp (disch := omega) only [c_dec, c_beq, c_bne, c_and, c_or, c_not, blt_dec, up1, dn1, if_t, if_f, if_true, if_false, Int.toNat_natCast, Option.bind_some, ne_eq, not_true_eq_false, not_false_eq_true, true_and, and_true, fulcrumref01_Cmp.L5_succ, fulcrumref01_Cmp.b5, sub0, cmpI_eq (val_ext fun j => hz j (Nat.zero_le j))]
    · by_cases h1 : a.getD m 0 = b.getD m 0
      · refine .inl ⟨m, ⟨by omega, fun j hj => ?_⟩, Nat.lt_succ_self m, 1, fun k => ?_⟩
        · by_cases hjm : j = m
          · rw [hjm, h1]
          · exact hz j (by omega)
        · simp (disch := omega) only [c_dec, c_beq, c_bne, c_and, c_or, c_not, blt_dec, up1, dn1, if_t, if_f, if_true, if_false, Int.toNat_natCast, Option.bind_some, ne_eq, not_true_eq_false, not_false_eq_true, true_and, and_true, fulcrumref01_Cmp.L5_succ, fulcrumref01_Cmp.b5, sub1, at_F ha, at_F hb, h1, IntWalk.i64_in]
      · refine .inr ⟨1, fun k => ?_⟩
        rcases Int.lt_or_gt_of_ne h1 with h2 | h2
        · simp (disch := omega) only [c_dec, c_beq, c_bne, c_and, c_or, c_not, blt_dec, up1, dn1, if_t, if_f, if_true, if_false, Int.toNat_natCast, Option.bind_some, ne_eq, not_true_eq_false, not_false_eq_true, true_and, and_true, fulcrumref01_Cmp.L5_succ, fulcrumref01_Cmp.b5, sub1, at_F ha, at_F hb, cmpI_lt (val_cmp ha hb (fun j hj => hz j hj) h2)]
        · simp (disch := omega) only [c_dec, c_beq, c_bne, c_and, c_or, c_not, blt_dec, up1, dn1, if_t, if_f, if_true, if_false, Int.toNat_natCast, Option.bind_some, ne_eq, not_true_eq_false, not_false_eq_true, true_and, and_true, fulcrumref01_Cmp.L5_succ, fulcrumref01_Cmp.b5, sub1, at_F ha, at_F hb, cmpI_gt (val_cmp hb ha (fun j hj => (hz j hj).symm) h2)]
  by_cases hl : a.length < b.length
  · obtain ⟨j, hj⟩ := loop b.length lb fun j hj => by rw [getD_out hj, getD_out (by omega)]
    refine fulcrumref01_Cmp.of (0 + j) a b ?_
    simp (disch := omega) only [c_dec, c_beq, c_bne, c_and, c_or, c_not, blt_dec, up1, dn1, if_t, if_f, if_true, if_false, Int.toNat_natCast, Option.bind_some, ne_eq, not_true_eq_false, not_false_eq_true, true_and, and_true, fulcrumref01_Cmp.e, IntWalk.i64_in]
    exact hj 0
  · obtain ⟨j, hj⟩ := loop a.length la fun j hj => by rw [getD_out hj, getD_out (by omega)]
    refine fulcrumref01_Cmp.of (0 + j) a b ?_
    simp (disch := omega) only [c_dec, c_beq, c_bne, c_and, c_or, c_not, blt_dec, up1, dn1, if_t, if_f, if_true, if_false, Int.toNat_natCast, Option.bind_some, ne_eq, not_true_eq_false, not_false_eq_true, true_and, and_true, fulcrumref01_Cmp.e, IntWalk.i64_in]
    exact hj 0

/-! ### Add -/
theorem Add32_F {x y c : Int} (hx : 0 ≤ x ∧ x < 4294967296) (hy : 0 ≤ y ∧ y < 4294967296) (hc : 0 ≤ c ∧ c ≤ 1) : bits_Add32.F (x, y, c, ()) = some ((x + y + c) % 4294967296, (x + y + c) / 4294967296, ()) := by
  refine bits_Add32.of 0 x y c ?_
  simp (disch := omega) only [c_dec, c_beq, c_bne, c_and, c_or, c_not, blt_dec, up1, dn1, if_t, if_f, if_true, if_false, Int.toNat_natCast, Option.bind_some, ne_eq, not_true_eq_false, not_false_eq_true, true_and, and_true, bits_Add32.e, IntWalk.u64_in, shr64_32, w32]
  rw [show (x + y + c) / 4294967296 % 4294967296 = (x + y + c) / 4294967296 by omega]

theorem Add_F {a b : List Int} (ha : Limbs a) (hb : Limbs b) (la : a.length < 70368744177664) (lb : b.length < 70368744177664) : nat_Add.F (a, b, ()) = some (canon (val a + val b), ()) := by
  have loop : ∀ (a b : List Int), Limbs a → Limbs b → a.length < 70368744177664 → b.length ≤ a.length → ∃ j, ∀ k, nat_Add.L6 (k + j) a b (List.replicate (a.length + 1) 0) 0 a.length 0 = some (canon (val a + val b), ()) := by
    intro a b ha hb la hl
    refine up (fun k (s : Nat × List Int × Int) => nat_Add.L6 k a b s.2.1 s.2.2 a.length (s.1 : Int)) (canon (val a + val b), ()) (fun i s => s.1.length = a.length + 1 ∧ Limbs s.1 ∧ (0 ≤ s.2 ∧ s.2 ≤ 1) ∧ (∀ j, i ≤ j → s.1.getD j 0 = 0) ∧ val s.1 + s.2 * pw i = val (a.take i) + val (b.take i)) a.length (fun i s hi ⟨h1, h2, h3, h4, h5⟩ => ?_) (fun s ⟨h1, h2, h3, h4, h5⟩ => ?_) 0 (List.replicate (a.length + 1) 0, 0) (Nat.zero_le _) ⟨by simp, Limbs.zeros _, by omega, fun j _ => getD_zeros _ _, by simp [val_zeros, val_nil]⟩
    · obtain ⟨c, q⟩ := s
      simp only at h1 h2 h3 h4 h5
      have g1 := ha.get i
      have g2 := hb.get i
      have g3 := h4 i (Nat.le_refl i)
      refine ⟨(c.set i ((a.getD i 0 + b.getD i 0 + q) % 4294967296), (a.getD i 0 + b.getD i 0 + q) / 4294967296), ⟨by simpa using h1, h2.set i (by omega), by simp only; omega, fun j hj => ?_, ?_⟩, 1, fun k => ?_⟩
      · rw [getD_set (by omega), if_neg (by omega)]; exact h4 j (by omega)
      · rw [carry_step (x := a.getD i 0 + b.getD i 0) (by omega) (by omega) h5, val_take_next, val_take_next, Int.add_mul]; omega
      · by_cases hb' : i < b.length
        · simp (disch := omega) only [c_dec, c_beq, c_bne, c_and, c_or, c_not, blt_dec, up1, dn1, if_t, if_f, if_true, if_false, Int.toNat_natCast, Option.bind_some, ne_eq, not_true_eq_false, not_false_eq_true, true_and, and_true, nat_Add.L6_succ, nat_Add.b6, Add32_F g1 g2 h3]
        · have g4 : b.getD i 0 = 0 := getD_out (by omega)
          simp (disch := omega) only [c_dec, c_beq, c_bne, c_and, c_or, c_not, blt_dec, up1, dn1, if_t, if_f, if_true, if_false, Int.toNat_natCast, Option.bind_some, ne_eq, not_true_eq_false, not_false_eq_true, true_and, and_true, nat_Add.L6_succ, nat_Add.b6, g4, Add32_F g1 (show 0 ≤ (0 : Int) ∧ (0 : Int) < 4294967296 by decide) h3]
    · obtain ⟨c, q⟩ := s
      simp only at h1 h2 h3 h4 h5
      refine ⟨1, fun k => ?_⟩
      have h6 := h2.set a.length (v := q) (by omega)
      have h7 : val (c.set a.length q) = val a + val b := by
        rw [val_set q (by omega), h4 a.length (Nat.le_refl _), Int.sub_zero, h5, List.take_length, val_take_all hl]
      simp (disch := omega) only [c_dec, c_beq, c_bne, c_and, c_or, c_not, blt_dec, up1, dn1, if_t, if_f, if_true, if_false, Int.toNat_natCast, Option.bind_some, ne_eq, not_true_eq_false, not_false_eq_true, true_and, and_true, nat_Add.L6_succ, nat_Add.b6, own_F h6 (by simp; omega), h7]
  by_cases hl : a.length < b.length
  · obtain ⟨j, hj⟩ := loop b a hb ha lb (by omega)
    refine nat_Add.of (0 + j) a b ?_
    simp (disch := omega) only [c_dec, c_beq, c_bne, c_and, c_or, c_not, blt_dec, up1, dn1, if_t, if_f, if_true, if_false, Int.toNat_natCast, Option.bind_some, ne_eq, not_true_eq_false, not_false_eq_true, true_and, and_true, nat_Add.e]
    rw [Int.add_comm]; exact hj 0
  · obtain ⟨j, hj⟩ := loop a b ha hb la (by omega)
    refine nat_Add.of (0 + j) a b ?_
    simp (disch := omega) only [c_dec, c_beq, c_bne, c_and, c_or, c_not, blt_dec, up1, dn1, if_t, if_f, if_true, if_false, Int.toNat_natCast, Option.bind_some, ne_eq, not_true_eq_false, not_false_eq_true, true_and, and_true, nat_Add.e]
    exact hj 0
end Go.Fx.Try
