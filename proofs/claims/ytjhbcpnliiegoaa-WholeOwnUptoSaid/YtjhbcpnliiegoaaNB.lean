/- nat: trim, own, Norm, Of, Small; and the reference's. -/
import Derived.Test.YtjhbcpnliiegoaaNA
import Derived.Test.YtjhbcpnliiegoaaW02o
namespace Go.Fx.Try
open Go Go.Fx Go.Fx.Num
set_option linter.unusedVariables false
set_option linter.unusedSimpArgs false
theorem trim_F {xs : List Int} (h : Limbs xs) (hl : xs.length ≤ 70368744177664) : nat_trim.F (xs, ()) = some (canon (val xs), ()) := by
  obtain ⟨j, hj⟩ := ends (fun k (n : Nat) => nat_trim.L2 k xs (n : Int)) (canon (val xs), ()) (fun n => n ≤ xs.length ∧ ∀ j, n ≤ j → xs.getD j 0 = 0) id (fun n ⟨hn, hz⟩ => by
    by_cases h0 : 0 < n
    · by_cases h1 : xs.getD (n - 1) 0 = 0
      · refine .inl ⟨n - 1, ⟨by omega, fun j hj => ?_⟩, by show n - 1 < n; omega, 1, fun k => ?_⟩
        · by_cases hjn : j = n - 1
          · rw [hjn, h1]
          · exact hz j (by omega)
        · simp (disch := omega) only [c_dec, c_beq, c_bne, c_and, c_or, c_not, blt_dec, up1, dn1, if_t, if_f, if_true, if_false, Int.toNat_natCast, Option.bind_some, ne_eq, not_true_eq_false, not_false_eq_true, true_and, and_true, nat_trim.L2_succ, nat_trim.b2, h1]
      · refine .inr ⟨1, fun k => ?_⟩
        simp (disch := omega) only [c_dec, c_beq, c_bne, c_and, c_or, c_not, blt_dec, up1, dn1, if_t, if_f, if_true, if_false, Int.toNat_natCast, Option.bind_some, ne_eq, not_true_eq_false, not_false_eq_true, true_and, and_true, nat_trim.L2_succ, nat_trim.b2, h1, take_canon h hn hz (.inr h1)]
    · refine .inr ⟨1, fun k => ?_⟩
      obtain rfl : n = 0 := by omega
      simp (disch := omega) only [c_dec, c_beq, c_bne, c_and, c_or, c_not, blt_dec, up1, dn1, if_t, if_f, if_true, if_false, Int.toNat_natCast, Option.bind_some, ne_eq, not_true_eq_false, not_false_eq_true, true_and, and_true, nat_trim.L2_succ, nat_trim.b2, take_canon h hn hz (.inl rfl)]) xs.length ⟨Nat.le_refl _, fun j hj => getD_out hj⟩
  refine nat_trim.of j xs ?_
  simp only [nat_trim.e]
  have := hj 0
  rwa [Nat.zero_add] at this
theorem own_F {xs : List Int} (h : Limbs xs) (hl : xs.length ≤ 70368744177664) : nat_own.F (xs, ()) = some (canon (val xs), ()) := by
  refine nat_own.of 0 xs ?_
  have hlen := canon_val_len h
  simp only [nat_own.e, trim_F h hl, Option.bind_some, c_beq, c_dec, c_and, blt_dec]
  generalize canon (val xs) = c at hlen ⊢
  by_cases h0 : c.length = 0
  · rw [List.length_eq_zero_iff.1 h0]; rfl
  · simp (disch := omega) only [c_dec, c_beq, c_bne, c_and, c_or, c_not, blt_dec, up1, dn1, if_t, if_f, if_true, if_false, Int.toNat_natCast, Option.bind_some, ne_eq, not_true_eq_false, not_false_eq_true, true_and, and_true, List.length_replicate, List.take_length, List.drop_replicate, Nat.sub_self, List.replicate_zero, List.append_nil]
theorem ext_getD {a b : List Int} (hl : a.length = b.length) (h : ∀ j, j < a.length → a.getD j 0 = b.getD j 0) : a = b := by
  refine List.ext_getElem hl fun i h1 h2 => ?_
  have := h i h1
  simpa [List.getD, h1, h2] using this
theorem Norm_F {xs : List Int} (h : Limbs xs) (hl : xs.length ≤ 70368744177664) : nat_Norm.F (xs, ()) = some (canon (val xs), ()) := by
  refine nat_Norm.of 0 xs ?_
  simp only [nat_Norm.e, own_F h hl, Option.bind_some]
theorem two_limbs {n : Int} (h : 0 ≤ n ∧ n < 18446744073709551616) : Limbs [IntKind.u32.wrap n, IntKind.u32.wrap (shrI .u64 n 32)] ∧ val [IntKind.u32.wrap n, IntKind.u32.wrap (shrI .u64 n 32)] = n := by
  rw [shr64_32, w32, w32]
  refine ⟨Limbs.cons (by omega) (Limbs.cons (by omega) Limbs.nil), ?_⟩
  simp only [val_cons, val_nil]; omega
theorem Of_F {n : Int} (h : 0 ≤ n ∧ n < 18446744073709551616) : nat_Of.F (n, ()) = some (canon n, ()) := by
  obtain ⟨h1, h2⟩ := two_limbs h
  refine nat_Of.of 0 n ?_
  simp (disch := omega) only [c_dec, c_beq, c_bne, c_and, c_or, c_not, blt_dec, up1, dn1, if_t, if_f, if_true, if_false, Int.toNat_natCast, Option.bind_some, ne_eq, not_true_eq_false, not_false_eq_true, true_and, and_true, nat_Of.e, own_F h1 (by simp), h2]
theorem or64_lo {x y : Int} (hx : 0 ≤ x ∧ x < 4294967296) (hy : 0 ≤ y ∧ y < 4294967296) : bitsOp .or .u64 (y * 4294967296 % 18446744073709551616) x = x + 4294967296 * y := by
  have e : y * 4294967296 % 18446744073709551616 = 4294967296 * y := by omega
  rw [e, or64_add 32 y (by omega) hy.1 (by omega) (by omega)]; omega
theorem limbs_of {xs : List Int} (h : ∀ x ∈ xs, (Lit.int .u32 x).wf = true) : Limbs xs := by
  intro x hx
  have := h x hx
  simp [Lit.wf, IntKind.min, IntKind.max, IntKind.bits, IntKind.signed] at this
  omega
def cmpI (x y : Int) : Int := if x < y then -1 else if y < x then 1 else 0
theorem cmpI_lt {x y : Int} (h : x < y) : cmpI x y = -1 := if_pos h
theorem cmpI_gt {x y : Int} (h : y < x) : cmpI x y = 1 := by unfold cmpI; rw [if_neg (by omega), if_pos h]
theorem cmpI_eq {x y : Int} (h : x = y) : cmpI x y = 0 := by unfold cmpI; rw [if_neg (by omega), if_neg (by omega)]
theorem sub1 (m : Nat) : ((m + 1 : Nat) : Int) - 1 = (m : Int) := by omega
theorem sub0 : ((0 : Nat) : Int) - 1 = -1 := rfl
theorem val_take_next (a : List Int) (i : Nat) : val (a.take (i + 1)) = val (a.take i) + a.getD i 0 * pw i := by
  by_cases h : i < a.length
  · exact val_take_succ h
  · rw [List.take_of_length_le (by omega), List.take_of_length_le (by omega), getD_out (by omega)]; omega
theorem carry_step {c : List Int} {i : Nat} {v carry carry' x S : Int} (hi : i < c.length) (hv : v + 4294967296 * carry' = c.getD i 0 + x + carry) (hI : val c + carry * pw i = S) :
    val (c.set i v) + carry' * pw (i + 1) = S + x * pw i := by
  rw [val_set v hi, pw_succ, ← hI]
  have e : v = c.getD i 0 + x + carry - 4294967296 * carry' := by omega
  rw [e]
  simp only [Int.sub_mul, Int.add_mul, Int.mul_assoc, Int.mul_left_comm]
  omega
theorem val_take_of_lt {b : List Int} {n : Nat} (hb : Limbs b) (h : val b < pw n) : val (b.take n) = val b := by
  by_cases hn : n ≤ b.length
  · have h1 := val_take_drop b n hn
    have h2 := val_nonneg (hb.drop n)
    have h3 := val_nonneg (hb.take n)
    have h4 := pw_pos n
    have h5 : val (b.drop n) = 0 := by
      by_cases h0 : val (b.drop n) = 0
      · exact h0
      · have : pw n * 1 ≤ pw n * val (b.drop n) := Int.mul_le_mul_of_nonneg_left (by omega) (by omega)
        omega
    rw [h5] at h1; omega
  · exact val_take_all (by omega)
theorem Cmp_F {a b : List Int} (ha : Limbs a) (hb : Limbs b) (la : a.length ≤ 70368744177664) (lb : b.length ≤ 70368744177664) : nat_Cmp.F (a, b, ()) = some (cmpI (val a) (val b), ()) := by
  have ca := canon_nrm (val a)
  have cb := canon_nrm (val b)
  have va := val_canon (val_nonneg ha)
  have vb := val_canon (val_nonneg hb)
  have na := canon_val_len ha
  have nb := canon_val_len hb
  have ea : nat_Cmp.F (a, b, ()) = nat_Cmp.F (a, b, ()) := rfl
  suffices h : ∃ k, nat_Cmp.e (nat_Cmp.L7 k) a b = some (cmpI (val a) (val b), ()) by obtain ⟨k, hk⟩ := h; exact nat_Cmp.of k a b hk
  simp only [nat_Cmp.e, trim_F ha la, trim_F hb lb, Option.bind_some]
  rw [← va, ← vb, va, vb]
  generalize canon (val a) = x at ca va na ⊢
  generalize canon (val b) = y at cb vb nb ⊢
  rw [← va, ← vb]
  have hx := val_lt ca.1
  have hy := val_lt cb.1
  by_cases hl : x.length = y.length
  · obtain ⟨j, hj⟩ := ends (fun k (n : Nat) => nat_Cmp.L7 k x y ((n : Int) - 1)) (cmpI (val x) (val y), ()) (fun n => n ≤ x.length ∧ ∀ j, n ≤ j → x.getD j 0 = y.getD j 0) id (fun n ⟨hn, hz⟩ => by
      rcases n with _ | m
      · refine .inr ⟨1, fun k => ?_⟩
        simp (disch := omega) only [c_dec, c_beq, c_bne, c_and, c_or, c_not, blt_dec, up1, dn1, if_t, if_f, if_true, if_false, Int.toNat_natCast, Option.bind_some, ne_eq, not_true_eq_false, not_false_eq_true, true_and, and_true, nat_Cmp.L7_succ, nat_Cmp.b7, sub0, cmpI_eq (val_ext fun j => hz j (Nat.zero_le j))]
      · by_cases h1 : x.getD m 0 = y.getD m 0
        · refine .inl ⟨m, ⟨by omega, fun j hj => ?_⟩, Nat.lt_succ_self m, 1, fun k => ?_⟩
          · by_cases hjm : j = m
            · rw [hjm, h1]
            · exact hz j (by omega)
          · simp (disch := omega) only [c_dec, c_beq, c_bne, c_and, c_or, c_not, blt_dec, up1, dn1, if_t, if_f, if_true, if_false, Int.toNat_natCast, Option.bind_some, ne_eq, not_true_eq_false, not_false_eq_true, true_and, and_true, nat_Cmp.L7_succ, nat_Cmp.b7, sub1, h1, IntWalk.i64_in]
        · refine .inr ⟨1, fun k => ?_⟩
          rcases Int.lt_or_gt_of_ne h1 with h2 | h2
          · simp (disch := omega) only [c_dec, c_beq, c_bne, c_and, c_or, c_not, blt_dec, up1, dn1, if_t, if_f, if_true, if_false, Int.toNat_natCast, Option.bind_some, ne_eq, not_true_eq_false, not_false_eq_true, true_and, and_true, nat_Cmp.L7_succ, nat_Cmp.b7, sub1, cmpI_lt (val_cmp ca.1 cb.1 (fun j hj => hz j hj) h2)]
          · simp (disch := omega) only [c_dec, c_beq, c_bne, c_and, c_or, c_not, blt_dec, up1, dn1, if_t, if_f, if_true, if_false, Int.toNat_natCast, Option.bind_some, ne_eq, not_true_eq_false, not_false_eq_true, true_and, and_true, nat_Cmp.L7_succ, nat_Cmp.b7, sub1, cmpI_gt (val_cmp cb.1 ca.1 (fun j hj => (hz j hj).symm) h2)]) x.length ⟨Nat.le_refl _, fun j hj => by rw [getD_out hj, getD_out (by omega)]⟩
    refine ⟨0 + j, ?_⟩
    simp (disch := omega) only [c_dec, c_beq, c_bne, c_and, c_or, c_not, blt_dec, up1, dn1, if_t, if_f, if_true, if_false, Int.toNat_natCast, Option.bind_some, ne_eq, not_true_eq_false, not_false_eq_true, true_and, and_true, IntWalk.i64_in]
    exact hj 0
  · refine ⟨0, ?_⟩
    by_cases hlt : x.length < y.length
    · have h1 := nrm_pos cb (by omega)
      have h2 := pw_mono (m := x.length) (n := y.length - 1) (by omega)
      simp (disch := omega) only [c_dec, c_beq, c_bne, c_and, c_or, c_not, blt_dec, up1, dn1, if_t, if_f, if_true, if_false, Int.toNat_natCast, Option.bind_some, ne_eq, not_true_eq_false, not_false_eq_true, true_and, and_true, cmpI_lt (show val x < val y by omega)]
    · have h1 := nrm_pos ca (by omega)
      have h2 := pw_mono (m := y.length) (n := x.length - 1) (by omega)
      simp (disch := omega) only [c_dec, c_beq, c_bne, c_and, c_or, c_not, blt_dec, up1, dn1, if_t, if_f, if_true, if_false, Int.toNat_natCast, Option.bind_some, ne_eq, not_true_eq_false, not_false_eq_true, true_and, and_true, cmpI_gt (show val y < val x by omega)]
theorem Add32_F {x y c : Int} (hx : 0 ≤ x ∧ x < 4294967296) (hy : 0 ≤ y ∧ y < 4294967296) (hc : 0 ≤ c ∧ c ≤ 1) : bits_Add32.F (x, y, c, ()) = some ((x + y + c) % 4294967296, (x + y + c) / 4294967296, ()) := by
  refine bits_Add32.of 0 x y c ?_
  simp (disch := omega) only [c_dec, c_beq, c_bne, c_and, c_or, c_not, blt_dec, up1, dn1, if_t, if_f, if_true, if_false, Int.toNat_natCast, Option.bind_some, ne_eq, not_true_eq_false, not_false_eq_true, true_and, and_true, bits_Add32.e, IntWalk.u64_in, shr64_32, w32]
  rw [show (x + y + c) / 4294967296 % 4294967296 = (x + y + c) / 4294967296 by omega]
theorem Add_F {a b : List Int} (ha : Limbs a) (hb : Limbs b) (la : a.length < 70368744177664) (lb : b.length < 70368744177664) : nat_Add.F (a, b, ()) = some (canon (val a + val b), ()) := by
  have loop : ∀ (a b : List Int), Limbs a → Limbs b → a.length < 70368744177664 → b.length ≤ a.length → ∃ j, ∀ k, nat_Add.L6 (k + j) a b (List.replicate (a.length + 1) 0) 0 a.length 0 = some (canon (val a + val b), ()) := by
    intro a b ha hb la hl
    refine up (fun k (s : Nat × List Int × Int) => nat_Add.L6 k a b s.2.1 s.2.2 a.length (s.1 : Int)) (canon (val a + val b), ()) (fun i s => s.1.length = a.length + 1 ∧ Limbs s.1 ∧ (0 ≤ s.2 ∧ s.2 ≤ 1) ∧ (∀ j, i ≤ j → s.1.getD j 0 = 0) ∧ val s.1 + s.2 * pw i = val (a.take i) + val (b.take i)) a.length (fun i s hi ⟨h1, h2, h3, h4, h5⟩ => ?_) (fun s ⟨h1, h2, h3, h4, h5⟩ => ?_) 0 (List.replicate (a.length + 1) 0, 0) (Nat.zero_le _) ⟨by simp, Limbs.zeros _, by omega, fun j _ => getD_zeros _ _, by simp [val_zeros, val_nil]⟩
    · obtain ⟨c, q⟩ := s
      simp only at h1 h2 h3 h4 h5
      have g1 := ha.get i
      have g2 := hb.get i
      have g3 := h4 i (Nat.le_refl i)
      refine ⟨(c.set i ((a.getD i 0 + b.getD i 0 + q) % 4294967296), (a.getD i 0 + b.getD i 0 + q) / 4294967296), ⟨by simpa using h1, h2.set i (by omega), by simp only; omega, fun j hj => ?_, ?_⟩, 1, fun k => ?_⟩
      · rw [getD_set (by omega), if_neg (by omega)]; exact h4 j (by omega)
      · rw [carry_step (x := a.getD i 0 + b.getD i 0) (by omega) (by omega) h5, val_take_next, val_take_next, Int.add_mul]; omega
      · by_cases hb' : i < b.length
        · simp (disch := omega) only [c_dec, c_beq, c_bne, c_and, c_or, c_not, blt_dec, up1, dn1, if_t, if_f, if_true, if_false, Int.toNat_natCast, Option.bind_some, ne_eq, not_true_eq_false, not_false_eq_true, true_and, and_true, nat_Add.L6_succ, nat_Add.b6, Add32_F g1 g2 h3]
        · have g4 : b.getD i 0 = 0 := getD_out (by omega)
          simp (disch := omega) only [c_dec, c_beq, c_bne, c_and, c_or, c_not, blt_dec, up1, dn1, if_t, if_f, if_true, if_false, Int.toNat_natCast, Option.bind_some, ne_eq, not_true_eq_false, not_false_eq_true, true_and, and_true, nat_Add.L6_succ, nat_Add.b6, g4, Add32_F g1 (show 0 ≤ (0 : Int) ∧ (0 : Int) < 4294967296 by decide) h3]
    · obtain ⟨c, q⟩ := s
      simp only at h1 h2 h3 h4 h5
      refine ⟨1, fun k => ?_⟩
      have h6 := h2.set a.length (v := q) (by omega)
      have h7 : val (c.set a.length q) = val a + val b := by
        rw [val_set q (by omega), h4 a.length (Nat.le_refl _), Int.sub_zero, h5, List.take_length, val_take_all hl]
      simp (disch := omega) only [c_dec, c_beq, c_bne, c_and, c_or, c_not, blt_dec, up1, dn1, if_t, if_f, if_true, if_false, Int.toNat_natCast, Option.bind_some, ne_eq, not_true_eq_false, not_false_eq_true, true_and, and_true, nat_Add.L6_succ, nat_Add.b6, own_F h6 (by simp; omega), h7]
  by_cases hl : a.length < b.length
  · obtain ⟨j, hj⟩ := loop b a hb ha lb (by omega)
    refine nat_Add.of (0 + j) a b ?_
    simp (disch := omega) only [c_dec, c_beq, c_bne, c_and, c_or, c_not, blt_dec, up1, dn1, if_t, if_f, if_true, if_false, Int.toNat_natCast, Option.bind_some, ne_eq, not_true_eq_false, not_false_eq_true, true_and, and_true, nat_Add.e]
    rw [Int.add_comm]; exact hj 0
  · obtain ⟨j, hj⟩ := loop a b ha hb la (by omega)
    refine nat_Add.of (0 + j) a b ?_
    simp (disch := omega) only [c_dec, c_beq, c_bne, c_and, c_or, c_not, blt_dec, up1, dn1, if_t, if_f, if_true, if_false, Int.toNat_natCast, Option.bind_some, ne_eq, not_true_eq_false, not_false_eq_true, true_and, and_true, nat_Add.e]
    exact hj 0
theorem all32 : (if IntKind.u32.signed then (-1 : Int) else IntKind.u32.max) = ((4294967295 : Nat) : Int) := by decide
theorem Sub32_F {x y b : Int} (hx : 0 ≤ x ∧ x < 4294967296) (hy : 0 ≤ y ∧ y < 4294967296) (hb : 0 ≤ b ∧ b ≤ 1) : bits_Sub32.F (x, y, b, ()) = some ((x - y - b) % 4294967296, (if x < y + b then 1 else 0), ()) := by
  refine bits_Sub32.of 0 x y b ?_
  obtain ⟨x, rfl⟩ := Int.eq_ofNat_of_zero_le hx.1
  obtain ⟨y, rfl⟩ := Int.eq_ofNat_of_zero_le hy.1
  obtain ⟨b, rfl⟩ := Int.eq_ofNat_of_zero_le hb.1
  have hd : ∃ d : Nat, (d : Int) = ((x : Int) - y - b) % 4294967296 := ⟨_, Int.toNat_of_nonneg (by omega)⟩
  obtain ⟨d, hd⟩ := hd
  have e1 : IntKind.u32.wrap (IntKind.u32.wrap ((x : Int) - y) - b) = d := by rw [w32, w32]; omega
  have h1 : (4294967295 ^^^ x) < 2 ^ 32 := Nat.xor_lt_two_pow (by decide) (by omega)
  have h2 : (x ^^^ y) < 2 ^ 32 := Nat.xor_lt_two_pow (by omega) (by omega)
  have h3 : (4294967295 ^^^ (x ^^^ y)) < 2 ^ 32 := Nat.xor_lt_two_pow (by decide) h2
  have h4 : ((4294967295 ^^^ x) &&& y) < 2 ^ 32 := Nat.and_lt_two_pow _ (by omega)
  have h5 : ((4294967295 ^^^ (x ^^^ y)) &&& d) < 2 ^ 32 := Nat.and_lt_two_pow _ (by omega)
  have h6 := borrow32 (x := x) (y := y) (b := b) (d := d) (by omega) (by omega) (by omega) hd
  simp only [bits_Sub32.e, e1, all32]
  rw [xor32 (by decide) (by omega), and32 h1 (by omega), xor32 (by omega) (by omega), xor32 (by decide) h2, and32 h3 (by omega), or32 h4 h5]
  simp (disch := omega) only [c_dec, c_beq, c_bne, c_and, c_or, c_not, blt_dec, up1, dn1, if_t, if_f, if_true, if_false, Int.toNat_natCast, Option.bind_some, ne_eq, not_true_eq_false, not_false_eq_true, true_and, and_true, show shrI .u32 ((((4294967295 ^^^ x) &&& y ||| (4294967295 ^^^ (x ^^^ y)) &&& d : Nat)) : Int) 31 = (((4294967295 ^^^ x) &&& y ||| (4294967295 ^^^ (x ^^^ y)) &&& d : Nat) : Int) / 2 ^ 31 from shr_eq .u32 _ 31 (by decide)]
  have h7 : ((((4294967295 ^^^ x) &&& y ||| (4294967295 ^^^ (x ^^^ y)) &&& d) : Nat) : Int) / 2 ^ 31 = (if (x : Int) < y + b then 1 else 0) := by
    have : ((((4294967295 ^^^ x) &&& y ||| (4294967295 ^^^ (x ^^^ y)) &&& d) / 2147483648 : Nat) : Int) = ((if x < y + b then 1 else 0 : Nat) : Int) := by rw [h6]
    by_cases hlt : x < y + b
    · rw [if_pos hlt] at this; rw [if_pos (by omega)]; omega
    · rw [if_neg hlt] at this; rw [if_neg (by omega)]; omega
  rw [h7, hd]
/-- What a difference's loop has at its end. -/
theorem sub_last {c a b : List Int} {q : Int} (hc : Limbs c) (ha : Limbs a) (hb : Limbs b) (hl : c.length = a.length) (hq : 0 ≤ q ∧ q ≤ 1) (hle : val b ≤ val a) (h : val c + -q * pw a.length = val (a.take a.length) - val (b.take a.length)) : val c = val a - val b := by
  have h1 := val_lt ha
  rw [List.take_length, val_take_of_lt hb (show val b < pw a.length by omega)] at h
  have h2 := val_lt hc
  rw [hl] at h2
  rcases (show q = 0 ∨ q = 1 by omega) with h0 | h0
  · rw [h0] at h; omega
  · rw [h0] at h; omega
theorem Sub_F {a b : List Int} (ha : Limbs a) (hb : Limbs b) (la : a.length ≤ 70368744177664) (lb : b.length ≤ 70368744177664) : nat_Sub.F (a, b, ()) = some (if val a < val b then ([], 10, ()) else (canon (val a - val b), 0, ())) := by
  by_cases hlt : val a < val b
  · refine nat_Sub.of 0 a b ?_
    simp (disch := omega) only [c_dec, c_beq, c_bne, c_and, c_or, c_not, blt_dec, up1, dn1, if_t, if_f, if_true, if_false, Int.toNat_natCast, Option.bind_some, ne_eq, not_true_eq_false, not_false_eq_true, true_and, and_true, nat_Sub.e, Cmp_F ha hb la lb, cmpI_lt hlt]
  · have hc : 0 ≤ cmpI (val a) (val b) := by unfold cmpI; rw [if_neg hlt]; split <;> decide
    have ht := canon_limbs (val b)
    have vt := val_canon (val_nonneg hb)
    obtain ⟨j, hj⟩ := up (fun k (s : Nat × List Int × Int) => nat_Sub.L7 k a (canon (val b)) s.2.1 s.2.2 a.length (s.1 : Int)) (canon (val a - val b), 0, ()) (fun i s => s.1.length = a.length ∧ Limbs s.1 ∧ (0 ≤ s.2 ∧ s.2 ≤ 1) ∧ (∀ j, i ≤ j → s.1.getD j 0 = 0) ∧ val s.1 + -s.2 * pw i = val (a.take i) - val ((canon (val b)).take i)) a.length (fun i s hi ⟨h1, h2, h3, h4, h5⟩ => by
        obtain ⟨c, q⟩ := s
        simp only at h1 h2 h3 h4 h5
        have g1 := ha.get i
        have g2 := ht.get i
        have g3 := h4 i (Nat.le_refl i)
        refine ⟨(c.set i ((a.getD i 0 - (canon (val b)).getD i 0 - q) % 4294967296), if a.getD i 0 < (canon (val b)).getD i 0 + q then 1 else 0), ⟨by simpa using h1, h2.set i (by omega), by simp only; split <;> omega, fun j hj => ?_, ?_⟩, 1, fun k => ?_⟩
        · rw [getD_set (by omega), if_neg (by omega)]; exact h4 j (by omega)
        · rw [carry_step (x := a.getD i 0 - (canon (val b)).getD i 0) (by omega) (by rw [g3]; split <;> omega) h5, val_take_next, val_take_next, Int.sub_mul]; omega
        · by_cases hb' : i < (canon (val b)).length
          · simp (disch := omega) only [c_dec, c_beq, c_bne, c_and, c_or, c_not, blt_dec, up1, dn1, if_t, if_f, if_true, if_false, Int.toNat_natCast, Option.bind_some, ne_eq, not_true_eq_false, not_false_eq_true, true_and, and_true, nat_Sub.L7_succ, nat_Sub.b7, Sub32_F g1 g2 h3]
          · have g4 : (canon (val b)).getD i 0 = 0 := getD_out (by omega)
            simp (disch := omega) only [c_dec, c_beq, c_bne, c_and, c_or, c_not, blt_dec, up1, dn1, if_t, if_f, if_true, if_false, Int.toNat_natCast, Option.bind_some, ne_eq, not_true_eq_false, not_false_eq_true, true_and, and_true, nat_Sub.L7_succ, nat_Sub.b7, g4, Sub32_F g1 (show 0 ≤ (0 : Int) ∧ (0 : Int) < 4294967296 by decide) h3]) (fun s ⟨h1, h2, h3, h4, h5⟩ => by
        obtain ⟨c, q⟩ := s
        simp only at h1 h2 h3 h4 h5
        refine ⟨1, fun k => ?_⟩
        have h6 := sub_last h2 ha ht h1 h3 (by omega) h5
        rw [vt] at h6
        simp (disch := omega) only [c_dec, c_beq, c_bne, c_and, c_or, c_not, blt_dec, up1, dn1, if_t, if_f, if_true, if_false, Int.toNat_natCast, Option.bind_some, ne_eq, not_true_eq_false, not_false_eq_true, true_and, and_true, nat_Sub.L7_succ, nat_Sub.b7, own_F h2 (by omega), h6]) 0 (List.replicate a.length 0, 0) (Nat.zero_le _) ⟨by simp, Limbs.zeros _, by simp only; omega, fun j _ => getD_zeros _ _, by simp [val_zeros, val_nil]⟩
    refine nat_Sub.of (0 + j) a b ?_
    simp (disch := omega) only [c_dec, c_beq, c_bne, c_and, c_or, c_not, blt_dec, up1, dn1, if_t, if_f, if_true, if_false, Int.toNat_natCast, Option.bind_some, ne_eq, not_true_eq_false, not_false_eq_true, true_and, and_true, nat_Sub.e, Cmp_F ha hb la lb, trim_F hb lb]
    exact hj 0
theorem mul_bound {x y : Int} (hx : 0 ≤ x ∧ x < 4294967296) (hy : 0 ≤ y ∧ y < 4294967296) : 0 ≤ x * y ∧ x * y ≤ 18446744065119617025 := by
  refine ⟨Int.mul_nonneg hx.1 hy.1, ?_⟩
  have h1 : x * y ≤ 4294967295 * y := Int.mul_le_mul_of_nonneg_right (by omega) hy.1
  have h2 : 4294967295 * y ≤ 4294967295 * 4294967295 := Int.mul_le_mul_of_nonneg_left (by omega) (by decide)
  omega
theorem i64_2 {i k : Nat} (h : i + k < 4611686018427387904) : IntKind.i64.wrap ((i : Int) + (k : Int)) = ((i + k : Nat) : Int) := by rw [IntWalk.i64_in _ (by omega)]; omega
/-- What a row of a product's loop keeps: k of the second's limbs are taken. -/
def MulInv (c0 : List Int) (x : Int) (b : List Int) (n i k : Nat) (c : List Int) (q : Int) : Prop :=
  c.length = n ∧ Limbs c ∧ (0 ≤ q ∧ q < 4294967296) ∧ (∀ j, i + b.length ≤ j → c.getD j 0 = 0) ∧ val c + q * pw (i + k) = val c0 + x * val (b.take k) * pw i
theorem MulInv.next {c0 : List Int} {x : Int} {b : List Int} {n i k : Nat} {c : List Int} {q : Int} (h : MulInv c0 x b n i k c q) (hx : 0 ≤ x ∧ x < 4294967296) (hb : Limbs b) (hk : k < b.length) (hn : i + b.length < n) :
    let t := x * b.getD k 0 + c.getD (i + k) 0 + q
    (0 ≤ t ∧ t < 18446744073709551616) ∧ MulInv c0 x b n i (k + 1) (c.set (i + k) (t % 4294967296)) (t / 4294967296) := by
  obtain ⟨h1, h2, h3, h4, h5⟩ := h
  have g1 := hb.get k
  have g2 := h2.get (i + k)
  have g3 := mul_bound hx g1
  intro t
  have ht : t = x * b.getD k 0 + c.getD (i + k) 0 + q := rfl
  refine ⟨by omega, by simpa using h1, h2.set _ (by omega), by omega, fun j hj => ?_, ?_⟩
  · rw [getD_set (by omega), if_neg (by omega)]; exact h4 j hj
  · rw [← Nat.add_assoc, carry_step (x := x * b.getD k 0) (by omega) (by omega) h5, val_take_next, pw_add, Int.mul_add, Int.add_mul]
    have : x * b.getD k 0 * (pw i * pw k) = x * (b.getD k 0 * pw k) * pw i := by
      rw [Int.mul_comm (pw i), Int.mul_assoc, Int.mul_assoc, Int.mul_assoc]
    omega
theorem MulInv.last {c0 : List Int} {x : Int} {b : List Int} {n i : Nat} {c : List Int} {q : Int} (h : MulInv c0 x b n i b.length c q) (hn : i + b.length < n) :
    (c.set (i + b.length) q).length = n ∧ Limbs (c.set (i + b.length) q) ∧ (∀ j, (i + 1) + b.length ≤ j → (c.set (i + b.length) q).getD j 0 = 0) ∧ val (c.set (i + b.length) q) = val c0 + x * val b * pw i := by
  obtain ⟨h1, h2, h3, h4, h5⟩ := h
  refine ⟨by simpa using h1, h2.set _ h3, fun j hj => ?_, ?_⟩
  · rw [getD_set (by omega), if_neg (by omega)]; exact h4 j (by omega)
  · rw [val_set q (by omega), h4 _ (Nat.le_refl _), Int.sub_zero, h5, List.take_length]
theorem mul_next (a b : List Int) (i : Nat) : val (a.take i) * val b + a.getD i 0 * val b * pw i = val (a.take (i + 1)) * val b := by
  rw [val_take_next, Int.add_mul, Int.mul_assoc, Int.mul_comm (val b), ← Int.mul_assoc]
theorem Mul_F {x y : List Int} (hx : Limbs x) (hy : Limbs y) (hl : x.length + y.length ≤ 70368744177664) : nat_Mul.F (x, y, ()) = some (canon (val x * val y), ()) := by
  have na := canon_val_len hx
  have nb := canon_val_len hy
  have va := val_canon (val_nonneg hx)
  have vb := val_canon (val_nonneg hy)
  have ha := canon_limbs (val x)
  have hb := canon_limbs (val y)
  suffices h : ∃ k, nat_Mul.e (nat_Mul.L4 k) (nat_Mul.L8 k) x y = some (canon (val x * val y), ()) by obtain ⟨k, hk⟩ := h; exact nat_Mul.of k x y hk
  simp only [nat_Mul.e, trim_F hx (by omega), trim_F hy (by omega), Option.bind_some]
  rw [← va, ← vb, va, vb]
  generalize canon (val x) = a at na va ha ⊢
  generalize canon (val y) = b at nb vb hb ⊢
  rw [← va, ← vb]
  obtain ⟨j, hj⟩ := up (fun k (s : Nat × List Int) => nat_Mul.L4 k a b s.2 a.length (s.1 : Int)) (canon (val a * val b), ()) (fun i c => c.length = a.length + b.length ∧ Limbs c ∧ (∀ j, i + b.length ≤ j → c.getD j 0 = 0) ∧ val c = val (a.take i) * val b) a.length (fun i c hi ⟨h1, h2, h3, h4⟩ => by
      obtain ⟨t, ht, j, hj⟩ := upTo (fun k (s : Nat × List Int × Int) => nat_Mul.L8 k a b s.2.1 i s.2.2 a.length i b.length (s.1 : Int)) (fun k (c : List Int) => nat_Mul.L4 k a b c a.length ((i + 1 : Nat) : Int)) (fun k s => MulInv c (a.getD i 0) b (a.length + b.length) i k s.1 s.2)
        (fun c' => c'.length = a.length + b.length ∧ Limbs c' ∧ (∀ j, (i + 1) + b.length ≤ j → c'.getD j 0 = 0) ∧ val c' = val (a.take (i + 1)) * val b) b.length
        (fun k s hk hs => by
          obtain ⟨c', q⟩ := s
          obtain ⟨ht, hn⟩ := MulInv.next hs (ha.get i) hb hk (by omega)
          obtain ⟨h1, h2, h3, h4, h5⟩ := hs
          simp only at h1 h2 h3 h4 h5 ht
          have g0 := ha.get i
          have g1 := hb.get k
          have g2 := h2.get (i + k)
          have g3 := mul_bound g0 g1
          refine ⟨(c'.set (i + k) ((a.getD i 0 * b.getD k 0 + c'.getD (i + k) 0 + q) % 4294967296), (a.getD i 0 * b.getD k 0 + c'.getD (i + k) 0 + q) / 4294967296), hn, 1, fun m => ?_⟩
          simp (disch := omega) only [c_dec, c_beq, c_bne, c_and, c_or, c_not, blt_dec, up1, dn1, if_t, if_f, if_true, if_false, Int.toNat_natCast, Option.bind_some, ne_eq, not_true_eq_false, not_false_eq_true, true_and, and_true, nat_Mul.L8_succ, nat_Mul.b8, IntWalk.u64_in, i64_2, w32, shr64_32])
        (fun s hs => by
          obtain ⟨c', q⟩ := s
          have hn := MulInv.last hs (by omega)
          obtain ⟨h1, h2, h3, h4', h5⟩ := hs
          simp only at h1 h3
          refine ⟨c'.set (i + b.length) q, ⟨hn.1, hn.2.1, hn.2.2.1, by rw [hn.2.2.2, h4, mul_next]⟩, 1, fun m => ?_⟩
          simp (disch := omega) only [c_dec, c_beq, c_bne, c_and, c_or, c_not, blt_dec, up1, dn1, if_t, if_f, if_true, if_false, Int.toNat_natCast, Option.bind_some, ne_eq, not_true_eq_false, not_false_eq_true, true_and, and_true, nat_Mul.L8_succ, nat_Mul.b8, i64_2, IntWalk.u32_in]) 0 (c, 0) (Nat.zero_le _) ⟨h1, h2, by simp, h3, by simp [val_nil]⟩
      refine ⟨t, ht, j + 1, fun k => ?_⟩
      rw [← Nat.add_assoc]
      simp (disch := omega) only [c_dec, c_beq, c_bne, c_and, c_or, c_not, blt_dec, up1, dn1, if_t, if_f, if_true, if_false, Int.toNat_natCast, Option.bind_some, ne_eq, not_true_eq_false, not_false_eq_true, true_and, and_true, nat_Mul.L4_succ, nat_Mul.b4]
      exact hj k) (fun c ⟨h1, h2, h3, h4⟩ => by
      refine ⟨1, fun k => ?_⟩
      rw [List.take_length] at h4
      simp (disch := omega) only [c_dec, c_beq, c_bne, c_and, c_or, c_not, blt_dec, up1, dn1, if_t, if_f, if_true, if_false, Int.toNat_natCast, Option.bind_some, ne_eq, not_true_eq_false, not_false_eq_true, true_and, and_true, nat_Mul.L4_succ, nat_Mul.b4, own_F h2 (by omega), h4]) 0 (List.replicate (a.length + b.length) 0) (Nat.zero_le _) ⟨by simp, Limbs.zeros _, fun j _ => getD_zeros _ _, by simp [val_zeros, val_nil]⟩
  refine ⟨0 + j, ?_⟩
  simp (disch := omega) only [c_dec, c_beq, c_bne, c_and, c_or, c_not, blt_dec, up1, dn1, if_t, if_f, if_true, if_false, Int.toNat_natCast, Option.bind_some, ne_eq, not_true_eq_false, not_false_eq_true, true_and, and_true, i64_2]
  exact hj 0
theorem canon_one {x : Int} (h : 0 < x ∧ x < 4294967296) : canon x = [x] := by
  have h1 := canon_cons (x := x) (v := 0) (by omega) (by omega) (by omega)
  rw [canon_zero, Int.mul_zero, Int.add_zero] at h1
  exact h1
theorem limbs1 {x : Int} (h : 0 ≤ x ∧ x < 4294967296) : Limbs [x] := Limbs.cons h Limbs.nil
theorem val1 (x : Int) : val [x] = x := by simp [val_cons, val_nil]
/-- A list of limbs, its number, and a bound of its length. -/
structure Nm (a : List Int) (x : Int) (n : Nat) : Prop where
  limbs : Limbs a
  val : val a = x
  len : a.length ≤ n
theorem Nm.pos {a x n} (h : Nm a x n) : 0 ≤ x := h.val ▸ val_nonneg h.limbs
theorem Nm.lt {a x n} (h : Nm a x n) : x < pw n := by
  have := val_lt h.limbs
  have := pw_mono h.len
  have := h.val
  omega
theorem Nm.mono {a x n m} (h : Nm a x n) (hm : n ≤ m) : Nm a x m := ⟨h.limbs, h.val, Nat.le_trans h.len hm⟩
theorem Nm.canon {x : Int} {n : Nat} (h : 0 ≤ x) (hn : x < pw n) : Nm (canon x) x n := ⟨canon_limbs x, val_canon h, canon_len_le h hn⟩
theorem Nm.norm {a x n} (h : Nm a x n) : Nm (Num.canon x) x n := .canon h.pos h.lt
theorem Nm.add {a b x y n} (h : Nm a x n) (g : Nm b y n) : Nm (Num.canon (x + y)) (x + y) (n + 1) := by
  have := h.pos
  have := g.pos
  have := h.lt
  have := g.lt
  exact .canon (by omega) (by rw [pw_succ]; omega)
theorem Nm.mul {a b x y n m} (h : Nm a x n) (g : Nm b y m) : Nm (Num.canon (x * y)) (x * y) (n + m) := by
  refine .canon (Int.mul_nonneg h.pos g.pos) ?_
  rw [pw_add]
  have h5 : x * y ≤ x * pw m := Int.mul_le_mul_of_nonneg_left (Int.le_of_lt g.lt) h.pos
  have h6 : x * pw m < pw n * pw m := Int.mul_lt_mul_of_pos_right h.lt (pw_pos _)
  omega
theorem Nm.sub {a b x y n m} (h : Nm a x n) (g : Nm b y m) (hle : y ≤ x) : Nm (Num.canon (x - y)) (x - y) n := by
  have := h.lt
  have := g.pos
  exact .canon (by omega) (by omega)
theorem Nm.one {x : Int} (h : 0 ≤ x ∧ x < 4294967296) : Nm [x] x 1 := ⟨limbs1 h, val1 x, Nat.le_refl _⟩
theorem Nm.Add_F {a b x y n} (h : Nm a x n) (g : Nm b y n) (hn : n < 70368744177664) : nat_Add.F (a, b, ()) = some (Num.canon (x + y), ()) := by
  rw [Try.Add_F h.limbs g.limbs (Nat.lt_of_le_of_lt h.len hn) (Nat.lt_of_le_of_lt g.len hn), h.val, g.val]
theorem Nm.Mul_F {a b x y n m} (h : Nm a x n) (g : Nm b y m) (hn : n + m ≤ 70368744177664) : nat_Mul.F (a, b, ()) = some (Num.canon (x * y), ()) := by
  rw [Try.Mul_F h.limbs g.limbs (Nat.le_trans (Nat.add_le_add h.len g.len) hn), h.val, g.val]
theorem Nm.Sub_F {a b x y n m} (h : Nm a x n) (g : Nm b y m) (hn : n ≤ 70368744177664) (hm : m ≤ 70368744177664) : nat_Sub.F (a, b, ()) = some (if x < y then ([], 10, ()) else (Num.canon (x - y), 0, ())) := by
  rw [Try.Sub_F h.limbs g.limbs (Nat.le_trans h.len hn) (Nat.le_trans g.len hm), h.val, g.val]
theorem Nm.Cmp_F {a b x y n m} (h : Nm a x n) (g : Nm b y m) (hn : n ≤ 70368744177664) (hm : m ≤ 70368744177664) : nat_Cmp.F (a, b, ()) = some (cmpI x y, ()) := by
  rw [Try.Cmp_F h.limbs g.limbs (Nat.le_trans h.len hn) (Nat.le_trans g.len hm), h.val, g.val]
theorem Nm.Norm_F {a x n} (h : Nm a x n) (hn : n ≤ 70368744177664) : nat_Norm.F (a, ()) = some (Num.canon x, ()) := by
  rw [Try.Norm_F h.limbs (Nat.le_trans h.len hn), h.val]
def blen (n : Nat) : Nat := if n = 0 then 0 else Nat.log2 n + 1
theorem blen_unique {n t : Nat} (h1 : 2 ^ t ≤ n) (h2 : n < 2 ^ (t + 1)) : blen n = t + 1 := by
  have h0 : n ≠ 0 := by have := Nat.two_pow_pos t; omega
  unfold blen
  rw [if_neg h0, (Nat.log2_eq_iff h0).2 ⟨h1, h2⟩]
theorem blen_spec {n : Nat} (h : n ≠ 0) : ∃ t, blen n = t + 1 ∧ 2 ^ t ≤ n ∧ n < 2 ^ (t + 1) := by
  refine ⟨Nat.log2 n, by unfold blen; rw [if_neg h], Nat.log2_self_le h, Nat.lt_log2_self⟩
theorem blen_shift {n k : Nat} (h : 0 < n / 2 ^ k) : blen n = k + blen (n / 2 ^ k) := by
  obtain ⟨t, h1, h2, h3⟩ := blen_spec (Nat.pos_iff_ne_zero.1 h)
  rw [h1, ← Nat.add_assoc]
  have hk := Nat.two_pow_pos k
  refine blen_unique ?_ ?_
  · rw [Nat.add_comm, Nat.pow_add]
    exact (Nat.le_div_iff_mul_le hk).1 h2
  · rw [Nat.add_assoc, Nat.add_comm, Nat.pow_add]
    exact (Nat.div_lt_iff_lt_mul hk).1 h3
def tab : ByteArray := ⟨#[0, 1, 2, 2, 3, 3, 3, 3, 4, 4, 4, 4, 4, 4, 4, 4, 5, 5, 5, 5, 5, 5, 5, 5, 5, 5, 5, 5, 5, 5, 5, 5, 6, 6, 6, 6, 6, 6, 6, 6, 6, 6, 6, 6, 6, 6, 6, 6, 6, 6, 6, 6, 6, 6, 6, 6, 6, 6, 6, 6, 6, 6, 6, 6, 7, 7, 7, 7, 7, 7, 7, 7, 7, 7, 7, 7, 7, 7, 7, 7, 7, 7, 7, 7, 7, 7, 7, 7, 7, 7, 7, 7, 7, 7, 7, 7, 7, 7, 7, 7, 7, 7, 7, 7, 7, 7, 7, 7, 7, 7, 7, 7, 7, 7, 7, 7, 7, 7, 7, 7, 7, 7, 7, 7, 7, 7, 7, 7, 8, 8, 8, 8, 8, 8, 8, 8, 8, 8, 8, 8, 8, 8, 8, 8, 8, 8, 8, 8, 8, 8, 8, 8, 8, 8, 8, 8, 8, 8, 8, 8, 8, 8, 8, 8, 8, 8, 8, 8, 8, 8, 8, 8, 8, 8, 8, 8, 8, 8, 8, 8, 8, 8, 8, 8, 8, 8, 8, 8, 8, 8, 8, 8, 8, 8, 8, 8, 8, 8, 8, 8, 8, 8, 8, 8, 8, 8, 8, 8, 8, 8, 8, 8, 8, 8, 8, 8, 8, 8, 8, 8, 8, 8, 8, 8, 8, 8, 8, 8, 8, 8, 8, 8, 8, 8, 8, 8, 8, 8, 8, 8, 8, 8, 8, 8, 8, 8, 8, 8, 8, 8, 8, 8, 8, 8, 8, 8]⟩
theorem tab_size : ByteArray.size tab = 256 := by decide +kernel
theorem tab_fin : ∀ v : Fin 256, btI tab ((v.val : Nat) : Int) = (blen v.val : Int) := by decide +kernel
theorem tab_at {v : Nat} (h : v < 256) : btI tab (v : Int) = (blen v : Int) := tab_fin ⟨v, h⟩
noncomputable def len32e  (a0 : Int) : Option (Int × Unit) :=
  let v1 := decide (a0 ≥ (65536 : Int))
  bif v1 then (bif decide ((16 : Int) < 0) then none
  else (let v2 := shrI .u32 a0 (16 : Int)
  let v3 := decide (v2 ≥ (256 : Int))
  bif v3 then (bif decide ((8 : Int) < 0) then none
  else (let v4 := shrI .u32 v2 (8 : Int)
  let v5 := IntKind.i64.wrap ((16 : Int) + (8 : Int))
  let v6 := IntKind.u8.wrap v4
  bif decide (0 ≤ v6) && decide (v6 < (ByteArray.size tab : Int)) then (let v7 := btI tab v6
  let v8 := IntKind.i64.wrap v7
  let v9 := IntKind.i64.wrap (v5 + v8)
  some (v9, ()))
  else none))
  else (let v10 := IntKind.u8.wrap v2
  bif decide (0 ≤ v10) && decide (v10 < (ByteArray.size tab : Int)) then (let v11 := btI tab v10
  let v12 := IntKind.i64.wrap v11
  let v13 := IntKind.i64.wrap ((16 : Int) + v12)
  some (v13, ()))
  else none)))
  else (let v14 := decide (a0 ≥ (256 : Int))
  bif v14 then (bif decide ((8 : Int) < 0) then none
  else (let v15 := shrI .u32 a0 (8 : Int)
  let v16 := IntKind.i64.wrap ((0 : Int) + (8 : Int))
  let v17 := IntKind.u8.wrap v15
  bif decide (0 ≤ v17) && decide (v17 < (ByteArray.size tab : Int)) then (let v18 := btI tab v17
  let v19 := IntKind.i64.wrap v18
  let v20 := IntKind.i64.wrap (v16 + v19)
  some (v20, ()))
  else none))
  else (let v21 := IntKind.u8.wrap a0
  bif decide (0 ≤ v21) && decide (v21 < (ByteArray.size tab : Int)) then (let v22 := btI tab v21
  let v23 := IntKind.i64.wrap v22
  let v24 := IntKind.i64.wrap ((0 : Int) + v23)
  some (v24, ()))
  else none))
theorem len32e_eq (x : Int) : bits_Len32.e x = len32e x := by kernel_rfl
theorem shr32 (a : Int) (n : Nat) (h : n ≤ 32) : shrI .u32 a n = a / 2 ^ n := shr_eq .u32 a n h
theorem Len32_F {x : Nat} (hx : x < 4294967296) : bits_Len32.F ((x : Int), ()) = some ((blen x : Int), ()) := by
  refine bits_Len32.of 0 x ?_
  rw [len32e_eq]
  have e16 : shrI .u32 (x : Int) 16 = ((x / 65536 : Nat) : Int) := (shr32 x 16 (by decide)).trans (by omega)
  have e8 : shrI .u32 (x : Int) 8 = ((x / 256 : Nat) : Int) := (shr32 x 8 (by decide)).trans (by omega)
  have e24 : shrI .u32 ((x / 65536 : Nat) : Int) 8 = ((x / 65536 / 256 : Nat) : Int) := (shr32 _ 8 (by decide)).trans (by omega)
  have b8 : ∀ v : Nat, v < 256 → blen v ≤ 8 := by
    intro v hv
    by_cases h0 : v = 0
    · subst h0; decide
    · obtain ⟨t, h1, h2, h3⟩ := blen_spec h0
      by_cases ht : t < 8
      · omega
      · have := Nat.pow_le_pow_right (n := 2) (by decide) (show 8 ≤ t by omega)
        omega
  by_cases h1 : 65536 ≤ x
  · by_cases h2 : 256 ≤ x / 65536
    · have hv : x / 65536 / 256 < 256 := by omega
      have hb := b8 _ hv
      have hs : blen x = 24 + blen (x / 65536 / 256) := by
        have := blen_shift (n := x) (k := 24) (by omega)
        rwa [show x / 2 ^ 24 = x / 65536 / 256 by omega] at this
      simp (disch := omega) only [c_dec, c_beq, c_bne, c_and, c_or, c_not, blt_dec, up1, dn1, if_t, if_f, if_true, if_false, Int.toNat_natCast, Option.bind_some, ne_eq, not_true_eq_false, not_false_eq_true, true_and, and_true, len32e, e16, e24, tab_size, IntWalk.i64_in, IntWalk.u8_in, tab_at hv]
      rw [hs]; simp
    · have hv : x / 65536 < 256 := by omega
      have hb := b8 _ hv
      have hs : blen x = 16 + blen (x / 65536) := blen_shift (n := x) (k := 16) (by omega)
      simp (disch := omega) only [c_dec, c_beq, c_bne, c_and, c_or, c_not, blt_dec, up1, dn1, if_t, if_f, if_true, if_false, Int.toNat_natCast, Option.bind_some, ne_eq, not_true_eq_false, not_false_eq_true, true_and, and_true, len32e, e16, tab_size, IntWalk.i64_in, IntWalk.u8_in, tab_at hv]
      rw [hs]; simp
  · by_cases h2 : 256 ≤ x
    · have hv : x / 256 < 256 := by omega
      have hb := b8 _ hv
      have hs : blen x = 8 + blen (x / 256) := blen_shift (n := x) (k := 8) (by omega)
      simp (disch := omega) only [c_dec, c_beq, c_bne, c_and, c_or, c_not, blt_dec, up1, dn1, if_t, if_f, if_true, if_false, Int.toNat_natCast, Option.bind_some, ne_eq, not_true_eq_false, not_false_eq_true, true_and, and_true, len32e, e8, tab_size, IntWalk.i64_in, IntWalk.u8_in, tab_at hv]
      rw [hs]; simp
    · have hv : x < 256 := by omega
      have hb := b8 _ hv
      simp (disch := omega) only [c_dec, c_beq, c_bne, c_and, c_or, c_not, blt_dec, up1, dn1, if_t, if_f, if_true, if_false, Int.toNat_natCast, Option.bind_some, ne_eq, not_true_eq_false, not_false_eq_true, true_and, and_true, len32e, tab_size, IntWalk.i64_in, IntWalk.u8_in, tab_at hv]
      simp
theorem pw_two (n : Nat) : pw n = 2 ^ (32 * n) := by
  unfold pw
  rw [Int.pow_mul]; rfl
theorem two_pos (n : Nat) : (0 : Int) < 2 ^ n := Int.pow_pos (by decide)
/-- A number's limbs from a place on. -/
theorem val_div {a : List Int} (ha : Limbs a) {q : Nat} (hq : q ≤ a.length) : val a / pw q = val (a.drop q) := by
  have h1 := val_take_drop a q hq
  have h2 := val_lt (ha.take q)
  have h3 := val_nonneg (ha.take q)
  have h4 := pw_pos q
  rw [List.length_take, Nat.min_eq_left hq] at h2
  rw [h1, Int.add_mul_ediv_left _ _ (by omega), Int.ediv_eq_zero_of_lt h3 h2, Int.zero_add]
theorem blen_int {v : Int} {t : Nat} (h1 : 2 ^ t ≤ v) (h2 : v < 2 ^ (t + 1)) : blen v.toNat = t + 1 := by
  have h3 := two_pos t
  obtain ⟨n, rfl⟩ := Int.eq_ofNat_of_zero_le (show 0 ≤ v by omega)
  rw [Int.toNat_natCast]
  exact blen_unique (by exact_mod_cast h1) (by exact_mod_cast h2)
theorem Bits_F {a : List Int} (ha : Limbs a) (la : a.length ≤ 70368744177664) : nat_Bits.F (a, ()) = some ((blen (val a).toNat : Int), ()) := by
  refine nat_Bits.of 0 a ?_
  have hc := canon_nrm (val a)
  have hv := val_canon (val_nonneg ha)
  have hl := canon_val_len ha
  simp only [nat_Bits.e, trim_F ha la, Option.bind_some]
  rw [← hv, hv]
  generalize canon (val a) = c at hc hv hl ⊢
  rw [← hv]
  by_cases h0 : c.length = 0
  · rw [List.length_eq_zero_iff.1 h0]; rfl
  · obtain ⟨m, hm⟩ : ∃ m, c.length = m + 1 := ⟨c.length - 1, by omega⟩
    have hg := hc.1.get m
    have hz : c.getD m 0 ≠ 0 := by
      have := hc.2.resolve_left h0
      rwa [hm, Nat.add_sub_cancel] at this
    obtain ⟨x, hx⟩ := Int.eq_ofNat_of_zero_le hg.1
    have hx0 : x ≠ 0 := by omega
    obtain ⟨t, h1, h2, h3⟩ := blen_spec hx0
    have ht : t < 32 := by
      by_cases h : t < 32
      · exact h
      · have := Nat.pow_le_pow_right (n := 2) (by decide) (show 32 ≤ t by omega)
        omega
    have e1 := val_take_succ (a := c) (i := m) (by omega)
    rw [← hm, List.take_length, hx] at e1
    have h4 := val_lt (hc.1.take m)
    have h5 := val_nonneg (hc.1.take m)
    rw [List.length_take, Nat.min_eq_left (by omega)] at h4
    have hp := pw_pos m
    have h2' : (2 : Int) ^ t ≤ x := by exact_mod_cast h2
    have h3' : (x : Int) + 1 ≤ 2 ^ (t + 1) := by exact_mod_cast h3
    have hb : blen (val c).toNat = 32 * m + t + 1 := by
      refine blen_int ?_ ?_
      · rw [Int.pow_add, ← pw_two, Int.mul_comm]
        have := Int.mul_le_mul_of_nonneg_right h2' (Int.le_of_lt hp)
        omega
      · rw [Nat.add_assoc, Int.pow_add, ← pw_two, Int.mul_comm]
        have := Int.mul_le_mul_of_nonneg_right h3' (Int.le_of_lt hp)
        rw [Int.add_mul] at this
        omega
    have hL := Len32_F (x := x) (by omega)
    have e2 : (c.length : Int) - 1 = m := by omega
    simp (disch := omega) only [c_dec, c_beq, c_bne, c_and, c_or, c_not, blt_dec, up1, dn1, if_t, if_f, if_true, if_false, Int.toNat_natCast, Option.bind_some, ne_eq, not_true_eq_false, not_false_eq_true, true_and, and_true, e2, hm, sub1, IntWalk.i64_in, hx, hL, h1, hb]
    rw [show ((32 * m + t + 1 : Nat) : Int) = 32 * (m : Int) + ((t + 1 : Nat) : Int) by omega]
theorem c_t {α : Type} {p : Prop} {d : Decidable p} (h : p) (a b : α) : (bif @decide p d then a else b) = a := by rw [decide_eq_true h]; rfl
theorem n_drop_next {a : List Int} {q : Nat} (h : q < a.length) : a.drop q = a.getD q 0 :: a.drop (q + 1) := by
  rw [List.drop_eq_getElem_cons h]
  simp [List.getD, h]
theorem drop_set_same {a : List Int} {q : Nat} {v : Int} (h : q < a.length) : (a.set q v).drop q = v :: a.drop (q + 1) := by
  rw [n_drop_next (by simpa using h), getD_set h, if_pos rfl]
  congr 1
  rw [List.drop_set]; simp
theorem div_unique {x q b r : Int} (h : x = q * b + r) (h0 : 0 ≤ r) (h1 : r < b) : x / b = q ∧ x % b = r := by
  subst h
  rw [Int.mul_comm, Int.add_comm]
  constructor
  · rw [Int.add_mul_ediv_left _ _ (by omega), Int.ediv_eq_zero_of_lt h0 h1, Int.zero_add]
  · rw [Int.add_mul_emod_self_left, Int.emod_eq_of_lt h0 h1]
theorem hi_bound {hi lo y : Int} (h : 0 ≤ hi ∧ hi < y) (hy : y < 4294967296) (hl : 0 ≤ lo ∧ lo < 4294967296) :
    0 ≤ (lo + 4294967296 * hi) / y ∧ (lo + 4294967296 * hi) / y < 4294967296 ∧ 0 ≤ (lo + 4294967296 * hi) % y ∧ (lo + 4294967296 * hi) % y < y := by
  have h1 := Int.ediv_nonneg (a := lo + 4294967296 * hi) (b := y) (by omega) (by omega)
  have h2 := (Int.ediv_lt_iff_lt_mul (a := lo + 4294967296 * hi) (b := 4294967296) (c := y) (by omega)).2 (by omega)
  have h3 := Int.emod_nonneg (lo + 4294967296 * hi) (b := y) (by omega)
  have h4 := Int.emod_lt_of_pos (lo + 4294967296 * hi) (b := y) (by omega)
  omega
theorem Div32_F {hi lo y : Int} (h : 0 ≤ hi ∧ hi < y) (hy : y < 4294967296) (hl : 0 ≤ lo ∧ lo < 4294967296) : bits_Div32.F (hi, lo, y, ()) = some ((lo + 4294967296 * hi) / y, (lo + 4294967296 * hi) % y, ()) := by
  refine bits_Div32.of 0 hi lo y ?_
  have hb := hi_bound h hy hl
  have e := or64_lo hl (show 0 ≤ hi ∧ hi < 4294967296 by omega)
  rw [← shl64_32] at e
  simp (disch := omega) only [c_dec, c_beq, c_bne, c_and, c_or, c_not, blt_dec, up1, dn1, if_t, if_f, if_true, if_false, Int.toNat_natCast, Option.bind_some, ne_eq, not_true_eq_false, not_false_eq_true, true_and, and_true, bits_Div32.e, IntWalk.u64_in, IntWalk.u32_in, e, IntWalk.u64_quo, IntWalk.rem_in]
/-- What a division by one limb keeps. -/
def ShortInv (a : List Int) (b : Int) (n : Nat) (q : List Int) (r : Int) : Prop :=
  n ≤ a.length ∧ q.length = a.length ∧ Limbs q ∧ (0 ≤ r ∧ r < b) ∧ val (a.drop n) = val (q.drop n) * b + r
theorem ShortInv.start {a : List Int} {b : Int} (hb : 0 < b) : ShortInv a b a.length (List.replicate a.length 0) 0 :=
  ⟨Nat.le_refl _, by simp, Limbs.zeros _, ⟨Int.le_refl _, hb⟩, by simp [val_nil]⟩
theorem ShortInv.next {a : List Int} {b : Int} {m : Nat} {q : List Int} {r : Int} (ha : Limbs a) (hb : b < 4294967296) (h : ShortInv a b (m + 1) q r) :
    ShortInv a b m (q.set m ((a.getD m 0 + 4294967296 * r) / b)) ((a.getD m 0 + 4294967296 * r) % b) := by
  obtain ⟨h1, h2, h3, h4, h5⟩ := h
  have g := ha.get m
  have hh := hi_bound h4 hb g
  refine ⟨by omega, by simpa using h2, h3.set m ⟨hh.1, hh.2.1⟩, ⟨hh.2.2.1, hh.2.2.2⟩, ?_⟩
  rw [n_drop_next (by omega), drop_set_same (by omega), val_cons, val_cons, h5]
  have := Int.mul_ediv_add_emod (a.getD m 0 + 4294967296 * r) b
  rw [Int.add_mul, Int.mul_add, Int.mul_assoc, Int.mul_comm ((a.getD m 0 + 4294967296 * r) / b)]
  omega
theorem ShortInv.last {a : List Int} {b : Int} {q : List Int} {r : Int} (h : ShortInv a b 0 q r) : val q = val a / b ∧ r = val a % b := by
  obtain ⟨h1, h2, h3, h4, h5⟩ := h
  rw [List.drop_zero, List.drop_zero] at h5
  have := div_unique h5 h4.1 h4.2
  exact ⟨this.1.symm, this.2.symm⟩
theorem short_F {a : List Int} {b : Int} (ha : Limbs a) (la : a.length ≤ 70368744177664) (hb : 0 < b ∧ b < 4294967296) :
    ∃ q, nat_short.F (a, b, ()) = some (q, val a % b, ()) ∧ Limbs q ∧ q.length = a.length ∧ val q = val a / b := by
  obtain ⟨q, ⟨hq1, hq2, hq3⟩, j, hj⟩ := reach (fun k (s : Nat × List Int × Int) => nat_short.L4 k a b s.2.1 s.2.2 ((s.1 : Int) - 1)) (fun k (q : List Int) => some (q, val a % b, ())) (fun s => ShortInv a b s.1 s.2.1 s.2.2) (fun s => s.1) (fun q => Limbs q ∧ q.length = a.length ∧ val q = val a / b) (fun s hs => by
    obtain ⟨n, q, r⟩ := s
    rcases n with _ | m
    · have hl := hs.last
      obtain ⟨h1, h2, h3, h4, h5⟩ := hs
      simp only at hl
      refine .inr ⟨q, ⟨h3, h2, hl.1⟩, 1, fun k => ?_⟩
      simp (disch := omega) only [c_dec, c_beq, c_bne, c_and, c_or, c_not, blt_dec, up1, dn1, if_t, if_f, if_true, if_false, Int.toNat_natCast, Option.bind_some, ne_eq, not_true_eq_false, not_false_eq_true, true_and, and_true, nat_short.L4_succ, nat_short.b4, sub0, hl]
    · have hn := hs.next ha hb.2
      obtain ⟨h1, h2, h3, h4, h5⟩ := hs
      simp only at h1 h2 h4
      refine .inl ⟨(m, _, _), hn, Nat.lt_succ_self m, 1, fun k => ?_⟩
      simp (disch := omega) only [c_dec, c_beq, c_bne, c_and, c_or, c_not, blt_dec, up1, dn1, if_t, if_f, if_true, if_false, Int.toNat_natCast, Option.bind_some, ne_eq, not_true_eq_false, not_false_eq_true, true_and, and_true, nat_short.L4_succ, nat_short.b4, sub1, Div32_F h4 hb.2 (ha.get m), IntWalk.i64_in]) (a.length, List.replicate a.length 0, 0) (ShortInv.start hb.1)
  refine ⟨q, nat_short.of (0 + j) a b ?_, hq1, hq2, hq3⟩
  simp (disch := omega) only [c_dec, c_beq, c_bne, c_and, c_or, c_not, blt_dec, up1, dn1, if_t, if_f, if_true, if_false, Int.toNat_natCast, Option.bind_some, ne_eq, not_true_eq_false, not_false_eq_true, true_and, and_true, nat_short.e, IntWalk.i64_in]
  exact hj 0
theorem two_nat (n : Nat) : ((2 ^ n : Nat) : Int) = 2 ^ n := by push_cast; rfl
theorem two_split {u : Nat} (h : u ≤ 32) : (4294967296 : Int) = 2 ^ u * 2 ^ (32 - u) := by
  rw [← Int.pow_add, show u + (32 - u) = 32 by omega]; decide
theorem shift_parts {x : Int} {u : Nat} (hx : 0 ≤ x ∧ x < 4294967296) (hu : u < 32) :
    (x * 2 ^ u) % 4294967296 + 4294967296 * (x / 2 ^ (32 - u)) = x * 2 ^ u ∧ 0 ≤ x / 2 ^ (32 - u) ∧ x / 2 ^ (32 - u) < 2 ^ u ∧ ∃ z, 0 ≤ z ∧ (x * 2 ^ u) % 4294967296 = 2 ^ u * z := by
  have hB := two_split (u := u) (by omega)
  have p1 := two_pos u
  have p2 := two_pos (32 - u)
  have e : x * 2 ^ u / 4294967296 = x / 2 ^ (32 - u) := by
    rw [hB, Int.mul_comm x, Int.mul_ediv_mul_of_pos _ _ p1]
  refine ⟨by have := Int.emod_add_mul_ediv (x * 2 ^ u) 4294967296; rw [e] at this; exact this, Int.ediv_nonneg hx.1 (Int.le_of_lt p2), ?_, x % 2 ^ (32 - u), Int.emod_nonneg _ (by omega), ?_⟩
  · rw [Int.ediv_lt_iff_lt_mul p2, ← hB]; exact hx.2
  · rw [hB, Int.mul_comm x, Int.mul_emod_mul_of_pos _ _ p1]
theorem moved_F {a : List Int} {up : Nat} (ha : Limbs a) (la : a.length < 70368744177664) (hu : up < 32) :
    ∃ c, nat_moved.F (a, (up : Int), ()) = some (c, ()) ∧ Limbs c ∧ c.length = a.length + 1 ∧ val c = val a * 2 ^ up := by
  have p1 := two_pos up
  have p32 : (2 : Int) ^ up < 4294967296 := by
    have : (2 : Nat) ^ up < 2 ^ 32 := Nat.pow_lt_pow_right (by decide) hu
    have h := two_nat up
    omega
  obtain ⟨c, ⟨h1, h2, h3⟩, j, hj⟩ := upTo (fun k (s : Nat × List Int) => nat_moved.L3 k a up s.2 a.length (s.1 : Int)) (fun k (c : List Int) => some (c, ()))
    (fun i c => c.length = a.length + 1 ∧ Limbs c ∧ (∀ j, i < j → c.getD j 0 = 0) ∧ c.getD i 0 < 2 ^ up ∧ val c = val (a.take i) * 2 ^ up) (fun c => Limbs c ∧ c.length = a.length + 1 ∧ val c = val a * 2 ^ up) a.length
    (fun i c hi ⟨h1, h2, h3, h4, h5⟩ => by
      have ga := ha.get i
      have gc := h2.get i
      obtain ⟨s1, s2, s3, z, s4, s5⟩ := shift_parts ga hu
      have e1 : shlI .u32 (a.getD i 0) up = (a.getD i 0 * 2 ^ up) % 4294967296 := by rw [shl_eq .u32 _ up (by show up ≤ 32; omega), w32]
      have e2 : bitsOp .or .u32 (c.getD i 0) ((a.getD i 0 * 2 ^ up) % 4294967296) = (a.getD i 0 * 2 ^ up) % 4294967296 + c.getD i 0 :=
        or32_add' up z s5 s4 ⟨gc.1, h4⟩ (by
          have hm : (a.getD i 0 * 2 ^ up) % 4294967296 ≤ 4294967296 - 2 ^ up := by
            rw [s5]
            have hB := two_split (u := up) (by omega)
            have hlt : 2 ^ up * z < 2 ^ up * 2 ^ (32 - up) := by rw [← hB, ← s5]; omega
            have := Int.lt_of_mul_lt_mul_left hlt (Int.le_of_lt p1)
            have h8 : 2 ^ up * z ≤ 2 ^ up * (2 ^ (32 - up) - 1) := Int.mul_le_mul_of_nonneg_left (by omega) (Int.le_of_lt p1)
            rw [Int.mul_sub, ← hB, Int.mul_one] at h8
            exact h8
          omega)
      have e3 : (32 : Int) - (up : Int) = ((32 - up : Nat) : Int) := by omega
      have e4 : shrI .u64 (a.getD i 0) ((32 - up : Nat) : Int) = a.getD i 0 / 2 ^ (32 - up) := shr_eq .u64 _ _ (by show 32 - up ≤ 64; omega)
      have hb : (a.getD i 0 * 2 ^ up) % 4294967296 + c.getD i 0 < 4294967296 := by
        have h0 := s1
        have hm : 0 ≤ (a.getD i 0 * 2 ^ up) % 4294967296 := Int.emod_nonneg _ (by decide)
        have hB := two_split (u := up) (by omega)
        have hlt : 2 ^ up * z < 2 ^ up * 2 ^ (32 - up) := by rw [← hB, ← s5]; omega
        have := Int.lt_of_mul_lt_mul_left hlt (Int.le_of_lt p1)
        have h8 : 2 ^ up * z ≤ 2 ^ up * (2 ^ (32 - up) - 1) := Int.mul_le_mul_of_nonneg_left (by omega) (Int.le_of_lt p1)
        rw [Int.mul_sub, ← hB, Int.mul_one] at h8
        omega
      have hm : 0 ≤ (a.getD i 0 * 2 ^ up) % 4294967296 := Int.emod_nonneg _ (by decide)
      refine ⟨(c.set i ((a.getD i 0 * 2 ^ up) % 4294967296 + c.getD i 0)).set (i + 1) (a.getD i 0 / 2 ^ (32 - up)), ⟨by simpa using h1, (h2.set i ⟨by omega, hb⟩).set (i + 1) (by omega), fun j hj => ?_, ?_, ?_⟩, 1, fun k => ?_⟩
      · rw [getD_set (by simp; omega), if_neg (by omega), getD_set (by omega), if_neg (by omega)]; exact h3 j (by omega)
      · rw [getD_set (by simp; omega), if_pos rfl]; exact s3
      · have hn := carry_step (c := c) (i := i) (v := (a.getD i 0 * 2 ^ up) % 4294967296 + c.getD i 0) (carry := 0) (carry' := a.getD i 0 / 2 ^ (32 - up)) (x := a.getD i 0 * 2 ^ up) (S := val c) (by omega) (by omega) (by omega)
        rw [val_set _ (by simp; omega), getD_set (by omega), if_neg (by omega), h3 (i + 1) (by omega), Int.sub_zero, hn, h5, val_take_next, Int.add_mul, Int.mul_assoc, Int.mul_comm (2 ^ up), Int.mul_assoc]
      · simp (disch := omega) only [c_dec, c_beq, c_bne, c_and, c_or, c_not, blt_dec, up1, dn1, if_t, if_f, if_true, if_false, Int.toNat_natCast, Option.bind_some, ne_eq, not_true_eq_false, not_false_eq_true, true_and, and_true, nat_moved.L3_succ, nat_moved.b3, e1, e2, e3, e4, IntWalk.i64_in, IntWalk.u64_in, IntWalk.u32_in, List.length_set, Int.toNat_natCast]
        rw [show (i : Int) + 1 = ((i + 1 : Nat) : Int) by omega, Int.toNat_natCast])
    (fun c ⟨h1, h2, h3, h4, h5⟩ => by
      rw [List.take_length] at h5
      refine ⟨c, ⟨h2, h1, h5⟩, 1, fun k => ?_⟩
      simp (disch := omega) only [c_dec, c_beq, c_bne, c_and, c_or, c_not, blt_dec, up1, dn1, if_t, if_f, if_true, if_false, Int.toNat_natCast, Option.bind_some, ne_eq, not_true_eq_false, not_false_eq_true, true_and, and_true, nat_moved.L3_succ, nat_moved.b3]) 0 (List.replicate (a.length + 1) 0) (Nat.zero_le _) ⟨by simp, Limbs.zeros _, fun j _ => getD_zeros _ _, by rw [getD_zeros]; exact p1, by simp [val_zeros, val_nil]⟩
  refine ⟨c, nat_moved.of (0 + j) a up ?_, h1, h2, h3⟩
  simp (disch := omega) only [c_dec, c_beq, c_bne, c_and, c_or, c_not, blt_dec, up1, dn1, if_t, if_f, if_true, if_false, Int.toNat_natCast, Option.bind_some, ne_eq, not_true_eq_false, not_false_eq_true, true_and, and_true, nat_moved.e]
  exact hj 0
/-- A divisor V of two limbs at least, what is divided (U), and the quotient's digit q. -/
structure Guess (v1 v2 vl u2 ul top P1 P2 V U q : Int) : Prop where
  hV : V = v1 * P1 + v2 * P2 + vl
  hU : U = top * P1 + u2 * P2 + ul
  hP : P1 = 4294967296 * P2
  p2 : 0 < P2
  v1 : 2147483648 ≤ v1 ∧ v1 < 4294967296
  v2 : 0 ≤ v2 ∧ v2 < 4294967296
  vl : 0 ≤ vl ∧ vl < P2
  u2 : 0 ≤ u2 ∧ u2 < 4294967296
  ul : 0 ≤ ul ∧ ul < P2
  lo : q * V ≤ U
  hi : U < (q + 1) * V
  q : 0 ≤ q ∧ q < 4294967296
  top : 0 ≤ top
section
variable {v1 v2 vl u2 ul top P1 P2 V U q : Int}
theorem Guess.vpos (h : Guess v1 v2 vl u2 ul top P1 P2 V U q) : 0 < V := by
  have h1 := h.hV
  have hP := h.hP
  have p2 := h.p2
  have a1 : 1 * P1 ≤ v1 * P1 := Int.mul_le_mul_of_nonneg_right (by have := h.v1; omega) (by omega)
  have a2 : 0 ≤ v2 * P2 := Int.mul_nonneg h.v2.1 (by omega)
  have := h.vl
  omega
theorem Guess.le_of {g : Int} (h : Guess v1 v2 vl u2 ul top P1 P2 V U q) (hg : g * V ≤ U) : g ≤ q := by
  have hv := h.vpos
  by_cases hc : g ≤ q
  · exact hc
  · have : (q + 1) * V ≤ g * V := Int.mul_le_mul_of_nonneg_right (by omega) (by omega)
    have := h.hi
    omega
theorem Guess.expand (h : Guess v1 v2 vl u2 ul top P1 P2 V U q) (g : Int) : g * V = (g * v1) * P1 + (g * v2) * P2 + g * vl := by
  rw [h.hV, Int.mul_add, Int.mul_add, ← Int.mul_assoc, ← Int.mul_assoc]
theorem Guess.top_le (h : Guess v1 v2 vl u2 ul top P1 P2 V U q) : top * P1 ≤ U := by
  have := h.hU
  have := h.ul
  have := Int.mul_nonneg h.u2.1 (Int.le_of_lt h.p2)
  omega
/-- The first guess is not too small. -/
theorem Guess.first (h : Guess v1 v2 vl u2 ul top P1 P2 V U q) : q ≤ top / v1 := by
  have hP := h.hP
  have p2 := h.p2
  have v1p := h.v1
  refine (Int.le_ediv_iff_mul_le (by omega)).2 ?_
  have e := h.expand q
  have a1 : 0 ≤ (q * v2) * P2 := Int.mul_nonneg (Int.mul_nonneg h.q.1 h.v2.1) (by omega)
  have a2 : 0 ≤ q * vl := Int.mul_nonneg h.q.1 h.vl.1
  have lo := h.lo
  have hU := h.hU
  have ul := h.ul
  have b1 : u2 * P2 ≤ 4294967295 * P2 := Int.mul_le_mul_of_nonneg_right (by have := h.u2; omega) (by omega)
  have b2 : (q * v1) * P1 < (top + 1) * P1 := by rw [Int.add_mul]; omega
  have := Int.lt_of_mul_lt_mul_right b2 (by omega)
  omega
theorem Guess.down {g rest : Int} (h : Guess v1 v2 vl u2 ul top P1 P2 V U q) (hg : 0 ≤ g) (ht : g * v1 + rest = top) (hc : rest * 4294967296 + u2 < g * v2) : q < g := by
  by_cases hle : g ≤ q
  · exfalso
    have hv := h.vpos
    have hP := h.hP
    have p2 := h.p2
    have a0 : g * V ≤ q * V := Int.mul_le_mul_of_nonneg_right hle (by omega)
    have e := h.expand g
    have a1 : (rest * 4294967296 + u2 + 1) * P2 ≤ (g * v2) * P2 := Int.mul_le_mul_of_nonneg_right (by omega) (by omega)
    have a2 : 0 ≤ g * vl := Int.mul_nonneg hg h.vl.1
    have lo := h.lo
    have hU := h.hU
    have ul := h.ul
    have e2 : top * P1 = (g * v1) * P1 + rest * P1 := by rw [← ht, Int.add_mul]
    have e3 : rest * P1 = 4294967296 * (rest * P2) := by rw [hP, Int.mul_left_comm]
    have e4 : (rest * 4294967296 + u2 + 1) * P2 = 4294967296 * (rest * P2) + u2 * P2 + P2 := by rw [Int.add_mul, Int.add_mul, Int.mul_assoc, Int.mul_left_comm, Int.one_mul]
    omega
  · omega
theorem Guess.stop {g rest : Int} (h : Guess v1 v2 vl u2 ul top P1 P2 V U q) (hg : 0 ≤ g ∧ g < 4294967296) (ht : g * v1 + rest = top) (hc : g * v2 ≤ rest * 4294967296 + u2) : g ≤ q + 1 := by
  have hv := h.vpos
  have hP := h.hP
  have p2 := h.p2
  have e := h.expand g
  have a1 : (g * v2) * P2 ≤ (rest * 4294967296 + u2) * P2 := Int.mul_le_mul_of_nonneg_right hc (by omega)
  have a2 : g * vl ≤ 4294967295 * vl := Int.mul_le_mul_of_nonneg_right (by omega) h.vl.1
  have a3 : 1 * P1 ≤ v1 * P1 := Int.mul_le_mul_of_nonneg_right (by have := h.v1; omega) (by omega)
  have a4 : 0 ≤ v2 * P2 := Int.mul_nonneg h.v2.1 (by omega)
  have hU := h.hU
  have hV := h.hV
  have ul := h.ul
  have vl := h.vl
  have e2 : top * P1 = (g * v1) * P1 + rest * P1 := by rw [← ht, Int.add_mul]
  have e3 : rest * P1 = 4294967296 * (rest * P2) := by rw [hP, Int.mul_left_comm]
  have e4 : (rest * 4294967296 + u2) * P2 = 4294967296 * (rest * P2) + u2 * P2 := by rw [Int.add_mul, Int.mul_assoc, Int.mul_left_comm]
  have : (g - 1) * V ≤ U := by rw [Int.sub_mul, Int.one_mul]; omega
  have := h.le_of this
  omega
theorem Guess.great {g rest : Int} (h : Guess v1 v2 vl u2 ul top P1 P2 V U q) (hg : 0 ≤ g ∧ g ≤ 4294967296) (ht : g * v1 + rest = top) (hc : 4294967296 ≤ rest) : g ≤ q := by
  have hv := h.vpos
  have hP := h.hP
  have p2 := h.p2
  have e := h.expand g
  refine h.le_of ?_
  have a1 : v2 * P2 ≤ 4294967295 * P2 := Int.mul_le_mul_of_nonneg_right (by have := h.v2; omega) (by omega)
  have hvl := h.vl
  have a2 : g * (v2 * P2 + vl) ≤ g * P1 := Int.mul_le_mul_of_nonneg_left (by omega) hg.1
  have a3 : g * P1 ≤ 4294967296 * P1 := Int.mul_le_mul_of_nonneg_right hg.2 (by omega)
  have a4 : 4294967296 * P1 ≤ rest * P1 := Int.mul_le_mul_of_nonneg_right hc (by omega)
  have e2 : top * P1 = (g * v1) * P1 + rest * P1 := by rw [← ht, Int.add_mul]
  have e3 : g * (v2 * P2 + vl) = (g * v2) * P2 + g * vl := by rw [Int.mul_add, ← Int.mul_assoc]
  have ht := h.top_le
  omega
end
theorem getD_mid {pre u post : List Int} {i : Nat} (h : i < u.length) : (pre ++ u ++ post).getD (pre.length + i) 0 = u.getD i 0 := by
  simp only [List.getD, List.append_assoc]
  rw [List.getElem?_append_right (by omega), Nat.add_sub_cancel_left, List.getElem?_append_left h]
theorem set_mid {pre u post : List Int} {i : Nat} {x : Int} (h : i < u.length) : (pre ++ u ++ post).set (pre.length + i) x = pre ++ u.set i x ++ post := by
  rw [List.append_assoc, List.set_append_right _ _ (by omega), Nat.add_sub_cancel_left, List.set_append_left _ _ h, List.append_assoc]
/-- What taking a multiple away keeps: i limbs are done. -/
def TakeInv (u0 v : List Int) (g : Int) (i : Nat) (u : List Int) (b c : Int) : Prop :=
  u.length = u0.length ∧ Limbs u ∧ (0 ≤ b ∧ b ≤ 1) ∧ (0 ≤ c ∧ c < 4294967296) ∧ val u = val u0 - g * val (v.take i) + (c + b) * pw i
theorem TakeInv.next {u0 v : List Int} {g : Int} {i : Nat} {u : List Int} {b c : Int} (h : TakeInv u0 v g i u b c) (hg : 0 ≤ g ∧ g < 4294967296) (hv : Limbs v) (hi : i < u0.length) :
    let t := g * v.getD i 0 + c
    (0 ≤ t ∧ t < 18446744073709551616) ∧ TakeInv u0 v g (i + 1) (u.set i ((u.getD i 0 - t % 4294967296 - b) % 4294967296)) (if u.getD i 0 < t % 4294967296 + b then 1 else 0) (t / 4294967296) := by
  obtain ⟨h1, h2, h3, h4, h5⟩ := h
  have gv := hv.get i
  have gu := h2.get i
  have gm := mul_bound hg gv
  intro t
  have ht : t = g * v.getD i 0 + c := rfl
  refine ⟨by omega, by simpa using h1, h2.set i (by omega), by split <;> omega, by omega, ?_⟩
  have hb : ∃ b', b' = (if u.getD i 0 < t % 4294967296 + b then (1 : Int) else 0) ∧ (u.getD i 0 - t % 4294967296 - b) % 4294967296 = u.getD i 0 - t % 4294967296 - b + 4294967296 * b' := ⟨_, rfl, by split <;> omega⟩
  obtain ⟨b', hb', e⟩ := hb
  rw [← hb', val_set _ (by omega), e, h5, val_take_next, pw_succ]
  have e2 : u.getD i 0 - t % 4294967296 - b + 4294967296 * b' - u.getD i 0 = -(g * v.getD i 0) - (c + b) + (t / 4294967296 + b') * 4294967296 := by omega
  rw [e2, Int.mul_add g, Int.add_mul (-(g * v.getD i 0) - (c + b)), Int.sub_mul (-(g * v.getD i 0)), Int.neg_mul, Int.mul_assoc g, Int.mul_assoc (t / 4294967296 + b')]
  omega
/-- So many limbs of a number. -/
def pad : Nat → Int → List Int
  | 0, _ => []
  | n + 1, x => (x % 4294967296) :: pad n (x / 4294967296)
theorem pad_of {a : List Int} (h : Limbs a) : pad a.length (val a) = a := by
  induction a with
  | nil => rfl
  | cons x r ih =>
    have hx := h.head
    have e1 : (x + 4294967296 * val r) % 4294967296 = x := by omega
    have e2 : (x + 4294967296 * val r) / 4294967296 = val r := by omega
    rw [List.length_cons, val_cons, pad, e1, e2, ih h.tail]
theorem pad_spec : ∀ (n : Nat) (x : Int), 0 ≤ x → x < pw n → Limbs (pad n x) ∧ (pad n x).length = n ∧ val (pad n x) = x
  | 0, x, h, h' => ⟨Limbs.nil, rfl, by rw [pw_zero] at h'; rw [show pad 0 x = [] from rfl, val_nil]; omega⟩
  | n + 1, x, h, h' => by
    rw [pw_succ] at h'
    obtain ⟨h1, h2, h3⟩ := pad_spec n (x / 4294967296) (by omega) (by omega)
    rw [pad]
    exact ⟨Limbs.cons (by omega) h1, by rw [List.length_cons, h2], by rw [val_cons, h3]; omega⟩
theorem digit_F {pre u post v : List Int} {m : Nat} (hu : Limbs u) (hv : Limbs v) (lv : v.length = m + 2) (lu : u.length = m + 3) (hm : m < 70368744177664) (hn : 2147483648 ≤ v.getD (m + 1) 0) (hlt : val u < 4294967296 * val v) :
    nat_digit.F (pre ++ u ++ post) pre.length (m + 3) (v, ()) = some ((val u / val v, ()), pre ++ pad (m + 3) (val u % val v) ++ post) := by
  have g0 := hu.get m
  have g1 := hu.get (m + 1)
  have g2 := hu.get (m + 2)
  have k0 := hv.get m
  have k1 := hv.get (m + 1)
  have eV : val v = v.getD (m + 1) 0 * pw (m + 1) + v.getD m 0 * pw m + val (v.take m) := by
    have e1 := val_take_succ (a := v) (i := m + 1) (by omega)
    have e2 := val_take_succ (a := v) (i := m) (by omega)
    rw [show m + 1 + 1 = v.length by omega, List.take_length] at e1
    omega
  have eU : val u = (u.getD (m + 1) 0 + 4294967296 * u.getD (m + 2) 0) * pw (m + 1) + u.getD m 0 * pw m + val (u.take m) := by
    have e1 := val_take_succ (a := u) (i := m + 2) (by omega)
    have e2 := val_take_succ (a := u) (i := m + 1) (by omega)
    have e3 := val_take_succ (a := u) (i := m) (by omega)
    rw [show m + 2 + 1 = u.length by omega, List.take_length, pw_succ (m + 1)] at e1
    have e4 : u.getD (m + 2) 0 * (4294967296 * pw (m + 1)) = 4294967296 * (u.getD (m + 2) 0 * pw (m + 1)) := Int.mul_left_comm _ _ _
    rw [show m + 1 + 1 = m + 2 from rfl] at e2
    rw [Int.add_mul, Int.mul_assoc]
    omega
  have lvt : (v.take m).length = m := by simp; omega
  have lut : (u.take m).length = m := by simp; omega
  have hvt := val_lt (hv.take m)
  have hut := val_lt (hu.take m)
  rw [lvt] at hvt
  rw [lut] at hut
  have hV0 : 0 < val v := by
    have p1 := pw_pos (m + 1)
    have : 1 * pw (m + 1) ≤ v.getD (m + 1) 0 * pw (m + 1) := Int.mul_le_mul_of_nonneg_right (by omega) (by omega)
    have : 0 ≤ v.getD m 0 * pw m := Int.mul_nonneg k0.1 (Int.le_of_lt (pw_pos m))
    have := val_nonneg (hv.take m)
    omega
  have hU0 := val_nonneg hu
  have hq0 := Int.ediv_nonneg hU0 (Int.le_of_lt hV0)
  have hq1 : val u / val v < 4294967296 := by rw [Int.ediv_lt_iff_lt_mul hV0]; exact hlt
  have hdm := Int.mul_ediv_add_emod (val u) (val v)
  have hr0 := Int.emod_nonneg (val u) (b := val v) (by omega)
  have hr1 := Int.emod_lt_of_pos (val u) hV0
  have G : Guess (v.getD (m + 1) 0) (v.getD m 0) (val (v.take m)) (u.getD m 0) (val (u.take m)) (u.getD (m + 1) 0 + 4294967296 * u.getD (m + 2) 0) (pw (m + 1)) (pw m) (val v) (val u) (val u / val v) :=
    ⟨eV, eU, pw_succ m, pw_pos m, ⟨hn, k1.2⟩, k0, ⟨val_nonneg (hv.take m), hvt⟩, g0, ⟨val_nonneg (hu.take m), hut⟩, by rw [Int.mul_comm]; omega, by rw [Int.add_mul, Int.one_mul, Int.mul_comm]; omega, ⟨hq0, hq1⟩, by omega⟩
  generalize hQ : val u / val v = q at G hq0 hq1 hdm ⊢
  generalize hR : val u % val v = r at hr0 hr1 hdm ⊢
  have hmx : (m + 2 : Nat) < 4611686018427387904 := by omega
  have hUv : val u = q * val v + r := by rw [Int.mul_comm]; omega
  have hvl := val_lt hv
  rw [lv] at hvl
  refine nat_digit.of (pre ++ u ++ post) pre.length (m + 3) v (q, ()) _ fun g => ?_
  -- behind the guess: if one more is taken away, it is given back
  have back : ∀ w : List Int, w.length = m + 3 → Limbs w → val w = val u - (q + 1) * val v + pw (m + 3) → ∃ j, ∀ k, nat_digit.L21 (k + j) (pre ++ w ++ post) pre.length (m + 3) g v ((m + 2 : Nat) : Int) q 0 ((m + 2 : Nat) : Int) 0 = some ((q, ()), pre ++ pad (m + 3) r ++ post, g) := by
    intro w lw hw ew
    refine up (fun k (s : Nat × List Int × Int) => nat_digit.L21 k (pre ++ s.2.1 ++ post) pre.length (m + 3) g v ((m + 2 : Nat) : Int) q s.2.2 ((m + 2 : Nat) : Int) (s.1 : Int)) _ (fun i s => s.1.length = m + 3 ∧ Limbs s.1 ∧ (0 ≤ s.2 ∧ s.2 ≤ 1) ∧ val s.1 + s.2 * pw i = val w + val (v.take i)) (m + 2)
      (fun i s hi ⟨h1, h2, h3, h4⟩ => ?_) (fun s ⟨h1, h2, h3, h4⟩ => ?_) 0 (w, 0) (Nat.zero_le _) ⟨lw, hw, by simp only; omega, by simp [val_nil]⟩
    · obtain ⟨x, c⟩ := s
      simp only at h1 h2 h3 h4
      have gx := h2.get i
      have gv := hv.get i
      refine ⟨(x.set i ((x.getD i 0 + v.getD i 0 + c) % 4294967296), (x.getD i 0 + v.getD i 0 + c) / 4294967296), ⟨by simpa using h1, h2.set i (by omega), by simp only; omega, ?_⟩, 1, fun k => ?_⟩
      · rw [carry_step (x := v.getD i 0) (by omega) (by omega) h4, val_take_next]; omega
      · simp (disch := omega) only [c_dec, c_beq, c_bne, c_and, c_or, c_not, blt_dec, up1, dn1, if_t, if_f, if_true, if_false, Int.toNat_natCast, Option.bind_some, ne_eq, not_true_eq_false, not_false_eq_true, true_and, and_true, nat_digit.L21_succ, nat_digit.b21, getD_mid (show i < x.length by omega), set_mid (show i < x.length by omega), Add32_F gx gv h3]
    · obtain ⟨x, c⟩ := s
      simp only at h1 h2 h3 h4
      have gx := h2.get (m + 2)
      have e1 := val_take_succ (a := x) (i := m + 2) (by omega)
      rw [show m + 2 + 1 = x.length by omega, List.take_length] at e1
      have hxt := val_lt (h2.take (m + 2))
      have hx0 := val_nonneg (h2.take (m + 2))
      rw [show (x.take (m + 2)).length = m + 2 by simp; omega] at hxt
      have p2 := pw_pos (m + 2)
      rw [show v.take (m + 2) = v by rw [← lv, List.take_length], ew, pw_succ (m + 2), hUv, Int.add_mul, Int.one_mul] at h4
      -- low limbs are r, and the highest with the carry is a whole word
      have h5 : val (x.take (m + 2)) + (x.getD (m + 2) 0 + c) * pw (m + 2) = r + 4294967296 * pw (m + 2) := by rw [Int.add_mul]; omega
      have h6 : x.getD (m + 2) 0 + c = 4294967296 := by
        rcases Int.lt_trichotomy (x.getD (m + 2) 0 + c) 4294967296 with hlt | he | hgt
        · exfalso
          have : (x.getD (m + 2) 0 + c) * pw (m + 2) ≤ 4294967295 * pw (m + 2) := Int.mul_le_mul_of_nonneg_right (by omega) (by omega)
          omega
        · exact he
        · omega
      rw [h6] at h5
      have h7 : val (x.set (m + 2) 0) = r := by rw [val_set _ (by omega), Int.sub_mul, Int.zero_mul]; omega
      have h8 := pad_of (h2.set (m + 2) (v := 0) (by decide))
      rw [h7, List.length_set, h1] at h8
      have e7 : IntKind.u32.wrap (x.getD (m + 2) 0 + c) = 0 := by rw [w32, h6]; rfl
      refine ⟨1, fun k => ?_⟩
      simp (disch := omega) only [c_dec, c_beq, c_bne, c_and, c_or, c_not, blt_dec, up1, dn1, if_t, if_f, if_true, if_false, Int.toNat_natCast, Option.bind_some, ne_eq, not_true_eq_false, not_false_eq_true, true_and, and_true, nat_digit.L21_succ, nat_digit.b21, getD_mid (show m + 2 < x.length by omega), set_mid (show m + 2 < x.length by omega), e7, h8, IntWalk.u32_in, cond_true]
  -- a multiple is taken away
  have take : ∀ t : Int, (t = q ∨ t = q + 1) → 0 ≤ t ∧ t < 4294967296 → ∃ j, ∀ k, nat_digit.L10 (k + j) (pre ++ u ++ post) pre.length (m + 3) g v ((m + 2 : Nat) : Int) t 0 0 ((m + 2 : Nat) : Int) 0 = some ((q, ()), pre ++ pad (m + 3) r ++ post, g) := by
    intro t ht htb
    refine up (fun k (s : Nat × List Int × Int × Int) => nat_digit.L10 k (pre ++ s.2.1 ++ post) pre.length (m + 3) g v ((m + 2 : Nat) : Int) t s.2.2.1 s.2.2.2 ((m + 2 : Nat) : Int) (s.1 : Int)) _ (fun i s => TakeInv u v t i s.1 s.2.1 s.2.2) (m + 2)
      (fun i s hi hs => ?_) (fun s hs => ?_) 0 (u, 0, 0) (Nat.zero_le _) ⟨rfl, hu, by simp only; omega, by simp only; omega, by simp [val_nil]⟩
    · obtain ⟨x, b, c⟩ := s
      obtain ⟨hT, hn⟩ := TakeInv.next hs htb hv (by omega)
      obtain ⟨h1, h2, h3, h4, h5⟩ := hs
      simp only at h1 h2 h3 h4 hT
      have gx := h2.get i
      have gm := mul_bound htb (hv.get i)
      have gv := hv.get i
      refine ⟨(x.set i ((x.getD i 0 - (t * v.getD i 0 + c) % 4294967296 - b) % 4294967296), (if x.getD i 0 < (t * v.getD i 0 + c) % 4294967296 + b then 1 else 0), (t * v.getD i 0 + c) / 4294967296), hn, 1, fun k => ?_⟩
      have hS := Sub32_F gx (show 0 ≤ (t * v.getD i 0 + c) % 4294967296 ∧ (t * v.getD i 0 + c) % 4294967296 < 4294967296 by omega) h3
      simp (disch := omega) only [c_dec, c_beq, c_bne, c_and, c_or, c_not, blt_dec, up1, dn1, if_t, if_f, if_true, if_false, Int.toNat_natCast, Option.bind_some, ne_eq, not_true_eq_false, not_false_eq_true, true_and, and_true, nat_digit.L10_succ, nat_digit.b10, getD_mid (show i < x.length by omega), set_mid (show i < x.length by omega), IntWalk.u64_in, w32, shr64_32, hS]
    · obtain ⟨x, b, c⟩ := s
      obtain ⟨h1, h2, h3, h4, h5⟩ := hs
      simp only at h1 h2 h3 h4 h5
      rw [show v.take (m + 2) = v by rw [← lv, List.take_length]] at h5
      have gx := h2.get (m + 2)
      have hS := Sub32_F gx h4 h3
      have hl := h2.set (m + 2) (v := (x.getD (m + 2) 0 - c - b) % 4294967296) (by omega)
      have hv2 : val (x.set (m + 2) ((x.getD (m + 2) 0 - c - b) % 4294967296)) = val u - t * val v + (if x.getD (m + 2) 0 < c + b then 1 else 0) * pw (m + 3) := by
        have hb : ∃ b', b' = (if x.getD (m + 2) 0 < c + b then (1 : Int) else 0) ∧ (x.getD (m + 2) 0 - c - b) % 4294967296 = x.getD (m + 2) 0 - c - b + 4294967296 * b' := ⟨_, rfl, by split <;> omega⟩
        obtain ⟨b', hb', e⟩ := hb
        rw [← hb', val_set _ (by omega), e, h5, pw_succ (m + 2)]
        have e2 : x.getD (m + 2) 0 - c - b + 4294967296 * b' - x.getD (m + 2) 0 = -(c + b) + b' * 4294967296 := by omega
        rw [e2, Int.add_mul (-(c + b)), Int.neg_mul, Int.mul_assoc b']
        omega
      have hvn := val_nonneg hl
      have hvx := val_lt hl
      rw [List.length_set, h1, lu] at hvx
      have hp3 : pw (m + 3) = 4294967296 * pw (m + 2) := pw_succ (m + 2)
      have p2 := pw_pos (m + 2)
      by_cases hb : x.getD (m + 2) 0 < c + b
      · rw [if_pos hb, Int.one_mul] at hv2
        have htq : t = q + 1 := by
          rcases ht with h | h
          · exfalso
            rw [h] at hv2
            omega
          · exact h
        subst htq
        obtain ⟨j, hj⟩ := back _ (by rw [List.length_set, h1, lu]) hl hv2
        refine ⟨j + 1, fun k => ?_⟩
        rw [← Nat.add_assoc]
        simp (disch := omega) only [c_dec, c_beq, c_bne, c_and, c_or, c_not, blt_dec, up1, dn1, if_t, if_f, if_true, if_false, Int.toNat_natCast, Option.bind_some, ne_eq, not_true_eq_false, not_false_eq_true, true_and, and_true, nat_digit.L10_succ, nat_digit.b10, getD_mid (show m + 2 < x.length by omega), set_mid (show m + 2 < x.length by omega), IntWalk.u32_in, hS, c_t]
        rw [show IntKind.u64.wrap (q + 1 - 1) = q by rw [IntWalk.u64_in _ (by omega)]; omega]
        exact hj k
      · rw [if_neg hb, Int.zero_mul, Int.add_zero] at hv2
        have htq : t = q := by
          rcases ht with h | h
          · exact h
          · exfalso
            rw [h, Int.add_mul, Int.one_mul] at hv2
            omega
        subst htq
        have h8 := pad_of hl
        rw [hv2, List.length_set, h1, lu, show val u - t * val v = r by omega] at h8
        refine ⟨1, fun k => ?_⟩
        simp (disch := omega) only [c_dec, c_beq, c_bne, c_and, c_or, c_not, blt_dec, up1, dn1, if_t, if_f, if_true, if_false, Int.toNat_natCast, Option.bind_some, ne_eq, not_true_eq_false, not_false_eq_true, true_and, and_true, nat_digit.L10_succ, nat_digit.b10, getD_mid (show m + 2 < x.length by omega), set_mid (show m + 2 < x.length by omega), IntWalk.u32_in, hS, h8, cond_true]
  -- the guess
  have guess : ∀ s : Int × Int, (q ≤ s.1 ∧ s.1 ≤ 4294967297) ∧ (0 ≤ s.2 ∧ s.2 < 4294967296) ∧ s.1 * v.getD (m + 1) 0 + s.2 = u.getD (m + 1) 0 + 4294967296 * u.getD (m + 2) 0 → ∃ j, ∀ k, nat_digit.L4 (k + j) (pre ++ u ++ post) pre.length (m + 3) g v ((m + 2 : Nat) : Int) s.1 s.2 = some ((q, ()), pre ++ pad (m + 3) r ++ post, g) := by
    refine ends (fun k (s : Int × Int) => nat_digit.L4 k (pre ++ u ++ post) pre.length (m + 3) g v ((m + 2 : Nat) : Int) s.1 s.2) _ _ (fun s => s.1.toNat) (fun s ⟨h1, h2, h3⟩ => ?_)
    obtain ⟨x, y⟩ := s
    simp only at h1 h2 h3
    have e1 : ((m + 2 : Nat) : Int) - 1 = ((m + 1 : Nat) : Int) := by omega
    have e2 : ((m + 2 : Nat) : Int) - 2 = (m : Int) := by omega
    have hor := or64_lo g0 h2
    rw [← shl64_32] at hor
    -- one less
    have less : q < x → (∀ k, nat_digit.L4 (k + 1) (pre ++ u ++ post) pre.length (m + 3) g v ((m + 2 : Nat) : Int) x y = (if y + v.getD (m + 1) 0 < 4294967296 then nat_digit.L4 k (pre ++ u ++ post) pre.length (m + 3) g v ((m + 2 : Nat) : Int) (x - 1) (y + v.getD (m + 1) 0) else nat_digit.L10 k (pre ++ u ++ post) pre.length (m + 3) g v ((m + 2 : Nat) : Int) (x - 1) 0 0 ((m + 2 : Nat) : Int) 0)) →
        (∃ s' : Int × Int, ((q ≤ s'.1 ∧ s'.1 ≤ 4294967297) ∧ (0 ≤ s'.2 ∧ s'.2 < 4294967296) ∧ s'.1 * v.getD (m + 1) 0 + s'.2 = u.getD (m + 1) 0 + 4294967296 * u.getD (m + 2) 0) ∧ s'.1.toNat < x.toNat ∧ ∃ j, ∀ k, nat_digit.L4 (k + j) (pre ++ u ++ post) pre.length (m + 3) g v ((m + 2 : Nat) : Int) x y = nat_digit.L4 k (pre ++ u ++ post) pre.length (m + 3) g v ((m + 2 : Nat) : Int) s'.1 s'.2) ∨
        ∃ j, ∀ k, nat_digit.L4 (k + j) (pre ++ u ++ post) pre.length (m + 3) g v ((m + 2 : Nat) : Int) x y = some ((q, ()), pre ++ pad (m + 3) r ++ post, g) := by
      intro hq hL
      have h4 : (x - 1) * v.getD (m + 1) 0 + (y + v.getD (m + 1) 0) = u.getD (m + 1) 0 + 4294967296 * u.getD (m + 2) 0 := by rw [Int.sub_mul, Int.one_mul]; omega
      by_cases hy : y + v.getD (m + 1) 0 < 4294967296
      · exact .inl ⟨(x - 1, y + v.getD (m + 1) 0), ⟨by simp only; omega, by simp only; omega, h4⟩, by simp only; omega, 1, fun k => by rw [hL k, if_pos hy]⟩
      · have := G.great (g := x - 1) (rest := y + v.getD (m + 1) 0) (by omega) h4 (by omega)
        obtain ⟨j, hj⟩ := take (x - 1) (by omega) (by omega)
        exact .inr ⟨j + 1, fun k => by rw [← Nat.add_assoc, hL, if_neg hy]; exact hj k⟩
    by_cases hx : 4294967296 ≤ x
    · refine less (by omega) fun k => ?_
      by_cases hy : y + v.getD (m + 1) 0 < 4294967296
      · simp (disch := omega) only [c_dec, c_beq, c_bne, c_and, c_or, c_not, blt_dec, up1, dn1, if_t, if_f, if_true, if_false, Int.toNat_natCast, Option.bind_some, ne_eq, not_true_eq_false, not_false_eq_true, true_and, and_true, nat_digit.L4_succ, nat_digit.b4, shr64_32, IntWalk.u64_in, IntWalk.i64_in, e1]
      · simp (disch := omega) only [c_dec, c_beq, c_bne, c_and, c_or, c_not, blt_dec, up1, dn1, if_t, if_f, if_true, if_false, Int.toNat_natCast, Option.bind_some, ne_eq, not_true_eq_false, not_false_eq_true, true_and, and_true, nat_digit.L4_succ, nat_digit.b4, shr64_32, IntWalk.u64_in, IntWalk.i64_in, e1]
    · have gm := mul_bound (show 0 ≤ x ∧ x < 4294967296 by omega) k0
      by_cases hc : y * 4294967296 + u.getD m 0 < x * v.getD m 0
      · have hqx := G.down (g := x) (rest := y) (by omega) h3 hc
        refine less hqx fun k => ?_
        by_cases hy : y + v.getD (m + 1) 0 < 4294967296
        · simp (disch := omega) only [c_dec, c_beq, c_bne, c_and, c_or, c_not, blt_dec, up1, dn1, if_t, if_f, if_true, if_false, Int.toNat_natCast, Option.bind_some, ne_eq, not_true_eq_false, not_false_eq_true, true_and, and_true, nat_digit.L4_succ, nat_digit.b4, shr64_32, IntWalk.u64_in, IntWalk.i64_in, e1, e2, getD_mid (show m < u.length by omega), hor]
        · simp (disch := omega) only [c_dec, c_beq, c_bne, c_and, c_or, c_not, blt_dec, up1, dn1, if_t, if_f, if_true, if_false, Int.toNat_natCast, Option.bind_some, ne_eq, not_true_eq_false, not_false_eq_true, true_and, and_true, nat_digit.L4_succ, nat_digit.b4, shr64_32, IntWalk.u64_in, IntWalk.i64_in, e1, e2, getD_mid (show m < u.length by omega), hor]
      · have := G.stop (g := x) (rest := y) (by omega) h3 (by omega)
        obtain ⟨j, hj⟩ := take x (by omega) (by omega)
        refine .inr ⟨j + 1, fun k => ?_⟩
        rw [← Nat.add_assoc]
        simp (disch := omega) only [c_dec, c_beq, c_bne, c_and, c_or, c_not, blt_dec, up1, dn1, if_t, if_f, if_true, if_false, Int.toNat_natCast, Option.bind_some, ne_eq, not_true_eq_false, not_false_eq_true, true_and, and_true, nat_digit.L4_succ, nat_digit.b4, shr64_32, IntWalk.u64_in, IntWalk.i64_in, e1, e2, getD_mid (show m < u.length by omega), hor]
        exact hj k
  have hf := G.first
  have hun : u.getD (m + 2) 0 ≤ v.getD (m + 1) 0 := by
    by_cases hc : u.getD (m + 2) 0 ≤ v.getD (m + 1) 0
    · exact hc
    · exfalso
      have a1 : (v.getD (m + 1) 0 + 1) * pw (m + 2) ≤ u.getD (m + 2) 0 * pw (m + 2) := Int.mul_le_mul_of_nonneg_right (by omega) (Int.le_of_lt (pw_pos _))
      have e1 := val_take_succ (a := u) (i := m + 2) (by omega)
      rw [show m + 2 + 1 = u.length by omega, List.take_length] at e1
      have := val_nonneg (hu.take (m + 2))
      have e2 := val_take_succ (a := v) (i := m + 1) (by omega)
      rw [show m + 1 + 1 = v.length by omega, List.take_length] at e2
      have hvt2 := val_lt (hv.take (m + 1))
      rw [show (v.take (m + 1)).length = m + 1 by simp; omega] at hvt2
      rw [Int.add_mul, Int.one_mul, pw_succ (m + 1)] at a1
      have e3 : v.getD (m + 1) 0 * (4294967296 * pw (m + 1)) = 4294967296 * (v.getD (m + 1) 0 * pw (m + 1)) := Int.mul_left_comm _ _ _
      rw [pw_succ (m + 1)] at e1
      omega
  have htop : (u.getD (m + 1) 0 + 4294967296 * u.getD (m + 2) 0) / v.getD (m + 1) 0 ≤ 4294967297 := by
    have h1 : (u.getD (m + 1) 0 + 4294967296 * u.getD (m + 2) 0) / v.getD (m + 1) 0 < 4294967298 := by
      rw [Int.ediv_lt_iff_lt_mul (by omega)]; omega
    omega
  have hmod := Int.mul_ediv_add_emod (u.getD (m + 1) 0 + 4294967296 * u.getD (m + 2) 0) (v.getD (m + 1) 0)
  have hm0 := Int.emod_nonneg (u.getD (m + 1) 0 + 4294967296 * u.getD (m + 2) 0) (b := v.getD (m + 1) 0) (by omega)
  have hm1 := Int.emod_lt_of_pos (u.getD (m + 1) 0 + 4294967296 * u.getD (m + 2) 0) (b := v.getD (m + 1) 0) (by omega)
  obtain ⟨j, hj⟩ := guess ((u.getD (m + 1) 0 + 4294967296 * u.getD (m + 2) 0) / v.getD (m + 1) 0, (u.getD (m + 1) 0 + 4294967296 * u.getD (m + 2) 0) % v.getD (m + 1) 0) ⟨⟨hf, htop⟩, ⟨hm0, by simp only; omega⟩, by simp only; rw [Int.mul_comm]; exact hmod⟩
  refine ⟨0 + j, ?_⟩
  have hor := or64_lo g1 g2
  rw [← shl64_32] at hor
  have e1 : ((m + 2 : Nat) : Int) - 1 = ((m + 1 : Nat) : Int) := by omega
  simp (disch := omega) only [c_dec, c_beq, c_bne, c_and, c_or, c_not, blt_dec, up1, dn1, if_t, if_f, if_true, if_false, Int.toNat_natCast, Option.bind_some, ne_eq, not_true_eq_false, not_false_eq_true, true_and, and_true, nat_digit.e, lv, e1, IntWalk.i64_in, getD_mid (show m + 2 < u.length by omega), getD_mid (show m + 1 < u.length by omega), IntWalk.u64_in, hor, IntWalk.u64_quo, IntWalk.rem_in]
  exact hj 0
end Go.Fx.Try
