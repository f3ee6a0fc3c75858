/- nat: trim, own, Norm, Of, Small; and the reference's. -/
import Derived.Test.YthmdbafinpmojaaGreatNA
import Derived.Test.YthmdbafinpmojaaGreatW08b
namespace Go.Fx.Tryz
open Go Go.Fx Go.Fx.Num
set_option linter.unusedVariables false
set_option linter.unusedSimpArgs false

theorem trim_F {xs : List Int} (h : Limbs xs) (hl : xs.length ≤ 70368744177664) : nat_trim.F (xs, ()) = some (canon (val xs), ()) := by
  obtain ⟨j, hj⟩ := ends (fun k (n : Nat) => nat_trim.L2 k xs (n : Int)) (canon (val xs), ()) (fun n => n ≤ xs.length ∧ ∀ j, n ≤ j → xs.getD j 0 = 0) id (fun n ⟨hn, hz⟩ => by
    by_cases h0 : 0 < n
    · by_cases h1 : xs.getD (n - 1) 0 = 0
      · refine .inl ⟨n - 1, ⟨by omega, fun j hj => ?_⟩, by show n - 1 < n; omega, 1, fun k => ?_⟩
        · by_cases hjn : j = n - 1
          · rw [hjn, h1]
          · exact hz j (by omega)
        · simp (disch := omega) only [c_dec, c_beq, c_bne, c_and, c_or, c_not, blt_dec, up1, dn1, if_t, if_f, if_true, if_false, Int.toNat_natCast, Option.bind_some, ne_eq, not_true_eq_false, not_false_eq_true, true_and, and_true, nat_trim.L2_succ, nat_trim.b2, h1]
      · refine .inr ⟨1, fun k => ?_⟩
        simp (disch := omega) only [c_dec, c_beq, c_bne, c_and, c_or, c_not, blt_dec, up1, dn1, if_t, if_f, if_true, if_false, Int.toNat_natCast, Option.bind_some, ne_eq, not_true_eq_false, not_false_eq_true, true_and, and_true, nat_trim.L2_succ, nat_trim.b2, h1, take_canon h hn hz (.inr h1)]
    · refine .inr ⟨1, fun k => ?_⟩
      obtain rfl : n = 0 := by omega
      simp (disch := omega) only [c_dec, c_beq, c_bne, c_and, c_or, c_not, blt_dec, up1, dn1, if_t, if_f, if_true, if_false, Int.toNat_natCast, Option.bind_some, ne_eq, not_true_eq_false, not_false_eq_true, true_and, and_true, nat_trim.L2_succ, nat_trim.b2, take_canon h hn hz (.inl rfl)]) xs.length ⟨Nat.le_refl _, fun j hj => getD_out hj⟩
  refine nat_trim.of j xs ?_
  simp only [nat_trim.e]
  have := hj 0
  rwa [Nat.zero_add] at this

theorem own_F {xs : List Int} (h : Limbs xs) (hl : xs.length ≤ 70368744177664) : nat_own.F (xs, ()) = some (canon (val xs), ()) := by
  refine nat_own.of 0 xs ?_
  have hlen := canon_val_len h
  simp only [nat_own.e, trim_F h hl, Option.bind_some, c_beq, c_dec, c_and, blt_dec]
  generalize canon (val xs) = c at hlen ⊢
  by_cases h0 : c.length = 0
  · rw [List.length_eq_zero_iff.1 h0]; rfl
  · simp (disch := omega) only [c_dec, c_beq, c_bne, c_and, c_or, c_not, blt_dec, up1, dn1, if_t, if_f, if_true, if_false, Int.toNat_natCast, Option.bind_some, ne_eq, not_true_eq_false, not_false_eq_true, true_and, and_true, List.length_replicate, List.take_length, List.drop_replicate, Nat.sub_self, List.replicate_zero, List.append_nil]

theorem ext_getD {a b : List Int} (hl : a.length = b.length) (h : ∀ j, j < a.length → a.getD j 0 = b.getD j 0) : a = b := by
  refine List.ext_getElem hl fun i h1 h2 => ?_
  have := h i h1
  simpa [List.getD, h1, h2] using this

/-! ### copies, and the reference's Norm -/
theorem copy_set {a : List Int} {i n : Nat} (h : i < n) (hn : n ≤ a.length) : (a.take i ++ List.replicate (n - i) (0 : Int)).set i (a.getD i 0) = a.take (i + 1) ++ List.replicate (n - (i + 1)) 0 := by
  have hl : (a.take i).length = i := by simp; omega
  rw [List.set_append_right i _ (by omega), hl, Nat.sub_self]
  obtain ⟨m, hm⟩ : ∃ m, n - i = m + 1 := ⟨n - i - 1, by omega⟩
  rw [hm, List.replicate_succ, List.set_cons_zero, List.take_add_one]
  have : a[i]? = some (a.getD i 0) := by simp [List.getD, (show i < a.length by omega)]
  rw [this]
  have : n - (i + 1) = m := by omega
  rw [this]; simp
theorem copy_len {a : List Int} {i n : Nat} (h : i ≤ n) (hn : n ≤ a.length) : (a.take i ++ List.replicate (n - i) (0 : Int)).length = n := by
  simp; omega

theorem rNorm_F {xs : List Int} (h : Limbs xs) (hl : xs.length ≤ 70368744177664) : fulcrumref01_Norm.F (xs, ()) = some (canon (val xs), ()) := by
  have copy : ∀ n, n ≤ xs.length → ∃ j, ∀ k, fulcrumref01_Norm.L6 (k + j) xs (n : Int) (List.replicate n 0) 0 = some (xs.take n, ()) := by
    intro n hn
    exact up (fun k (s : Nat × List Int) => fulcrumref01_Norm.L6 k xs (n : Int) s.2 (s.1 : Int)) (xs.take n, ()) (fun i s => s = xs.take i ++ List.replicate (n - i) 0) n (fun i s hi hs => by
      subst hs
      have h1 := copy_len (Nat.le_of_lt hi) hn
      refine ⟨_, rfl, 1, fun k => ?_⟩
      simp (disch := omega) only [c_dec, c_beq, c_bne, c_and, c_or, c_not, blt_dec, up1, dn1, if_t, if_f, if_true, if_false, Int.toNat_natCast, Option.bind_some, ne_eq, not_true_eq_false, not_false_eq_true, true_and, and_true, fulcrumref01_Norm.L6_succ, fulcrumref01_Norm.b6, copy_set hi hn]) (fun s hs => by
      subst hs
      refine ⟨1, fun k => ?_⟩
      simp (disch := omega) only [c_dec, c_beq, c_bne, c_and, c_or, c_not, blt_dec, up1, dn1, if_t, if_f, if_true, if_false, Int.toNat_natCast, Option.bind_some, ne_eq, not_true_eq_false, not_false_eq_true, true_and, and_true, fulcrumref01_Norm.L6_succ, fulcrumref01_Norm.b6, Nat.sub_self, List.replicate_zero, List.append_nil]) 0 _ (Nat.zero_le _) (by simp)
  obtain ⟨j, hj⟩ := ends (fun k (n : Nat) => fulcrumref01_Norm.L2 k xs (n : Int)) (canon (val xs), ()) (fun n => n ≤ xs.length ∧ ∀ j, n ≤ j → xs.getD j 0 = 0) id (fun n ⟨hn, hz⟩ => by
    by_cases h0 : 0 < n
    · by_cases h1 : xs.getD (n - 1) 0 = 0
      · refine .inl ⟨n - 1, ⟨by omega, fun j hj => ?_⟩, by show n - 1 < n; omega, 1, fun k => ?_⟩
        · by_cases hjn : j = n - 1
          · rw [hjn, h1]
          · exact hz j (by omega)
        · simp (disch := omega) only [c_dec, c_beq, c_bne, c_and, c_or, c_not, blt_dec, up1, dn1, if_t, if_f, if_true, if_false, Int.toNat_natCast, Option.bind_some, ne_eq, not_true_eq_false, not_false_eq_true, true_and, and_true, fulcrumref01_Norm.L2_succ, fulcrumref01_Norm.b2, h1]
      · obtain ⟨j, hj⟩ := copy n hn
        refine .inr ⟨j + 1, fun k => ?_⟩
        rw [← Nat.add_assoc]
        simp (disch := omega) only [c_dec, c_beq, c_bne, c_and, c_or, c_not, blt_dec, up1, dn1, if_t, if_f, if_true, if_false, Int.toNat_natCast, Option.bind_some, ne_eq, not_true_eq_false, not_false_eq_true, true_and, and_true, fulcrumref01_Norm.L2_succ, fulcrumref01_Norm.b2, h1, hj, take_canon h hn hz (.inr h1)]
    · obtain ⟨j, hj⟩ := copy n hn
      refine .inr ⟨j + 1, fun k => ?_⟩
      rw [← Nat.add_assoc]
      obtain rfl : n = 0 := by omega
      simp (disch := omega) only [c_dec, c_beq, c_bne, c_and, c_or, c_not, blt_dec, up1, dn1, if_t, if_f, if_true, if_false, Int.toNat_natCast, Option.bind_some, ne_eq, not_true_eq_false, not_false_eq_true, true_and, and_true, fulcrumref01_Norm.L2_succ, fulcrumref01_Norm.b2, hj, take_canon h hn hz (.inl rfl)]) xs.length ⟨Nat.le_refl _, fun j hj => getD_out hj⟩
  refine fulcrumref01_Norm.of (0 + j) xs ?_
  simp only [fulcrumref01_Norm.e]
  exact hj 0

theorem Norm_F {xs : List Int} (h : Limbs xs) (hl : xs.length ≤ 70368744177664) : nat_Norm.F (xs, ()) = some (canon (val xs), ()) := by
  refine nat_Norm.of 0 xs ?_
  simp only [nat_Norm.e, own_F h hl, Option.bind_some]

/-! ### Of, Small -/
theorem two_limbs {n : Int} (h : 0 ≤ n ∧ n < 18446744073709551616) : Limbs [IntKind.u32.wrap n, IntKind.u32.wrap (shrI .u64 n 32)] ∧ val [IntKind.u32.wrap n, IntKind.u32.wrap (shrI .u64 n 32)] = n := by
  rw [shr64_32, w32, w32]
  refine ⟨Limbs.cons (by omega) (Limbs.cons (by omega) Limbs.nil), ?_⟩
  simp only [val_cons, val_nil]; omega
theorem zero_or64 {x : Int} (h : 0 ≤ x ∧ x < 18446744073709551616) : bitsOp .or .u64 0 x = x := by
  obtain ⟨n, rfl⟩ := Int.eq_ofNat_of_zero_le h.1
  have := or64 (a := 0) (b := n) (by omega) (by omega)
  simpa using this
theorem or64_hi {x y : Int} (hx : 0 ≤ x ∧ x < 4294967296) (hy : 0 ≤ y ∧ y < 4294967296) : bitsOp .or .u64 x (y * 4294967296 % 18446744073709551616) = x + 4294967296 * y := by
  have e : y * 4294967296 % 18446744073709551616 = 4294967296 * y := by omega
  rw [e, or64_add' 32 y (by omega) hy.1 (by omega) (by omega)]; omega
theorem or64_lo {x y : Int} (hx : 0 ≤ x ∧ x < 4294967296) (hy : 0 ≤ y ∧ y < 4294967296) : bitsOp .or .u64 (y * 4294967296 % 18446744073709551616) x = x + 4294967296 * y := by
  have e : y * 4294967296 % 18446744073709551616 = 4294967296 * y := by omega
  rw [e, or64_add 32 y (by omega) hy.1 (by omega) (by omega)]; omega

theorem small_lists {c : List Int} (hc : Nrm c) : (c.length ≤ 2 → val c < 18446744073709551616) ∧ (2 < c.length → 18446744073709551616 ≤ val c) := by
  have hv := val_lt hc.1
  refine ⟨fun h => ?_, fun h => ?_⟩
  · have := pw_mono h
    have e : pw 2 = 18446744073709551616 := rfl
    omega
  · have h1 := nrm_pos hc (by omega)
    have h2 := pw_mono (m := 2) (n := c.length - 1) (by omega)
    have e : pw 2 = 18446744073709551616 := rfl
    omega

theorem limbs_of {xs : List Int} (h : ∀ x ∈ xs, (Lit.int .u32 x).wf = true) : Limbs xs := by
  intro x hx
  have := h x hx
  simp [Lit.wf, IntKind.min, IntKind.max, IntKind.bits, IntKind.signed] at this
  omega
end Go.Fx.Tryz

namespace Go.Fx.Tryz
open Go Go.Fx Go.Fx.Num
set_option linter.unusedVariables false
set_option linter.unusedSimpArgs false

def cmpI (x y : Int) : Int := if x < y then -1 else if y < x then 1 else 0
theorem cmpI_lt {x y : Int} (h : x < y) : cmpI x y = -1 := if_pos h
theorem cmpI_gt {x y : Int} (h : y < x) : cmpI x y = 1 := by unfold cmpI; rw [if_neg (by omega), if_pos h]
theorem cmpI_eq {x y : Int} (h : x = y) : cmpI x y = 0 := by unfold cmpI; rw [if_neg (by omega), if_neg (by omega)]
theorem sub1 (m : Nat) : ((m + 1 : Nat) : Int) - 1 = (m : Int) := by omega
theorem sub0 : ((0 : Nat) : Int) - 1 = -1 := rfl
theorem val_take_next (a : List Int) (i : Nat) : val (a.take (i + 1)) = val (a.take i) + a.getD i 0 * pw i := by
  by_cases h : i < a.length
  · exact val_take_succ h
  · rw [List.take_of_length_le (by omega), List.take_of_length_le (by omega), getD_out (by omega)]; omega
theorem carry_step {c : List Int} {i : Nat} {v carry carry' x S : Int} (hi : i < c.length) (hv : v + 4294967296 * carry' = c.getD i 0 + x + carry) (hI : val c + carry * pw i = S) :
    val (c.set i v) + carry' * pw (i + 1) = S + x * pw i := by
  rw [val_set v hi, pw_succ, ← hI]
  have e : v = c.getD i 0 + x + carry - 4294967296 * carry' := by omega
  rw [e]
  simp only [Int.sub_mul, Int.add_mul, Int.mul_assoc, Int.mul_left_comm]
  omega
theorem val_take_of_lt {b : List Int} {n : Nat} (hb : Limbs b) (h : val b < pw n) : val (b.take n) = val b := by
  by_cases hn : n ≤ b.length
  · have h1 := val_take_drop b n hn
    have h2 := val_nonneg (hb.drop n)
    have h3 := val_nonneg (hb.take n)
    have h4 := pw_pos n
    have h5 : val (b.drop n) = 0 := by
      by_cases h0 : val (b.drop n) = 0
      · exact h0
      · have : pw n * 1 ≤ pw n * val (b.drop n) := Int.mul_le_mul_of_nonneg_left (by omega) (by omega)
        omega
    rw [h5] at h1; omega
  · exact val_take_all (by omega)

/-! ### Cmp -/
theorem Cmp_F {a b : List Int} (ha : Limbs a) (hb : Limbs b) (la : a.length ≤ 70368744177664) (lb : b.length ≤ 70368744177664) : nat_Cmp.F (a, b, ()) = some (cmpI (val a) (val b), ()) := by
  have ca := canon_nrm (val a)
  have cb := canon_nrm (val b)
  have va := val_canon (val_nonneg ha)
  have vb := val_canon (val_nonneg hb)
  have na := canon_val_len ha
  have nb := canon_val_len hb
  have ea : nat_Cmp.F (a, b, ()) = nat_Cmp.F (a, b, ()) := rfl
  suffices h : ∃ k, nat_Cmp.e (nat_Cmp.L7 k) a b = some (cmpI (val a) (val b), ()) by obtain ⟨k, hk⟩ := h; exact nat_Cmp.of k a b hk
  simp only [nat_Cmp.e, trim_F ha la, trim_F hb lb, Option.bind_some]
  rw [← va, ← vb, va, vb]
  generalize canon (val a) = x at ca va na ⊢
  generalize canon (val b) = y at cb vb nb ⊢
  rw [← va, ← vb]
  have hx := val_lt ca.1
  have hy := val_lt cb.1
  by_cases hl : x.length = y.length
  · obtain ⟨j, hj⟩ := ends (fun k (n : Nat) => nat_Cmp.L7 k x y ((n : Int) - 1)) (cmpI (val x) (val y), ()) (fun n => n ≤ x.length ∧ ∀ j, n ≤ j → x.getD j 0 = y.getD j 0) id (fun n ⟨hn, hz⟩ => by
      rcases n with _ | m
      · refine .inr ⟨1, fun k => ?_⟩
        simp (disch := omega) only [c_dec, c_beq, c_bne, c_and, c_or, c_not, blt_dec, up1, dn1, if_t, if_f, if_true, if_false, Int.toNat_natCast, Option.bind_some, ne_eq, not_true_eq_false, not_false_eq_true, true_and, and_true, nat_Cmp.L7_succ, nat_Cmp.b7, sub0, cmpI_eq (val_ext fun j => hz j (Nat.zero_le j))]
      · by_cases h1 : x.getD m 0 = y.getD m 0
        · refine .inl ⟨m, ⟨by omega, fun j hj => ?_⟩, Nat.lt_succ_self m, 1, fun k => ?_⟩
          · by_cases hjm : j = m
            · rw [hjm, h1]
            · exact hz j (by omega)
          · simp (disch := omega) only [c_dec, c_beq, c_bne, c_and, c_or, c_not, blt_dec, up1, dn1, if_t, if_f, if_true, if_false, Int.toNat_natCast, Option.bind_some, ne_eq, not_true_eq_false, not_false_eq_true, true_and, and_true, nat_Cmp.L7_succ, nat_Cmp.b7, sub1, h1, IntWalk.i64_in]
        · refine .inr ⟨1, fun k => ?_⟩
          rcases Int.lt_or_gt_of_ne h1 with h2 | h2
          · simp (disch := omega) only [c_dec, c_beq, c_bne, c_and, c_or, c_not, blt_dec, up1, dn1, if_t, if_f, if_true, if_false, Int.toNat_natCast, Option.bind_some, ne_eq, not_true_eq_false, not_false_eq_true, true_and, and_true, nat_Cmp.L7_succ, nat_Cmp.b7, sub1, cmpI_lt (val_cmp ca.1 cb.1 (fun j hj => hz j hj) h2)]
          · simp (disch := omega) only [c_dec, c_beq, c_bne, c_and, c_or, c_not, blt_dec, up1, dn1, if_t, if_f, if_true, if_false, Int.toNat_natCast, Option.bind_some, ne_eq, not_true_eq_false, not_false_eq_true, true_and, and_true, nat_Cmp.L7_succ, nat_Cmp.b7, sub1, cmpI_gt (val_cmp cb.1 ca.1 (fun j hj => (hz j hj).symm) h2)]) x.length ⟨Nat.le_refl _, fun j hj => by rw [getD_out hj, getD_out (by omega)]⟩
    refine ⟨0 + j, ?_⟩
    simp (disch := omega) only [c_dec, c_beq, c_bne, c_and, c_or, c_not, blt_dec, up1, dn1, if_t, if_f, if_true, if_false, Int.toNat_natCast, Option.bind_some, ne_eq, not_true_eq_false, not_false_eq_true, true_and, and_true, IntWalk.i64_in]
    exact hj 0
  · refine ⟨0, ?_⟩
    by_cases hlt : x.length < y.length
    · have h1 := nrm_pos cb (by omega)
      have h2 := pw_mono (m := x.length) (n := y.length - 1) (by omega)
      simp (disch := omega) only [c_dec, c_beq, c_bne, c_and, c_or, c_not, blt_dec, up1, dn1, if_t, if_f, if_true, if_false, Int.toNat_natCast, Option.bind_some, ne_eq, not_true_eq_false, not_false_eq_true, true_and, and_true, cmpI_lt (show val x < val y by omega)]
    · have h1 := nrm_pos ca (by omega)
      have h2 := pw_mono (m := y.length) (n := x.length - 1) (by omega)
      simp (disch := omega) only [c_dec, c_beq, c_bne, c_and, c_or, c_not, blt_dec, up1, dn1, if_t, if_f, if_true, if_false, Int.toNat_natCast, Option.bind_some, ne_eq, not_true_eq_false, not_false_eq_true, true_and, and_true, cmpI_gt (show val y < val x by omega)]

theorem at_F {a : List Int} (ha : Limbs a) (i : Nat) : fulcrumref01_at.F (a, (i : Int), ()) = some (a.getD i 0, ()) := by
  refine fulcrumref01_at.of 0 a i ?_
  have h := ha.get i
  by_cases hi : i < a.length
  · simp (disch := omega) only [c_dec, c_beq, c_bne, c_and, c_or, c_not, blt_dec, up1, dn1, if_t, if_f, if_true, if_false, Int.toNat_natCast, Option.bind_some, ne_eq, not_true_eq_false, not_false_eq_true, true_and, and_true, fulcrumref01_at.e, IntWalk.u64_in]
  · simp (disch := omega) only [c_dec, c_beq, c_bne, c_and, c_or, c_not, blt_dec, up1, dn1, if_t, if_f, if_true, if_false, Int.toNat_natCast, Option.bind_some, ne_eq, not_true_eq_false, not_false_eq_true, true_and, and_true, fulcrumref01_at.e, getD_out (show a.length ≤ i by omega)]

theorem rCmp_F {a b : List Int} (ha : Limbs a) (hb : Limbs b) (la : a.length ≤ 70368744177664) (lb : b.length ≤ 70368744177664) : fulcrumref01_Cmp.F (a, b, ()) = some (cmpI (val a) (val b), ()) := by
  have loop : ∀ n, n ≤ 70368744177664 → (∀ j, n ≤ j → a.getD j 0 = b.getD j 0) → ∃ j, ∀ k, fulcrumref01_Cmp.L5 (k + j) a b ((n : Int) - 1) = some (cmpI (val a) (val b), ()) := by
    intro n hn hz
    refine ends (fun k (n : Nat) => fulcrumref01_Cmp.L5 k a b ((n : Int) - 1)) (cmpI (val a) (val b), ()) (fun n => n ≤ 70368744177664 ∧ ∀ j, n ≤ j → a.getD j 0 = b.getD j 0) id (fun n ⟨hn, hz⟩ => ?_) n ⟨hn, hz⟩
    rcases n with _ | m
    · refine .inr ⟨1, fun k => ?_⟩
      simp (disch := omega) only [c_dec, c_beq, c_bne, c_and, c_or, c_not, blt_dec, up1, dn1, if_t, if_f, if_true, if_false, Int.toNat_natCast, Option.bind_some, ne_eq, not_true_eq_false, not_false_eq_true, true_and, and_true, fulcrumref01_Cmp.L5_succ, fulcrumref01_Cmp.b5, sub0, cmpI_eq (val_ext fun j => hz j (Nat.zero_le j))]
    · by_cases h1 : a.getD m 0 = b.getD m 0
      · refine .inl ⟨m, ⟨by omega, fun j hj => ?_⟩, Nat.lt_succ_self m, 1, fun k => ?_⟩
        · by_cases hjm : j = m
          · rw [hjm, h1]
          · exact hz j (by omega)
        · simp (disch := omega) only [c_dec, c_beq, c_bne, c_and, c_or, c_not, blt_dec, up1, dn1, if_t, if_f, if_true, if_false, Int.toNat_natCast, Option.bind_some, ne_eq, not_true_eq_false, not_false_eq_true, true_and, and_true, fulcrumref01_Cmp.L5_succ, fulcrumref01_Cmp.b5, sub1, at_F ha, at_F hb, h1, IntWalk.i64_in]
      · refine .inr ⟨1, fun k => ?_⟩
        rcases Int.lt_or_gt_of_ne h1 with h2 | h2
        · simp (disch := omega) only [c_dec, c_beq, c_bne, c_and, c_or, c_not, blt_dec, up1, dn1, if_t, if_f, if_true, if_false, Int.toNat_natCast, Option.bind_some, ne_eq, not_true_eq_false, not_false_eq_true, true_and, and_true, fulcrumref01_Cmp.L5_succ, fulcrumref01_Cmp.b5, sub1, at_F ha, at_F hb, cmpI_lt (val_cmp ha hb (fun j hj => hz j hj) h2)]
        · simp (disch := omega) only [c_dec, c_beq, c_bne, c_and, c_or, c_not, blt_dec, up1, dn1, if_t, if_f, if_true, if_false, Int.toNat_natCast, Option.bind_some, ne_eq, not_true_eq_false, not_false_eq_true, true_and, and_true, fulcrumref01_Cmp.L5_succ, fulcrumref01_Cmp.b5, sub1, at_F ha, at_F hb, cmpI_gt (val_cmp hb ha (fun j hj => (hz j hj).symm) h2)]
  by_cases hl : a.length < b.length
  · obtain ⟨j, hj⟩ := loop b.length lb fun j hj => by rw [getD_out hj, getD_out (by omega)]
    refine fulcrumref01_Cmp.of (0 + j) a b ?_
    simp (disch := omega) only [c_dec, c_beq, c_bne, c_and, c_or, c_not, blt_dec, up1, dn1, if_t, if_f, if_true, if_false, Int.toNat_natCast, Option.bind_some, ne_eq, not_true_eq_false, not_false_eq_true, true_and, and_true, fulcrumref01_Cmp.e, IntWalk.i64_in]
    exact hj 0
  · obtain ⟨j, hj⟩ := loop a.length la fun j hj => by rw [getD_out hj, getD_out (by omega)]
    refine fulcrumref01_Cmp.of (0 + j) a b ?_
    simp (disch := omega) only [c_dec, c_beq, c_bne, c_and, c_or, c_not, blt_dec, up1, dn1, if_t, if_f, if_true, if_false, Int.toNat_natCast, Option.bind_some, ne_eq, not_true_eq_false, not_false_eq_true, true_and, and_true, fulcrumref01_Cmp.e, IntWalk.i64_in]
    exact hj 0

/-! ### Add -/
theorem Add32_F {x y c : Int} (hx : 0 ≤ x ∧ x < 4294967296) (hy : 0 ≤ y ∧ y < 4294967296) (hc : 0 ≤ c ∧ c ≤ 1) : bits_Add32.F (x, y, c, ()) = some ((x + y + c) % 4294967296, (x + y + c) / 4294967296, ()) := by
  refine bits_Add32.of 0 x y c ?_
  simp (disch := omega) only [c_dec, c_beq, c_bne, c_and, c_or, c_not, blt_dec, up1, dn1, if_t, if_f, if_true, if_false, Int.toNat_natCast, Option.bind_some, ne_eq, not_true_eq_false, not_false_eq_true, true_and, and_true, bits_Add32.e, IntWalk.u64_in, shr64_32, w32]
  rw [show (x + y + c) / 4294967296 % 4294967296 = (x + y + c) / 4294967296 by omega]

theorem Add_F {a b : List Int} (ha : Limbs a) (hb : Limbs b) (la : a.length < 70368744177664) (lb : b.length < 70368744177664) : nat_Add.F (a, b, ()) = some (canon (val a + val b), ()) := by
  have loop : ∀ (a b : List Int), Limbs a → Limbs b → a.length < 70368744177664 → b.length ≤ a.length → ∃ j, ∀ k, nat_Add.L6 (k + j) a b (List.replicate (a.length + 1) 0) 0 a.length 0 = some (canon (val a + val b), ()) := by
    intro a b ha hb la hl
    refine up (fun k (s : Nat × List Int × Int) => nat_Add.L6 k a b s.2.1 s.2.2 a.length (s.1 : Int)) (canon (val a + val b), ()) (fun i s => s.1.length = a.length + 1 ∧ Limbs s.1 ∧ (0 ≤ s.2 ∧ s.2 ≤ 1) ∧ (∀ j, i ≤ j → s.1.getD j 0 = 0) ∧ val s.1 + s.2 * pw i = val (a.take i) + val (b.take i)) a.length (fun i s hi ⟨h1, h2, h3, h4, h5⟩ => ?_) (fun s ⟨h1, h2, h3, h4, h5⟩ => ?_) 0 (List.replicate (a.length + 1) 0, 0) (Nat.zero_le _) ⟨by simp, Limbs.zeros _, by omega, fun j _ => getD_zeros _ _, by simp [val_zeros, val_nil]⟩
    · obtain ⟨c, q⟩ := s
      simp only at h1 h2 h3 h4 h5
      have g1 := ha.get i
      have g2 := hb.get i
      have g3 := h4 i (Nat.le_refl i)
      refine ⟨(c.set i ((a.getD i 0 + b.getD i 0 + q) % 4294967296), (a.getD i 0 + b.getD i 0 + q) / 4294967296), ⟨by simpa using h1, h2.set i (by omega), by simp only; omega, fun j hj => ?_, ?_⟩, 1, fun k => ?_⟩
      · rw [getD_set (by omega), if_neg (by omega)]; exact h4 j (by omega)
      · rw [carry_step (x := a.getD i 0 + b.getD i 0) (by omega) (by omega) h5, val_take_next, val_take_next, Int.add_mul]; omega
      · by_cases hb' : i < b.length
        · simp (disch := omega) only [c_dec, c_beq, c_bne, c_and, c_or, c_not, blt_dec, up1, dn1, if_t, if_f, if_true, if_false, Int.toNat_natCast, Option.bind_some, ne_eq, not_true_eq_false, not_false_eq_true, true_and, and_true, nat_Add.L6_succ, nat_Add.b6, Add32_F g1 g2 h3]
        · have g4 : b.getD i 0 = 0 := getD_out (by omega)
          simp (disch := omega) only [c_dec, c_beq, c_bne, c_and, c_or, c_not, blt_dec, up1, dn1, if_t, if_f, if_true, if_false, Int.toNat_natCast, Option.bind_some, ne_eq, not_true_eq_false, not_false_eq_true, true_and, and_true, nat_Add.L6_succ, nat_Add.b6, g4, Add32_F g1 (show 0 ≤ (0 : Int) ∧ (0 : Int) < 4294967296 by decide) h3]
    · obtain ⟨c, q⟩ := s
      simp only at h1 h2 h3 h4 h5
      refine ⟨1, fun k => ?_⟩
      have h6 := h2.set a.length (v := q) (by omega)
      have h7 : val (c.set a.length q) = val a + val b := by
        rw [val_set q (by omega), h4 a.length (Nat.le_refl _), Int.sub_zero, h5, List.take_length, val_take_all hl]
      simp (disch := omega) only [c_dec, c_beq, c_bne, c_and, c_or, c_not, blt_dec, up1, dn1, if_t, if_f, if_true, if_false, Int.toNat_natCast, Option.bind_some, ne_eq, not_true_eq_false, not_false_eq_true, true_and, and_true, nat_Add.L6_succ, nat_Add.b6, own_F h6 (by simp; omega), h7]
  by_cases hl : a.length < b.length
  · obtain ⟨j, hj⟩ := loop b a hb ha lb (by omega)
    refine nat_Add.of (0 + j) a b ?_
    simp (disch := omega) only [c_dec, c_beq, c_bne, c_and, c_or, c_not, blt_dec, up1, dn1, if_t, if_f, if_true, if_false, Int.toNat_natCast, Option.bind_some, ne_eq, not_true_eq_false, not_false_eq_true, true_and, and_true, nat_Add.e]
    rw [Int.add_comm]; exact hj 0
  · obtain ⟨j, hj⟩ := loop a b ha hb la (by omega)
    refine nat_Add.of (0 + j) a b ?_
    simp (disch := omega) only [c_dec, c_beq, c_bne, c_and, c_or, c_not, blt_dec, up1, dn1, if_t, if_f, if_true, if_false, Int.toNat_natCast, Option.bind_some, ne_eq, not_true_eq_false, not_false_eq_true, true_and, and_true, nat_Add.e]
    exact hj 0
end Go.Fx.Tryz

namespace Go.Fx.Tryz
open Go Go.Fx Go.Fx.Num
set_option linter.unusedVariables false
set_option linter.unusedSimpArgs false

theorem rAdd_F {a b : List Int} (ha : Limbs a) (hb : Limbs b) (la : a.length < 70368744177664) (lb : b.length < 70368744177664) : fulcrumref01_Add.F (a, b, ()) = some (canon (val a + val b), ()) := by
  have loop : ∀ n : Nat, n < 70368744177664 → a.length ≤ n → b.length ≤ n → ∃ j, ∀ k, fulcrumref01_Add.L7 (k + j) a b n (List.replicate (n + 1) 0) 0 0 = some (canon (val a + val b), ()) := by
    intro n hn hal hbl
    refine up (fun k (s : Nat × List Int × Int) => fulcrumref01_Add.L7 k a b n s.2.1 s.2.2 (s.1 : Int)) (canon (val a + val b), ()) (fun i s => s.1.length = n + 1 ∧ Limbs s.1 ∧ (0 ≤ s.2 ∧ s.2 ≤ 1) ∧ (∀ j, i ≤ j → s.1.getD j 0 = 0) ∧ val s.1 + s.2 * pw i = val (a.take i) + val (b.take i)) (n + 1) (fun i s hi ⟨h1, h2, h3, h4, h5⟩ => ?_) (fun s ⟨h1, h2, h3, h4, h5⟩ => ?_) 0 (List.replicate (n + 1) 0, 0) (Nat.zero_le _) ⟨by simp, Limbs.zeros _, by simp only; omega, fun j _ => getD_zeros _ _, by simp [val_zeros, val_nil]⟩
    · obtain ⟨c, q⟩ := s
      simp only at h1 h2 h3 h4 h5
      have g1 := ha.get i
      have g2 := hb.get i
      have g3 := h4 i (Nat.le_refl i)
      refine ⟨(c.set i ((a.getD i 0 + b.getD i 0 + q) % 4294967296), (a.getD i 0 + b.getD i 0 + q) / 4294967296), ⟨by simpa using h1, h2.set i (by omega), by simp only; omega, fun j hj => ?_, ?_⟩, 1, fun k => ?_⟩
      · rw [getD_set (by omega), if_neg (by omega)]; exact h4 j (by omega)
      · rw [carry_step (x := a.getD i 0 + b.getD i 0) (by omega) (by omega) h5, val_take_next, val_take_next, Int.add_mul]; omega
      · simp (disch := omega) only [c_dec, c_beq, c_bne, c_and, c_or, c_not, blt_dec, up1, dn1, if_t, if_f, if_true, if_false, Int.toNat_natCast, Option.bind_some, ne_eq, not_true_eq_false, not_false_eq_true, true_and, and_true, fulcrumref01_Add.L7_succ, fulcrumref01_Add.b7, at_F ha, at_F hb, IntWalk.u64_in, w32, shr64_32]
    · obtain ⟨c, q⟩ := s
      simp only at h1 h2 h3 h4 h5
      refine ⟨1, fun k => ?_⟩
      rw [val_take_all (by omega), val_take_all (by omega)] at h5
      have h6 := val_lt ha
      have h7 := val_lt hb
      have h8 := val_lt h2
      have h9 := val_nonneg h2
      have h10 := pw_mono hal
      have h11 := pw_mono hbl
      rw [h1] at h8
      have h14 := pw_pos n
      have h12 : q = 0 := by
        rcases (show q = 0 ∨ q = 1 by omega) with h | h
        · exact h
        · rw [h, Int.one_mul, pw_succ] at h5; omega
      have h13 : val c = val a + val b := by rw [← h5, h12]; omega
      simp (disch := omega) only [c_dec, c_beq, c_bne, c_and, c_or, c_not, blt_dec, up1, dn1, if_t, if_f, if_true, if_false, Int.toNat_natCast, Option.bind_some, ne_eq, not_true_eq_false, not_false_eq_true, true_and, and_true, fulcrumref01_Add.L7_succ, fulcrumref01_Add.b7, rNorm_F h2 (by omega), h13]
  by_cases hl : a.length < b.length
  · obtain ⟨j, hj⟩ := loop b.length lb (by omega) (Nat.le_refl _)
    refine fulcrumref01_Add.of (0 + j) a b ?_
    simp (disch := omega) only [c_dec, c_beq, c_bne, c_and, c_or, c_not, blt_dec, up1, dn1, if_t, if_f, if_true, if_false, Int.toNat_natCast, Option.bind_some, ne_eq, not_true_eq_false, not_false_eq_true, true_and, and_true, fulcrumref01_Add.e]
    exact hj 0
  · obtain ⟨j, hj⟩ := loop a.length la (Nat.le_refl _) (by omega)
    refine fulcrumref01_Add.of (0 + j) a b ?_
    simp (disch := omega) only [c_dec, c_beq, c_bne, c_and, c_or, c_not, blt_dec, up1, dn1, if_t, if_f, if_true, if_false, Int.toNat_natCast, Option.bind_some, ne_eq, not_true_eq_false, not_false_eq_true, true_and, and_true, fulcrumref01_Add.e]
    exact hj 0

/-! ### Sub -/
theorem all32 : (if IntKind.u32.signed then (-1 : Int) else IntKind.u32.max) = ((4294967295 : Nat) : Int) := by decide
theorem Sub32_F {x y b : Int} (hx : 0 ≤ x ∧ x < 4294967296) (hy : 0 ≤ y ∧ y < 4294967296) (hb : 0 ≤ b ∧ b ≤ 1) : bits_Sub32.F (x, y, b, ()) = some ((x - y - b) % 4294967296, (if x < y + b then 1 else 0), ()) := by
  refine bits_Sub32.of 0 x y b ?_
  obtain ⟨x, rfl⟩ := Int.eq_ofNat_of_zero_le hx.1
  obtain ⟨y, rfl⟩ := Int.eq_ofNat_of_zero_le hy.1
  obtain ⟨b, rfl⟩ := Int.eq_ofNat_of_zero_le hb.1
  have hd : ∃ d : Nat, (d : Int) = ((x : Int) - y - b) % 4294967296 := ⟨_, Int.toNat_of_nonneg (by omega)⟩
  obtain ⟨d, hd⟩ := hd
  have e1 : IntKind.u32.wrap (IntKind.u32.wrap ((x : Int) - y) - b) = d := by rw [w32, w32]; omega
  have h1 : (4294967295 ^^^ x) < 2 ^ 32 := Nat.xor_lt_two_pow (by decide) (by omega)
  have h2 : (x ^^^ y) < 2 ^ 32 := Nat.xor_lt_two_pow (by omega) (by omega)
  have h3 : (4294967295 ^^^ (x ^^^ y)) < 2 ^ 32 := Nat.xor_lt_two_pow (by decide) h2
  have h4 : ((4294967295 ^^^ x) &&& y) < 2 ^ 32 := Nat.and_lt_two_pow _ (by omega)
  have h5 : ((4294967295 ^^^ (x ^^^ y)) &&& d) < 2 ^ 32 := Nat.and_lt_two_pow _ (by omega)
  have h6 := borrow32 (x := x) (y := y) (b := b) (d := d) (by omega) (by omega) (by omega) hd
  simp only [bits_Sub32.e, e1, all32]
  rw [xor32 (by decide) (by omega), and32 h1 (by omega), xor32 (by omega) (by omega), xor32 (by decide) h2, and32 h3 (by omega), or32 h4 h5]
  simp (disch := omega) only [c_dec, c_beq, c_bne, c_and, c_or, c_not, blt_dec, up1, dn1, if_t, if_f, if_true, if_false, Int.toNat_natCast, Option.bind_some, ne_eq, not_true_eq_false, not_false_eq_true, true_and, and_true, show shrI .u32 ((((4294967295 ^^^ x) &&& y ||| (4294967295 ^^^ (x ^^^ y)) &&& d : Nat)) : Int) 31 = (((4294967295 ^^^ x) &&& y ||| (4294967295 ^^^ (x ^^^ y)) &&& d : Nat) : Int) / 2 ^ 31 from shr_eq .u32 _ 31 (by decide)]
  have h7 : ((((4294967295 ^^^ x) &&& y ||| (4294967295 ^^^ (x ^^^ y)) &&& d) : Nat) : Int) / 2 ^ 31 = (if (x : Int) < y + b then 1 else 0) := by
    have : ((((4294967295 ^^^ x) &&& y ||| (4294967295 ^^^ (x ^^^ y)) &&& d) / 2147483648 : Nat) : Int) = ((if x < y + b then 1 else 0 : Nat) : Int) := by rw [h6]
    by_cases hlt : x < y + b
    · rw [if_pos hlt] at this; rw [if_pos (by omega)]; omega
    · rw [if_neg hlt] at this; rw [if_neg (by omega)]; omega
  rw [h7, hd]

/-- What a difference's loop has at its end. -/
theorem sub_last {c a b : List Int} {q : Int} (hc : Limbs c) (ha : Limbs a) (hb : Limbs b) (hl : c.length = a.length) (hq : 0 ≤ q ∧ q ≤ 1) (hle : val b ≤ val a) (h : val c + -q * pw a.length = val (a.take a.length) - val (b.take a.length)) : val c = val a - val b := by
  have h1 := val_lt ha
  rw [List.take_length, val_take_of_lt hb (show val b < pw a.length by omega)] at h
  have h2 := val_lt hc
  rw [hl] at h2
  rcases (show q = 0 ∨ q = 1 by omega) with h0 | h0
  · rw [h0] at h; omega
  · rw [h0] at h; omega

theorem Sub_F {a b : List Int} (ha : Limbs a) (hb : Limbs b) (la : a.length ≤ 70368744177664) (lb : b.length ≤ 70368744177664) : nat_Sub.F (a, b, ()) = some (if val a < val b then ([], 10, ()) else (canon (val a - val b), 0, ())) := by
  by_cases hlt : val a < val b
  · refine nat_Sub.of 0 a b ?_
    simp (disch := omega) only [c_dec, c_beq, c_bne, c_and, c_or, c_not, blt_dec, up1, dn1, if_t, if_f, if_true, if_false, Int.toNat_natCast, Option.bind_some, ne_eq, not_true_eq_false, not_false_eq_true, true_and, and_true, nat_Sub.e, Cmp_F ha hb la lb, cmpI_lt hlt]
  · have hc : 0 ≤ cmpI (val a) (val b) := by unfold cmpI; rw [if_neg hlt]; split <;> decide
    have ht := canon_limbs (val b)
    have vt := val_canon (val_nonneg hb)
    obtain ⟨j, hj⟩ := up (fun k (s : Nat × List Int × Int) => nat_Sub.L7 k a (canon (val b)) s.2.1 s.2.2 a.length (s.1 : Int)) (canon (val a - val b), 0, ()) (fun i s => s.1.length = a.length ∧ Limbs s.1 ∧ (0 ≤ s.2 ∧ s.2 ≤ 1) ∧ (∀ j, i ≤ j → s.1.getD j 0 = 0) ∧ val s.1 + -s.2 * pw i = val (a.take i) - val ((canon (val b)).take i)) a.length (fun i s hi ⟨h1, h2, h3, h4, h5⟩ => by
        obtain ⟨c, q⟩ := s
        simp only at h1 h2 h3 h4 h5
        have g1 := ha.get i
        have g2 := ht.get i
        have g3 := h4 i (Nat.le_refl i)
        refine ⟨(c.set i ((a.getD i 0 - (canon (val b)).getD i 0 - q) % 4294967296), if a.getD i 0 < (canon (val b)).getD i 0 + q then 1 else 0), ⟨by simpa using h1, h2.set i (by omega), by simp only; split <;> omega, fun j hj => ?_, ?_⟩, 1, fun k => ?_⟩
        · rw [getD_set (by omega), if_neg (by omega)]; exact h4 j (by omega)
        · rw [carry_step (x := a.getD i 0 - (canon (val b)).getD i 0) (by omega) (by rw [g3]; split <;> omega) h5, val_take_next, val_take_next, Int.sub_mul]; omega
        · by_cases hb' : i < (canon (val b)).length
          · simp (disch := omega) only [c_dec, c_beq, c_bne, c_and, c_or, c_not, blt_dec, up1, dn1, if_t, if_f, if_true, if_false, Int.toNat_natCast, Option.bind_some, ne_eq, not_true_eq_false, not_false_eq_true, true_and, and_true, nat_Sub.L7_succ, nat_Sub.b7, Sub32_F g1 g2 h3]
          · have g4 : (canon (val b)).getD i 0 = 0 := getD_out (by omega)
            simp (disch := omega) only [c_dec, c_beq, c_bne, c_and, c_or, c_not, blt_dec, up1, dn1, if_t, if_f, if_true, if_false, Int.toNat_natCast, Option.bind_some, ne_eq, not_true_eq_false, not_false_eq_true, true_and, and_true, nat_Sub.L7_succ, nat_Sub.b7, g4, Sub32_F g1 (show 0 ≤ (0 : Int) ∧ (0 : Int) < 4294967296 by decide) h3]) (fun s ⟨h1, h2, h3, h4, h5⟩ => by
        obtain ⟨c, q⟩ := s
        simp only at h1 h2 h3 h4 h5
        refine ⟨1, fun k => ?_⟩
        have h6 := sub_last h2 ha ht h1 h3 (by omega) h5
        rw [vt] at h6
        simp (disch := omega) only [c_dec, c_beq, c_bne, c_and, c_or, c_not, blt_dec, up1, dn1, if_t, if_f, if_true, if_false, Int.toNat_natCast, Option.bind_some, ne_eq, not_true_eq_false, not_false_eq_true, true_and, and_true, nat_Sub.L7_succ, nat_Sub.b7, own_F h2 (by omega), h6]) 0 (List.replicate a.length 0, 0) (Nat.zero_le _) ⟨by simp, Limbs.zeros _, by simp only; omega, fun j _ => getD_zeros _ _, by simp [val_zeros, val_nil]⟩
    refine nat_Sub.of (0 + j) a b ?_
    simp (disch := omega) only [c_dec, c_beq, c_bne, c_and, c_or, c_not, blt_dec, up1, dn1, if_t, if_f, if_true, if_false, Int.toNat_natCast, Option.bind_some, ne_eq, not_true_eq_false, not_false_eq_true, true_and, and_true, nat_Sub.e, Cmp_F ha hb la lb, trim_F hb lb]
    exact hj 0

theorem rSub_F {a b : List Int} (ha : Limbs a) (hb : Limbs b) (la : a.length ≤ 70368744177664) (lb : b.length ≤ 70368744177664) : fulcrumref01_Sub.F (a, b, ()) = some (if val a < val b then ([], 10, ()) else (canon (val a - val b), 0, ())) := by
  by_cases hlt : val a < val b
  · refine fulcrumref01_Sub.of 0 a b ?_
    simp (disch := omega) only [c_dec, c_beq, c_bne, c_and, c_or, c_not, blt_dec, up1, dn1, if_t, if_f, if_true, if_false, Int.toNat_natCast, Option.bind_some, ne_eq, not_true_eq_false, not_false_eq_true, true_and, and_true, fulcrumref01_Sub.e, rCmp_F ha hb la lb, cmpI_lt hlt]
  · have hc : 0 ≤ cmpI (val a) (val b) := by unfold cmpI; rw [if_neg hlt]; split <;> decide
    obtain ⟨j, hj⟩ := up (fun k (s : Nat × List Int × Int) => fulcrumref01_Sub.L6 k a b s.2.1 s.2.2 (s.1 : Int)) (canon (val a - val b), 0, ()) (fun i s => s.1.length = a.length ∧ Limbs s.1 ∧ (0 ≤ s.2 ∧ s.2 ≤ 1) ∧ (∀ j, i ≤ j → s.1.getD j 0 = 0) ∧ val s.1 + -s.2 * pw i = val (a.take i) - val (b.take i)) a.length (fun i s hi ⟨h1, h2, h3, h4, h5⟩ => by
        obtain ⟨c, q⟩ := s
        simp only at h1 h2 h3 h4 h5
        have g1 := ha.get i
        have g2 := hb.get i
        have g3 := h4 i (Nat.le_refl i)
        refine ⟨(c.set i ((a.getD i 0 - b.getD i 0 - q) % 4294967296), ((a.getD i 0 - b.getD i 0 - q) % 18446744073709551616) / 9223372036854775808), ⟨by simpa using h1, h2.set i (by omega), by simp only; omega, fun j hj => ?_, ?_⟩, 1, fun k => ?_⟩
        · rw [getD_set (by omega), if_neg (by omega)]; exact h4 j (by omega)
        · rw [carry_step (x := a.getD i 0 - b.getD i 0) (by omega) (by rw [g3]; omega) h5, val_take_next, val_take_next, Int.sub_mul]; omega
        · simp (disch := omega) only [c_dec, c_beq, c_bne, c_and, c_or, c_not, blt_dec, up1, dn1, if_t, if_f, if_true, if_false, Int.toNat_natCast, Option.bind_some, ne_eq, not_true_eq_false, not_false_eq_true, true_and, and_true, fulcrumref01_Sub.L6_succ, fulcrumref01_Sub.b6, at_F ha, at_F hb, w64, w32, show ∀ x, shrI .u64 x 63 = x / 9223372036854775808 from fun x => shr_eq .u64 x 63 (by decide)]
          rw [show ((a.getD i 0 - b.getD i 0) % 18446744073709551616 - q) % 18446744073709551616 = (a.getD i 0 - b.getD i 0 - q) % 18446744073709551616 by omega, show (a.getD i 0 - b.getD i 0 - q) % 18446744073709551616 % 4294967296 = (a.getD i 0 - b.getD i 0 - q) % 4294967296 by omega]) (fun s ⟨h1, h2, h3, h4, h5⟩ => by
        obtain ⟨c, q⟩ := s
        simp only at h1 h2 h3 h4 h5
        refine ⟨1, fun k => ?_⟩
        have h6 := sub_last h2 ha hb h1 h3 (by omega) h5
        simp (disch := omega) only [c_dec, c_beq, c_bne, c_and, c_or, c_not, blt_dec, up1, dn1, if_t, if_f, if_true, if_false, Int.toNat_natCast, Option.bind_some, ne_eq, not_true_eq_false, not_false_eq_true, true_and, and_true, fulcrumref01_Sub.L6_succ, fulcrumref01_Sub.b6, rNorm_F h2 (by omega), h6]) 0 (List.replicate a.length 0, 0) (Nat.zero_le _) ⟨by simp, Limbs.zeros _, by simp only; omega, fun j _ => getD_zeros _ _, by simp [val_zeros, val_nil]⟩
    refine fulcrumref01_Sub.of (0 + j) a b ?_
    simp (disch := omega) only [c_dec, c_beq, c_bne, c_and, c_or, c_not, blt_dec, up1, dn1, if_t, if_f, if_true, if_false, Int.toNat_natCast, Option.bind_some, ne_eq, not_true_eq_false, not_false_eq_true, true_and, and_true, fulcrumref01_Sub.e, rCmp_F ha hb la lb]
    exact hj 0
end Go.Fx.Tryz

namespace Go.Fx.Tryz
open Go Go.Fx Go.Fx.Num
set_option linter.unusedVariables false
set_option linter.unusedSimpArgs false

theorem mul_bound {x y : Int} (hx : 0 ≤ x ∧ x < 4294967296) (hy : 0 ≤ y ∧ y < 4294967296) : 0 ≤ x * y ∧ x * y ≤ 18446744065119617025 := by
  refine ⟨Int.mul_nonneg hx.1 hy.1, ?_⟩
  have h1 : x * y ≤ 4294967295 * y := Int.mul_le_mul_of_nonneg_right (by omega) hy.1
  have h2 : 4294967295 * y ≤ 4294967295 * 4294967295 := Int.mul_le_mul_of_nonneg_left (by omega) (by decide)
  omega
theorem i64_2 {i k : Nat} (h : i + k < 4611686018427387904) : IntKind.i64.wrap ((i : Int) + (k : Int)) = ((i + k : Nat) : Int) := by rw [IntWalk.i64_in _ (by omega)]; omega

/-- What a row of a product's loop keeps: k of the second's limbs are taken. -/
def MulInv (c0 : List Int) (x : Int) (b : List Int) (n i k : Nat) (c : List Int) (q : Int) : Prop :=
  c.length = n ∧ Limbs c ∧ (0 ≤ q ∧ q < 4294967296) ∧ (∀ j, i + b.length ≤ j → c.getD j 0 = 0) ∧ val c + q * pw (i + k) = val c0 + x * val (b.take k) * pw i
theorem MulInv.next {c0 : List Int} {x : Int} {b : List Int} {n i k : Nat} {c : List Int} {q : Int} (h : MulInv c0 x b n i k c q) (hx : 0 ≤ x ∧ x < 4294967296) (hb : Limbs b) (hk : k < b.length) (hn : i + b.length < n) :
    let t := x * b.getD k 0 + c.getD (i + k) 0 + q
    (0 ≤ t ∧ t < 18446744073709551616) ∧ MulInv c0 x b n i (k + 1) (c.set (i + k) (t % 4294967296)) (t / 4294967296) := by
  obtain ⟨h1, h2, h3, h4, h5⟩ := h
  have g1 := hb.get k
  have g2 := h2.get (i + k)
  have g3 := mul_bound hx g1
  intro t
  have ht : t = x * b.getD k 0 + c.getD (i + k) 0 + q := rfl
  refine ⟨by omega, by simpa using h1, h2.set _ (by omega), by omega, fun j hj => ?_, ?_⟩
  · rw [getD_set (by omega), if_neg (by omega)]; exact h4 j hj
  · rw [← Nat.add_assoc, carry_step (x := x * b.getD k 0) (by omega) (by omega) h5, val_take_next, pw_add, Int.mul_add, Int.add_mul]
    have : x * b.getD k 0 * (pw i * pw k) = x * (b.getD k 0 * pw k) * pw i := by
      rw [Int.mul_comm (pw i), Int.mul_assoc, Int.mul_assoc, Int.mul_assoc]
    omega
theorem MulInv.last {c0 : List Int} {x : Int} {b : List Int} {n i : Nat} {c : List Int} {q : Int} (h : MulInv c0 x b n i b.length c q) (hn : i + b.length < n) :
    (c.set (i + b.length) q).length = n ∧ Limbs (c.set (i + b.length) q) ∧ (∀ j, (i + 1) + b.length ≤ j → (c.set (i + b.length) q).getD j 0 = 0) ∧ val (c.set (i + b.length) q) = val c0 + x * val b * pw i := by
  obtain ⟨h1, h2, h3, h4, h5⟩ := h
  refine ⟨by simpa using h1, h2.set _ h3, fun j hj => ?_, ?_⟩
  · rw [getD_set (by omega), if_neg (by omega)]; exact h4 j (by omega)
  · rw [val_set q (by omega), h4 _ (Nat.le_refl _), Int.sub_zero, h5, List.take_length]
theorem mul_next (a b : List Int) (i : Nat) : val (a.take i) * val b + a.getD i 0 * val b * pw i = val (a.take (i + 1)) * val b := by
  rw [val_take_next, Int.add_mul, Int.mul_assoc, Int.mul_comm (val b), ← Int.mul_assoc]

theorem rMul_F {a b : List Int} (ha : Limbs a) (hb : Limbs b) (hl : a.length + b.length ≤ 70368744177664) : fulcrumref01_Mul.F (a, b, ()) = some (canon (val a * val b), ()) := by
  obtain ⟨j, hj⟩ := up (fun k (s : Nat × List Int) => fulcrumref01_Mul.L3 k a b s.2 (s.1 : Int)) (canon (val a * val b), ()) (fun i c => c.length = a.length + b.length ∧ Limbs c ∧ (∀ j, i + b.length ≤ j → c.getD j 0 = 0) ∧ val c = val (a.take i) * val b) a.length (fun i c hi ⟨h1, h2, h3, h4⟩ => by
      obtain ⟨t, ht, j, hj⟩ := upTo (fun k (s : Nat × List Int × Int) => fulcrumref01_Mul.L7 k a b s.2.1 i s.2.2 (s.1 : Int)) (fun k (c : List Int) => fulcrumref01_Mul.L3 k a b c ((i + 1 : Nat) : Int)) (fun k s => MulInv c (a.getD i 0) b (a.length + b.length) i k s.1 s.2)
        (fun c' => c'.length = a.length + b.length ∧ Limbs c' ∧ (∀ j, (i + 1) + b.length ≤ j → c'.getD j 0 = 0) ∧ val c' = val (a.take (i + 1)) * val b) b.length
        (fun k s hk hs => by
          obtain ⟨c', q⟩ := s
          obtain ⟨ht, hn⟩ := MulInv.next hs (ha.get i) hb hk (by omega)
          obtain ⟨h1, h2, h3, h4, h5⟩ := hs
          simp only at h1 h2 h3 h4 h5 ht
          have g0 := ha.get i
          have g1 := hb.get k
          have g2 := h2.get (i + k)
          have g3 := mul_bound g0 g1
          refine ⟨(c'.set (i + k) ((a.getD i 0 * b.getD k 0 + c'.getD (i + k) 0 + q) % 4294967296), (a.getD i 0 * b.getD k 0 + c'.getD (i + k) 0 + q) / 4294967296), hn, 1, fun m => ?_⟩
          simp (disch := omega) only [c_dec, c_beq, c_bne, c_and, c_or, c_not, blt_dec, up1, dn1, if_t, if_f, if_true, if_false, Int.toNat_natCast, Option.bind_some, ne_eq, not_true_eq_false, not_false_eq_true, true_and, and_true, fulcrumref01_Mul.L7_succ, fulcrumref01_Mul.b7, IntWalk.u64_in, i64_2, w32, shr64_32])
        (fun s hs => by
          obtain ⟨c', q⟩ := s
          have hn := MulInv.last hs (by omega)
          obtain ⟨h1, h2, h3, h4', h5⟩ := hs
          simp only at h1 h3
          refine ⟨c'.set (i + b.length) q, ⟨hn.1, hn.2.1, hn.2.2.1, by rw [hn.2.2.2, h4, mul_next]⟩, 1, fun m => ?_⟩
          simp (disch := omega) only [c_dec, c_beq, c_bne, c_and, c_or, c_not, blt_dec, up1, dn1, if_t, if_f, if_true, if_false, Int.toNat_natCast, Option.bind_some, ne_eq, not_true_eq_false, not_false_eq_true, true_and, and_true, fulcrumref01_Mul.L7_succ, fulcrumref01_Mul.b7, i64_2, IntWalk.u32_in]) 0 (c, 0) (Nat.zero_le _) ⟨h1, h2, by simp, h3, by simp [val_nil]⟩
      refine ⟨t, ht, j + 1, fun k => ?_⟩
      rw [← Nat.add_assoc]
      simp (disch := omega) only [c_dec, c_beq, c_bne, c_and, c_or, c_not, blt_dec, up1, dn1, if_t, if_f, if_true, if_false, Int.toNat_natCast, Option.bind_some, ne_eq, not_true_eq_false, not_false_eq_true, true_and, and_true, fulcrumref01_Mul.L3_succ, fulcrumref01_Mul.b3]
      exact hj k) (fun c ⟨h1, h2, h3, h4⟩ => by
      refine ⟨1, fun k => ?_⟩
      rw [List.take_length] at h4
      simp (disch := omega) only [c_dec, c_beq, c_bne, c_and, c_or, c_not, blt_dec, up1, dn1, if_t, if_f, if_true, if_false, Int.toNat_natCast, Option.bind_some, ne_eq, not_true_eq_false, not_false_eq_true, true_and, and_true, fulcrumref01_Mul.L3_succ, fulcrumref01_Mul.b3, rNorm_F h2 (by omega), h4]) 0 (List.replicate (a.length + b.length) 0) (Nat.zero_le _) ⟨by simp, Limbs.zeros _, fun j _ => getD_zeros _ _, by simp [val_zeros, val_nil]⟩
  refine fulcrumref01_Mul.of (0 + j) a b ?_
  simp (disch := omega) only [c_dec, c_beq, c_bne, c_and, c_or, c_not, blt_dec, up1, dn1, if_t, if_f, if_true, if_false, Int.toNat_natCast, Option.bind_some, ne_eq, not_true_eq_false, not_false_eq_true, true_and, and_true, fulcrumref01_Mul.e, i64_2]
  exact hj 0

theorem Mul_F {x y : List Int} (hx : Limbs x) (hy : Limbs y) (hl : x.length + y.length ≤ 70368744177664) : nat_Mul.F (x, y, ()) = some (canon (val x * val y), ()) := by
  have na := canon_val_len hx
  have nb := canon_val_len hy
  have va := val_canon (val_nonneg hx)
  have vb := val_canon (val_nonneg hy)
  have ha := canon_limbs (val x)
  have hb := canon_limbs (val y)
  suffices h : ∃ k, nat_Mul.e (nat_Mul.L4 k) (nat_Mul.L8 k) x y = some (canon (val x * val y), ()) by obtain ⟨k, hk⟩ := h; exact nat_Mul.of k x y hk
  simp only [nat_Mul.e, trim_F hx (by omega), trim_F hy (by omega), Option.bind_some]
  rw [← va, ← vb, va, vb]
  generalize canon (val x) = a at na va ha ⊢
  generalize canon (val y) = b at nb vb hb ⊢
  rw [← va, ← vb]
  obtain ⟨j, hj⟩ := up (fun k (s : Nat × List Int) => nat_Mul.L4 k a b s.2 a.length (s.1 : Int)) (canon (val a * val b), ()) (fun i c => c.length = a.length + b.length ∧ Limbs c ∧ (∀ j, i + b.length ≤ j → c.getD j 0 = 0) ∧ val c = val (a.take i) * val b) a.length (fun i c hi ⟨h1, h2, h3, h4⟩ => by
      obtain ⟨t, ht, j, hj⟩ := upTo (fun k (s : Nat × List Int × Int) => nat_Mul.L8 k a b s.2.1 i s.2.2 a.length i b.length (s.1 : Int)) (fun k (c : List Int) => nat_Mul.L4 k a b c a.length ((i + 1 : Nat) : Int)) (fun k s => MulInv c (a.getD i 0) b (a.length + b.length) i k s.1 s.2)
        (fun c' => c'.length = a.length + b.length ∧ Limbs c' ∧ (∀ j, (i + 1) + b.length ≤ j → c'.getD j 0 = 0) ∧ val c' = val (a.take (i + 1)) * val b) b.length
        (fun k s hk hs => by
          obtain ⟨c', q⟩ := s
          obtain ⟨ht, hn⟩ := MulInv.next hs (ha.get i) hb hk (by omega)
          obtain ⟨h1, h2, h3, h4, h5⟩ := hs
          simp only at h1 h2 h3 h4 h5 ht
          have g0 := ha.get i
          have g1 := hb.get k
          have g2 := h2.get (i + k)
          have g3 := mul_bound g0 g1
          refine ⟨(c'.set (i + k) ((a.getD i 0 * b.getD k 0 + c'.getD (i + k) 0 + q) % 4294967296), (a.getD i 0 * b.getD k 0 + c'.getD (i + k) 0 + q) / 4294967296), hn, 1, fun m => ?_⟩
          simp (disch := omega) only [c_dec, c_beq, c_bne, c_and, c_or, c_not, blt_dec, up1, dn1, if_t, if_f, if_true, if_false, Int.toNat_natCast, Option.bind_some, ne_eq, not_true_eq_false, not_false_eq_true, true_and, and_true, nat_Mul.L8_succ, nat_Mul.b8, IntWalk.u64_in, i64_2, w32, shr64_32])
        (fun s hs => by
          obtain ⟨c', q⟩ := s
          have hn := MulInv.last hs (by omega)
          obtain ⟨h1, h2, h3, h4', h5⟩ := hs
          simp only at h1 h3
          refine ⟨c'.set (i + b.length) q, ⟨hn.1, hn.2.1, hn.2.2.1, by rw [hn.2.2.2, h4, mul_next]⟩, 1, fun m => ?_⟩
          simp (disch := omega) only [c_dec, c_beq, c_bne, c_and, c_or, c_not, blt_dec, up1, dn1, if_t, if_f, if_true, if_false, Int.toNat_natCast, Option.bind_some, ne_eq, not_true_eq_false, not_false_eq_true, true_and, and_true, nat_Mul.L8_succ, nat_Mul.b8, i64_2, IntWalk.u32_in]) 0 (c, 0) (Nat.zero_le _) ⟨h1, h2, by simp, h3, by simp [val_nil]⟩
      refine ⟨t, ht, j + 1, fun k => ?_⟩
      rw [← Nat.add_assoc]
      simp (disch := omega) only [c_dec, c_beq, c_bne, c_and, c_or, c_not, blt_dec, up1, dn1, if_t, if_f, if_true, if_false, Int.toNat_natCast, Option.bind_some, ne_eq, not_true_eq_false, not_false_eq_true, true_and, and_true, nat_Mul.L4_succ, nat_Mul.b4]
      exact hj k) (fun c ⟨h1, h2, h3, h4⟩ => by
      refine ⟨1, fun k => ?_⟩
      rw [List.take_length] at h4
      simp (disch := omega) only [c_dec, c_beq, c_bne, c_and, c_or, c_not, blt_dec, up1, dn1, if_t, if_f, if_true, if_false, Int.toNat_natCast, Option.bind_some, ne_eq, not_true_eq_false, not_false_eq_true, true_and, and_true, nat_Mul.L4_succ, nat_Mul.b4, own_F h2 (by omega), h4]) 0 (List.replicate (a.length + b.length) 0) (Nat.zero_le _) ⟨by simp, Limbs.zeros _, fun j _ => getD_zeros _ _, by simp [val_zeros, val_nil]⟩
  refine ⟨0 + j, ?_⟩
  simp (disch := omega) only [c_dec, c_beq, c_bne, c_and, c_or, c_not, blt_dec, up1, dn1, if_t, if_f, if_true, if_false, Int.toNat_natCast, Option.bind_some, ne_eq, not_true_eq_false, not_false_eq_true, true_and, and_true, i64_2]
  exact hj 0
end Go.Fx.Tryz

namespace Go.Fx.Tryz
open Go Go.Fx Go.Fx.Num
set_option linter.unusedVariables false
set_option linter.unusedSimpArgs false

theorem canon_add_len {a b : List Int} {n : Nat} (ha : Limbs a) (hb : Limbs b) (la : a.length ≤ n) (lb : b.length ≤ n) : (canon (val a + val b)).length ≤ n + 1 := by
  have h1 := val_lt ha
  have h2 := val_lt hb
  have h3 := val_nonneg ha
  have h4 := val_nonneg hb
  have h5 := pw_mono la
  have h6 := pw_mono lb
  refine canon_len_le (by omega) ?_
  rw [pw_succ]; omega
theorem canon_mul_len {a b : List Int} (ha : Limbs a) (hb : Limbs b) : (canon (val a * val b)).length ≤ a.length + b.length := by
  have h1 := val_lt ha
  have h2 := val_lt hb
  have h3 := val_nonneg ha
  have h4 := val_nonneg hb
  refine canon_len_le (Int.mul_nonneg h3 h4) ?_
  rw [pw_add]
  have h5 : val a * val b ≤ val a * pw b.length := Int.mul_le_mul_of_nonneg_left (by omega) h3
  have h6 : val a * pw b.length < pw a.length * pw b.length := Int.mul_lt_mul_of_pos_right h1 (pw_pos _)
  omega
theorem canon_one {x : Int} (h : 0 < x ∧ x < 4294967296) : canon x = [x] := by
  have h1 := canon_cons (x := x) (v := 0) (by omega) (by omega) (by omega)
  rw [canon_zero, Int.mul_zero, Int.add_zero] at h1
  exact h1
theorem limbs1 {x : Int} (h : 0 ≤ x ∧ x < 4294967296) : Limbs [x] := Limbs.cons h Limbs.nil
theorem val1 (x : Int) : val [x] = x := by simp [val_cons, val_nil]
theorem cmpI_range (x y : Int) : cmpI x y = -1 ∨ cmpI x y = 0 ∨ cmpI x y = 1 := by unfold cmpI; split <;> (try split) <;> simp
theorem cmpI_neg (x y : Int) : negI .i64 (cmpI x y) = cmpI y x := by
  unfold cmpI
  by_cases h1 : x < y
  · rw [if_pos h1, if_neg (by omega), if_pos h1]; decide
  · by_cases h2 : y < x
    · rw [if_neg h1, if_pos h2, if_pos h2]; decide
    · rw [if_neg h1, if_neg h2, if_neg h2, if_neg h1]; decide
theorem cmpI_zero (x y : Int) : cmpI x y = 0 ↔ x = y := by
  unfold cmpI
  by_cases h1 : x < y
  · rw [if_pos h1]; omega
  · by_cases h2 : y < x
    · rw [if_neg h1, if_pos h2]; omega
    · rw [if_neg h1, if_neg h2]; omega
theorem cmpI_trans {x y z : Int} (h : cmpI x y = cmpI y z) : cmpI x z = cmpI x y := by
  unfold cmpI at h ⊢
  by_cases h1 : x < y <;> by_cases h2 : y < z <;> by_cases h3 : y < x <;> by_cases h4 : z < y <;> simp only [h1, h2, h3, h4, if_true, if_false] at h ⊢ <;> first | omega | (split <;> first | omega | (split <;> omega))
theorem cmpI_add (x y z : Int) : cmpI (x + z) (y + z) = cmpI x y := by
  unfold cmpI
  by_cases h1 : x < y <;> by_cases h2 : y < x <;> simp only [h1, h2, if_true, if_false] <;> first | omega | (split <;> first | omega | (split <;> omega))
end Go.Fx.Tryz

namespace Go.Fx.Tryz
open Go Go.Fx Go.Fx.Num
set_option linter.unusedVariables false
set_option linter.unusedSimpArgs false

/-- A list of limbs, its number, and a bound of its length. -/
structure Nm (a : List Int) (x : Int) (n : Nat) : Prop where
  limbs : Limbs a
  val : val a = x
  len : a.length ≤ n
theorem Nm.pos {a x n} (h : Nm a x n) : 0 ≤ x := h.val ▸ val_nonneg h.limbs
theorem Nm.lt {a x n} (h : Nm a x n) : x < pw n := by
  have := val_lt h.limbs
  have := pw_mono h.len
  have := h.val
  omega
theorem Nm.mono {a x n m} (h : Nm a x n) (hm : n ≤ m) : Nm a x m := ⟨h.limbs, h.val, Nat.le_trans h.len hm⟩
theorem Nm.canon {x : Int} {n : Nat} (h : 0 ≤ x) (hn : x < pw n) : Nm (canon x) x n := ⟨canon_limbs x, val_canon h, canon_len_le h hn⟩
theorem Nm.norm {a x n} (h : Nm a x n) : Nm (Num.canon x) x n := .canon h.pos h.lt
theorem Nm.add {a b x y n} (h : Nm a x n) (g : Nm b y n) : Nm (Num.canon (x + y)) (x + y) (n + 1) := by
  have := h.pos
  have := g.pos
  have := h.lt
  have := g.lt
  exact .canon (by omega) (by rw [pw_succ]; omega)
theorem Nm.mul {a b x y n m} (h : Nm a x n) (g : Nm b y m) : Nm (Num.canon (x * y)) (x * y) (n + m) := by
  refine .canon (Int.mul_nonneg h.pos g.pos) ?_
  rw [pw_add]
  have h5 : x * y ≤ x * pw m := Int.mul_le_mul_of_nonneg_left (Int.le_of_lt g.lt) h.pos
  have h6 : x * pw m < pw n * pw m := Int.mul_lt_mul_of_pos_right h.lt (pw_pos _)
  omega
theorem Nm.sub {a b x y n m} (h : Nm a x n) (g : Nm b y m) (hle : y ≤ x) : Nm (Num.canon (x - y)) (x - y) n := by
  have := h.lt
  have := g.pos
  exact .canon (by omega) (by omega)
theorem Nm.one {x : Int} (h : 0 ≤ x ∧ x < 4294967296) : Nm [x] x 1 := ⟨limbs1 h, val1 x, Nat.le_refl _⟩

theorem Nm.Add_F {a b x y n} (h : Nm a x n) (g : Nm b y n) (hn : n < 70368744177664) : nat_Add.F (a, b, ()) = some (Num.canon (x + y), ()) := by
  rw [Tryz.Add_F h.limbs g.limbs (Nat.lt_of_le_of_lt h.len hn) (Nat.lt_of_le_of_lt g.len hn), h.val, g.val]
theorem Nm.rAdd_F {a b x y n} (h : Nm a x n) (g : Nm b y n) (hn : n < 70368744177664) : fulcrumref01_Add.F (a, b, ()) = some (Num.canon (x + y), ()) := by
  rw [Tryz.rAdd_F h.limbs g.limbs (Nat.lt_of_le_of_lt h.len hn) (Nat.lt_of_le_of_lt g.len hn), h.val, g.val]
theorem Nm.Mul_F {a b x y n m} (h : Nm a x n) (g : Nm b y m) (hn : n + m ≤ 70368744177664) : nat_Mul.F (a, b, ()) = some (Num.canon (x * y), ()) := by
  rw [Tryz.Mul_F h.limbs g.limbs (Nat.le_trans (Nat.add_le_add h.len g.len) hn), h.val, g.val]
theorem Nm.rMul_F {a b x y n m} (h : Nm a x n) (g : Nm b y m) (hn : n + m ≤ 70368744177664) : fulcrumref01_Mul.F (a, b, ()) = some (Num.canon (x * y), ()) := by
  rw [Tryz.rMul_F h.limbs g.limbs (Nat.le_trans (Nat.add_le_add h.len g.len) hn), h.val, g.val]
theorem Nm.Sub_F {a b x y n m} (h : Nm a x n) (g : Nm b y m) (hn : n ≤ 70368744177664) (hm : m ≤ 70368744177664) : nat_Sub.F (a, b, ()) = some (if x < y then ([], 10, ()) else (Num.canon (x - y), 0, ())) := by
  rw [Tryz.Sub_F h.limbs g.limbs (Nat.le_trans h.len hn) (Nat.le_trans g.len hm), h.val, g.val]
theorem Nm.rSub_F {a b x y n m} (h : Nm a x n) (g : Nm b y m) (hn : n ≤ 70368744177664) (hm : m ≤ 70368744177664) : fulcrumref01_Sub.F (a, b, ()) = some (if x < y then ([], 10, ()) else (Num.canon (x - y), 0, ())) := by
  rw [Tryz.rSub_F h.limbs g.limbs (Nat.le_trans h.len hn) (Nat.le_trans g.len hm), h.val, g.val]
theorem Nm.Cmp_F {a b x y n m} (h : Nm a x n) (g : Nm b y m) (hn : n ≤ 70368744177664) (hm : m ≤ 70368744177664) : nat_Cmp.F (a, b, ()) = some (cmpI x y, ()) := by
  rw [Tryz.Cmp_F h.limbs g.limbs (Nat.le_trans h.len hn) (Nat.le_trans g.len hm), h.val, g.val]
theorem Nm.rCmp_F {a b x y n m} (h : Nm a x n) (g : Nm b y m) (hn : n ≤ 70368744177664) (hm : m ≤ 70368744177664) : fulcrumref01_Cmp.F (a, b, ()) = some (cmpI x y, ()) := by
  rw [Tryz.rCmp_F h.limbs g.limbs (Nat.le_trans h.len hn) (Nat.le_trans g.len hm), h.val, g.val]
theorem Nm.Norm_F {a x n} (h : Nm a x n) (hn : n ≤ 70368744177664) : nat_Norm.F (a, ()) = some (Num.canon x, ()) := by
  rw [Tryz.Norm_F h.limbs (Nat.le_trans h.len hn), h.val]
theorem Nm.rNorm_F {a x n} (h : Nm a x n) (hn : n ≤ 70368744177664) : fulcrumref01_Norm.F (a, ()) = some (Num.canon x, ()) := by
  rw [Tryz.rNorm_F h.limbs (Nat.le_trans h.len hn), h.val]
end Go.Fx.Tryz
