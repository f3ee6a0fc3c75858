/- nat: trim, own, Norm, Of, Small; and the reference's. -/
import Derived.Test.YtflgmookgadodaaLoop
import Derived.Test.YtflgmookgadodaaW01
namespace Go.Fx.Try
open Go Go.Fx Go.Fx.Num
set_option linter.unusedVariables false
set_option linter.unusedSimpArgs false

theorem trim_F {xs : List Int} (h : Limbs xs) (hl : xs.length ≤ 70368744177664) : nat_trim.F (xs, ()) = some (canon (val xs), ()) := by
  obtain ⟨j, hj⟩ := ends (fun k (n : Nat) => nat_trim.L2 k xs (n : Int)) (canon (val xs), ()) (fun n => n ≤ xs.length ∧ ∀ j, n ≤ j → xs.getD j 0 = 0) id (fun n ⟨hn, hz⟩ => by
    by_cases h0 : 0 < n
    · by_cases h1 : xs.getD (n - 1) 0 = 0
      · refine .inl ⟨n - 1, ⟨by omega, fun j hj => ?_⟩, by show n - 1 < n; omega, 1, fun k => ?_⟩
        · by_cases hjn : j = n - 1
          · rw [hjn, h1]
          · exact hz j (by omega)
        · simp (disch := omega) only [c_dec, c_beq, c_bne, c_and, c_or, c_not, blt_dec, up1, dn1, if_t, if_f, if_true, if_false, Int.toNat_natCast, Option.bind_some, ne_eq, not_true_eq_false, not_false_eq_true, true_and, and_true, nat_trim.L2_succ, nat_trim.b2, h1]
      · refine .inr ⟨1, fun k => ?_⟩
        simp (disch := omega) only [c_dec, c_beq, c_bne, c_and, c_or, c_not, blt_dec, up1, dn1, if_t, if_f, if_true, if_false, Int.toNat_natCast, Option.bind_some, ne_eq, not_true_eq_false, not_false_eq_true, true_and, and_true, nat_trim.L2_succ, nat_trim.b2, h1, take_canon h hn hz (.inr h1)]
    · refine .inr ⟨1, fun k => ?_⟩
      obtain rfl : n = 0 := by omega
      simp (disch := omega) only [c_dec, c_beq, c_bne, c_and, c_or, c_not, blt_dec, up1, dn1, if_t, if_f, if_true, if_false, Int.toNat_natCast, Option.bind_some, ne_eq, not_true_eq_false, not_false_eq_true, true_and, and_true, nat_trim.L2_succ, nat_trim.b2, take_canon h hn hz (.inl rfl)]) xs.length ⟨Nat.le_refl _, fun j hj => getD_out hj⟩
  refine nat_trim.of j xs ?_
  simp only [nat_trim.e]
  have := hj 0
  rwa [Nat.zero_add] at this

theorem own_F {xs : List Int} (h : Limbs xs) (hl : xs.length ≤ 70368744177664) : nat_own.F (xs, ()) = some (canon (val xs), ()) := by
  refine nat_own.of 0 xs ?_
  have hlen := canon_val_len h
  simp only [nat_own.e, trim_F h hl, Option.bind_some, c_beq, c_dec, c_and, blt_dec]
  generalize canon (val xs) = c at hlen ⊢
  by_cases h0 : c.length = 0
  · rw [List.length_eq_zero_iff.1 h0]; rfl
  · simp (disch := omega) only [c_dec, c_beq, c_bne, c_and, c_or, c_not, blt_dec, up1, dn1, if_t, if_f, if_true, if_false, Int.toNat_natCast, Option.bind_some, ne_eq, not_true_eq_false, not_false_eq_true, true_and, and_true, List.length_replicate, List.take_length, List.drop_replicate, Nat.sub_self, List.replicate_zero, List.append_nil]

theorem ext_getD {a b : List Int} (hl : a.length = b.length) (h : ∀ j, j < a.length → a.getD j 0 = b.getD j 0) : a = b := by
  refine List.ext_getElem hl fun i h1 h2 => ?_
  have := h i h1
  simpa [List.getD, h1, h2] using this

/-! ### copies, and the reference's Norm -/
theorem copy_set {a : List Int} {i n : Nat} (h : i < n) (hn : n ≤ a.length) : (a.take i ++ List.replicate (n - i) (0 : Int)).set i (a.getD i 0) = a.take (i + 1) ++ List.replicate (n - (i + 1)) 0 := by
  have hl : (a.take i).length = i := by simp; omega
  rw [List.set_append_right i _ (by omega), hl, Nat.sub_self]
  obtain ⟨m, hm⟩ : ∃ m, n - i = m + 1 := ⟨n - i - 1, by omega⟩
  rw [hm, List.replicate_succ, List.set_cons_zero, List.take_add_one]
  have : a[i]? = some (a.getD i 0) := by simp [List.getD, (show i < a.length by omega)]
  rw [this]
  have : n - (i + 1) = m := by omega
  rw [this]; simp
theorem copy_len {a : List Int} {i n : Nat} (h : i ≤ n) (hn : n ≤ a.length) : (a.take i ++ List.replicate (n - i) (0 : Int)).length = n := by
  simp; omega

theorem rNorm_F {xs : List Int} (h : Limbs xs) (hl : xs.length ≤ 70368744177664) : fulcrumref01_Norm.F (xs, ()) = some (canon (val xs), ()) := by
  have copy : ∀ n, n ≤ xs.length → ∃ j, ∀ k, fulcrumref01_Norm.L6 (k + j) xs (n : Int) (List.replicate n 0) 0 = some (xs.take n, ()) := by
    intro n hn
    exact up (fun k (s : Nat × List Int) => fulcrumref01_Norm.L6 k xs (n : Int) s.2 (s.1 : Int)) (xs.take n, ()) (fun i s => s = xs.take i ++ List.replicate (n - i) 0) n (fun i s hi hs => by
      subst hs
      have h1 := copy_len (Nat.le_of_lt hi) hn
      refine ⟨_, rfl, 1, fun k => ?_⟩
      simp (disch := omega) only [c_dec, c_beq, c_bne, c_and, c_or, c_not, blt_dec, up1, dn1, if_t, if_f, if_true, if_false, Int.toNat_natCast, Option.bind_some, ne_eq, not_true_eq_false, not_false_eq_true, true_and, and_true, fulcrumref01_Norm.L6_succ, fulcrumref01_Norm.b6, copy_set hi hn]) (fun s hs => by
      subst hs
      refine ⟨1, fun k => ?_⟩
      simp (disch := omega) only [c_dec, c_beq, c_bne, c_and, c_or, c_not, blt_dec, up1, dn1, if_t, if_f, if_true, if_false, Int.toNat_natCast, Option.bind_some, ne_eq, not_true_eq_false, not_false_eq_true, true_and, and_true, fulcrumref01_Norm.L6_succ, fulcrumref01_Norm.b6, Nat.sub_self, List.replicate_zero, List.append_nil]) 0 _ (Nat.zero_le _) (by simp)
  obtain ⟨j, hj⟩ := ends (fun k (n : Nat) => fulcrumref01_Norm.L2 k xs (n : Int)) (canon (val xs), ()) (fun n => n ≤ xs.length ∧ ∀ j, n ≤ j → xs.getD j 0 = 0) id (fun n ⟨hn, hz⟩ => by
    by_cases h0 : 0 < n
    · by_cases h1 : xs.getD (n - 1) 0 = 0
      · refine .inl ⟨n - 1, ⟨by omega, fun j hj => ?_⟩, by show n - 1 < n; omega, 1, fun k => ?_⟩
        · by_cases hjn : j = n - 1
          · rw [hjn, h1]
          · exact hz j (by omega)
        · simp (disch := omega) only [c_dec, c_beq, c_bne, c_and, c_or, c_not, blt_dec, up1, dn1, if_t, if_f, if_true, if_false, Int.toNat_natCast, Option.bind_some, ne_eq, not_true_eq_false, not_false_eq_true, true_and, and_true, fulcrumref01_Norm.L2_succ, fulcrumref01_Norm.b2, h1]
      · obtain ⟨j, hj⟩ := copy n hn
        refine .inr ⟨j + 1, fun k => ?_⟩
        rw [← Nat.add_assoc]
        simp (disch := omega) only [c_dec, c_beq, c_bne, c_and, c_or, c_not, blt_dec, up1, dn1, if_t, if_f, if_true, if_false, Int.toNat_natCast, Option.bind_some, ne_eq, not_true_eq_false, not_false_eq_true, true_and, and_true, fulcrumref01_Norm.L2_succ, fulcrumref01_Norm.b2, h1, hj, take_canon h hn hz (.inr h1)]
    · obtain ⟨j, hj⟩ := copy n hn
      refine .inr ⟨j + 1, fun k => ?_⟩
      rw [← Nat.add_assoc]
      obtain rfl : n = 0 := by omega
      simp (disch := omega) only [c_dec, c_beq, c_bne, c_and, c_or, c_not, blt_dec, up1, dn1, if_t, if_f, if_true, if_false, Int.toNat_natCast, Option.bind_some, ne_eq, not_true_eq_false, not_false_eq_true, true_and, and_true, fulcrumref01_Norm.L2_succ, fulcrumref01_Norm.b2, hj, take_canon h hn hz (.inl rfl)]) xs.length ⟨Nat.le_refl _, fun j hj => getD_out hj⟩
  refine fulcrumref01_Norm.of (0 + j) xs ?_
  simp only [fulcrumref01_Norm.e]
  exact hj 0

theorem Norm_F {xs : List Int} (h : Limbs xs) (hl : xs.length ≤ 70368744177664) : nat_Norm.F (xs, ()) = some (canon (val xs), ()) := by
  refine nat_Norm.of 0 xs ?_
  simp only [nat_Norm.e, own_F h hl, Option.bind_some]

/-! ### Of, Small -/
theorem two_limbs {n : Int} (h : 0 ≤ n ∧ n < 18446744073709551616) : Limbs [IntKind.u32.wrap n, IntKind.u32.wrap (shrI .u64 n 32)] ∧ val [IntKind.u32.wrap n, IntKind.u32.wrap (shrI .u64 n 32)] = n := by
  rw [shr64_32, w32, w32]
  refine ⟨Limbs.cons (by omega) (Limbs.cons (by omega) Limbs.nil), ?_⟩
  simp only [val_cons, val_nil]; omega
theorem Of_F {n : Int} (h : 0 ≤ n ∧ n < 18446744073709551616) : nat_Of.F (n, ()) = some (canon n, ()) := by
  obtain ⟨h1, h2⟩ := two_limbs h
  refine nat_Of.of 0 n ?_
  simp (disch := omega) only [c_dec, c_beq, c_bne, c_and, c_or, c_not, blt_dec, up1, dn1, if_t, if_f, if_true, if_false, Int.toNat_natCast, Option.bind_some, ne_eq, not_true_eq_false, not_false_eq_true, true_and, and_true, nat_Of.e, own_F h1 (by simp), h2]
theorem rOf_F {n : Int} (h : 0 ≤ n ∧ n < 18446744073709551616) : fulcrumref01_Of.F (n, ()) = some (canon n, ()) := by
  obtain ⟨h1, h2⟩ := two_limbs h
  refine fulcrumref01_Of.of 0 n ?_
  simp (disch := omega) only [c_dec, c_beq, c_bne, c_and, c_or, c_not, blt_dec, up1, dn1, if_t, if_f, if_true, if_false, Int.toNat_natCast, Option.bind_some, ne_eq, not_true_eq_false, not_false_eq_true, true_and, and_true, fulcrumref01_Of.e, rNorm_F h1 (by simp), h2]

theorem zero_or64 {x : Int} (h : 0 ≤ x ∧ x < 18446744073709551616) : bitsOp .or .u64 0 x = x := by
  obtain ⟨n, rfl⟩ := Int.eq_ofNat_of_zero_le h.1
  have := or64 (a := 0) (b := n) (by omega) (by omega)
  simpa using this
theorem or64_hi {x y : Int} (hx : 0 ≤ x ∧ x < 4294967296) (hy : 0 ≤ y ∧ y < 4294967296) : bitsOp .or .u64 x (y * 4294967296 % 18446744073709551616) = x + 4294967296 * y := by
  have e : y * 4294967296 % 18446744073709551616 = 4294967296 * y := by omega
  rw [e, or64_add' 32 y (by omega) hy.1 (by omega) (by omega)]; omega
theorem or64_lo {x y : Int} (hx : 0 ≤ x ∧ x < 4294967296) (hy : 0 ≤ y ∧ y < 4294967296) : bitsOp .or .u64 (y * 4294967296 % 18446744073709551616) x = x + 4294967296 * y := by
  have e : y * 4294967296 % 18446744073709551616 = 4294967296 * y := by omega
  rw [e, or64_add 32 y (by omega) hy.1 (by omega) (by omega)]; omega

theorem small_lists {c : List Int} (hc : Nrm c) : (c.length ≤ 2 → val c < 18446744073709551616) ∧ (2 < c.length → 18446744073709551616 ≤ val c) := by
  have hv := val_lt hc.1
  refine ⟨fun h => ?_, fun h => ?_⟩
  · have := pw_mono h
    have e : pw 2 = 18446744073709551616 := rfl
    omega
  · have h1 := nrm_pos hc (by omega)
    have h2 := pw_mono (m := 2) (n := c.length - 1) (by omega)
    have e : pw 2 = 18446744073709551616 := rfl
    omega

theorem Small_F {xs : List Int} (h : Limbs xs) (hl : xs.length ≤ 70368744177664) : nat_Small.F (xs, ()) = some (if val xs < 18446744073709551616 then (val xs, true, ()) else (0, false, ())) := by
  refine nat_Small.of 3 xs ?_
  have h0 := val_nonneg h
  have hc := canon_nrm (val xs)
  have hv := val_canon h0
  obtain ⟨hs, hb⟩ := small_lists hc
  simp only [nat_Small.e, trim_F h hl, Option.bind_some]
  generalize canon (val xs) = c at hc hv hs hb ⊢
  rw [← hv] at h0 ⊢
  have hlm := hc.1
  rcases c with _ | ⟨x, _ | ⟨y, _ | ⟨z, c⟩⟩⟩
  · have hs := hs (by simp)
    simp (disch := omega) only [c_dec, c_beq, c_bne, c_and, c_or, c_not, blt_dec, up1, dn1, if_t, if_f, if_true, if_false, Int.toNat_natCast, Option.bind_some, ne_eq, not_true_eq_false, not_false_eq_true, true_and, and_true, nat_Small.L6_succ, nat_Small.b6, List.length_nil, val_nil]; rfl
  · have hs := hs (by simp)
    have hx := hlm.head
    rw [if_pos hs]
    simp only [val_cons, val_nil] at hs ⊢
    simp (disch := omega) [c_dec, c_beq, c_and, nat_Small.L6_succ, nat_Small.b6, IntWalk.i64_in, IntWalk.u64_in, zero_or64]
    show bitsOp .or .u64 0 (shlI .u64 (IntKind.u64.wrap x) ((0 : Nat) : Int)) = x
    rw [shl_eq .u64 _ 0 (by decide), IntWalk.u64_in x (by omega), Int.pow_zero, Int.mul_one, IntWalk.u64_in x (by omega), zero_or64 (by omega)]
  · have hs := hs (by simp)
    have hx := hlm.head
    have hy := hlm.tail.head
    rw [if_pos hs]
    simp only [val_cons, val_nil] at hs ⊢
    simp (disch := omega) [c_dec, c_beq, c_and, nat_Small.L6_succ, nat_Small.b6, IntWalk.i64_in, shl64_32, IntWalk.u64_in, zero_or64, or64_hi]
    show bitsOp .or .u64 (bitsOp .or .u64 0 (shlI .u64 (IntKind.u64.wrap x) ((0 : Nat) : Int))) (IntKind.u64.wrap y * 4294967296 % 18446744073709551616) = x + 4294967296 * y
    rw [shl_eq .u64 _ 0 (by decide), IntWalk.u64_in x (by omega), Int.pow_zero, Int.mul_one, IntWalk.u64_in x (by omega), IntWalk.u64_in y (by omega), zero_or64 (by omega), or64_hi hx hy]
  · have hb := hb (by simp)
    simp (disch := omega) only [c_dec, c_beq, c_bne, c_and, c_or, c_not, blt_dec, up1, dn1, if_t, if_f, if_true, if_false, Int.toNat_natCast, Option.bind_some, ne_eq, not_true_eq_false, not_false_eq_true, true_and, and_true, List.length_cons]

theorem rSmall_F {xs : List Int} (h : Limbs xs) (hl : xs.length ≤ 70368744177664) : fulcrumref01_Small.F (xs, ()) = some (if val xs < 18446744073709551616 then (val xs, true, ()) else (0, false, ())) := by
  refine fulcrumref01_Small.of 3 xs ?_
  have h0 := val_nonneg h
  have hc := canon_nrm (val xs)
  have hv := val_canon h0
  obtain ⟨hs, hb⟩ := small_lists hc
  simp only [fulcrumref01_Small.e, rNorm_F h hl, Option.bind_some]
  generalize canon (val xs) = c at hc hv hs hb ⊢
  rw [← hv] at h0 ⊢
  have hlm := hc.1
  rcases c with _ | ⟨x, _ | ⟨y, _ | ⟨z, c⟩⟩⟩
  · have hs := hs (by simp)
    simp (disch := omega) only [c_dec, c_beq, c_bne, c_and, c_or, c_not, blt_dec, up1, dn1, if_t, if_f, if_true, if_false, Int.toNat_natCast, Option.bind_some, ne_eq, not_true_eq_false, not_false_eq_true, true_and, and_true, fulcrumref01_Small.L6_succ, fulcrumref01_Small.b6, List.length_nil, val_nil]; rfl
  · have hs := hs (by simp)
    have hx := hlm.head
    rw [if_pos hs]
    simp only [val_cons, val_nil] at hs ⊢
    simp (disch := omega) [c_dec, c_beq, c_and, fulcrumref01_Small.L6_succ, fulcrumref01_Small.b6, IntWalk.i64_in, shl64_32, IntWalk.u64_in, zero_or64]
    show bitsOp .or .u64 0 (IntKind.u64.wrap x) = x
    rw [IntWalk.u64_in x (by omega), zero_or64 (by omega)]
  · have hs := hs (by simp)
    have hx := hlm.head
    have hy := hlm.tail.head
    rw [if_pos hs]
    simp only [val_cons, val_nil] at hs ⊢
    simp (disch := omega) [c_dec, c_beq, c_and, fulcrumref01_Small.L6_succ, fulcrumref01_Small.b6, IntWalk.i64_in, shl64_32, IntWalk.u64_in, zero_or64, or64_lo]
    show bitsOp .or .u64 (bitsOp .or .u64 0 (IntKind.u64.wrap y) * 4294967296 % 18446744073709551616) (IntKind.u64.wrap x) = x + 4294967296 * y
    rw [IntWalk.u64_in x (by omega), IntWalk.u64_in y (by omega), zero_or64 (by omega), or64_lo hx hy]
  · have hb := hb (by simp)
    simp (disch := omega) only [c_dec, c_beq, c_bne, c_and, c_or, c_not, blt_dec, up1, dn1, if_t, if_f, if_true, if_false, Int.toNat_natCast, Option.bind_some, ne_eq, not_true_eq_false, not_false_eq_true, true_and, and_true, List.length_cons]

theorem limbs_of {xs : List Int} (h : ∀ x ∈ xs, (Lit.int .u32 x).wf = true) : Limbs xs := by
  intro x hx
  have := h x hx
  simp [Lit.wf, IntKind.min, IntKind.max, IntKind.bits, IntKind.signed] at this
  omega
end Go.Fx.Try
