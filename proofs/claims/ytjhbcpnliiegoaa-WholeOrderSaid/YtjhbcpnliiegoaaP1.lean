/- Whole numbers: Norm, Neg, Abs, Of, Small, Add, Sub, Mul, Cmp; the reference's. -/
import Derived.Test.YtjhbcpnliiegoaaP0
namespace Go.Fx.Try
open Go Go.Fx Go.Fx.Num
set_option linter.unusedVariables false
set_option linter.unusedSimpArgs false

theorem pe {α β : Type} (p : α × β) : (p.1, p.2) = p := rfl
theorem prod1 (s : Int) : prod [s] = s := by simp [prod]
theorem prod2 (s t : Int) : prod [s, t] = s * t := by simp [prod]
theorem signs1 {s : Int} (h : s = -1 ∨ s = 0 ∨ s = 1) : ∀ x ∈ [s], x = -1 ∨ x = 0 ∨ x = 1 := by intro x hx; simp at hx; rw [hx]; exact h
theorem signs2 {s t : Int} (h : s = -1 ∨ s = 0 ∨ s = 1) (g : t = -1 ∨ t = 0 ∨ t = 1) : ∀ x ∈ [s, t], x = -1 ∨ x = 0 ∨ x = 1 := by
  intro x hx; simp at hx; rcases hx with rfl | rfl
  · exact h
  · exact g
theorem Nm.signed0 {a x n} (h : Nm a x n) (hn : n ≤ 70368744177664) : whole_signed.F (a, [], ()) = some (wc x, ()) := by
  rw [signed_F h hn (ss := []) (by simp) (by simp)]; rfl
theorem Nm.signed1 {a x n} (h : Nm a x n) (hn : n ≤ 70368744177664) {s : Int} (hs : s = -1 ∨ s = 0 ∨ s = 1) : whole_signed.F (a, [s], ()) = some (wc (if s < 0 then -x else x), ()) := by
  rw [signed_F h hn (signs1 hs) (by simp), prod1]
theorem Nm.signed2 {a x n} (h : Nm a x n) (hn : n ≤ 70368744177664) {s t : Int} (hs : s = -1 ∨ s = 0 ∨ s = 1) (ht : t = -1 ∨ t = 0 ∨ t = 1) : whole_signed.F (a, [s, t], ()) = some (wc (if s * t < 0 then -x else x), ()) := by
  rw [signed_F h hn (signs2 hs ht) (by simp), prod2]
theorem Nm.made {a x n} (h : Nm a x n) (hn : n ≤ 70368744177664) (b : Bool) : fulcrumref02_made.F (b, a, ()) = some (wc (if b = true then -x else x), ()) := by
  refine fulcrumref02_made.of 0 b a ?_
  have hx := h.pos
  have hl := made_len hx
  cases b
  · simp (disch := omega) only [c_dec, c_beq, c_bne, c_and, c_or, c_not, blt_dec, up1, dn1, if_t, if_f, if_true, if_false, Int.toNat_natCast, Option.bind_some, ne_eq, not_true_eq_false, not_false_eq_true, true_and, and_true, fulcrumref02_made.e, h.rNorm_F hn, cond_false, wc_pos hx, Bool.false_eq_true]
  · simp (disch := omega) only [c_dec, c_beq, c_bne, c_and, c_or, c_not, blt_dec, up1, dn1, if_t, if_f, if_true, if_false, Int.toNat_natCast, Option.bind_some, ne_eq, not_true_eq_false, not_false_eq_true, true_and, and_true, fulcrumref02_made.e, h.rNorm_F hn, cond_true]
    rw [hl]
    by_cases h0 : -x < 0
    · rw [wc_neg h0, decide_eq_true h0, Int.neg_neg]
    · have : x = 0 := by omega
      subst this
      rfl

theorem Wn.Norm_F {p z n} (h : Wn p z n) (hn : n ≤ 70368744177664) : whole_Norm.F (p, ()) = some (wc z, ()) := by
  refine whole_Norm.of 0 p ?_
  have e : (if sgn z < 0 then -ab z else ab z) = z := by
    rcases tri z with ⟨_, h1, h2⟩ | ⟨_, h1, h2⟩ | ⟨_, h1, h2⟩ <;> rw [h1, h2] <;> simp <;> omega
  simp only [whole_Norm.e, pe, h.Sign_F hn, Option.bind_some, h.nm.signed1 hn (sgn_cases z), e]
theorem Wn.Neg_F {p z n} (h : Wn p z n) (hn : n ≤ 70368744177664) : whole_Neg.F (p, ()) = some (wc (-z), ()) := by
  refine whole_Neg.of 0 p ?_
  have e : (if -1 * sgn z < 0 then -ab z else ab z) = -z := by
    rcases tri z with ⟨_, h1, h2⟩ | ⟨_, h1, h2⟩ | ⟨_, h1, h2⟩ <;> rw [h1, h2] <;> simp <;> omega
  simp only [whole_Neg.e, pe, h.Sign_F hn, Option.bind_some, h.nm.signed2 hn (Or.inl rfl) (sgn_cases z), e]
theorem Wn.Abs_F {p z n} (h : Wn p z n) (hn : n ≤ 70368744177664) : whole_Abs.F (p, ()) = some (canon (ab z), ()) := by
  refine whole_Abs.of 0 p ?_
  simp only [whole_Abs.e, h.nm.Norm_F hn, Option.bind_some]
theorem Wn.rAbs_F {p z n} (h : Wn p z n) (hn : n ≤ 70368744177664) : fulcrumref02_Abs.F (p, ()) = some (canon (ab z), ()) := by
  refine fulcrumref02_Abs.of 0 p ?_
  simp only [fulcrumref02_Abs.e, h.nm.rNorm_F hn, Option.bind_some]
theorem Wn.made_eq {p z n} (h : Wn p z n) : (if p.1 = true then -ab z else ab z) = z := by
  have hs := h.sign
  rcases tri z with ⟨hz, _, h2⟩ | ⟨hz, _, h2⟩ | ⟨hz, _, h2⟩
  · rw [hs.1 hz, h2, if_pos rfl]; omega
  · rw [h2, hz]; simp
  · rw [hs.2 hz, h2, if_neg (by simp)]
theorem Wn.rNorm_F {p z n} (h : Wn p z n) (hn : n ≤ 70368744177664) : fulcrumref02_Norm.F (p, ()) = some (wc z, ()) := by
  refine fulcrumref02_Norm.of 0 p ?_
  simp only [fulcrumref02_Norm.e, pe, h.nm.made hn, Option.bind_some, h.made_eq]
theorem Wn.rNeg_F {p z n} (h : Wn p z n) (hn : n ≤ 70368744177664) : fulcrumref02_Neg.F (p, ()) = some (wc (-z), ()) := by
  refine fulcrumref02_Neg.of 0 p ?_
  have e : (if (!p.1) = true then -ab z else ab z) = -z := by
    have := h.made_eq
    cases hp : p.1 <;> rw [hp] at this <;> simp at this ⊢ <;> omega
  simp only [fulcrumref02_Neg.e, pe, h.nm.made hn, Option.bind_some, e]
theorem Wn.rSign_F {p z n} (h : Wn p z n) (hn : n ≤ 70368744177664) : fulcrumref02_Sign.F (p, ()) = some (sgn z, ()) := by
  refine fulcrumref02_Sign.of 0 p ?_
  simp only [fulcrumref02_Sign.e, pe, h.rNorm_F hn, Option.bind_some]
  rcases tri z with ⟨hz, h1, _⟩ | ⟨hz, h1, _⟩ | ⟨hz, h1, _⟩
  · rw [wc_neg hz, h1]; rfl
  · subst hz; rw [h1]; simp only [wc_pos (Int.le_refl 0), canon_zero]; rfl
  · have hl := canon_len_zero (n := z) (by omega)
    rw [wc_pos (by omega), h1]
    simp (disch := omega) only [c_dec, c_beq, c_bne, c_and, c_or, c_not, blt_dec, up1, dn1, if_t, if_f, if_true, if_false, Int.toNat_natCast, Option.bind_some, ne_eq, not_true_eq_false, not_false_eq_true, true_and, and_true, cond_false]

/-! ### Of, Small -/
theorem i64_abs {n : Int} (hn : -9223372036854775808 ≤ n ∧ n ≤ 9223372036854775807) (h : n < 0) : negI .u64 (IntKind.u64.wrap n) = -n := by
  unfold negI; rw [w64, w64]; omega
theorem Wof_bound {n : Int} (hn : -18446744073709551616 < n ∧ n < 18446744073709551616) : Wn (wc n) n 2 := .of (by
  have e : pw 2 = 18446744073709551616 := rfl
  omega)
theorem WOf_F {n : Int} (hn : -9223372036854775808 ≤ n ∧ n ≤ 9223372036854775807) : whole_Of.F (n, ()) = some (wc n, ()) := by
  refine whole_Of.of 0 n ?_
  have e : pw 2 = 18446744073709551616 := rfl
  by_cases h : n < 0
  · have h1 : Nm (canon (-n)) (-n) 2 := .canon (by omega) (by omega)
    simp (disch := omega) only [c_dec, c_beq, c_bne, c_and, c_or, c_not, blt_dec, up1, dn1, if_t, if_f, if_true, if_false, Int.toNat_natCast, Option.bind_some, ne_eq, not_true_eq_false, not_false_eq_true, true_and, and_true, whole_Of.e, i64_abs hn h, Of_F (show 0 ≤ -n ∧ -n < 18446744073709551616 by omega), h1.signed1 (by decide) (Or.inl rfl), Int.neg_neg, pe]
  · have h1 : Nm (canon n) n 2 := .canon (by omega) (by omega)
    simp (disch := omega) only [c_dec, c_beq, c_bne, c_and, c_or, c_not, blt_dec, up1, dn1, if_t, if_f, if_true, if_false, Int.toNat_natCast, Option.bind_some, ne_eq, not_true_eq_false, not_false_eq_true, true_and, and_true, whole_Of.e, IntWalk.u64_in, Of_F (show 0 ≤ n ∧ n < 18446744073709551616 by omega), h1.signed0 (by decide), pe]
theorem rWOf_F {n : Int} (hn : -9223372036854775808 ≤ n ∧ n ≤ 9223372036854775807) : fulcrumref02_Of.F (n, ()) = some (wc n, ()) := by
  refine fulcrumref02_Of.of 0 n ?_
  have e : pw 2 = 18446744073709551616 := rfl
  by_cases h : n < 0
  · have h1 : Nm (canon (-n)) (-n) 2 := .canon (by omega) (by omega)
    have e2 : IntKind.u64.wrap (0 - IntKind.u64.wrap n) = -n := i64_abs hn h
    simp (disch := omega) only [c_dec, c_beq, c_bne, c_and, c_or, c_not, blt_dec, up1, dn1, if_t, if_f, if_true, if_false, Int.toNat_natCast, Option.bind_some, ne_eq, not_true_eq_false, not_false_eq_true, true_and, and_true, fulcrumref02_Of.e, e2, rOf_F (show 0 ≤ -n ∧ -n < 18446744073709551616 by omega), h1.made (by decide), Int.neg_neg, pe]
  · have h1 : Nm (canon n) n 2 := .canon (by omega) (by omega)
    simp (disch := omega) only [c_dec, c_beq, c_bne, c_and, c_or, c_not, blt_dec, up1, dn1, if_t, if_f, if_true, if_false, Int.toNat_natCast, Option.bind_some, ne_eq, not_true_eq_false, not_false_eq_true, true_and, and_true, fulcrumref02_Of.e, IntWalk.u64_in, rOf_F (show 0 ≤ n ∧ n < 18446744073709551616 by omega), h1.made (by decide), pe, Bool.false_eq_true]
def smallI (z : Int) : Int × Bool × Unit := if -9223372036854775808 ≤ z ∧ z ≤ 9223372036854775807 then (z, true, ()) else (0, false, ())
theorem negI64 {x : Int} (h : 0 ≤ x ∧ x ≤ 9223372036854775807) : negI .i64 x = -x := by unfold negI; rw [IntWalk.i64_in _ (by omega)]; omega
theorem Wn.Small_F {p z n} (h : Wn p z n) (hn : n ≤ 70368744177664) : whole_Small.F (p, ()) = some (smallI z) := by
  refine whole_Small.of 0 p ?_
  have hm := h.nm.Small_F hn
  have hs := h.sign
  simp only [whole_Small.e, hm, Option.bind_some, pe, h.Sign_F hn]
  unfold smallI
  rcases tri z with ⟨hz, h1, h2⟩ | ⟨hz, h1, h2⟩ | ⟨hz, h1, h2⟩ <;> rw [h2]
  · rw [h1, hs.1 hz]
    by_cases hb : -z < 18446744073709551616
    · rw [if_pos hb]
      by_cases h3 : -z ≤ 9223372036854775807
      · simp (disch := omega) only [c_dec, c_beq, c_bne, c_and, c_or, c_not, blt_dec, up1, dn1, if_t, if_f, if_true, if_false, Int.toNat_natCast, Option.bind_some, ne_eq, not_true_eq_false, not_false_eq_true, true_and, and_true, Bool.not_true, cond_false, IntWalk.i64_in, negI64, Int.neg_neg]
      · by_cases h4 : -z = 9223372036854775808
        · simp (disch := omega) only [c_dec, c_beq, c_bne, c_and, c_or, c_not, blt_dec, up1, dn1, if_t, if_f, if_true, if_false, Int.toNat_natCast, Option.bind_some, ne_eq, not_true_eq_false, not_false_eq_true, true_and, and_true, Bool.not_true, cond_false, h4, cond_true]
          rw [show z = -9223372036854775808 by omega]
        · simp (disch := omega) only [c_dec, c_beq, c_bne, c_and, c_or, c_not, blt_dec, up1, dn1, if_t, if_f, if_true, if_false, Int.toNat_natCast, Option.bind_some, ne_eq, not_true_eq_false, not_false_eq_true, true_and, and_true, Bool.not_true, cond_false, h4]
    · rw [if_neg hb]
      simp (disch := omega) only [c_dec, c_beq, c_bne, c_and, c_or, c_not, blt_dec, up1, dn1, if_t, if_f, if_true, if_false, Int.toNat_natCast, Option.bind_some, ne_eq, not_true_eq_false, not_false_eq_true, true_and, and_true, Bool.not_false, cond_true]
  · rw [h1]
    subst hz
    simp (disch := omega) only [c_dec, c_beq, c_bne, c_and, c_or, c_not, blt_dec, up1, dn1, if_t, if_f, if_true, if_false, Int.toNat_natCast, Option.bind_some, ne_eq, not_true_eq_false, not_false_eq_true, true_and, and_true, Bool.not_true, cond_false, IntWalk.i64_in]
  · rw [h1, hs.2 hz]
    by_cases hb : z < 18446744073709551616
    · rw [if_pos hb]
      by_cases h3 : z ≤ 9223372036854775807
      · simp (disch := omega) only [c_dec, c_beq, c_bne, c_and, c_or, c_not, blt_dec, up1, dn1, if_t, if_f, if_true, if_false, Int.toNat_natCast, Option.bind_some, ne_eq, not_true_eq_false, not_false_eq_true, true_and, and_true, Bool.not_true, cond_false, IntWalk.i64_in]
      · by_cases h4 : z = 9223372036854775808
        · simp (disch := omega) only [c_dec, c_beq, c_bne, c_and, c_or, c_not, blt_dec, up1, dn1, if_t, if_f, if_true, if_false, Int.toNat_natCast, Option.bind_some, ne_eq, not_true_eq_false, not_false_eq_true, true_and, and_true, Bool.not_true, cond_false, h4]
        · simp (disch := omega) only [c_dec, c_beq, c_bne, c_and, c_or, c_not, blt_dec, up1, dn1, if_t, if_f, if_true, if_false, Int.toNat_natCast, Option.bind_some, ne_eq, not_true_eq_false, not_false_eq_true, true_and, and_true, Bool.not_true, cond_false, h4]
    · rw [if_neg hb]
      simp (disch := omega) only [c_dec, c_beq, c_bne, c_and, c_or, c_not, blt_dec, up1, dn1, if_t, if_f, if_true, if_false, Int.toNat_natCast, Option.bind_some, ne_eq, not_true_eq_false, not_false_eq_true, true_and, and_true, Bool.not_false, cond_true]
theorem Wn.rSmall_F {p z n} (h : Wn p z n) (hn : n ≤ 70368744177664) : fulcrumref02_Small.F (p, ()) = some (smallI z) := by
  refine fulcrumref02_Small.of 0 p ?_
  have hm := h.nm.rSmall_F hn
  have hs := h.sign
  simp only [fulcrumref02_Small.e, hm, Option.bind_some, pe]
  unfold smallI
  rcases tri z with ⟨hz, h1, h2⟩ | ⟨hz, h1, h2⟩ | ⟨hz, h1, h2⟩ <;> rw [h2]
  · rw [hs.1 hz]
    by_cases hb : -z < 18446744073709551616
    · rw [if_pos hb]
      by_cases h3 : -z ≤ 9223372036854775807
      · have e : IntKind.i64.wrap (0 - -z) = z := by rw [IntWalk.i64_in _ (by omega)]; omega
        simp (disch := omega) only [c_dec, c_beq, c_bne, c_and, c_or, c_not, blt_dec, up1, dn1, if_t, if_f, if_true, if_false, Int.toNat_natCast, Option.bind_some, ne_eq, not_true_eq_false, not_false_eq_true, true_and, and_true, Bool.not_true, cond_false, cond_true, IntWalk.i64_in (-z), e]
      · by_cases h4 : -z = 9223372036854775808
        · simp (disch := omega) only [c_dec, c_beq, c_bne, c_and, c_or, c_not, blt_dec, up1, dn1, if_t, if_f, if_true, if_false, Int.toNat_natCast, Option.bind_some, ne_eq, not_true_eq_false, not_false_eq_true, true_and, and_true, Bool.not_true, cond_false, h4, cond_true]
          rw [show z = -9223372036854775808 by omega]
        · simp (disch := omega) only [c_dec, c_beq, c_bne, c_and, c_or, c_not, blt_dec, up1, dn1, if_t, if_f, if_true, if_false, Int.toNat_natCast, Option.bind_some, ne_eq, not_true_eq_false, not_false_eq_true, true_and, and_true, Bool.not_true, cond_false, cond_true, h4]
    · rw [if_neg hb]
      simp (disch := omega) only [c_dec, c_beq, c_bne, c_and, c_or, c_not, blt_dec, up1, dn1, if_t, if_f, if_true, if_false, Int.toNat_natCast, Option.bind_some, ne_eq, not_true_eq_false, not_false_eq_true, true_and, and_true, Bool.not_false, cond_true]
  · subst hz
    cases p.1 <;> rfl
  · rw [hs.2 hz]
    by_cases hb : z < 18446744073709551616
    · rw [if_pos hb]
      by_cases h3 : z ≤ 9223372036854775807
      · simp (disch := omega) only [c_dec, c_beq, c_bne, c_and, c_or, c_not, blt_dec, up1, dn1, if_t, if_f, if_true, if_false, Int.toNat_natCast, Option.bind_some, ne_eq, not_true_eq_false, not_false_eq_true, true_and, and_true, Bool.not_true, cond_false, IntWalk.i64_in]
      · simp (disch := omega) only [c_dec, c_beq, c_bne, c_and, c_or, c_not, blt_dec, up1, dn1, if_t, if_f, if_true, if_false, Int.toNat_natCast, Option.bind_some, ne_eq, not_true_eq_false, not_false_eq_true, true_and, and_true, Bool.not_true, cond_false]
    · rw [if_neg hb]
      simp (disch := omega) only [c_dec, c_beq, c_bne, c_and, c_or, c_not, blt_dec, up1, dn1, if_t, if_f, if_true, if_false, Int.toNat_natCast, Option.bind_some, ne_eq, not_true_eq_false, not_false_eq_true, true_and, and_true, Bool.not_false, cond_true]

/-! ### the same -/
theorem SameNat_F (a b : List Int) (hl : a.length ≤ 70368744177664) : fulcrummem_SameNat.F (a, b, ()) = some (decide (a = b), ()) := by
  by_cases hn : a.length = b.length
  · obtain ⟨j, hj⟩ := ends (fun k (i : Nat) => fulcrummem_SameNat.L4 k a b (i : Int)) (decide (a = b), ()) (fun i => i ≤ a.length ∧ ∀ j, j < i → a.getD j 0 = b.getD j 0) (fun i => a.length - i) (fun i ⟨hi, hz⟩ => by
      by_cases h0 : i < a.length
      · by_cases h1 : a.getD i 0 = b.getD i 0
        · refine .inl ⟨i + 1, ⟨h0, fun j hj => ?_⟩, by show a.length - (i + 1) < a.length - i; omega, 1, fun k => ?_⟩
          · by_cases hji : j = i
            · rw [hji, h1]
            · exact hz j (by omega)
          · simp (disch := omega) only [c_dec, c_beq, c_bne, c_and, c_or, c_not, blt_dec, up1, dn1, if_t, if_f, if_true, if_false, Int.toNat_natCast, Option.bind_some, ne_eq, not_true_eq_false, not_false_eq_true, true_and, and_true, fulcrummem_SameNat.L4_succ, fulcrummem_SameNat.b4, h1]
        · refine .inr ⟨1, fun k => ?_⟩
          have : a ≠ b := fun e => h1 (by rw [e])
          simp (disch := omega) only [c_dec, c_beq, c_bne, c_and, c_or, c_not, blt_dec, up1, dn1, if_t, if_f, if_true, if_false, Int.toNat_natCast, Option.bind_some, ne_eq, not_true_eq_false, not_false_eq_true, true_and, and_true, fulcrummem_SameNat.L4_succ, fulcrummem_SameNat.b4, decide_eq_false this]
      · refine .inr ⟨1, fun k => ?_⟩
        have : a = b := ext_getD hn fun j hj => hz j (by omega)
        simp (disch := omega) only [c_dec, c_beq, c_bne, c_and, c_or, c_not, blt_dec, up1, dn1, if_t, if_f, if_true, if_false, Int.toNat_natCast, Option.bind_some, ne_eq, not_true_eq_false, not_false_eq_true, true_and, and_true, fulcrummem_SameNat.L4_succ, fulcrummem_SameNat.b4, decide_eq_true this]) 0 ⟨Nat.zero_le _, fun j hj => by omega⟩
    refine fulcrummem_SameNat.of (0 + j) a b ?_
    simp (disch := omega) only [c_dec, c_beq, c_bne, c_and, c_or, c_not, blt_dec, up1, dn1, if_t, if_f, if_true, if_false, Int.toNat_natCast, Option.bind_some, ne_eq, not_true_eq_false, not_false_eq_true, true_and, and_true, fulcrummem_SameNat.e]
    exact hj 0
  · have : a ≠ b := fun e => hn (by rw [e])
    refine fulcrummem_SameNat.of 0 a b ?_
    simp (disch := omega) only [c_dec, c_beq, c_bne, c_and, c_or, c_not, blt_dec, up1, dn1, if_t, if_f, if_true, if_false, Int.toNat_natCast, Option.bind_some, ne_eq, not_true_eq_false, not_false_eq_true, true_and, and_true, fulcrummem_SameNat.e, decide_eq_false this]
theorem SameInt_F (p q : Bool × List Int) (hl : p.2.length ≤ 70368744177664) : fulcrummem_SameInt.F (p, q, ()) = some (decide (p = q), ()) := by
  refine fulcrummem_SameInt.of 0 p q ?_
  obtain ⟨b, x⟩ := p
  obtain ⟨c, y⟩ := q
  simp only [fulcrummem_SameInt.e, SameNat_F x y hl, Option.bind_some]
  cases b <;> cases c <;> simp
theorem wsame_F (p q : Bool × List Int) (hl : p.2.length ≤ 70368744177664) : fulcrumlaw02_same.F (p, q, ()) = some (decide (p = q), ()) := by
  refine fulcrumlaw02_same.of 0 p q ?_
  simp only [fulcrumlaw02_same.e, pe, SameInt_F p q hl, Option.bind_some]
theorem Wn.same {p z n} (h : Wn p z n) (hn : n ≤ 70368744177664) : fulcrumlaw02_same.F (p, p, ()) = some (true, ()) := by
  rw [wsame_F p p (Nat.le_trans h.len hn)]; simp
end Go.Fx.Try
