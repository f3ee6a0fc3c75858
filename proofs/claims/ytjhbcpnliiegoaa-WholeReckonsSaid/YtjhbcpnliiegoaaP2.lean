/- Whole numbers: Add, Sub, Mul, Cmp; the reference's. -/
import Derived.Test.YtjhbcpnliiegoaaP1
namespace Go.Fx.Try
open Go Go.Fx Go.Fx.Num
set_option linter.unusedVariables false
set_option linter.unusedSimpArgs false

theorem Wn.add {p q y z n} (h : Wn p y n) (g : Wn q z n) : Wn (wc (y + z)) (y + z) (n + 1) := .of (by
  have := h.bound
  have := g.bound
  rw [pw_succ]; omega)
theorem Wn.neg {p z n} (h : Wn p z n) : Wn (wc (-z)) (-z) n := .of (by have := h.bound; omega)
theorem Wn.sub {p q y z n} (h : Wn p y n) (g : Wn q z n) : Wn (wc (y - z)) (y - z) (n + 1) := .of (by
  have := h.bound
  have := g.bound
  rw [pw_succ]; omega)
theorem ab_mul (y z : Int) : ab (y * z) = ab y * ab z := by
  have e : ∀ x, ab x = (x.natAbs : Int) := fun x => by unfold ab; split <;> omega
  rw [e, e, e, Int.natAbs_mul]; push_cast; rfl
theorem Wn.mul {p q y z n m} (h : Wn p y n) (g : Wn q z m) : Wn (wc (y * z)) (y * z) (n + m) := by
  have hm := (h.nm.mul g.nm).lt
  rw [← ab_mul] at hm
  refine .of ?_
  unfold ab at hm
  have := pw_pos (n + m)
  split at hm <;> omega

theorem or_signs {x y : Int} (hx : x = -1 ∨ x = 0 ∨ x = 1) (hy : y = -1 ∨ y = 0 ∨ y = 1) (h : 0 ≤ x * y) : bitsOp .or .i64 (bitsOp .or .i64 x y) 1 = if x < 0 ∨ y < 0 then -1 else 1 := by
  rcases hx with rfl | rfl | rfl <;> rcases hy with rfl | rfl | rfl <;> first | (exfalso; revert h; decide) | decide
theorem tri_mul {x y : Int} (hx : x = -1 ∨ x = 0 ∨ x = 1) (hy : y = -1 ∨ y = 0 ∨ y = 1) : x * y = -1 ∨ x * y = 0 ∨ x * y = 1 := by
  rcases hx with rfl | rfl | rfl <;> rcases hy with rfl | rfl | rfl <;> simp

theorem Wn.Add_F {p q y z n} (h : Wn p y n) (g : Wn q z n) (hn : n < 70368744177664) : whole_Add.F (p, q, ()) = some (wc (y + z), ()) := by
  refine whole_Add.of 0 p q ?_
  have hn' : n ≤ 70368744177664 := Nat.le_of_lt hn
  have sp := sgn_cases y
  have sq := sgn_cases z
  have hm := tri_mul sp sq
  simp only [whole_Add.e, pe, h.Sign_F hn', g.Sign_F hn', Option.bind_some, IntWalk.i64_in (sgn y * sgn z) (by omega)]
  by_cases hs : 0 ≤ sgn y * sgn z
  · have hA := h.nm.add g.nm
    have hor := or_signs sp sq hs
    rw [hor]
    have hs' : ¬(y < 0 ∧ 0 < z) ∧ ¬(0 < y ∧ z < 0) := by
      rcases tri y with ⟨hy, h1, h2⟩ | ⟨hy, h1, h2⟩ | ⟨hy, h1, h2⟩ <;> rcases tri z with ⟨hz, h3, h4⟩ | ⟨hz, h3, h4⟩ | ⟨hz, h3, h4⟩ <;> rw [h1, h3] at hs <;> first | (exfalso; revert hs; decide) | omega
    have t1 := tri y
    have t2 := tri z
    have e : (if (if sgn y < 0 ∨ sgn z < 0 then (-1 : Int) else 1) < 0 then -(ab y + ab z) else ab y + ab z) = y + z := by
      by_cases hneg : sgn y < 0 ∨ sgn z < 0
      · rw [if_pos hneg, if_pos (by decide)]; omega
      · rw [if_neg hneg, if_neg (by decide)]; omega
    simp (disch := omega) only [c_dec, c_beq, c_bne, c_and, c_or, c_not, blt_dec, up1, dn1, if_t, if_f, if_true, if_false, Int.toNat_natCast, Option.bind_some, ne_eq, not_true_eq_false, not_false_eq_true, true_and, and_true, h.nm.Add_F g.nm hn, hA.signed1 (by omega) (show (if sgn y < 0 ∨ sgn z < 0 then (-1 : Int) else 1) = -1 ∨ (if sgn y < 0 ∨ sgn z < 0 then (-1 : Int) else 1) = 0 ∨ (if sgn y < 0 ∨ sgn z < 0 then (-1 : Int) else 1) = 1 by split <;> simp), e, pe]
  · have hx : (y < 0 ∧ 0 < z ∧ ab y = -y ∧ ab z = z ∧ sgn y = -1 ∧ sgn z = 1) ∨ (0 < y ∧ z < 0 ∧ ab y = y ∧ ab z = -z ∧ sgn y = 1 ∧ sgn z = -1) := by
      have hs' : (y < 0 ∧ 0 < z) ∨ (0 < y ∧ z < 0) := by
        rcases tri y with ⟨hy, h1, h2⟩ | ⟨hy, h1, h2⟩ | ⟨hy, h1, h2⟩ <;> rcases tri z with ⟨hz, h3, h4⟩ | ⟨hz, h3, h4⟩ | ⟨hz, h3, h4⟩ <;> rw [h1, h3] at hs <;> first | (exfalso; revert hs; decide) | exact .inl ⟨hy, hz⟩ | exact .inr ⟨hy, hz⟩
      have t1 := tri y
      have t2 := tri z
      rcases hs' with ⟨hy, hz⟩ | ⟨hy, hz⟩
      · exact .inl ⟨hy, hz, by omega, by omega, by omega, by omega⟩
      · exact .inr ⟨hy, hz, by omega, by omega, by omega, by omega⟩
    have hC := h.nm.Cmp_F g.nm hn' hn'
    by_cases hle : ab z ≤ ab y
    · have hc : 0 ≤ cmpI (ab y) (ab z) := by unfold cmpI; rw [if_neg (by omega)]; split <;> decide
      have hS := h.nm.Sub_F g.nm hn' hn'
      rw [if_neg (by omega)] at hS
      have hD := h.nm.sub g.nm hle
      have e : (if sgn y < 0 then -(ab y - ab z) else ab y - ab z) = y + z := by
        rcases hx with ⟨_, _, h1, h2, h3, h4⟩ | ⟨_, _, h1, h2, h3, h4⟩ <;> rw [h1, h2, h3] <;> simp <;> omega
      simp (disch := omega) only [c_dec, c_beq, c_bne, c_and, c_or, c_not, blt_dec, up1, dn1, if_t, if_f, if_true, if_false, Int.toNat_natCast, Option.bind_some, ne_eq, not_true_eq_false, not_false_eq_true, true_and, and_true, hC, hS, hD.signed1 hn' sp, e, pe]
    · have hc : cmpI (ab y) (ab z) = -1 := cmpI_lt (by omega)
      have hS := g.nm.Sub_F h.nm hn' hn'
      rw [if_neg (by omega)] at hS
      have hD := g.nm.sub h.nm (show ab y ≤ ab z by omega)
      have e : (if sgn z < 0 then -(ab z - ab y) else ab z - ab y) = y + z := by
        rcases hx with ⟨_, _, h1, h2, h3, h4⟩ | ⟨_, _, h1, h2, h3, h4⟩ <;> rw [h1, h2, h4] <;> simp <;> omega
      simp (disch := omega) only [c_dec, c_beq, c_bne, c_and, c_or, c_not, blt_dec, up1, dn1, if_t, if_f, if_true, if_false, Int.toNat_natCast, Option.bind_some, ne_eq, not_true_eq_false, not_false_eq_true, true_and, and_true, hC, hc, hS, hD.signed1 hn' sq, e, pe]

theorem Wn.rAdd_F {p q y z n} (h : Wn p y n) (g : Wn q z n) (hn : n < 70368744177664) : fulcrumref02_Add.F (p, q, ()) = some (wc (y + z), ()) := by
  refine fulcrumref02_Add.of 0 p q ?_
  have hn' : n ≤ 70368744177664 := Nat.le_of_lt hn
  have ep := h.made_eq
  have eq := g.made_eq
  by_cases hb : p.1 = q.1
  · have e : (if q.1 = true then -(ab y + ab z) else ab y + ab z) = y + z := by
      rw [hb] at ep
      cases hq : q.1 <;> rw [hq] at ep eq <;> simp at ep eq ⊢ <;> omega
    simp only [fulcrumref02_Add.e, hb, beq_self_eq_true, cond_true, h.nm.rAdd_F g.nm hn, Option.bind_some, (h.nm.add g.nm).made (by omega), e, pe]
  · have hb' : (p.1 == q.1) = false := by simpa using hb
    have hC := h.nm.rCmp_F g.nm hn' hn'
    by_cases hle : ab z ≤ ab y
    · have hc : 0 ≤ cmpI (ab y) (ab z) := by unfold cmpI; rw [if_neg (by omega)]; split <;> decide
      have hS := h.nm.rSub_F g.nm hn' hn'
      rw [if_neg (by omega)] at hS
      have hD := h.nm.sub g.nm hle
      have e : (if p.1 = true then -(ab y - ab z) else ab y - ab z) = y + z := by
        cases hp : p.1 <;> cases hq : q.1 <;> rw [hp] at ep hb <;> rw [hq] at eq hb <;> simp at ep eq hb ⊢ <;> omega
      simp (disch := omega) only [c_dec, c_beq, c_bne, c_and, c_or, c_not, blt_dec, up1, dn1, if_t, if_f, if_true, if_false, Int.toNat_natCast, Option.bind_some, ne_eq, not_true_eq_false, not_false_eq_true, true_and, and_true, fulcrumref02_Add.e, hb', cond_false, hC, hS, hD.made hn', e, pe]
    · have hc : cmpI (ab y) (ab z) = -1 := cmpI_lt (by omega)
      have hS := g.nm.rSub_F h.nm hn' hn'
      rw [if_neg (by omega)] at hS
      have hD := g.nm.sub h.nm (show ab y ≤ ab z by omega)
      have e : (if q.1 = true then -(ab z - ab y) else ab z - ab y) = y + z := by
        cases hp : p.1 <;> cases hq : q.1 <;> rw [hp] at ep hb <;> rw [hq] at eq hb <;> simp at ep eq hb ⊢ <;> omega
      simp (disch := omega) only [c_dec, c_beq, c_bne, c_and, c_or, c_not, blt_dec, up1, dn1, if_t, if_f, if_true, if_false, Int.toNat_natCast, Option.bind_some, ne_eq, not_true_eq_false, not_false_eq_true, true_and, and_true, fulcrumref02_Add.e, hb', cond_false, hC, hc, hS, hD.made hn', e, pe]

theorem Wn.Sub_F {p q y z n} (h : Wn p y n) (g : Wn q z n) (hn : n < 70368744177664) : whole_Sub.F (p, q, ()) = some (wc (y - z), ()) := by
  refine whole_Sub.of 0 p q ?_
  simp only [whole_Sub.e, pe, g.Neg_F (Nat.le_of_lt hn), Option.bind_some, h.Add_F g.neg hn]
  rw [Int.sub_eq_add_neg]
theorem Wn.rSub_F {p q y z n} (h : Wn p y n) (g : Wn q z n) (hn : n < 70368744177664) : fulcrumref02_Sub.F (p, q, ()) = some (wc (y - z), ()) := by
  refine fulcrumref02_Sub.of 0 p q ?_
  simp only [fulcrumref02_Sub.e, pe, g.rNeg_F (Nat.le_of_lt hn), Option.bind_some, h.rAdd_F g.neg hn]
  rw [Int.sub_eq_add_neg]
theorem Wn.Cmp_F {p q y z n} (h : Wn p y n) (g : Wn q z n) (hn : n < 70368744177664) : whole_Cmp.F (p, q, ()) = some (sgn (y - z), ()) := by
  refine whole_Cmp.of 0 p q ?_
  simp only [whole_Cmp.e, pe, h.Sub_F g hn, Option.bind_some, (h.sub g).Sign_F hn]
theorem Wn.rCmp_F {p q y z n} (h : Wn p y n) (g : Wn q z n) (hn : n < 70368744177664) : fulcrumref02_Cmp.F (p, q, ()) = some (sgn (y - z), ()) := by
  refine fulcrumref02_Cmp.of 0 p q ?_
  simp only [fulcrumref02_Cmp.e, pe, h.rSub_F g hn, Option.bind_some, (h.sub g).rSign_F hn]
theorem Wn.Mul_F {p q y z n m} (h : Wn p y n) (g : Wn q z m) (hn : n + m ≤ 70368744177664) : whole_Mul.F (p, q, ()) = some (wc (y * z), ()) := by
  refine whole_Mul.of 0 p q ?_
  have e : (if sgn y * sgn z < 0 then -(ab y * ab z) else ab y * ab z) = y * z := by
    rcases tri y with ⟨hy, h1, h2⟩ | ⟨hy, h1, h2⟩ | ⟨hy, h1, h2⟩ <;> rcases tri z with ⟨hz, h3, h4⟩ | ⟨hz, h3, h4⟩ | ⟨hz, h3, h4⟩ <;> rw [h1, h2, h3, h4] <;> simp [Int.neg_mul, Int.mul_neg, *]
  simp only [whole_Mul.e, pe, h.nm.Mul_F g.nm hn, h.Sign_F (show n ≤ 70368744177664 by omega), g.Sign_F (show m ≤ 70368744177664 by omega), Option.bind_some, (h.nm.mul g.nm).signed2 hn (sgn_cases y) (sgn_cases z), e]
theorem Wn.rMul_F {p q y z n m} (h : Wn p y n) (g : Wn q z m) (hn : n + m ≤ 70368744177664) : fulcrumref02_Mul.F (p, q, ()) = some (wc (y * z), ()) := by
  refine fulcrumref02_Mul.of 0 p q ?_
  have ep := h.made_eq
  have eq := g.made_eq
  have e : (if (!(p.1 == q.1)) = true then -(ab y * ab z) else ab y * ab z) = y * z := by
    have hy : ab y = if p.1 = true then -y else y := by cases hp : p.1 <;> rw [hp] at ep <;> simp at ep ⊢ <;> omega
    have hz : ab z = if q.1 = true then -z else z := by cases hq : q.1 <;> rw [hq] at eq <;> simp at eq ⊢ <;> omega
    rw [hy, hz]
    cases p.1 <;> cases q.1 <;> simp [Int.neg_mul, Int.mul_neg]
  simp only [fulcrumref02_Mul.e, pe, h.nm.rMul_F g.nm hn, Option.bind_some, (h.nm.mul g.nm).made hn, e]
end Go.Fx.Try
