/- Chapter 1's own: twin, same; and the law NatNorms. -/
import Derived.Test.YtflgmookgadodaaN0
namespace Go.Fx.Try
open Go Go.Fx Go.Fx.Num
set_option linter.unusedVariables false
set_option linter.unusedSimpArgs false

theorem Same_F (a b : List Int) (hl : a.length ≤ 70368744177664) : fulcrumref01_Same.F (a, b, ()) = some (decide (a = b), ()) := by
  by_cases hn : a.length = b.length
  · obtain ⟨j, hj⟩ := ends (fun k (i : Nat) => fulcrumref01_Same.L4 k a b (i : Int)) (decide (a = b), ()) (fun i => i ≤ a.length ∧ ∀ j, j < i → a.getD j 0 = b.getD j 0) (fun i => a.length - i) (fun i ⟨hi, hz⟩ => by
      by_cases h0 : i < a.length
      · by_cases h1 : a.getD i 0 = b.getD i 0
        · refine .inl ⟨i + 1, ⟨h0, fun j hj => ?_⟩, by show a.length - (i + 1) < a.length - i; omega, 1, fun k => ?_⟩
          · by_cases hji : j = i
            · rw [hji, h1]
            · exact hz j (by omega)
          · simp (disch := omega) only [c_dec, c_beq, c_bne, c_and, c_or, c_not, blt_dec, up1, dn1, if_t, if_f, if_true, if_false, Int.toNat_natCast, Option.bind_some, ne_eq, not_true_eq_false, not_false_eq_true, true_and, and_true, fulcrumref01_Same.L4_succ, fulcrumref01_Same.b4, h1]
        · refine .inr ⟨1, fun k => ?_⟩
          have : a ≠ b := fun e => h1 (by rw [e])
          simp (disch := omega) only [c_dec, c_beq, c_bne, c_and, c_or, c_not, blt_dec, up1, dn1, if_t, if_f, if_true, if_false, Int.toNat_natCast, Option.bind_some, ne_eq, not_true_eq_false, not_false_eq_true, true_and, and_true, fulcrumref01_Same.L4_succ, fulcrumref01_Same.b4, decide_eq_false this]
      · refine .inr ⟨1, fun k => ?_⟩
        have : a = b := ext_getD hn fun j hj => hz j (by omega)
        simp (disch := omega) only [c_dec, c_beq, c_bne, c_and, c_or, c_not, blt_dec, up1, dn1, if_t, if_f, if_true, if_false, Int.toNat_natCast, Option.bind_some, ne_eq, not_true_eq_false, not_false_eq_true, true_and, and_true, fulcrumref01_Same.L4_succ, fulcrumref01_Same.b4, decide_eq_true this]) 0 ⟨Nat.zero_le _, fun j hj => by omega⟩
    refine fulcrumref01_Same.of j a b ?_
    simp (disch := omega) only [c_dec, c_beq, c_bne, c_and, c_or, c_not, blt_dec, up1, dn1, if_t, if_f, if_true, if_false, Int.toNat_natCast, Option.bind_some, ne_eq, not_true_eq_false, not_false_eq_true, true_and, and_true, fulcrumref01_Same.e]
    have := hj 0
    rwa [Nat.zero_add] at this
  · have : a ≠ b := fun e => hn (by rw [e])
    refine fulcrumref01_Same.of 0 a b ?_
    simp (disch := omega) only [c_dec, c_beq, c_bne, c_and, c_or, c_not, blt_dec, up1, dn1, if_t, if_f, if_true, if_false, Int.toNat_natCast, Option.bind_some, ne_eq, not_true_eq_false, not_false_eq_true, true_and, and_true, fulcrumref01_Same.e, decide_eq_false this]
theorem same_F (a b : List Int) (hl : a.length ≤ 70368744177664) : fulcrumlaw01_same.F (a, b, ()) = some (decide (a = b), ()) := by
  refine fulcrumlaw01_same.of 0 a b ?_
  simp only [fulcrumlaw01_same.e, Same_F a b hl, Option.bind_some]

theorem twin_F (a : List Int) (hl : a.length ≤ 70368744177664) : fulcrumlaw01_twin.F (a, ()) = some (a, ()) := by
  obtain ⟨j, hj⟩ := up (fun k (s : Nat × List Int) => fulcrumlaw01_twin.L3 k a s.2 (s.1 : Int)) (a, ()) (fun i s => s = a.take i ++ List.replicate (a.length - i) 0) a.length (fun i s hi hs => by
      subst hs
      have h1 := copy_len (Nat.le_of_lt hi) (Nat.le_refl a.length)
      refine ⟨_, rfl, 1, fun k => ?_⟩
      simp (disch := omega) only [c_dec, c_beq, c_bne, c_and, c_or, c_not, blt_dec, up1, dn1, if_t, if_f, if_true, if_false, Int.toNat_natCast, Option.bind_some, ne_eq, not_true_eq_false, not_false_eq_true, true_and, and_true, fulcrumlaw01_twin.L3_succ, fulcrumlaw01_twin.b3, copy_set hi (Nat.le_refl _)]) (fun s hs => by
      subst hs
      refine ⟨1, fun k => ?_⟩
      simp (disch := omega) only [c_dec, c_beq, c_bne, c_and, c_or, c_not, blt_dec, up1, dn1, if_t, if_f, if_true, if_false, Int.toNat_natCast, Option.bind_some, ne_eq, not_true_eq_false, not_false_eq_true, true_and, and_true, fulcrumlaw01_twin.L3_succ, fulcrumlaw01_twin.b3, List.take_length, Nat.sub_self, List.replicate_zero, List.append_nil]) 0 _ (Nat.zero_le _) rfl
  refine fulcrumlaw01_twin.of (0 + j) a ?_
  simp (disch := omega) only [c_dec, c_beq, c_bne, c_and, c_or, c_not, blt_dec, up1, dn1, if_t, if_f, if_true, if_false, Int.toNat_natCast, Option.bind_some, ne_eq, not_true_eq_false, not_false_eq_true, true_and, and_true, fulcrumlaw01_twin.e]
  exact hj 0

theorem natNorms_true (a : List Int) (n : Int) (h : ∀ x ∈ a, (Lit.int .u32 x).wf = true) (hl : a.length * 4 ≤ 140737488351232) (hn : (Lit.int .u64 n).wf = true) : fulcrumlaw01_NatNorms.F (a, n, ()) = some (true, ()) := by
  have h := limbs_of h
  have hl' : a.length ≤ 70368744177664 := by omega
  have hn : 0 ≤ n ∧ n < 18446744073709551616 := by
    simp [Lit.wf, IntKind.min, IntKind.max, IntKind.bits, IntKind.signed] at hn
    omega
  have hc := canon_val_len h
  have hc2 : (canon n).length ≤ 2 := canon_len_le hn.1 hn.2
  refine fulcrumlaw01_NatNorms.of 0 a n ?_
  simp (disch := omega) only [fulcrumlaw01_NatNorms.e, twin_F, Norm_F h hl', rNorm_F h hl', same_F, Of_F hn, rOf_F hn, Small_F h hl', rSmall_F h hl', Small_F (canon_limbs n), val_canon, Option.bind_some, decide_true, Bool.not_true, cond_false, bne_self_eq_false, beq_self_eq_true, if_t, cond_true]
end Go.Fx.Try
