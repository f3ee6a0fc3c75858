/- The reference's Text; the law NatTexts. -/
import Derived.Test.YtflgmookgadodaaN9
namespace Go.Fx.Try
open Go Go.Fx Go.Fx.Num
set_option linter.unusedVariables false
set_option linter.unusedSimpArgs false

theorem rText_F {a : List Int} {b : Int} (ha : Limbs a) (la : a.length ≤ 1099511627776) : fulcrumref01_Text.F (a, b, ()) = some (if 2 ≤ b ∧ b ≤ 16 then (txt b.toNat (val a).toNat, 0, ()) else (⟨#[]⟩, 14, ())) := by
  by_cases hb : 2 ≤ b ∧ b ≤ 16
  · obtain ⟨c, rfl⟩ := Int.eq_ofNat_of_zero_le (show 0 ≤ b by omega)
    have hc : 2 ≤ c ∧ c ≤ 16 := by omega
    rw [if_pos hb, Int.toNat_natCast]
    have hva := val_nonneg ha
    have hlen : (digs c (val a).toNat).length ≤ 32 * a.length := by
      refine digs_len hc.1 _ _ ?_
      have h1 := val_lt ha
      have h2 : pw a.length = (2 : Int) ^ (32 * a.length) := by
        unfold pw; rw [Int.pow_mul]; rfl
      have h3 : ((val a).toNat : Int) < 2 ^ (32 * a.length) := by omega
      exact_mod_cast h3
    have rev : ∀ back : List Int, back = digs c (val a).toNat → back ≠ [] → ∃ j, ∀ k, fulcrumref01_Text.L13 (k + j) back (List.replicate back.length 0) 0 = some (txt c (val a).toNat, 0, ()) := by
      intro back hback hne
      have hn : (val a).toNat ≠ 0 := fun h => hne (by rw [hback, h, digs_zero])
      have hbl : back.length ≤ 32 * a.length := by rw [hback]; exact hlen
      refine up (fun k (s : Nat × List Int) => fulcrumref01_Text.L13 k back s.2 (s.1 : Int)) _ (fun i s => s = List.replicate (back.length - i) 0 ++ (back.take i).reverse) back.length (fun i s hi hs => ?_) (fun s hs => ?_) 0 _ (Nat.zero_le _) (by simp)
      · subst hs
        have h1 := rev_len (l := back) (Nat.le_of_lt hi)
        have e : (back.length : Int) - 1 - i = ((back.length - 1 - i : Nat) : Int) := by omega
        refine ⟨_, rfl, 1, fun k => ?_⟩
        simp (disch := omega) only [c_dec, c_beq, c_bne, c_and, c_or, c_not, blt_dec, up1, dn1, if_t, if_f, if_true, if_false, Int.toNat_natCast, Option.bind_some, ne_eq, not_true_eq_false, not_false_eq_true, true_and, and_true, fulcrumref01_Text.L13_succ, fulcrumref01_Text.b13, IntWalk.i64_in, e, rev_set hi]
        rw [show (i : Int) + 1 = ((i + 1 : Nat) : Int) by omega]
      · subst hs
        refine ⟨1, fun k => ?_⟩
        simp (disch := omega) only [c_dec, c_beq, c_bne, c_and, c_or, c_not, blt_dec, up1, dn1, if_t, if_f, if_true, if_false, Int.toNat_natCast, Option.bind_some, ne_eq, not_true_eq_false, not_false_eq_true, true_and, and_true, fulcrumref01_Text.L13_succ, fulcrumref01_Text.b13, Nat.sub_self, List.replicate_zero, List.nil_append, List.take_length]
        unfold txt
        rw [if_neg hn, hback]
    obtain ⟨j, hj⟩ := ends (fun k (s : List Int × List Int) => fulcrumref01_Text.L5 k s.2 c s.1) (txt c (val a).toNat, 0, ()) (fun s => s.1 ++ digs c (val s.2).toNat = digs c (val a).toNat ∧ Nrm s.2 ∧ s.2.length ≤ a.length) (fun s => (val s.2).toNat) (fun s ⟨h1, h2, h3⟩ => by
      obtain ⟨back, rest⟩ := s
      simp only at h1 h2 h3
      have hv := val_nonneg h2.1
      by_cases h0 : rest.length = 0
      · have hr : rest = [] := List.length_eq_zero_iff.1 h0
        subst hr
        rw [val_nil, show (0 : Int).toNat = 0 from rfl, digs_zero, List.append_nil] at h1
        by_cases hb0 : back.length = 0
        · refine .inr ⟨1, fun k => ?_⟩
          have hz : (val a).toNat = 0 := by
            by_cases hz : (val a).toNat = 0
            · exact hz
            · rw [digs_pos hc.1 hz] at h1; rw [h1] at hb0; simp at hb0
          simp (disch := omega) only [c_dec, c_beq, c_bne, c_and, c_or, c_not, blt_dec, up1, dn1, if_t, if_f, if_true, if_false, Int.toNat_natCast, Option.bind_some, ne_eq, not_true_eq_false, not_false_eq_true, true_and, and_true, fulcrumref01_Text.L5_succ, fulcrumref01_Text.b5]
          unfold txt; rw [if_pos hz]
        · obtain ⟨j, hj⟩ := rev back h1 (fun h => hb0 (by rw [h]; rfl))
          refine .inr ⟨j + 1, fun k => ?_⟩
          have hbl : back.length ≤ 32 * a.length := by rw [h1]; exact hlen
          rw [← Nat.add_assoc]
          simp (disch := omega) only [c_dec, c_beq, c_bne, c_and, c_or, c_not, blt_dec, up1, dn1, if_t, if_f, if_true, if_false, Int.toNat_natCast, Option.bind_some, ne_eq, not_true_eq_false, not_false_eq_true, true_and, and_true, fulcrumref01_Text.L5_succ, fulcrumref01_Text.b5]
          exact hj k
      · have hp := nrm_pos h2 h0
        have hp2 := pw_pos (rest.length - 1)
        have hq := tenth_F (b := (c : Int)) h2.1 (by omega) (by omega)
        have hd := dig_mod (v := val rest) (b := c) hv hc.1 (by omega)
        have hdl := hd ▸ h1
        have hdv : 0 ≤ val rest / c ∧ val rest / c < val rest := by
          have := Int.ediv_nonneg hv (show 0 ≤ (c : Int) by omega)
          have h8 : val rest * 2 ≤ val rest * c := Int.mul_le_mul_of_nonneg_left (by omega) hv
          have := (Int.ediv_lt_iff_lt_mul (a := val rest) (b := val rest) (c := (c : Int)) (by omega)).2 (by omega)
          omega
        have hmd : 0 ≤ val rest % c ∧ val rest % c < 16 := by
          have := Int.emod_nonneg (val rest) (b := (c : Int)) (by omega)
          have := Int.emod_lt_of_pos (val rest) (b := (c : Int)) (by omega)
          omega
        have hbl : back.length + 1 ≤ 32 * a.length := by
          have := congrArg List.length hdl
          simp only [List.length_append, List.length_cons] at this
          omega
        refine .inl ⟨(back ++ [btI dtab (val rest % c)], canon (val rest / c)), ⟨?_, canon_nrm _, ?_⟩, ?_, 1, fun k => ?_⟩
        · simp only; rw [val_canon hdv.1, List.append_assoc]; exact hdl
        · refine Nat.le_trans (canon_len_le (k := rest.length) hdv.1 ?_) h3
          have := val_lt h2.1; omega
        · simp only; rw [val_canon hdv.1]; omega
        · simp only [fulcrumref01_Text.L5_succ, fulcrumref01_Text.b5, show (⟨#[48, 49, 50, 51, 52, 53, 54, 55, 56, 57, 97, 98, 99, 100, 101, 102]⟩ : ByteArray) = dtab from rfl]
          simp (disch := omega) only [c_dec, c_beq, c_bne, c_and, c_or, c_not, blt_dec, up1, dn1, if_t, if_f, if_true, if_false, Int.toNat_natCast, Option.bind_some, ne_eq, not_true_eq_false, not_false_eq_true, true_and, and_true, hq, dtab_size, List.length_cons, List.length_nil]
          exact c_t (by omega) _ _) ([], canon (val a)) ⟨by simp only; rw [val_canon hva]; rfl, canon_nrm _, canon_val_len ha⟩
    refine fulcrumref01_Text.of (0 + j) a c ?_
    simp (disch := omega) only [c_dec, c_beq, c_bne, c_and, c_or, c_not, blt_dec, up1, dn1, if_t, if_f, if_true, if_false, Int.toNat_natCast, Option.bind_some, ne_eq, not_true_eq_false, not_false_eq_true, true_and, and_true, fulcrumref01_Text.e, rNorm_F ha]
    exact hj 0
  · rw [if_neg hb]
    refine fulcrumref01_Text.of 0 a b ?_
    by_cases h2 : b < 2
    · simp (disch := omega) only [c_dec, c_beq, c_bne, c_and, c_or, c_not, blt_dec, up1, dn1, if_t, if_f, if_true, if_false, Int.toNat_natCast, Option.bind_some, ne_eq, not_true_eq_false, not_false_eq_true, true_and, and_true, fulcrumref01_Text.e]
    · simp (disch := omega) only [c_dec, c_beq, c_bne, c_and, c_or, c_not, blt_dec, up1, dn1, if_t, if_f, if_true, if_false, Int.toNat_natCast, Option.bind_some, ne_eq, not_true_eq_false, not_false_eq_true, true_and, and_true, fulcrumref01_Text.e]
end Go.Fx.Try
