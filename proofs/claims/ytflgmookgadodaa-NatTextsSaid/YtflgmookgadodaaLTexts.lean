/- The law NatTexts: Text in every base. -/
import Derived.Test.YtflgmookgadodaaN1
import Derived.Test.YtflgmookgadodaaN10
namespace Go.Fx.Try
open Go Go.Fx Go.Fx.Num
set_option linter.unusedVariables false
set_option linter.unusedSimpArgs false

theorem digs_10 : digs 10 4294967296 = [54, 57, 50, 55, 54, 57, 52, 57, 50, 52] := by
  simp (disch := decide) only [digs_pos, digs_zero, Nat.reduceDiv, Nat.reduceMod]
  decide +kernel
theorem txt_10 : (txt 10 4294967296).toList = (⟨#[52, 50, 57, 52, 57, 54, 55, 50, 57, 54]⟩ : ByteArray).toList := by
  unfold txt
  rw [if_neg (by decide), digs_10]
  decide +kernel
theorem natTexts_true (a : List Int) (b : Int) (wa : ∀ x ∈ a, (Lit.int .u32 x).wf = true) (la : a.length * 4 ≤ 140737488351232) (hb : (Lit.int .i64 b).wf = true) : fulcrumlaw01_NatTexts.F (a, b, ()) = some (true, ()) := by
  have ha := limbs_of wa
  have h1 : Limbs [0, 1] := Limbs.cons (by decide) (Limbs.cons (by decide) Limbs.nil)
  have e1 := Text_F (b := 10) h1 (by simp)
  rw [if_pos (by decide)] at e1
  have hv : (val [0, 1]).toNat = 4294967296 := by simp only [val_cons, val_nil]; decide
  rw [hv, show (10 : Int).toNat = 10 from rfl] at e1
  have n1 := Text_F (b := b) Limbs.nil (by simp)
  have n2 := rText_F (b := b) Limbs.nil (by simp)
  have t0 := twin_F [] (by simp)
  refine fulcrumlaw01_NatTexts.of 0 a b ?_
  by_cases hl : a.length ≥ 67108864
  · simp (disch := omega) only [c_dec, c_beq, c_bne, c_and, c_or, c_not, blt_dec, up1, dn1, if_t, if_f, if_true, if_false, Int.toNat_natCast, Option.bind_some, ne_eq, not_true_eq_false, not_false_eq_true, true_and, and_true, fulcrumlaw01_NatTexts.e, t0, n1, n2, e1, txt_10, beq_self_eq_true, bne_self_eq_false, Bool.not_true, cond_false, cond_true]
  · simp (disch := omega) only [c_dec, c_beq, c_bne, c_and, c_or, c_not, blt_dec, up1, dn1, if_t, if_f, if_true, if_false, Int.toNat_natCast, Option.bind_some, ne_eq, not_true_eq_false, not_false_eq_true, true_and, and_true, fulcrumlaw01_NatTexts.e, twin_F, Text_F ha, rText_F ha, e1, txt_10, beq_self_eq_true, bne_self_eq_false, Bool.not_true, cond_false, cond_true]
end Go.Fx.Try
