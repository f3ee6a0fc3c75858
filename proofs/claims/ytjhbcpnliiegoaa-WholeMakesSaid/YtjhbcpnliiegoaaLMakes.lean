/- The law WholeMakes: what Of, Small, Norm, Neg, Abs and Sign tell. -/
import Derived.Test.YtjhbcpnliiegoaaP1
namespace Go.Fx.Try
open Go Go.Fx Go.Fx.Num
set_option linter.unusedVariables false
set_option linter.unusedSimpArgs false

theorem wi64_of {i : Int} (h : (Lit.int .i64 i).wf = true) : -9223372036854775808 ≤ i ∧ i ≤ 9223372036854775807 := by
  simp [Lit.wf, IntKind.min, IntKind.max, IntKind.bits, IntKind.signed] at h
  omega
theorem wholeMakes_true (n : Int) (a : Bool × List Int) (hn : (Lit.int .i64 n).wf = true) (wa : ∀ x ∈ a.2, (Lit.int .u32 x).wf = true) (la : a.2.length * 4 ≤ 140737488351232) : fulcrumlaw02_WholeMakes.F (n, a, ()) = some (true, ()) := by
  have hn := wi64_of hn
  have ha : Wn a (wv a) 35184372087808 := ⟨limbs_of wa, rfl, by omega⟩
  generalize wv a = z at ha
  have hl : 35184372087808 ≤ 70368744177664 := by decide
  have hw : Wn (wc n) n 2 := Wof_bound (by omega)
  have hs := hw.Small_F (by decide)
  have e1 : smallI n = (n, true, ()) := if_pos hn
  have e2 := SameNat_F (canon (ab z)) (canon (ab z)) (Nat.le_trans ha.nm.norm.len hl)
  rw [decide_eq_true rfl] at e2
  have hng : Wn (wc (-z)) (-z) 35184372087808 := .of (by have := ha.bound; omega)
  refine fulcrumlaw02_WholeMakes.of 0 n a ?_
  simp only [fulcrumlaw02_WholeMakes.e, pe, ha.Small_F hl, ha.rSmall_F hl, WOf_F hn, rWOf_F hn, hw.same (by decide), ha.Norm_F hl, ha.rNorm_F hl, ha.norm.same hl, hs, e1, ha.Neg_F hl, ha.rNeg_F hl, hng.same hl, ha.Abs_F hl, ha.rAbs_F hl, e2, ha.Sign_F hl, ha.rSign_F hl,
    Option.bind_some, beq_self_eq_true, bne_self_eq_false, Bool.not_true, cond_false, cond_true]
end Go.Fx.Try
