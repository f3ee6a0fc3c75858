/- Fractions: their normal form and their order, the code's and the reference's. -/
import Derived.Test.YthmdbafinpmojaaGreatQA
import Derived.Test.YthmdbafinpmojaaGreatNC
import Derived.Test.YthmdbafinpmojaaGreatND
import Derived.Test.YthmdbafinpmojaaGreatNE
namespace Go.Fx.Tryz
open Go Go.Fx Go.Fx.Num
set_option linter.unusedVariables false
set_option linter.unusedSimpArgs false

/-! ### a fraction's number -/
def rv (r : Dt42) : Rat := Rat.divInt (wv r.1) (val r.2)
noncomputable def rcan (q : Rat) : Dt42 := (wc q.num, canon (q.den : Int))
theorem gcd_ab (z d : Int) : gcdI (ab z) d = (Int.gcd d z : Int) := by
  unfold gcdI ab
  rw [Int.gcd_comm]
  split <;> simp
theorem q_num {z d : Int} (hd : 0 < d) : (Rat.divInt z d).num = z / gcdI (ab z) d := by
  rw [Rat.num_divInt, gcd_ab, Int.sign_eq_one_of_pos hd, Int.one_mul]
theorem q_den {z d : Int} (hd : 0 < d) : ((Rat.divInt z d).den : Int) = d / gcdI (ab z) d := by
  rw [Rat.den_divInt, if_neg (by omega), gcd_ab]
  have : (d.natAbs : Int) = d := by omega
  rw [Int.natCast_ediv, this]
theorem rcan_zero : rcan 0 = ((false, []), [1]) := by
  unfold rcan
  rw [show (0 : Rat).num = 0 from rfl, show ((0 : Rat).den : Int) = 1 from rfl, canon_one (by decide), wc_pos (by decide), canon_zero]
/-- A fraction's lists, its number, and a bound of their lengths. -/
structure Rt (r : Dt42) (q : Rat) (n : Nat) : Prop where
  num : Wn r.1 (wv r.1) n
  den : Nm r.2 (val r.2) n
  val : rv r = q
  pos : 1 ≤ n
theorem den_pos (q : Rat) : 0 < (q.den : Int) := by have := q.den_nz; omega
theorem rv_rcan (q : Rat) : rv (rcan q) = q := by
  unfold rv rcan
  rw [wv_wc, val_canon (by omega), Rat.num_divInt_den]
theorem Rt.mono {r q n m} (h : Rt r q n) (hm : n ≤ m) : Rt r q m := ⟨h.num.mono hm, h.den.mono hm, h.val, by have := h.pos; omega⟩
theorem ediv_bound {z g b : Int} (hg : 0 < g) (h : -b < z ∧ z < b) : -b < z / g ∧ z / g < b := by
  have h1 : z / g * g ≤ z := Int.ediv_mul_le z (by omega)
  have h2 : z < (z / g + 1) * g := Int.lt_ediv_add_one_mul_self z hg
  rcases Int.lt_trichotomy z 0 with h0 | h0 | h0
  · have h3 : z / g < 0 := Int.ediv_neg_of_neg_of_pos h0 hg
    have h4 : (z / g + 1) * g ≤ (z / g + 1) * 1 := Int.mul_le_mul_of_nonpos_left (by omega) (by omega)
    omega
  · subst h0; simp; omega
  · have h3 : 0 ≤ z / g := Int.ediv_nonneg (by omega) (by omega)
    have h4 : z / g * 1 ≤ z / g * g := Int.mul_le_mul_of_nonneg_left (by omega) h3
    omega
theorem pw_ge_one {n : Nat} (h : 1 ≤ n) : 1 < pw n := by
  have := pw_mono h
  have e : pw 1 = 4294967296 := by decide
  omega
theorem Rt.bounds {r q n} (h : Rt r q n) : (-pw n < q.num ∧ q.num < pw n) ∧ (q.den : Int) < pw n := by
  have hb := h.num.bound
  have hd := h.den.lt
  have hv := h.val
  have h1 := pw_ge_one h.pos
  unfold rv at hv
  rcases Int.lt_or_eq_of_le h.den.pos with h0 | h0
  · have hg := gcdI_pos (x := ab (wv r.1)) (y := Num.val r.2) (by omega)
    have e1 := q_num (z := wv r.1) h0
    have e2 := q_den (z := wv r.1) h0
    rw [hv] at e1 e2
    refine ⟨by rw [e1]; exact ediv_bound hg hb, ?_⟩
    rw [e2]
    exact (ediv_bound hg ⟨by omega, hd⟩).2
  · rw [← h0, Rat.divInt_zero] at hv
    subst hv
    have := pw_pos n
    refine ⟨⟨?_, ?_⟩, h1⟩
    · show -pw n < 0; omega
    · show 0 < pw n; omega
theorem Rt.of_q {q : Rat} {n : Nat} (hn : 1 ≤ n) (h1 : -pw n < q.num ∧ q.num < pw n) (h2 : (q.den : Int) < pw n) : Rt (rcan q) q n where
  num := by
    show Wn (wc q.num) (wv (wc q.num)) n
    rw [wv_wc]; exact .of h1
  den := by
    show Nm (canon (q.den : Int)) (Num.val (canon (q.den : Int))) n
    rw [val_canon (by omega)]; exact .canon (by omega) h2
  val := rv_rcan q
  pos := hn
theorem Rt.norm {r q n} (h : Rt r q n) : Rt (rcan q) q n := .of_q h.pos h.bounds.1 h.bounds.2
theorem blen_nought {x : Int} (h : 0 ≤ x) : (blen x.toNat : Int) = 0 ↔ x = 0 := by
  have key : ∀ n : Nat, blen n = 0 ↔ n = 0 := by
    intro n
    constructor
    · intro h
      unfold blen at h
      split at h
      · assumption
      · omega
    · intro h; subst h; unfold blen; rfl
  have := key x.toNat
  omega

/-- What both make of a numerator z and a denominator d above 0. -/
theorem parts {p : Dt40} {z d : Int} {n : Nat} (hp : Wn p z n) (hd : 0 < d) : Wn (p.1, canon (ab z / gcdI (ab z) d)) (z / gcdI (ab z) d) n := by
  have hg := gcdI_pos (x := ab z) (y := d) (by omega)
  have ha := ab_nonneg z
  have hz : 0 ≤ ab z / gcdI (ab z) d := Int.ediv_nonneg ha (by omega)
  have hnm := hp.nm.lt
  have hb := ediv_bound hg ⟨show -pw n < ab z by have := pw_pos n; omega, hnm⟩
  refine ⟨canon_limbs _, ?_, canon_len_le hz hb.2⟩
  have he := hp.made_eq
  unfold wv
  show (if p.1 = true then -(Num.val (canon (ab z / gcdI (ab z) d))) else Num.val (canon (ab z / gcdI (ab z) d))) = z / gcdI (ab z) d
  rw [val_canon hz]
  cases hb1 : p.1 with
  | true =>
    rw [hb1] at he
    simp only [if_true] at he ⊢
    have hdv : gcdI (ab z) d ∣ ab z := gcdI_dvd_left _ _
    rw [← Int.neg_ediv_of_dvd hdv, he]
  | false =>
    rw [hb1] at he
    simp only [Bool.false_eq_true, if_false] at he ⊢
    rw [he]

theorem made_F {p : Dt40} {e : Dt38} {z d : Int} {n : Nat} (hp : Wn p z n) (he : Nm e d n) (hd : 0 < d) (hn : n < 70368744177664) : ratio_made.F (p, e, ()) = some (rcan (Rat.divInt z d), ()) := by
  have hg := gcdI_pos (x := ab z) (y := d) (by omega)
  have g1 := hp.nm
  have hgn : Nm (canon (gcdI (ab z) d)) (gcdI (ab z) d) n := .canon (by omega) (gcdI_lt g1.pos he.pos g1.lt he.lt)
  refine ratio_made.of 0 p e (st (g1.Gcd_F he hn) (st ((g1.Div_F hgn hn hn).trans (congrArg some (divI_pos (by omega)))) (st ((he.Div_F hgn hn hn).trans (congrArg some (divI_pos (by omega)))) (st ((parts hp hd).Norm_F (by omega)) ?_))))
  show some ((wc (z / gcdI (ab z) d), canon (d / gcdI (ab z) d)), ()) = _
  unfold rcan
  rw [q_num hd, q_den hd]
theorem Rt.Norm_F {r q n} (h : Rt r q n) (hn : n < 70368744177664) : ratio_Norm.F (r, ()) = some (rcan q, ()) := by
  have hb := Bits_F h.den.limbs (by have := h.den.len; omega)
  refine ratio_Norm.of 0 r (st hb ?_)
  have hv := h.val
  unfold rv at hv
  rcases Int.lt_or_eq_of_le h.den.pos with h0 | h0
  · refine no ?_ (st (made_F h.num h.den h0 hn) ?_)
    · refine beq_eq_false_iff_ne.2 fun e => ?_
      have := (blen_nought h.den.pos).1 e
      omega
    · rw [hv]
  · refine yes ?_ ?_
    · rw [← h0]; rfl
    · rw [← h0, Rat.divInt_zero] at hv
      subst hv
      rw [rcan_zero]
theorem canon_len_pos {x : Int} (h : 0 < x) : ((canon x).length : Int) ≠ 0 := by
  have := canon_len_zero (n := x) (by omega)
  omega
theorem Rt.rNorm_F {r q n} (h : Rt r q n) (hn : n < 70368744177664) : fulcrumref03_Norm.F (r, ()) = some (rcan q, ()) := by
  refine fulcrumref03_Norm.of 0 r (st (h.num.rNorm_F (by omega)) (st (h.den.rNorm_F (by omega)) ?_))
  have hv := h.val
  unfold rv at hv
  rcases Int.lt_or_eq_of_le h.den.pos with h0 | h0
  · refine no (beq_eq_false_iff_ne.2 (canon_len_pos h0)) ?_
    have hw : (wc (wv r.1)).2 = canon (ab (wv r.1)) := rfl
    by_cases hz : wv r.1 = 0
    · refine yes ?_ ?_
      · show (((canon (ab (wv r.1))).length : Int) == 0) = true
        rw [hz, show ab 0 = 0 from rfl, canon_zero]; rfl
      · rw [hz, Rat.zero_divInt] at hv
        subst hv
        rw [rcan_zero]
    · have hab : 0 < ab (wv r.1) := by have := tri (wv r.1); omega
      refine no (beq_eq_false_iff_ne.2 (canon_len_pos hab)) ?_
      have g1 : Nm (canon (ab (wv r.1))) (ab (wv r.1)) n := h.num.norm.nm
      have g2 := h.den.norm
      have hg := gcdI_pos (x := ab (wv r.1)) (y := Num.val r.2) (by omega)
      have hgn : Nm (canon (gcdI (ab (wv r.1)) (Num.val r.2))) (gcdI (ab (wv r.1)) (Num.val r.2)) n := .canon (by omega) (gcdI_lt g1.pos g2.pos g1.lt g2.lt)
      refine st (g1.rGcd_F g2 hn) (st ((g1.rDiv_F hgn hn hn).trans (congrArg some (divI_pos (by omega)))) (st ((g2.rDiv_F hgn hn hn).trans (congrArg some (divI_pos (by omega)))) ?_))
      show some (((decide (wv r.1 < 0), canon (ab (wv r.1) / gcdI (ab (wv r.1)) (Num.val r.2))), canon (Num.val r.2 / gcdI (ab (wv r.1)) (Num.val r.2))), ()) = _
      rw [← hv]
      unfold rcan
      rw [q_num h0, q_den h0]
      have hp := parts h.num.norm h0
      have e1 : ((wc (wv r.1)).1, canon (ab (wv r.1) / gcdI (ab (wv r.1)) (Num.val r.2))) = wc (wv r.1 / gcdI (ab (wv r.1)) (Num.val r.2)) := by
        have hdv : gcdI (ab (wv r.1)) (Num.val r.2) ∣ ab (wv r.1) := gcdI_dvd_left _ _
        have hpos : 0 < ab (wv r.1) / gcdI (ab (wv r.1)) (Num.val r.2) := Int.ediv_pos_of_pos_of_dvd hab (by omega) hdv
        have key : (wv r.1 < 0 ↔ wv r.1 / gcdI (ab (wv r.1)) (Num.val r.2) < 0) ∧ ab (wv r.1) / gcdI (ab (wv r.1)) (Num.val r.2) = ab (wv r.1 / gcdI (ab (wv r.1)) (Num.val r.2)) := by
          have t := tri (wv r.1 / gcdI (ab (wv r.1)) (Num.val r.2))
          by_cases hs : wv r.1 < 0
          · have e2 : ab (wv r.1) = -wv r.1 := by have := tri (wv r.1); omega
            have hdv' : gcdI (ab (wv r.1)) (Num.val r.2) ∣ wv r.1 := by
              have := Int.dvd_neg.2 hdv
              have e : -ab (wv r.1) = wv r.1 := by omega
              rwa [e] at this
            have e3 : ab (wv r.1) / gcdI (ab (wv r.1)) (Num.val r.2) = -(wv r.1 / gcdI (ab (wv r.1)) (Num.val r.2)) := by
              rw [← Int.neg_ediv_of_dvd hdv', ← e2]
            omega
          · have e2 : ab (wv r.1) = wv r.1 := by have := tri (wv r.1); omega
            have e3 : ab (wv r.1) / gcdI (ab (wv r.1)) (Num.val r.2) = wv r.1 / gcdI (ab (wv r.1)) (Num.val r.2) := congrArg (· / _) e2
            omega
        show (decide (wv r.1 < 0), _) = (decide (wv r.1 / gcdI (ab (wv r.1)) (Num.val r.2) < 0), canon (ab (wv r.1 / gcdI (ab (wv r.1)) (Num.val r.2))))
        rw [decide_eq_decide.2 key.1, key.2]
      exact congrArg (fun a => some ((a, _), ())) e1
  · refine yes ?_ ?_
    · show (((canon (Num.val r.2)).length : Int) == 0) = true
      rw [← h0, canon_zero]; rfl
    · rw [← h0, Rat.divInt_zero] at hv
      subst hv
      rw [rcan_zero]
end Go.Fx.Tryz

namespace Go.Fx.Tryz
open Go Go.Fx Go.Fx.Num
set_option linter.unusedVariables false
set_option linter.unusedSimpArgs false

/-! ### the order -/
def rcmp (p q : Rat) : Int := sgn (p.num * q.den - q.num * p.den)
theorem rcmp_lt {p q : Rat} : rcmp p q < 0 ↔ p < q := by
  rw [Rat.lt_iff]
  unfold rcmp sgn
  split <;> (try split) <;> omega
theorem rcmp_gt {p q : Rat} : 0 < rcmp p q ↔ q < p := by
  rw [Rat.lt_iff]
  unfold rcmp sgn
  split <;> (try split) <;> omega
theorem rcmp_eq {p q : Rat} : rcmp p q = 0 ↔ p = q := by
  constructor
  · intro h
    have h1 := (Rat.le_iff p q).2 (by unfold rcmp sgn at h; split at h <;> (try split at h) <;> omega)
    have h2 := (Rat.le_iff q p).2 (by unfold rcmp sgn at h; split at h <;> (try split at h) <;> omega)
    exact Rat.le_antisymm h1 h2
  · rintro rfl
    unfold rcmp
    rw [Int.sub_self]; rfl
theorem sgn_ediv {z g : Int} (hg : 0 < g) (hd : g ∣ z) : sgn (z / g) = sgn z := by
  have he : z / g * g = z := Int.ediv_mul_cancel hd
  rcases Int.lt_trichotomy z 0 with h | h | h
  · have : z / g < 0 := Int.ediv_neg_of_neg_of_pos h hg
    unfold sgn
    rw [if_pos h, if_pos this]
  · subst h; simp
  · have : 0 < z / g := Int.ediv_pos_of_pos_of_dvd h (by omega) hd
    unfold sgn
    rw [if_neg (by omega), if_neg (by omega), if_neg (by omega), if_neg (by omega)]
theorem dvd_ab {z g : Int} (h : g ∣ ab z) : g ∣ z := by
  unfold ab at h
  split at h
  · have := Int.dvd_neg.2 h; rwa [Int.neg_neg] at this
  · exact h
theorem sgn_sub (p q : Rat) : sgn (p - q).num = rcmp p q := by
  have hd : 0 < (p.den : Int) * q.den := Int.mul_pos (den_pos p) (den_pos q)
  have e : p - q = Rat.divInt (p.num * q.den - q.num * p.den) ((p.den : Int) * q.den) := by
    rw [Rat.sub_def', ← Rat.divInt_ofNat, Int.natCast_mul]
  rw [e, q_num hd]
  exact sgn_ediv (gcdI_pos (by omega)) (dvd_ab (gcdI_dvd_left _ _))
theorem add_divInt (p q : Rat) : Rat.divInt (p.num * q.den + q.num * p.den) ((p.den : Int) * q.den) = p + q := by
  rw [Rat.add_def', ← Rat.divInt_ofNat, Int.natCast_mul]

/-! ### the code's fractions -/
theorem rnum {q : Rat} {n : Nat} (h : Rt (rcan q) q n) : Wn (wc q.num) q.num n := by
  have := h.num
  have e : (rcan q).1 = wc q.num := rfl
  rw [e, wv_wc] at this
  exact this
theorem rden {q : Rat} {n : Nat} (h : Rt (rcan q) q n) : Nm (canon (q.den : Int)) (q.den : Int) n := by
  have := h.den
  have e : (rcan q).2 = canon (q.den : Int) := rfl
  rw [e, val_canon (by omega)] at this
  exact this
theorem Rt.Cmp_F {r s p q n} (h : Rt r p n) (g : Rt s q n) (hn : n + n < 70368744177664) : ratio_Cmp.F (r, s, ()) = some (rcmp p q, ()) := by
  have hp := h.norm
  have hq := g.norm
  refine ratio_Cmp.of 0 r s (st (h.Norm_F (by omega)) (st (g.Norm_F (by omega)) ?_))
  exact st ((rnum hp).Mul_F (rden hq).wn (by omega)) (st ((rnum hq).Mul_F (rden hp).wn (by omega)) (st (((rnum hp).mul (rden hq).wn).Cmp_F ((rnum hq).mul (rden hp).wn) (by omega)) rfl))

/-! ### the reference's fractions -/
theorem Rt.rNeg_F {r q n} (h : Rt r q n) (hn : n < 70368744177664) : fulcrumref03_Neg.F (r, ()) = some (rcan (-q), ()) := by
  have hq := h.norm
  have hb := hq.bounds
  have hm : Rt (wc (-q.num), canon (q.den : Int)) (-q) n := by
    refine ⟨?_, ?_, ?_, h.pos⟩
    · show Wn (wc (-q.num)) (wv (wc (-q.num))) n
      rw [wv_wc]; exact .of (by omega)
    · exact hq.den
    · show Rat.divInt (wv (wc (-q.num))) (Num.val (canon (q.den : Int))) = -q
      rw [wv_wc, val_canon (by omega), ← Rat.neg_divInt, Rat.num_divInt_den]
  refine fulcrumref03_Neg.of 0 r (st (h.rNorm_F hn) (st ((rnum hq).rNeg_F (by omega)) (st (hm.rNorm_F hn) rfl)))
theorem Rt.neg {q n} (h : Rt (rcan q) q n) : Rt (rcan (-q)) (-q) n :=
  .of_q h.pos (by have := h.bounds; rw [Rat.neg_num]; omega) (by rw [Rat.neg_den]; exact h.bounds.2)
theorem Rt.rAdd {p q n} (h : Rt (rcan p) p n) (g : Rt (rcan q) q n) : Rt (wc (p.num * q.den + q.num * p.den), canon ((p.den : Int) * q.den)) (p + q) (n + n + 1) := by
  have h1 := ((rnum h).mul (rden g).wn).add ((rnum g).mul (rden h).wn)
  have h2 := (rden h).mul (rden g)
  refine ⟨?_, ?_, ?_, by omega⟩
  · show Wn (wc _) (wv (wc _)) _
    rw [wv_wc]; exact h1
  · show Nm (canon _) (Num.val (canon _)) _
    rw [h2.val]; exact h2.mono (by omega)
  · show Rat.divInt (wv (wc _)) (Num.val (canon _)) = _
    rw [wv_wc, h2.val, add_divInt]
theorem Rt.rAdd_F {r s p q n} (h : Rt r p n) (g : Rt s q n) (hn : n + n + 1 < 70368744177664) : fulcrumref03_Add.F (r, s, ()) = some (rcan (p + q), ()) := by
  have hp := h.norm
  have hq := g.norm
  refine fulcrumref03_Add.of 0 r s (st (h.rNorm_F (by omega)) (st (g.rNorm_F (by omega)) (st (fulcrumref03_positive.of 0 _ rfl) (st ((rnum hp).rMul_F (rden hq).wn (by omega)) (st (fulcrumref03_positive.of 0 _ rfl) (st ((rnum hq).rMul_F (rden hp).wn (by omega)) ?_))))))
  exact st (((rnum hp).mul (rden hq).wn).rAdd_F ((rnum hq).mul (rden hp).wn) (by omega)) (st ((rden hp).rMul_F (rden hq) (by omega)) (st ((hp.rAdd hq).rNorm_F hn) rfl))
theorem Rt.rSub_F {r s p q n} (h : Rt r p n) (g : Rt s q n) (hn : n + n + 1 < 70368744177664) : fulcrumref03_Sub.F (r, s, ()) = some (rcan (p - q), ()) := by
  refine fulcrumref03_Sub.of 0 r s (st (g.rNeg_F (by omega)) (st (h.rAdd_F g.norm.neg hn) ?_))
  rw [Rat.sub_eq_add_neg]
theorem Rt.sub {r s p q n} (h : Rt r p n) (g : Rt s q n) : Rt (rcan (p - q)) (p - q) (n + n + 1) := by
  rw [Rat.sub_eq_add_neg]
  exact (h.norm.rAdd g.norm.neg).norm
theorem Rt.rSign_F {r q n} (h : Rt r q n) (hn : n < 70368744177664) : fulcrumref03_Sign.F (r, ()) = some (sgn q.num, ()) :=
  fulcrumref03_Sign.of 0 r (st (h.rNorm_F hn) (st ((rnum h.norm).rSign_F (by omega)) rfl))

/-! ### numbers with a delta part -/
noncomputable def dcan (x : Rat × Rat) : Dt44 := (rcan x.1, rcan x.2)
def dcmp (x y : Rat × Rat) : Int := if rcmp x.1 y.1 ≠ 0 then rcmp x.1 y.1 else rcmp x.2 y.2
structure Dn (d : Dt44) (x : Rat × Rat) (n : Nat) : Prop where
  a : Rt d.1 x.1 n
  b : Rt d.2 x.2 n
theorem Dn.norm {d x n} (h : Dn d x n) : Dn (dcan x) x n := ⟨h.a.norm, h.b.norm⟩
theorem Dn.Norm_F {d x n} (h : Dn d x n) (hn : n < 70368744177664) : delta_Norm.F (d, ()) = some (dcan x, ()) :=
  delta_Norm.of 0 d (st (h.a.Norm_F hn) (st (h.b.Norm_F hn) rfl))
theorem Dn.rNorm_F {d x n} (h : Dn d x n) (hn : n < 70368744177664) : fulcrumref05_Norm.F (d, ()) = some (dcan x, ()) :=
  fulcrumref05_Norm.of 0 d (st (h.a.rNorm_F hn) (st (h.b.rNorm_F hn) rfl))
theorem Dn.Cmp_F {c d x y n} (h : Dn c x n) (g : Dn d y n) (hn : n + n < 70368744177664) : delta_Cmp.F (c, d, ()) = some (dcmp x y, ()) := by
  refine delta_Cmp.of 0 c d (st (h.a.Cmp_F g.a hn) ?_)
  unfold dcmp
  by_cases hz : rcmp x.1 y.1 = 0
  · rw [if_neg (by simp [hz])]
    exact no (bne_eq_false_iff_eq.2 hz) (st (h.b.Cmp_F g.b hn) rfl)
  · rw [if_pos hz]
    exact yes (bne_iff_ne.2 hz) rfl
theorem Dn.rCmp_F {c d x y n} (h : Dn c x n) (g : Dn d y n) (hn : n + n + 1 < 70368744177664) : fulcrumref05_Cmp.F (c, d, ()) = some (dcmp x y, ()) := by
  have k1 : fulcrumref05_Sub.F (c, d, ()) = some (dcan (x.1 - y.1, x.2 - y.2), ()) :=
    fulcrumref05_Sub.of 0 c d (st (h.a.rSub_F g.a hn) (st (h.b.rSub_F g.b hn) rfl))
  have k2 : fulcrumref05_Sign.F (dcan (x.1 - y.1, x.2 - y.2), ()) = some (dcmp x y, ()) := by
    refine fulcrumref05_Sign.of 0 _ (st ((h.a.sub g.a).rSign_F hn) ?_)
    unfold dcmp
    rw [sgn_sub]
    by_cases hz : rcmp x.1 y.1 = 0
    · rw [if_neg (by simp [hz])]
      refine no (bne_eq_false_iff_eq.2 hz) (st ((h.b.sub g.b).rSign_F hn) ?_)
      rw [sgn_sub]
    · rw [if_pos hz]
      exact yes (bne_iff_ne.2 hz) rfl
  exact fulcrumref05_Cmp.of 0 c d (st k1 (st k2 rfl))

/-! ### an order, from below to above -/
theorem rat_tri (p q : Rat) : p < q ∨ p = q ∨ q < p := by
  rcases Int.lt_trichotomy (rcmp p q) 0 with h | h | h
  · exact .inl (rcmp_lt.1 h)
  · exact .inr (.inl (rcmp_eq.1 h))
  · exact .inr (.inr (rcmp_gt.1 h))
theorem rat_trans {p q r : Rat} (h : p < q) (g : q < r) : p < r := by
  have h1 := Rat.le_trans (Rat.le_of_lt h) (Rat.le_of_lt g)
  refine Rat.lt_of_le_of_ne h1 ?_
  rintro rfl
  have := Rat.le_antisymm (Rat.le_of_lt h) (Rat.le_of_lt g)
  subst this
  exact Rat.lt_irrefl h
/-- x is below y. -/
def dlt (x y : Rat × Rat) : Prop := x.1 < y.1 ∨ (x.1 = y.1 ∧ x.2 < y.2)
theorem dcmp_lt {x y : Rat × Rat} : dcmp x y < 0 ↔ dlt x y := by
  unfold dcmp dlt
  by_cases h : rcmp x.1 y.1 = 0
  · rw [if_neg (by simp [h]), rcmp_lt]
    have := rcmp_eq.1 h
    rw [this]
    have := @Rat.lt_irrefl y.1
    simp [this]
  · rw [if_pos h, rcmp_lt]
    have : x.1 ≠ y.1 := fun e => h (rcmp_eq.2 e)
    simp [this]
theorem dcmp_gt {x y : Rat × Rat} : 0 < dcmp x y ↔ dlt y x := by
  unfold dcmp dlt
  by_cases h : rcmp x.1 y.1 = 0
  · rw [if_neg (by simp [h]), rcmp_gt]
    have := rcmp_eq.1 h
    rw [this]
    have := @Rat.lt_irrefl y.1
    simp [this]
  · rw [if_pos h, rcmp_gt]
    have : y.1 ≠ x.1 := fun e => h (rcmp_eq.2 e.symm)
    simp [this]
theorem dcmp_eq {x y : Rat × Rat} : dcmp x y = 0 ↔ x = y := by
  unfold dcmp
  by_cases h : rcmp x.1 y.1 = 0
  · rw [if_neg (by simp [h]), rcmp_eq]
    have := rcmp_eq.1 h
    constructor
    · intro g; exact Prod.ext this g
    · intro g; rw [g]
  · rw [if_pos h]
    constructor
    · intro g; exact absurd g h
    · rintro rfl; exact absurd (rcmp_eq.2 rfl) h
theorem dlt_irrefl (x : Rat × Rat) : ¬dlt x x := by
  rintro (h | ⟨_, h⟩) <;> exact Rat.lt_irrefl h
theorem dlt_trans {x y z : Rat × Rat} (h : dlt x y) (g : dlt y z) : dlt x z := by
  rcases h with h | ⟨h1, h2⟩ <;> rcases g with g | ⟨g1, g2⟩
  · exact .inl (rat_trans h g)
  · exact .inl (g1 ▸ h)
  · exact .inl (h1 ▸ g)
  · exact .inr ⟨h1.trans g1, rat_trans h2 g2⟩
theorem dlt_tri (x y : Rat × Rat) : dlt x y ∨ x = y ∨ dlt y x := by
  rcases Int.lt_trichotomy (dcmp x y) 0 with h | h | h
  · exact .inl (dcmp_lt.1 h)
  · exact .inr (.inl (dcmp_eq.1 h))
  · exact .inr (.inr (dcmp_gt.1 h))
theorem rcan_inj {p q : Rat} (h : rcan p = rcan q) : p = q := by rw [← rv_rcan p, ← rv_rcan q, h]
theorem dcan_inj {x y : Rat × Rat} (h : dcan x = dcan y) : x = y := Prod.ext (rcan_inj (congrArg Prod.fst h)) (rcan_inj (congrArg Prod.snd h))

/-! ### are they written alike? -/
theorem SameRat_F (r s : Dt42) (h1 : r.1.2.length ≤ 70368744177664) (h2 : r.2.length ≤ 70368744177664) : fulcrummem_SameRat.F (r, s, ()) = some (decide (r = s), ()) := by
  refine fulcrummem_SameRat.of 0 r s (st (SameInt_F r.1 s.1 h1) ?_)
  by_cases e1 : r.1 = s.1
  · refine yes (decide_eq_true e1) (st (SameNat_F r.2 s.2 h2) ?_)
    by_cases e2 : r.2 = s.2
    · rw [decide_eq_true e2, decide_eq_true (Prod.ext e1 e2)]
    · rw [decide_eq_false e2, decide_eq_false fun e => e2 (congrArg Prod.snd e)]
  · refine no (decide_eq_false e1) ?_
    rw [decide_eq_false fun e => e1 (congrArg Prod.fst e)]
theorem SameDelta_F {c : Dt44} {x : Rat × Rat} {n : Nat} (h : Dn c x n) (d : Dt44) (hn : n ≤ 70368744177664) : fulcrummem_SameDelta.F (c, d, ()) = some (decide (c = d), ()) := by
  have k {r : Dt42} {q : Rat} (h : Rt r q n) : r.1.2.length ≤ 70368744177664 ∧ r.2.length ≤ 70368744177664 := ⟨Nat.le_trans h.num.len hn, Nat.le_trans h.den.len hn⟩
  refine fulcrummem_SameDelta.of 0 c d (st (SameRat_F c.1 d.1 (k h.a).1 (k h.a).2) ?_)
  by_cases e1 : c.1 = d.1
  · refine yes (decide_eq_true e1) (st (SameRat_F c.2 d.2 (k h.b).1 (k h.b).2) ?_)
    by_cases e2 : c.2 = d.2
    · rw [decide_eq_true e2, decide_eq_true (Prod.ext e1 e2)]
    · rw [decide_eq_false e2, decide_eq_false fun e => e2 (congrArg Prod.snd e)]
  · refine no (decide_eq_false e1) ?_
    rw [decide_eq_false fun e => e1 (congrArg Prod.fst e)]
end Go.Fx.Tryz
