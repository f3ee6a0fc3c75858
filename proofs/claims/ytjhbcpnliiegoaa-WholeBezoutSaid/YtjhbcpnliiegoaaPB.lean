/- Whole numbers: Gcd, Lcm, Inverse, Bezout. -/
import Derived.Test.YtjhbcpnliiegoaaNE
import Derived.Test.YtjhbcpnliiegoaaPA
namespace Go.Fx.Try
open Go Go.Fx Go.Fx.Num
set_option linter.unusedVariables false
set_option linter.unusedSimpArgs false

theorem ab_natAbs (z : Int) : ab z = (z.natAbs : Int) := by unfold ab; split <;> omega
theorem gcdI_ab (y z : Int) : gcdI (ab y) (ab z) = gcdI y z := by
  unfold gcdI; rw [ab_natAbs, ab_natAbs]; simp [Int.gcd]
theorem gcdI_abr (y z : Int) : gcdI y (ab z) = gcdI y z := by
  unfold gcdI; rw [ab_natAbs]; simp [Int.gcd]
theorem dvd_ab {z x : Int} : ab z ∣ x ↔ z ∣ x := by rw [ab_natAbs, Int.natAbs_dvd]
theorem gcdI_pos_iff {y z : Int} (h : z ≠ 0) : 0 < gcdI y z := gcdI_pos (.inr h)
theorem gcdI_le_ab (y : Int) {z : Int} (h : z ≠ 0) : gcdI y z ≤ ab z := by
  have h1 := gcdI_dvd_right y z
  have : gcdI y z ∣ ab z := by rw [ab_natAbs, Int.dvd_natAbs]; exact h1
  exact Int.le_of_dvd (by have := tri z; omega) this

/-- x is a number that y takes to the divisor modulo z, the least from 0 on. -/
structure Bez (y z v : Int) : Prop where
  pos : 0 ≤ v
  lt : gcdI y z * v < ab z
  dvd : z ∣ y * v - gcdI y z
theorem Bez.unique {y z v v' : Int} (hz : z ≠ 0) (h : Bez y z v) (h' : Bez y z v') : v = v' := by
  have key : ∀ v v', Bez y z v → Bez y z v' → ¬ v < v' := by
    intro v v' h h' hlt
    have h1 : z ∣ y * (v' - v) := by
      obtain ⟨a, ha⟩ := h.dvd
      obtain ⟨b, hb⟩ := h'.dvd
      exact ⟨b - a, by grind⟩
    have h2 : z ∣ gcdI z y * (v' - v) := Int.dvd_gcd_mul_iff_dvd_mul.2 h1
    rw [gcdI_comm] at h2
    have h3 := gcdI_pos_iff (y := y) hz
    have h4 : 0 < gcdI y z * (v' - v) := Int.mul_pos h3 (by omega)
    have h5 := Int.le_of_dvd h4 (dvd_ab.2 h2)
    have h6 := h'.lt
    have h7 := Int.mul_nonneg (Int.le_of_lt h3) h.pos
    rw [Int.mul_sub] at h5
    omega
  rcases Int.lt_trichotomy v v' with h1 | h1 | h1
  · exact absurd h1 (key v v' h h')
  · exact h1
  · exact absurd h1 (key v' v h' h)

/-! ### Gcd and Lcm -/
theorem Wn.Gcd_F {p q y z n} (h : Wn p y n) (g : Wn q z n) (hn : n < 70368744177664) : whole_Gcd.F (p, q, ()) = some (canon (gcdI y z), ()) := by
  refine whole_Gcd.of 0 p q ?_
  simp only [whole_Gcd.e, h.nm.Gcd_F g.nm hn, gcdI_ab, Option.bind_some]
theorem Wn.rGcd_F {p q y z n} (h : Wn p y n) (g : Wn q z n) (hn : n < 70368744177664) : fulcrumref02_Gcd.F (p, q, ()) = some (canon (gcdI y z), ()) := by
  have hx := h.nm.pos
  have hy := g.nm.pos
  obtain ⟨j, hj⟩ := ends (fun k (s : Int × Int) => fulcrumref02_Gcd.L3 k (canon s.1) (canon s.2)) (canon (gcdI (ab y) (ab z)), ()) (fun s => 0 ≤ s.1 ∧ 0 ≤ s.2 ∧ s.1 < pw n ∧ s.2 < pw n ∧ gcdI s.1 s.2 = gcdI (ab y) (ab z)) (fun s => s.2.toNat) (fun s hs => by
    obtain ⟨u, v⟩ := s
    obtain ⟨h1, h2, h3, h4, h5⟩ := hs
    simp only at h1 h2 h3 h4 h5
    have hz := canon_len_zero h2
    by_cases h0 : v = 0
    · have hl := hz.2 h0
      refine .inr ⟨1, fun k => ?_⟩
      rw [h0, gcdI_zero h1] at h5
      simp (disch := omega) only [c_dec, c_beq, c_bne, c_and, c_or, c_not, blt_dec, up1, dn1, if_t, if_f, if_true, if_false, Int.toNat_natCast, Option.bind_some, ne_eq, not_true_eq_false, not_false_eq_true, true_and, and_true, fulcrumref02_Gcd.L3_succ, fulcrumref02_Gcd.b3, hl]
      rw [h5]
    · have hl : (canon v).length ≠ 0 := fun h => h0 (hz.1 h)
      have d := (Nm.canon h1 h3).rDiv_F (Nm.canon h2 h4) hn hn
      rw [divI_pos h0] at d
      have m1 := Int.emod_nonneg u h0
      have m2 := Int.emod_lt_of_pos u (show 0 < v by omega)
      have d2 := ((Nm.canon h1 h3).rem (Nm.canon h2 h4) h0).rNorm_F (Nat.le_of_lt hn)
      refine .inl ⟨(v, u % v), ⟨h2, m1, h4, by simp only; omega, by simp only; rw [gcdI_emod, h5]⟩, by simp only; omega, 1, fun k => ?_⟩
      simp (disch := omega) only [c_dec, c_beq, c_bne, c_and, c_or, c_not, blt_dec, up1, dn1, if_t, if_f, if_true, if_false, Int.toNat_natCast, Option.bind_some, ne_eq, not_true_eq_false, not_false_eq_true, true_and, and_true, fulcrumref02_Gcd.L3_succ, fulcrumref02_Gcd.b3, d, d2]) (ab y, ab z) ⟨hx, hy, h.nm.lt, g.nm.lt, rfl⟩
  refine fulcrumref02_Gcd.of (0 + j) p q ?_
  rw [gcdI_ab] at hj
  simp only [fulcrumref02_Gcd.e, h.nm.rNorm_F (Nat.le_of_lt hn), g.nm.rNorm_F (Nat.le_of_lt hn), Option.bind_some]
  exact hj 0
def lcmV (y z : Int) : Int := ab y / gcdI y z * ab z
theorem Wn.gcd {p q y z n} (h : Wn p y n) (g : Wn q z n) : Nm (canon (gcdI y z)) (gcdI y z) n := by
  refine .canon (gcdI_nonneg y z) ?_
  rw [← gcdI_ab]
  exact gcdI_lt h.nm.pos g.nm.pos h.nm.lt g.nm.lt
theorem canon_zero : canon 0 = [] := (canon_nil_iff (Int.le_refl 0)).2 rfl
theorem lcm_zero {y z : Int} (h : y = 0 ∨ z = 0) : lcmV y z = 0 := by
  unfold lcmV
  rcases h with rfl | rfl <;> simp [ab]
theorem Wn.Lcm_F {p q y z n} (h : Wn p y n) (g : Wn q z n) (hn : n + n ≤ 70368744177664) (h1 : 1 ≤ n) : whole_Lcm.F (p, q, ()) = some (canon (lcmV y z), ()) := by
  refine whole_Lcm.of 0 p q ?_
  have sy := h.Sign_F (show n ≤ 70368744177664 by omega)
  have sz := g.Sign_F (show n ≤ 70368744177664 by omega)
  have hw : IntKind.i64.wrap (sgn y * sgn z) = sgn y * sgn z := IntWalk.i64_in _ (by have := tri_mul (sgn_cases y) (sgn_cases z); omega)
  have ty := tri y
  have tz := tri z
  by_cases h0 : y = 0 ∨ z = 0
  · have e0 : sgn y * sgn z = 0 := by
      rcases h0 with rfl | rfl <;> simp [sgn]
    rw [e0] at hw
    have hw0 : IntKind.i64.wrap (sgn y * sgn z) = 0 := by rw [e0]; exact hw
    rw [lcm_zero h0, canon_zero]
    simp (disch := omega) only [c_dec, c_beq, c_bne, c_and, c_or, c_not, blt_dec, up1, dn1, if_t, if_f, if_true, if_false, Int.toNat_natCast, Option.bind_some, ne_eq, not_true_eq_false, not_false_eq_true, true_and, and_true, whole_Lcm.e, pe, sy, sz, hw0]
  · have e0 : sgn y * sgn z ≠ 0 := by
      have h2 : sgn y ≠ 0 := by omega
      have h3 : sgn z ≠ 0 := by omega
      exact Int.mul_ne_zero h2 h3
    have k1 := h.Gcd_F g (by omega)
    have hg := h.gcd g
    have k2 := h.nm.Div_F hg (by omega) (by omega)
    rw [divI_pos (by have := gcdI_pos_iff (y := y) (z := z) (by omega); omega)] at k2
    have k3 := (h.nm.quo hg).Mul_F g.nm hn
    simp (disch := omega) only [c_dec, c_beq, c_bne, c_and, c_or, c_not, blt_dec, up1, dn1, if_t, if_f, if_true, if_false, Int.toNat_natCast, Option.bind_some, ne_eq, not_true_eq_false, not_false_eq_true, true_and, and_true, whole_Lcm.e, pe, sy, sz, hw, e0, k1, k2, k3]
    rfl
theorem Wn.rLcm_F {p q y z n} (h : Wn p y n) (g : Wn q z n) (hn : n + n ≤ 70368744177664) (h1 : 1 ≤ n) : fulcrumref02_Lcm.F (p, q, ()) = some (canon (lcmV y z), ()) := by
  refine fulcrumref02_Lcm.of 0 p q ?_
  have k1 := h.rGcd_F g (by omega)
  have hg := h.gcd g
  have hl := canon_len_zero (gcdI_nonneg y z)
  by_cases h0 : gcdI y z = 0
  · have hy : y = 0 := by
      have := gcdI_dvd_left y z
      rw [h0] at this
      exact Int.zero_dvd.1 this
    have := hl.2 h0
    rw [lcm_zero (.inl hy), canon_zero]
    simp (disch := omega) only [c_dec, c_beq, c_bne, c_and, c_or, c_not, blt_dec, up1, dn1, if_t, if_f, if_true, if_false, Int.toNat_natCast, Option.bind_some, ne_eq, not_true_eq_false, not_false_eq_true, true_and, and_true, fulcrumref02_Lcm.e, pe, k1, this]
  · have hne : (canon (gcdI y z)).length ≠ 0 := fun h => h0 (hl.1 h)
    have k2 := h.nm.rDiv_F hg (by omega) (by omega)
    rw [divI_pos h0] at k2
    have k3 := (h.nm.quo hg).rMul_F g.nm hn
    have k4 := ((h.nm.quo hg).mul g.nm).rNorm_F hn
    simp (disch := omega) only [c_dec, c_beq, c_bne, c_and, c_or, c_not, blt_dec, up1, dn1, if_t, if_f, if_true, if_false, Int.toNat_natCast, Option.bind_some, ne_eq, not_true_eq_false, not_false_eq_true, true_and, and_true, fulcrumref02_Lcm.e, pe, k1, hne, k2, k3, k4]
    rfl

/-! ### Euclid's numbers -/
/-- What the loop keeps: m is z without its sign. -/
structure Euc (y z : Int) (r0 r1 x0 x1 : Int) : Prop where
  p0 : 0 < r0
  p1 : 0 ≤ r1
  l0 : r0 ≤ ab z
  l1 : r1 < r0
  gcd : gcdI r0 r1 = gcdI y z
  d0 : z ∣ y * x0 - r0
  d1 : z ∣ y * x1 - r1
  size : ∃ s A B : Int, (s = 1 ∨ s = -1) ∧ 0 ≤ A ∧ 0 ≤ B ∧ B ≤ ab z ∧ x1 = s * A ∧ x0 = -(s * B) ∧ A * r0 + B * r1 = ab z
theorem Euc.next {y z r0 r1 x0 x1 : Int} (h : Euc y z r0 r1 x0 x1) (h1 : r1 ≠ 0) : Euc y z r1 (r0 % r1) x1 (x0 - r0 / r1 * x1) := by
  have hp0 := h.p0
  have hp1 := h.p1
  have hl0 := h.l0
  have hl1 := h.l1
  have em : r0 % r1 = r0 - r1 * (r0 / r1) := Int.emod_def r0 r1
  have m1 := Int.emod_nonneg r0 h1
  have m2 := Int.emod_lt_of_pos r0 (show 0 < r1 by omega)
  have hq : 0 ≤ r0 / r1 := Int.ediv_nonneg (Int.le_of_lt hp0) hp1
  refine ⟨by omega, m1, by omega, m2, by rw [gcdI_emod, h.gcd], h.d1, ?_, ?_⟩
  · obtain ⟨a, ha⟩ := h.d0
    obtain ⟨b, hb⟩ := h.d1
    exact ⟨a - r0 / r1 * b, by rw [em]; generalize r0 / r1 = q; grind⟩
  · obtain ⟨s, A, B, hs, hA, hB, hBm, e1, e0, e⟩ := h.size
    have hAm : A ≤ ab z := by
      have g1 : A * 1 ≤ A * r0 := Int.mul_le_mul_of_nonneg_left (by omega) hA
      have g2 : 0 ≤ B * r1 := Int.mul_nonneg hB hp1
      omega
    have hqA := Int.mul_nonneg hq hA
    refine ⟨-s, B + r0 / r1 * A, A, by omega, by omega, hA, hAm, ?_, ?_, ?_⟩
    · rw [e1, e0]; generalize r0 / r1 = q; grind
    · rw [e1]; grind
    · rw [em]; generalize r0 / r1 = q; grind
theorem Euc.small {y z r0 r1 x0 x1 : Int} (h : Euc y z r0 r1 x0 x1) : ab x0 ≤ ab z ∧ ab x1 ≤ ab z := by
  obtain ⟨s, A, B, hs, hA, hB, hBm, e1, e0, e⟩ := h.size
  have hp0 := h.p0
  have hAm : A ≤ ab z := by
    have g1 : A * 1 ≤ A * r0 := Int.mul_le_mul_of_nonneg_left (by omega) hA
    have g2 : 0 ≤ B * r1 := Int.mul_nonneg hB h.p1
    omega
  have t0 := tri x0
  have t1 := tri x1
  rcases hs with rfl | rfl
  · rw [Int.one_mul] at e1 e0; omega
  · rw [Int.neg_mul, Int.one_mul] at e1 e0; omega
theorem Euc.start {y z : Int} (hz : z ≠ 0) {r : Int} (h : 0 ≤ r ∧ r < ab z) (hr : z ∣ y - r) (hg : gcdI (ab z) r = gcdI y z) : Euc y z (ab z) r 0 1 := by
  have tz := tri z
  refine ⟨by omega, h.1, Int.le_refl _, h.2, hg, ?_, by rw [Int.mul_one]; exact hr, 1, 1, 0, .inl rfl, by decide, by decide, by omega, by decide, by decide, by omega⟩
  rw [Int.mul_zero, Int.zero_sub, Int.dvd_neg, ab_natAbs, Int.dvd_natAbs]
  exact Int.dvd_refl z
/-- A rest of y and z has the divisors of both. -/
theorem gcdI_rest {y z r k : Int} (h : k * z + r = y) : gcdI z r = gcdI y z := by
  have : r = y - k * z := by omega
  rw [this]
  unfold gcdI
  rw [Int.gcd_sub_mul_right_right, Int.gcd_comm]
/-- What comes of it where nothing is left. -/
theorem Euc.last {y z r0 x0 x1 : Int} (h : Euc y z r0 0 x0 x1) : r0 = gcdI y z ∧ z ∣ y * x0 - gcdI y z := by
  have h1 := h.gcd
  rw [gcdI_zero (Int.le_of_lt h.p0)] at h1
  exact ⟨h1, h1 ▸ h.d0⟩
theorem Wn.le {z x : Int} {n : Nat} (hz : ab z < pw n) (h : ab x ≤ ab z) : Wn (wc x) x n := .of (by
  have := tri x
  have := tri z
  omega)
end Go.Fx.Try

namespace Go.Fx.Try
open Go Go.Fx Go.Fx.Num
set_option linter.unusedVariables false
set_option linter.unusedSimpArgs false

theorem quoI_pos {r0 r1 : Int} (h0 : 0 ≤ r0) (h1 : r1 ≠ 0) : quoI r0 r1 = (wc (r0 / r1), wc (r0 % r1), 0, ()) := by
  unfold quoI; rw [if_neg h1, Int.tdiv_eq_ediv_of_nonneg h0, Int.tmod_eq_emod_of_nonneg h0]
theorem Nm.plain_F {a x n} (h : Nm a x n) (hn : n ≤ 70368744177664) : whole_plain.F (a, ()) = some (wc x, ()) := by
  refine whole_plain.of 0 a ?_
  simp only [whole_plain.e, pe, h.signed0 hn, Option.bind_some]
theorem wc0_wn {n : Nat} : Wn (wc 0) 0 n := .of (by have := pw_pos n; omega)

/-! ### Inverse -/
structure St where
  r0 : Int
  r1 : Int
  x0 : Int
  x1 : Int
theorem inv_loop {q : Bool × List Int} {y z : Int} {n : Nat} (g : Wn q z n) (hz : z ≠ 0) (h1 : 1 ≤ n) (hn : n + n < 70368744177664) (s : St) (hs : Euc y z s.r0 s.r1 s.x0 s.x1) :
    ∃ t, z ∣ y * t - gcdI y z ∧ ∃ j, ∀ k, whole_Inverse.L6 (k + j) q.1 q.2 false (wc s.r0).1 (wc s.r0).2 (wc s.x0).1 (wc s.x0).2 (wc s.r1).1 (wc s.r1).2 (wc s.x1).1 (wc s.x1).2 = (if gcdI y z = 1 then some (wc (euR t z), 0, ()) else some ((false, []), 20, ())) := by
  have hlt := g.nm.lt
  refine reach (fun k (s : St) => whole_Inverse.L6 k q.1 q.2 false (wc s.r0).1 (wc s.r0).2 (wc s.x0).1 (wc s.x0).2 (wc s.r1).1 (wc s.r1).2 (wc s.x1).1 (wc s.x1).2) (fun _ t => if gcdI y z = 1 then some (wc (euR t z), 0, ()) else some ((false, []), 20, ())) (fun s => Euc y z s.r0 s.r1 s.x0 s.x1) (fun s => s.r1.toNat) (fun t => z ∣ y * t - gcdI y z) (fun s hs => ?_) s hs
  obtain ⟨r0, r1, x0, x1⟩ := s
  simp only at hs ⊢
  have hp0 := hs.p0
  have hp1 := hs.p1
  have hl0 := hs.l0
  have hl1 := hs.l1
  have tz := tri z
  have t0 := tri r0
  have t1 := tri r1
  have w0 : Wn (wc r0) r0 n := Wn.le hlt (by omega)
  have w1 : Wn (wc r1) r1 n := Wn.le hlt (by omega)
  have u0 : Wn (wc x0) x0 n := Wn.le hlt hs.small.1
  have u1 : Wn (wc x1) x1 n := Wn.le hlt hs.small.2
  have k1 := w1.Sign_F (show n ≤ 70368744177664 by omega)
  by_cases h0 : r1 = 0
  · subst h0
    obtain ⟨e1, e2⟩ := hs.last
    refine .inr ⟨x0, e2, 1, fun k => ?_⟩
    rw [show sgn 0 = 0 from rfl] at k1
    have k2 := w0.Cmp_F (wc1 h1) (show n < 70368744177664 by omega)
    have k3 := u0.Euclid_F g (show n < 70368744177664 by omega) (show n < 70368744177664 by omega) (.inl h1)
    unfold euI at k3
    rw [if_neg hz] at k3
    have t2 := tri (r0 - 1)
    by_cases hg : gcdI y z = 1
    · have c : sgn (r0 - 1) = 0 := by omega
      rw [if_pos hg]
      simp (disch := omega) only [c_dec, c_beq, c_bne, c_and, c_or, c_not, blt_dec, up1, dn1, if_t, if_f, if_true, if_false, Int.toNat_natCast, Option.bind_some, ne_eq, not_true_eq_false, not_false_eq_true, true_and, and_true, whole_Inverse.L6_succ, whole_Inverse.b6, pe, k1, WOf_F (n := 1) (by decide), k2, k3, c]
    · have c : sgn (r0 - 1) ≠ 0 := by omega
      rw [if_neg hg]
      simp (disch := omega) only [c_dec, c_beq, c_bne, c_and, c_or, c_not, blt_dec, up1, dn1, if_t, if_f, if_true, if_false, Int.toNat_natCast, Option.bind_some, ne_eq, not_true_eq_false, not_false_eq_true, true_and, and_true, whole_Inverse.L6_succ, whole_Inverse.b6, pe, k1, WOf_F (n := 1) (by decide), k2, c]
  · have c : sgn r1 ≠ 0 := by omega
    have k2 := w0.Quo_F w1 (show n < 70368744177664 by omega) (show n < 70368744177664 by omega)
    rw [quoI_pos (Int.le_of_lt hp0) h0] at k2
    have hq0 := Int.ediv_nonneg (Int.le_of_lt hp0) hp1
    have hq1 := Int.ediv_le_self r1 (Int.le_of_lt hp0)
    have tq := tri (r0 / r1)
    have wq : Wn (wc (r0 / r1)) (r0 / r1) n := Wn.le hlt (by omega)
    have k3 := wq.Mul_F u1 (show n + n ≤ 70368744177664 by omega)
    have k4 := (u0.mono (show n ≤ n + n by omega)).Sub_F (wq.mul u1) hn
    have m2 := Int.emod_lt_of_pos r0 (show 0 < r1 by omega)
    have m1 := Int.emod_nonneg r0 h0
    refine .inl ⟨⟨r1, r0 % r1, x1, x0 - r0 / r1 * x1⟩, hs.next h0, by simp only; omega, 1, fun k => ?_⟩
    simp (disch := omega) only [c_dec, c_beq, c_bne, c_and, c_or, c_not, blt_dec, up1, dn1, if_t, if_f, if_true, if_false, Int.toNat_natCast, Option.bind_some, ne_eq, not_true_eq_false, not_false_eq_true, true_and, and_true, whole_Inverse.L6_succ, whole_Inverse.b6, pe, k1, c, k2, k3, k4]
theorem Wn.Inverse_zero {p q y z n} (h : Wn p y n) (g : Wn q z n) (hn : n ≤ 70368744177664) (hz : z = 0) : whole_Inverse.F (p, q, ()) = some ((false, []), 20, ()) := by
  refine whole_Inverse.of 0 p q ?_
  have k1 := g.Sign_F hn
  rw [hz, show sgn 0 = 0 from rfl] at k1
  simp (disch := omega) only [c_dec, c_beq, c_bne, c_and, c_or, c_not, blt_dec, up1, dn1, if_t, if_f, if_true, if_false, Int.toNat_natCast, Option.bind_some, ne_eq, not_true_eq_false, not_false_eq_true, true_and, and_true, whole_Inverse.e, pe, k1]
theorem Wn.Inverse_F {p q y z n} (h : Wn p y n) (g : Wn q z n) (h1 : 1 ≤ n) (hn : n + n < 70368744177664) (hz : z ≠ 0) :
    (gcdI y z = 1 → ∃ v, Bez y z v ∧ whole_Inverse.F (p, q, ()) = some (wc v, 0, ())) ∧ (gcdI y z ≠ 1 → whole_Inverse.F (p, q, ()) = some ((false, []), 20, ())) := by
  have tz := tri z
  have he := eu_spec y hz
  have hst : Euc y z (Try.ab z) (euR y z) 0 1 := Euc.start hz he.2 ⟨euQ y z, by have := he.1; grind⟩ (by
    rw [gcdI_comm, gcdI_abr, gcdI_comm]; exact gcdI_rest he.1)
  obtain ⟨t, ht, j, hj⟩ := inv_loop g hz h1 hn ⟨Try.ab z, euR y z, 0, 1⟩ hst
  simp only at hj
  have k1 := g.Sign_F (show n ≤ 70368744177664 by omega)
  have c : sgn z ≠ 0 := by omega
  have k2 := g.nm.plain_F (show n ≤ 70368744177664 by omega)
  have k3 := h.Euclid_F g (show n < 70368744177664 by omega) (show n < 70368744177664 by omega) (.inl h1)
  unfold euI at k3
  rw [if_neg hz] at k3
  have hF : whole_Inverse.F (p, q, ()) = (if gcdI y z = 1 then some (wc (euR t z), 0, ()) else some ((false, []), 20, ())) := by
    have : ∀ r, (if gcdI y z = 1 then some (wc (euR t z), (0 : Int), ()) else some ((false, []), 20, ())) = some r → whole_Inverse.F (p, q, ()) = some r := by
      intro r hr
      refine whole_Inverse.of (0 + j) p q ?_
      simp (disch := omega) only [c_dec, c_beq, c_bne, c_and, c_or, c_not, blt_dec, up1, dn1, if_t, if_f, if_true, if_false, Int.toNat_natCast, Option.bind_some, ne_eq, not_true_eq_false, not_false_eq_true, true_and, and_true, whole_Inverse.e, pe, k1, c, k2, k3, WOf_F (n := 0) (by decide), WOf_F (n := 1) (by decide)]
      rw [hj 0, hr]
    by_cases hg : gcdI y z = 1
    · rw [if_pos hg] at this ⊢; exact this _ rfl
    · rw [if_neg hg] at this ⊢; exact this _ rfl
  refine ⟨fun hg => ?_, fun hg => ?_⟩
  · rw [if_pos hg] at hF
    have hv := eu_spec t hz
    refine ⟨euR t z, ⟨hv.2.1, by rw [hg, Int.one_mul]; exact hv.2.2, ?_⟩, hF⟩
    obtain ⟨a, ha⟩ := ht
    exact ⟨a - y * euQ t z, by have := hv.1; grind⟩
  · rw [if_neg hg] at hF; exact hF

/-! ### Bezout -/
/-- The number that b is taken. -/
def bezY (y z v : Int) : Int := (gcdI y z - y * v).tdiv z
theorem Bez.prod {y z v : Int} (h : Bez y z v) : z * bezY y z v = gcdI y z - y * v := by
  have h1 : z ∣ gcdI y z - y * v := by
    obtain ⟨a, ha⟩ := h.dvd
    exact ⟨-a, by grind⟩
  exact Int.mul_tdiv_cancel' h1
theorem Bez.small {y z v : Int} (h : Bez y z v) (hz : z ≠ 0) : ab (bezY y z v) ≤ ab y + 1 := by
  have hp := h.prod
  have hg := gcdI_pos_iff (y := y) hz
  have hgz := gcdI_le_ab y hz
  have hv : v ≤ ab z := by
    have := Int.mul_le_mul_of_nonneg_right (show (1 : Int) ≤ gcdI y z by omega) h.pos
    have := h.lt
    omega
  have hm : ab (z * bezY y z v) = ab z * ab (bezY y z v) := ab_mul _ _
  rw [hp] at hm
  have hyv : ab (y * v) = ab y * v := by rw [ab_mul]; congr 1; have := tri v; have := h.pos; omega
  have h2 : ab y * v ≤ ab y * ab z := Int.mul_le_mul_of_nonneg_left hv (ab_nonneg y)
  have h3 : ab (gcdI y z - y * v) ≤ gcdI y z + ab (y * v) := by
    have := tri (y * v)
    have := tri (gcdI y z - y * v)
    omega
  have h4 : ab z * ab (bezY y z v) ≤ ab z * (ab y + 1) := by
    rw [← hm, Int.mul_add, Int.mul_one, Int.mul_comm (ab z)]; omega
  exact Int.le_of_mul_le_mul_left h4 (by have := tri z; omega)
theorem Bez.lt' {y z v : Int} (h : Bez y z v) (hz : z ≠ 0) : v < ab z := by
  have hg := gcdI_pos_iff (y := y) hz
  have := Int.mul_le_mul_of_nonneg_right (show (1 : Int) ≤ gcdI y z by omega) h.pos
  have := h.lt
  omega
theorem Bez.wn {p q y z n v} (h : Bez y z v) (hp : Wn p y n) (hq : Wn q z n) (hz : z ≠ 0) : Wn (wc v) v n ∧ Wn (wc (bezY y z v)) (bezY y z v) (n + 1) := by
  have b1 := hp.bound
  have b2 := hq.nm.lt
  have tv := tri v
  have := h.lt' hz
  have := h.pos
  have := h.small hz
  have := tri (bezY y z v)
  have := tri y
  have := pw_pos n
  refine ⟨Wn.le b2 (by omega), .of ?_⟩
  rw [pw_succ]; omega

def bezI (y z v : Int) : List Int × (Bool × List Int) × (Bool × List Int) × Unit := (canon (gcdI y z), wc v, wc (bezY y z v), ())
theorem Wn.Bezout_zero {p q y z n} (h : Wn p y n) (g : Wn q z n) (hn : n < 70368744177664) (hz : z = 0) : whole_Bezout.F (p, q, ()) = some (canon (gcdI y z), wc (sgn y), wc 0, ()) := by
  refine whole_Bezout.of 0 p q ?_
  have k1 := g.Sign_F (Nat.le_of_lt hn)
  rw [show sgn z = 0 by rw [hz]; rfl] at k1
  have := sgn_cases y
  simp (disch := omega) only [c_dec, c_beq, c_bne, c_and, c_or, c_not, blt_dec, up1, dn1, if_t, if_f, if_true, if_false, Int.toNat_natCast, Option.bind_some, ne_eq, not_true_eq_false, not_false_eq_true, true_and, and_true, whole_Bezout.e, pe, h.Gcd_F g hn, k1, h.Sign_F (Nat.le_of_lt hn), WOf_F (n := sgn y) (by omega), WOf_F (n := 0) (by decide)]
theorem gcd_parts (y : Int) {z : Int} (hz : z ≠ 0) : y.tdiv (gcdI y z) * gcdI y z = y ∧ z.tdiv (gcdI y z) * gcdI y z = z ∧ gcdI (y.tdiv (gcdI y z)) (z.tdiv (gcdI y z)) = 1 := by
  have hg := gcdI_pos_iff (y := y) hz
  have e1 := Int.tdiv_mul_cancel (gcdI_dvd_left y z)
  have e2 := Int.tdiv_mul_cancel (gcdI_dvd_right y z)
  refine ⟨e1, e2, ?_⟩
  have h := gcdI_mul (y.tdiv (gcdI y z)) (z.tdiv (gcdI y z)) (gcdI y z) (Int.le_of_lt hg)
  rw [e1, e2] at h
  have : (gcdI (y.tdiv (gcdI y z)) (z.tdiv (gcdI y z)) - 1) * gcdI y z = 0 := by rw [Int.sub_mul, Int.one_mul, ← h]; omega
  rcases Int.mul_eq_zero.1 this with h1 | h1 <;> omega
theorem Wn.Bezout_F {p q y z n} (h : Wn p y n) (g : Wn q z n) (h1 : 1 ≤ n) (hn : n + n + 1 < 70368744177664) (hz : z ≠ 0) : ∃ v, Bez y z v ∧ whole_Bezout.F (p, q, ()) = some (bezI y z v) := by
  have hG := h.gcd g
  have hg := gcdI_pos_iff (y := y) hz
  obtain ⟨e1, e2, e3⟩ := gcd_parts y hz
  have tz := tri z
  have wg : Wn (wc (gcdI y z)) (gcdI y z) n := .of (by have := hG.lt; have := pw_pos n; omega)
  have wp := h.quo wg
  have wm := g.quo wg
  generalize hP : y.tdiv (gcdI y z) = P at e1 e3 wp
  generalize hM : z.tdiv (gcdI y z) = M at e2 e3 wm
  have hM0 : M ≠ 0 := by rintro rfl; rw [Int.zero_mul] at e2; omega
  obtain ⟨v, hv, hI⟩ := (wp.Inverse_F wm h1 (by omega) hM0).1 e3
  have hb : Bez y z v := by
    refine ⟨hv.pos, ?_, ?_⟩
    · have h2 := hv.lt
      rw [e3, Int.one_mul] at h2
      have h3 : gcdI y z * v < gcdI y z * Try.ab M := Int.mul_lt_mul_of_pos_left h2 hg
      have h4 : Try.ab z = Try.ab M * gcdI y z := by
        have := ab_mul M (gcdI y z)
        rw [e2] at this
        have t := tri (gcdI y z)
        have t2 : Try.ab (gcdI y z) = gcdI y z := by omega
        rw [this, t2]
      rw [h4, Int.mul_comm (Try.ab M)]; exact h3
    · obtain ⟨a, ha⟩ := hv.dvd
      rw [e3] at ha
      exact ⟨a, by generalize gcdI y z = G at *; grind⟩
  refine ⟨v, hb, whole_Bezout.of 0 p q ?_⟩
  have k1 := g.Sign_F (show n ≤ 70368744177664 by omega)
  have c : sgn z ≠ 0 := by omega
  have k2 := hG.plain_F (show n ≤ 70368744177664 by omega)
  have k3 := h.Quo_F wg (show n < 70368744177664 by omega) (show n < 70368744177664 by omega)
  have k4 := g.Quo_F wg (show n < 70368744177664 by omega) (show n < 70368744177664 by omega)
  unfold quoI at k3 k4
  rw [if_neg (by omega), hP] at k3
  rw [if_neg (by omega), hM] at k4
  have wv := (hb.wn h g hz).1
  have k5 := h.Mul_F wv (show n + n ≤ 70368744177664 by omega)
  have k6 := (wg.mono (show n ≤ n + n by omega)).Sub_F (h.mul wv) (by omega)
  have k7 := ((wg.mono (show n ≤ n + n by omega)).sub (h.mul wv)).Quo_F g (by omega) (show n < 70368744177664 by omega)
  unfold quoI at k7
  rw [if_neg hz] at k7
  simp (disch := omega) only [c_dec, c_beq, c_bne, c_and, c_or, c_not, blt_dec, up1, dn1, if_t, if_f, if_true, if_false, Int.toNat_natCast, Option.bind_some, ne_eq, not_true_eq_false, not_false_eq_true, true_and, and_true, whole_Bezout.e, pe, h.Gcd_F g (show n < 70368744177664 by omega), k1, c, k2, k3, k4, hI, k5, k6, k7]
  rfl

/-! ### a printed law, step by step -/
section
variable {α β : Type}
theorem st {x : Option α} {a : α} {f : α → Option β} {r : Option β} (h : x = some a) (g : f a = r) : x.bind f = r := by rw [h]; exact g
theorem yes {b : Bool} {x y r : Option β} (h : b = true) (g : x = r) : (bif b then x else y) = r := by rw [h]; exact g
theorem no {b : Bool} {x y r : Option β} (h : b = false) (g : y = r) : (bif b then x else y) = r := by rw [h]; exact g
end
end Go.Fx.Try
