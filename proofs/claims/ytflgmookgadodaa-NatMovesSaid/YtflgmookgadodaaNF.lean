/- Powers, the code's and the reference's. -/
import Derived.Test.YtflgmookgadodaaNE
namespace Go.Fx.Try
open Go Go.Fx Go.Fx.Num
set_option linter.unusedVariables false
set_option linter.unusedSimpArgs false

theorem pw_pow (L e : Nat) : pw L ^ e = pw (L * e) := by
  rw [pw_two, pw_two, ← Int.pow_mul]; congr 1; rw [Nat.mul_assoc]
theorem pow_nonneg' {x : Int} (h : 0 ≤ x) (e : Nat) : 0 ≤ x ^ e := by
  induction e with
  | zero => simp
  | succ e ih => rw [Int.pow_succ]; exact Int.mul_nonneg ih h
theorem pow_lt' {x : Int} {L : Nat} (h : 0 ≤ x) (hx : x < pw L) : ∀ e : Nat, 0 < e → x ^ e < pw (L * e) := by
  intro e he
  induction e with
  | zero => omega
  | succ e ih =>
    rcases e with _ | e
    · rw [Int.pow_succ, Int.pow_zero, Int.one_mul, Nat.mul_one]; exact hx
    · have := ih (by omega)
      have h1 := pow_nonneg' h (e + 1)
      rw [Int.pow_succ, Nat.mul_succ, pw_add]
      have h2 : x ^ (e + 1) * x ≤ x ^ (e + 1) * pw L := Int.mul_le_mul_of_nonneg_left (Int.le_of_lt hx) h1
      have h3 : x ^ (e + 1) * pw L < pw (L * (e + 1)) * pw L := Int.mul_lt_mul_of_pos_right this (pw_pos L)
      omega
/-- A power and its length. -/
theorem Nm.pow {a x n} (h : Nm a x n) (e : Nat) : Nm (Num.canon (x ^ e)) (x ^ e) (n * e + 1) := by
  refine .canon (pow_nonneg' h.pos e) ?_
  rcases Nat.eq_zero_or_pos e with rfl | he
  · simp only [Int.pow_zero, Nat.mul_zero, Nat.zero_add]; decide
  · have := pow_lt' h.pos h.lt e he
    have h2 : pw (n * e) ≤ pw (n * e + 1) := pw_mono (Nat.le_succ _)
    omega
theorem pow_two_mul (b : Int) (e : Nat) : (b * b) ^ e = b ^ (2 * e) := by
  rw [Int.pow_mul]; congr 1; rw [Int.pow_succ, Int.pow_succ, Int.pow_zero, Int.one_mul]

/-- Either length, and none where no power is taken. -/
theorem Pow_F {a : List Int} {x : Int} {n : Nat} (ha : Nm a x n) (hn : n ≤ 70368744177000) {i : Int} (hi : 0 ≤ i ∧ i ≤ 4096) (hb : i ≤ 1 ∨ n * i.toNat ≤ 68719476736) : nat_Pow.F (a, i, ()) = some (canon (x ^ i.toNat), 0, ()) := by
  have hx := ha.pos
  obtain ⟨e, rfl⟩ := Int.eq_ofNat_of_zero_le hi.1
  rw [Int.toNat_natCast] at hb ⊢
  have key : ∀ (E : Nat) (p b : Int) (d m : Nat), E ≤ 4096 → 0 ≤ p → 0 ≤ b → p < pw d → b < pw m → (E = 0 ∨ (E = 1 ∧ d + m ≤ 70368744177664) ∨ (0 < m ∧ d + m * E * 2 ≤ 1099511627776)) → ∃ j, ∀ k, nat_Pow.L5 (k + j) (E : Int) (canon p) (canon b) = some (canon (p * b ^ E), 0, ()) := by
    intro E
    induction E using Nat.strongRecOn with
    | ind E ih =>
      intro p b d m hE hp hb lp lb hs
      rcases Nat.eq_zero_or_pos E with rfl | h0
      · refine ⟨1, fun k => ?_⟩
        simp (disch := omega) only [c_dec, c_beq, c_bne, c_and, c_or, c_not, blt_dec, up1, dn1, if_t, if_f, if_true, if_false, Int.toNat_natCast, Option.bind_some, ne_eq, not_true_eq_false, not_false_eq_true, true_and, and_true, nat_Pow.L5_succ, nat_Pow.b5, Int.pow_zero, Int.mul_one]
      · have np := Nm.canon hp lp
        have nb := Nm.canon hb lb
        have g1 : (E : Int) % 2 = ((E % 2 : Nat) : Int) := by omega
        have g2 : (E : Int) / 2 = ((E / 2 : Nat) : Int) := by omega
        have hle : m ≤ m * E := Nat.le_mul_of_pos_right m h0
        have hdm : d + m ≤ 70368744177664 := by
          rcases hs with h | h | h
          · omega
          · exact h.2
          · have := h.2; rw [Nat.mul_assoc, Nat.mul_comm E, ← Nat.mul_assoc] at this; omega
        have k1 := np.Mul_F nb hdm
        have hsq : 1 < E → nat_Mul.F (canon b, canon b, ()) = some (canon (b * b), ()) ∧ b * b < pw (m + m) ∧ 0 ≤ b * b := by
          intro h1
          have hmm : m + m ≤ 70368744177664 := by
            rcases hs with h | h | h
            · omega
            · omega
            · have := h.2; rw [Nat.mul_assoc, Nat.mul_comm E, ← Nat.mul_assoc] at this
              have h3 : m * 2 * 2 ≤ m * 2 * E := Nat.mul_le_mul_left _ (by omega)
              omega
          exact ⟨nb.Mul_F nb hmm, (nb.mul nb).lt, Int.mul_nonneg hb hb⟩
        have hE1 : E = 2 * (E / 2) + E % 2 := by omega
        have hnext : ∀ (q : Int) (d' : Nat), 1 < E → d' ≤ d + m * (E % 2) → (E / 2 = 0 ∨ (E / 2 = 1 ∧ d' + (m + m) ≤ 70368744177664) ∨ (0 < m + m ∧ d' + (m + m) * (E / 2) * 2 ≤ 1099511627776)) := by
          intro q d' h1 hd
          rcases hs with h | h | h
          · omega
          · omega
          · refine .inr (.inr ⟨by omega, ?_⟩)
            have h2 := h.2
            have e1 : m * E = m * (2 * (E / 2)) + m * (E % 2) := by rw [← Nat.mul_add, ← hE1]
            have e2 : (m + m) * (E / 2) = m * (2 * (E / 2)) := by rw [← Nat.two_mul, Nat.mul_comm 2 m, Nat.mul_assoc]
            rw [e1] at h2
            rw [e2]
            omega
        rcases (show E % 2 = 0 ∨ E % 2 = 1 by omega) with ho | ho
        · have h1 : 1 < E := by omega
          obtain ⟨k2, lb2, pb2⟩ := hsq h1
          obtain ⟨j, hj⟩ := ih (E / 2) (by omega) p (b * b) d (m + m) (by omega) hp pb2 lp lb2 (hnext p d h1 (by omega))
          refine ⟨j + 1, fun k => ?_⟩
          have hval : p * (b * b) ^ (E / 2) = p * b ^ E := by
            rw [pow_two_mul]; congr 2; omega
          rw [← hval, ← hj k, ← Nat.add_assoc]
          simp (disch := omega) only [c_dec, c_beq, c_bne, c_and, c_or, c_not, blt_dec, up1, dn1, if_t, if_f, if_true, if_false, Int.toNat_natCast, Option.bind_some, ne_eq, not_true_eq_false, not_false_eq_true, true_and, and_true, nat_Pow.L5_succ, nat_Pow.b5, IntWalk.rem_in, IntWalk.i64_quo, g1, ho, k2, g2]
        · have pq : 0 ≤ p * b := Int.mul_nonneg hp hb
          have lq : p * b < pw (d + m) := (np.mul nb).lt
          by_cases h1 : 1 < E
          · obtain ⟨k2, lb2, pb2⟩ := hsq h1
            obtain ⟨j, hj⟩ := ih (E / 2) (by omega) (p * b) (b * b) (d + m) (m + m) (by omega) pq pb2 lq lb2 (hnext p (d + m) h1 (by rw [ho]; omega))
            refine ⟨j + 1, fun k => ?_⟩
            have hval : p * b * (b * b) ^ (E / 2) = p * b ^ E := by
              rw [pow_two_mul, Int.mul_assoc]
              congr 1
              rw [Int.mul_comm, ← Int.pow_succ]
              congr 1; omega
            rw [← hval, ← hj k, ← Nat.add_assoc]
            simp (disch := omega) only [c_dec, c_beq, c_bne, c_and, c_or, c_not, blt_dec, up1, dn1, if_t, if_f, if_true, if_false, Int.toNat_natCast, Option.bind_some, ne_eq, not_true_eq_false, not_false_eq_true, true_and, and_true, nat_Pow.L5_succ, nat_Pow.b5, IntWalk.rem_in, IntWalk.i64_quo, g1, ho, k1, k2, g2]
          · have : E = 1 := by omega
            subst this
            refine ⟨2, fun k => ?_⟩
            simp (disch := omega) only [c_dec, c_beq, c_bne, c_and, c_or, c_not, blt_dec, up1, dn1, if_t, if_f, if_true, if_false, Int.toNat_natCast, Option.bind_some, ne_eq, not_true_eq_false, not_false_eq_true, true_and, and_true, nat_Pow.L5_succ, nat_Pow.b5, IntWalk.rem_in, IntWalk.i64_quo, g1, ho, k1, g2, Int.pow_succ, Int.pow_zero, Int.one_mul]
  have hm : pw n ≤ pw (n + 1) := pw_mono (Nat.le_succ n)
  have hlt := ha.lt
  obtain ⟨j, hj⟩ := key e 1 x 1 (n + 1) (by omega) (by decide) hx (by decide) (by omega) (by
    rcases Nat.eq_zero_or_pos e with h | h
    · exact .inl h
    · rcases Nat.eq_or_lt_of_le h with h1 | h1
      · exact .inr (.inl ⟨h1.symm, by omega⟩)
      · refine .inr (.inr ⟨by omega, ?_⟩)
        have := hb.resolve_left (by omega)
        rw [Nat.add_mul, Nat.one_mul]; omega)
  refine nat_Pow.of (0 + j) a (e : Int) ?_
  have o1 := own_F ha.limbs (by have := ha.len; omega)
  rw [ha.val] at o1
  rw [canon_one (by decide), Int.one_mul] at hj
  simp (disch := omega) only [c_dec, c_beq, c_bne, c_and, c_or, c_not, blt_dec, up1, dn1, if_t, if_f, if_true, if_false, Int.toNat_natCast, Option.bind_some, ne_eq, not_true_eq_false, not_false_eq_true, true_and, and_true, nat_Pow.e, o1]
  exact hj 0
theorem Pow_out {a : List Int} {i : Int} (h : i < 0 ∨ 4096 < i) : nat_Pow.F (a, i, ()) = some ([], 13, ()) := by
  refine nat_Pow.of 0 a i ?_
  by_cases h0 : i < 0
  · simp (disch := omega) only [c_dec, c_beq, c_bne, c_and, c_or, c_not, blt_dec, up1, dn1, if_t, if_f, if_true, if_false, Int.toNat_natCast, Option.bind_some, ne_eq, not_true_eq_false, not_false_eq_true, true_and, and_true, nat_Pow.e]
  · simp (disch := omega) only [c_dec, c_beq, c_bne, c_and, c_or, c_not, blt_dec, up1, dn1, if_t, if_f, if_true, if_false, Int.toNat_natCast, Option.bind_some, ne_eq, not_true_eq_false, not_false_eq_true, true_and, and_true, nat_Pow.e]

/-! ### the reference -/
theorem and64_one {v : Int} (hv : 0 ≤ v ∧ v ≤ 4096) : bitsOp .and .i64 v 1 = v % 2 := by
  obtain ⟨n, rfl⟩ := Int.eq_ofNat_of_zero_le hv.1
  show IntKind.i64.wrap ((BitVec.ofInt 64 (n : Int) &&& BitVec.ofInt 64 ((1 : Nat) : Int)).toNat : Int) = _
  have hn : n < 2 ^ 64 := by omega
  rw [BitVec.toNat_and, bv_nat hn, bv_nat (by decide), Nat.and_one_is_mod, IntWalk.i64_in _ (by omega)]
  omega
theorem rPow_F {a : List Int} {x : Int} {n : Nat} (ha : Nm a x n) (hn : n ≤ 70368744177000) {i : Int} (hi : 0 ≤ i ∧ i ≤ 4096) (hb : i ≤ 1 ∨ n * i.toNat ≤ 68719476736) : fulcrumref01_Pow.F (a, i, ()) = some (canon (x ^ i.toNat), 0, ()) := by
  have hx := ha.pos
  obtain ⟨e, rfl⟩ := Int.eq_ofNat_of_zero_le hi.1
  rw [Int.toNat_natCast] at hb ⊢
  obtain ⟨j, hj⟩ := ends (fun k (s : Nat) => fulcrumref01_Pow.L5 k a (e : Int) (canon (x ^ (e / 2 ^ s))) ((s : Int) - 1)) (canon (x ^ e), 0, ()) (fun s => s ≤ 13) (fun s => s) (fun s hs => by
    rcases s with _ | s
    · refine .inr ⟨1, fun k => ?_⟩
      have m := (ha.pow (e / 2 ^ 0)).rNorm_F (by
        rw [Nat.pow_zero, Nat.div_one]
        rcases hb with h | h
        · rcases (show e = 0 ∨ e = 1 by omega) with rfl | rfl <;> omega
        · omega)
      simp only [Nat.pow_zero, Nat.div_one] at m ⊢
      simp (disch := omega) only [c_dec, c_beq, c_bne, c_and, c_or, c_not, blt_dec, up1, dn1, if_t, if_f, if_true, if_false, Int.toNat_natCast, Option.bind_some, ne_eq, not_true_eq_false, not_false_eq_true, true_and, and_true, fulcrumref01_Pow.L5_succ, fulcrumref01_Pow.b5, sub0, m]
    · refine .inl ⟨s, by omega, Nat.lt_succ_self s, 1, fun k => ?_⟩
      have hst : e / 2 ^ s = 2 * (e / 2 ^ (s + 1)) + (e / 2 ^ s) % 2 := by
        rw [Nat.pow_succ, ← Nat.div_div_eq_div_mul]; omega
      have hle : e / 2 ^ s ≤ e := Nat.div_le_self _ _
      have e1 : shrI .i64 (e : Int) (s : Int) = ((e / 2 ^ s : Nat) : Int) := by
        rw [shr_eq .i64 _ s (by show s ≤ 64; omega), Int.natCast_ediv]; rfl
      have e2 : bitsOp .and .i64 ((e / 2 ^ s : Nat) : Int) 1 = ((e / 2 ^ s % 2 : Nat) : Int) := by
        rw [and64_one (by omega)]; omega
      have nr := ha.pow (e / 2 ^ (s + 1))
      generalize e / 2 ^ (s + 1) = E at hst nr
      generalize e / 2 ^ s = D at hst e1 e2 hle
      have hsz : n * E ≤ 68719476736 ∧ n * E + n * E + n ≤ 70368744177660 := by
        by_cases h0 : e ≤ 1
        · have : E = 0 := by omega
          rw [this]; omega
        · have h := hb.resolve_left (by omega)
          have := Nat.mul_le_mul_left n (show E ≤ e by omega)
          have := Nat.le_mul_of_pos_right n (show 0 < e by omega)
          omega
      have m1 := nr.rMul_F nr (by omega)
      have m2 := (nr.mul nr).rMul_F ha (by omega)
      have v1 : x ^ E * x ^ E = x ^ (2 * E) := by rw [← Int.pow_add, Nat.two_mul]
      have v2 : x ^ E * x ^ E * x = x ^ (2 * E + 1) := by rw [v1, Int.pow_succ]
      rw [v1] at m1
      rw [v2, v1] at m2
      rcases (show D % 2 = 0 ∨ D % 2 = 1 by omega) with h | h
      · rw [h] at hst e2
        rw [show D = 2 * E by omega, sub1]
        rw [show D = 2 * E by omega] at e1 e2
        simp (disch := omega) only [c_dec, c_beq, c_bne, c_and, c_or, c_not, blt_dec, up1, dn1, if_t, if_f, if_true, if_false, Int.toNat_natCast, Option.bind_some, ne_eq, not_true_eq_false, not_false_eq_true, true_and, and_true, fulcrumref01_Pow.L5_succ, fulcrumref01_Pow.b5, IntWalk.u64_in, m1, e1, e2, IntWalk.i64_in]
      · rw [h] at hst e2
        rw [show D = 2 * E + 1 by omega, sub1]
        rw [show D = 2 * E + 1 by omega] at e1 e2
        simp (disch := omega) only [c_dec, c_beq, c_bne, c_and, c_or, c_not, blt_dec, up1, dn1, if_t, if_f, if_true, if_false, Int.toNat_natCast, Option.bind_some, ne_eq, not_true_eq_false, not_false_eq_true, true_and, and_true, fulcrumref01_Pow.L5_succ, fulcrumref01_Pow.b5, IntWalk.u64_in, m1, m2, e1, e2, IntWalk.i64_in]) 13 (Nat.le_refl _)
  refine fulcrumref01_Pow.of (0 + j) a (e : Int) ?_
  have h13 : e / 2 ^ 13 = 0 := by omega
  rw [h13, Int.pow_zero, canon_one (by decide)] at hj
  simp (disch := omega) only [c_dec, c_beq, c_bne, c_and, c_or, c_not, blt_dec, up1, dn1, if_t, if_f, if_true, if_false, Int.toNat_natCast, Option.bind_some, ne_eq, not_true_eq_false, not_false_eq_true, true_and, and_true, fulcrumref01_Pow.e]
  exact hj 0
theorem rPow_out {a : List Int} {i : Int} (h : i < 0 ∨ 4096 < i) : fulcrumref01_Pow.F (a, i, ()) = some ([], 13, ()) := by
  refine fulcrumref01_Pow.of 0 a i ?_
  by_cases h0 : i < 0
  · simp (disch := omega) only [c_dec, c_beq, c_bne, c_and, c_or, c_not, blt_dec, up1, dn1, if_t, if_f, if_true, if_false, Int.toNat_natCast, Option.bind_some, ne_eq, not_true_eq_false, not_false_eq_true, true_and, and_true, fulcrumref01_Pow.e]
  · simp (disch := omega) only [c_dec, c_beq, c_bne, c_and, c_or, c_not, blt_dec, up1, dn1, if_t, if_f, if_true, if_false, Int.toNat_natCast, Option.bind_some, ne_eq, not_true_eq_false, not_false_eq_true, true_and, and_true, fulcrumref01_Pow.e]
end Go.Fx.Try
