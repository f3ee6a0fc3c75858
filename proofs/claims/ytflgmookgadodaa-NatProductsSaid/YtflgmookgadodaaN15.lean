/- The reference's Div: digit by digit in base 2. -/
import Derived.Test.YtflgmookgadodaaN14
namespace Go.Fx.Try
open Go Go.Fx Go.Fx.Num
set_option linter.unusedVariables false
set_option linter.unusedSimpArgs false

theorem twice_F {a : List Int} (ha : Limbs a) (la : a.length < 70368744177664) (d : Bool) : fulcrumref01_twice.F (a, d, ()) = some (canon (2 * val a + (if d = true then 1 else 0)), ()) := by
  have key : ∀ t : Int, 0 ≤ t ∧ t ≤ 1 → ∃ j, ∀ k, fulcrumref01_twice.L6 (k + j) a (List.replicate (a.length + 1) 0) t 0 = some (canon (2 * val a + t), ()) := by
    intro t ht
    refine up (fun k (s : Nat × List Int × Int) => fulcrumref01_twice.L6 k a s.2.1 s.2.2 (s.1 : Int)) _ (fun i s => s.1.length = a.length + 1 ∧ Limbs s.1 ∧ (0 ≤ s.2 ∧ s.2 ≤ 1) ∧ (∀ j, i ≤ j → s.1.getD j 0 = 0) ∧ val s.1 + s.2 * pw i = 2 * val (a.take i) + t) a.length (fun i s hi ⟨h1, h2, h3, h4, h5⟩ => ?_) (fun s ⟨h1, h2, h3, h4, h5⟩ => ?_) 0 (List.replicate (a.length + 1) 0, t) (Nat.zero_le _)
      ⟨by simp, Limbs.zeros _, by simp only; omega, fun j _ => getD_zeros _ _, by simp [val_zeros, val_nil, pw_zero]⟩
    · obtain ⟨c, q⟩ := s
      simp only at h1 h2 h3 h4 h5
      have g := ha.get i
      have g3 := h4 i (Nat.le_refl i)
      have e1 : shlI .u32 (a.getD i 0) 1 = (a.getD i 0 * 2) % 4294967296 := (shl_eq .u32 _ 1 (by decide)).trans (w32 _)
      have e2 : bitsOp .or .u32 ((a.getD i 0 * 2) % 4294967296) q = (a.getD i 0 * 2) % 4294967296 + q := or32_add 1 ((a.getD i 0 * 2) % 4294967296 / 2) (by omega) (by omega) (by omega) (by omega)
      have e3 : shrI .u32 (a.getD i 0) 31 = a.getD i 0 / 2147483648 := shr32 _ 31 (by decide)
      refine ⟨(c.set i ((a.getD i 0 * 2) % 4294967296 + q), a.getD i 0 / 2147483648), ⟨by simpa using h1, h2.set i (by omega), by simp only; omega, fun j hj => ?_, ?_⟩, 1, fun k => ?_⟩
      · rw [getD_set (by omega), if_neg (by omega)]; exact h4 j (by omega)
      · rw [carry_step (x := a.getD i 0 * 2) (by omega) (by omega) h5, val_take_next, Int.mul_add, Int.mul_right_comm, Int.mul_comm (a.getD i 0 * pw i)]; omega
      · simp (disch := omega) only [c_dec, c_beq, c_bne, c_and, c_or, c_not, blt_dec, up1, dn1, if_t, if_f, if_true, if_false, Int.toNat_natCast, Option.bind_some, ne_eq, not_true_eq_false, not_false_eq_true, true_and, and_true, fulcrumref01_twice.L6_succ, fulcrumref01_twice.b6, e1, e2, e3]
    · obtain ⟨c, q⟩ := s
      simp only at h1 h2 h3 h4 h5
      rw [List.take_length] at h5
      have h6 := h2.set a.length (v := q) (by omega)
      have h7 : val (c.set a.length q) = 2 * val a + t := by rw [val_set q (by omega), h4 a.length (Nat.le_refl _), Int.sub_zero, h5]
      refine ⟨1, fun k => ?_⟩
      simp (disch := omega) only [c_dec, c_beq, c_bne, c_and, c_or, c_not, blt_dec, up1, dn1, if_t, if_f, if_true, if_false, Int.toNat_natCast, Option.bind_some, ne_eq, not_true_eq_false, not_false_eq_true, true_and, and_true, fulcrumref01_twice.L6_succ, fulcrumref01_twice.b6, rNorm_F h6 (by simp; omega), h7]
  cases d
  · obtain ⟨j, hj⟩ := key 0 (by omega)
    refine fulcrumref01_twice.of (0 + j) a false ?_
    simp (disch := omega) only [c_dec, c_beq, c_bne, c_and, c_or, c_not, blt_dec, up1, dn1, if_t, if_f, if_true, if_false, Int.toNat_natCast, Option.bind_some, ne_eq, not_true_eq_false, not_false_eq_true, true_and, and_true, fulcrumref01_twice.e, cond_false]
    exact hj 0
  · obtain ⟨j, hj⟩ := key 1 (by omega)
    refine fulcrumref01_twice.of (0 + j) a true ?_
    simp (disch := omega) only [c_dec, c_beq, c_bne, c_and, c_or, c_not, blt_dec, up1, dn1, if_t, if_f, if_true, if_false, Int.toNat_natCast, Option.bind_some, ne_eq, not_true_eq_false, not_false_eq_true, true_and, and_true, fulcrumref01_twice.e, cond_true]
    exact hj 0

theorem bit_step (x : Int) (k : Nat) : x / 2 ^ k = 2 * (x / 2 ^ (k + 1)) + (x / 2 ^ k) % 2 := by
  have p := two_pos k
  rw [Int.pow_succ, ← Int.ediv_ediv_of_nonneg (Int.le_of_lt p)]
  omega
theorem bitI_eq (x : Int) (k : Nat) : (if bitI x (k : Int) = true then (1 : Int) else 0) = (x / 2 ^ k) % 2 := by
  unfold bitI
  rw [Int.toNat_natCast]
  have := Int.emod_two_eq (x / 2 ^ k)
  by_cases h : (x / 2 ^ k) % 2 = 1
  · rw [if_pos (by simpa using h), h]
  · rw [if_neg (by simpa using h)]; omega
/-- A digit set where none is. -/
theorem set_bit {q : List Int} {k : Nat} {Q : Int} (hq : Limbs q) (hQ : 0 ≤ Q) (h : val q = Q * 2 ^ (k + 1)) (hk : k / 32 < q.length) :
    bitsOp .or .u32 (q.getD (k / 32) 0) (2 ^ (k % 32)) = q.getD (k / 32) 0 + 2 ^ (k % 32) ∧ 0 ≤ q.getD (k / 32) 0 + 2 ^ (k % 32) ∧ q.getD (k / 32) 0 + 2 ^ (k % 32) < 4294967296 ∧ val (q.set (k / 32) (q.getD (k / 32) 0 + 2 ^ (k % 32))) = val q + 2 ^ k := by
  have hs : k % 32 < 32 := Nat.mod_lt _ (by decide)
  have g := hq.get (k / 32)
  have p1 := two_pos (k % 32)
  have p2 := two_pos (k % 32 + 1)
  have pj := pw_pos (k / 32)
  have e0 : (2 : Int) ^ (k + 1) = pw (k / 32) * 2 ^ (k % 32 + 1) := by
    rw [pw_two, ← Int.pow_add]; congr 1; omega
  have e1 := val_div hq (Nat.le_of_lt hk)
  rw [h, e0, ← Int.mul_assoc, Int.mul_comm Q, Int.mul_assoc, Int.mul_ediv_cancel_left _ (by omega), n_drop_next hk, val_cons] at e1
  have hB := two_split (u := k % 32 + 1) (by omega)
  have e2 : q.getD (k / 32) 0 = 2 ^ (k % 32 + 1) * (Q - 2 ^ (32 - (k % 32 + 1)) * val (q.drop (k / 32 + 1))) := by
    rw [Int.mul_sub, ← Int.mul_assoc, ← hB, Int.mul_comm _ Q]; omega
  generalize Q - 2 ^ (32 - (k % 32 + 1)) * val (q.drop (k / 32 + 1)) = z at e2
  have hz : 0 ≤ z := by
    by_cases hz : 0 ≤ z
    · exact hz
    · have : 2 ^ (k % 32 + 1) * z ≤ 2 ^ (k % 32 + 1) * (-1) := Int.mul_le_mul_of_nonneg_left (by omega) (Int.le_of_lt p2)
      omega
  have hlt : 2 ^ (k % 32 + 1) * z < 2 ^ (k % 32 + 1) * 2 ^ (32 - (k % 32 + 1)) := by rw [← hB, ← e2]; omega
  have hz2 := Int.lt_of_mul_lt_mul_left hlt (Int.le_of_lt p2)
  have h8 : 2 ^ (k % 32 + 1) * z ≤ 2 ^ (k % 32 + 1) * (2 ^ (32 - (k % 32 + 1)) - 1) := Int.mul_le_mul_of_nonneg_left (by omega) (Int.le_of_lt p2)
  rw [Int.mul_sub, ← hB, Int.mul_one] at h8
  have e3 : (2 : Int) ^ (k % 32 + 1) = 2 * 2 ^ (k % 32) := by rw [Int.pow_succ, Int.mul_comm]
  have hb : q.getD (k / 32) 0 + 2 ^ (k % 32) < 4294967296 := by omega
  refine ⟨or32_add (k % 32 + 1) z e2 hz ⟨by omega, by omega⟩ hb, by omega, hb, ?_⟩
  rw [val_set _ hk, show q.getD (k / 32) 0 + 2 ^ (k % 32) - q.getD (k / 32) 0 = 2 ^ (k % 32) by omega, pw_two, ← Int.pow_add]
  congr 2; omega

theorem rDiv_small {x y q r t : List Int} {k : Nat} {bit : Bool} {c : Int} (hk : k < 4611686018427387904) (hB : fulcrumref01_Bit.F (x, (k : Int), ()) = some (bit, ())) (hT : fulcrumref01_twice.F (r, bit, ()) = some (t, ())) (hC : fulcrumref01_Cmp.F (t, y, ()) = some (c, ())) (hc : c < 0) (i : Nat) :
    fulcrumref01_Div.L11 (i + 1) x y q r (k : Int) = fulcrumref01_Div.L11 i x y q t ((k : Int) - 1) := by
  simp (disch := omega) only [c_dec, c_beq, c_bne, c_and, c_or, c_not, blt_dec, up1, dn1, if_t, if_f, if_true, if_false, Int.toNat_natCast, Option.bind_some, ne_eq, not_true_eq_false, not_false_eq_true, true_and, and_true, fulcrumref01_Div.L11_succ, fulcrumref01_Div.b11, hB, hT, hC, IntWalk.i64_in]
theorem rDiv_great {x y q r t d : List Int} {k : Nat} {bit : Bool} {c e w : Int} (hk : k < 4611686018427387904) (hkq : k / 32 < q.length) (hB : fulcrumref01_Bit.F (x, (k : Int), ()) = some (bit, ())) (hT : fulcrumref01_twice.F (r, bit, ()) = some (t, ())) (hC : fulcrumref01_Cmp.F (t, y, ()) = some (c, ())) (hc : 0 ≤ c)
    (hS : fulcrumref01_Sub.F (t, y, ()) = some (d, e, ())) (hw : bitsOp .or .u32 (q.getD (k / 32) 0) (2 ^ (k % 32)) = w) (i : Nat) :
    fulcrumref01_Div.L11 (i + 1) x y q r (k : Int) = fulcrumref01_Div.L11 i x y (q.set (k / 32) w) d ((k : Int) - 1) := by
  have e2 : (k : Int) / 32 = ((k / 32 : Nat) : Int) := by omega
  have e3 : (k : Int) % 32 = ((k % 32 : Nat) : Int) := by omega
  have e4 : shlI .u32 1 ((k % 32 : Nat) : Int) = 2 ^ (k % 32) := by
    have hlt : (2 : Nat) ^ (k % 32) < 2 ^ 32 := Nat.pow_lt_pow_right (by decide) (by omega)
    have h9 := two_nat (k % 32)
    have p := two_pos (k % 32)
    rw [shl_eq .u32 _ (k % 32) (by show k % 32 ≤ 32; omega), w32, Int.one_mul]; omega
  simp (disch := omega) only [c_dec, c_beq, c_bne, c_and, c_or, c_not, blt_dec, up1, dn1, if_t, if_f, if_true, if_false, Int.toNat_natCast, Option.bind_some, ne_eq, not_true_eq_false, not_false_eq_true, true_and, and_true, fulcrumref01_Div.L11_succ, fulcrumref01_Div.b11, hB, hT, hC, hS, IntWalk.i64_quo, IntWalk.rem_in, IntWalk.u64_in, e2, e3, e4, hw, IntWalk.i64_in]

theorem rDiv_loop {x y : List Int} (hxl : Limbs x) (hyl : Limbs y) (hy0 : 0 < val y) (lx : x.length < 70368744177664) (ly : y.length < 70368744177664) (K : Nat) (q : List Int) (hK : K ≤ 32 * x.length) (lq : q.length = x.length) (hq : Limbs q) (hv : val q = (val x / 2 ^ K / val y) * 2 ^ K) :
    ∃ j, ∀ k, fulcrumref01_Div.L11 (k + j) x y q (canon (val x / 2 ^ K % val y)) ((K : Int) - 1) = some (canon (val x / val y), canon (val x % val y), 0, ()) := by
  have ha0 := val_nonneg hxl
  have hylt := val_lt hyl
  refine ends (fun k (s : Nat × List Int) => fulcrumref01_Div.L11 k x y s.2 (canon (val x / 2 ^ s.1 % val y)) ((s.1 : Int) - 1)) _ (fun s => s.1 ≤ 32 * x.length ∧ s.2.length = x.length ∧ Limbs s.2 ∧ val s.2 = (val x / 2 ^ s.1 / val y) * 2 ^ s.1) (fun s => s.1) (fun s ⟨g1, g2, g3, g4⟩ => ?_) (K, q) ⟨hK, lq, hq, hv⟩
  obtain ⟨K, q⟩ := s
  simp only at g1 g2 g3 g4
  rcases K with _ | k
  · refine .inr ⟨1, fun k => ?_⟩
    simp only [Int.pow_zero, Int.ediv_one, Int.mul_one] at g4
    simp (disch := omega) only [c_dec, c_beq, c_bne, c_and, c_or, c_not, blt_dec, up1, dn1, if_t, if_f, if_true, if_false, Int.toNat_natCast, Option.bind_some, ne_eq, not_true_eq_false, not_false_eq_true, true_and, and_true, fulcrumref01_Div.L11_succ, fulcrumref01_Div.b11, sub0, rNorm_F g3 (by omega), g4, Int.pow_zero, Int.ediv_one]
  · have hk : k / 32 < q.length := by omega
    have pk := two_pos k
    have pk1 := two_pos (k + 1)
    have hN0 : 0 ≤ val x / 2 ^ (k + 1) := Int.ediv_nonneg ha0 (Int.le_of_lt pk1)
    have hR0 := Int.emod_nonneg (val x / 2 ^ (k + 1)) (b := val y) (by omega)
    have hR1 := Int.emod_lt_of_pos (val x / 2 ^ (k + 1)) hy0
    have hQ0 := Int.ediv_nonneg hN0 (Int.le_of_lt hy0)
    have hdm := Int.mul_ediv_add_emod (val x / 2 ^ (k + 1)) (val y)
    have hst := bit_step (val x) k
    have hb2 := Int.emod_two_eq (val x / 2 ^ k)
    have hB := rBit_F (i := (k : Int)) hxl (by omega) (by omega)
    have hrl := canon_limbs (val x / 2 ^ (k + 1) % val y)
    have hrv := val_canon hR0
    have hrn : (canon (val x / 2 ^ (k + 1) % val y)).length ≤ y.length := canon_len_le hR0 (by omega)
    have hT := twice_F hrl (by omega) (bitI (val x) (k : Int))
    rw [hrv, bitI_eq] at hT
    generalize hQ : val x / 2 ^ (k + 1) / val y = Q at g4 hQ0 hdm
    generalize hR : val x / 2 ^ (k + 1) % val y = R at hR0 hR1 hdm hT hrl hrv hrn
    generalize hbit : (val x / 2 ^ k) % 2 = bit at hst hb2 hT
    have hT0 : 0 ≤ 2 * R + bit := by omega
    have htn : (canon (2 * R + bit)).length ≤ y.length + 1 := canon_len_le hT0 (by rw [pw_succ]; omega)
    have hC := rCmp_F (canon_limbs (2 * R + bit)) hyl (by omega) (by omega)
    rw [val_canon hT0] at hC
    have hS := rSub_F (canon_limbs (2 * R + bit)) hyl (by omega) (by omega)
    rw [val_canon hT0] at hS
    have hN : val x / 2 ^ k = (2 * Q) * val y + (2 * R + bit) := by
      rw [hst, ← hdm, Int.mul_assoc, Int.mul_comm Q]; omega
    have hpk : (2 : Int) ^ (k + 1) = 2 * 2 ^ k := by rw [Int.pow_succ, Int.mul_comm]
    by_cases hc : 2 * R + bit < val y
    · have hd := div_unique hN hT0 hc
      refine .inl ⟨(k, q), ⟨by simp only; omega, g2, g3, by simp only; rw [g4, hd.1, hpk, Int.mul_comm 2 Q, Int.mul_assoc]⟩, Nat.lt_succ_self k, 1, fun i => ?_⟩
      simp only [hd.2, hR, sub1]
      exact rDiv_small (by omega) hB hT hC (by rw [cmpI_lt hc]; decide) i
    · have hc' : 0 ≤ cmpI (2 * R + bit) (val y) := by unfold cmpI; rw [if_neg hc]; split <;> decide
      have hd := div_unique (x := val x / 2 ^ k) (q := 2 * Q + 1) (b := val y) (r := 2 * R + bit - val y) (by rw [hN, Int.add_mul (2 * Q)]; omega) (by omega) (by omega)
      obtain ⟨b1, b2, b3, b4⟩ := set_bit g3 hQ0 g4 hk
      rw [if_neg hc] at hS
      refine .inl ⟨(k, q.set (k / 32) (q.getD (k / 32) 0 + 2 ^ (k % 32))), ⟨by simp only; omega, by simpa using g2, g3.set _ ⟨b2, b3⟩, ?_⟩, Nat.lt_succ_self k, 1, fun i => ?_⟩
      · simp only; rw [b4, g4, hd.1, hpk, Int.add_mul, Int.one_mul, Int.mul_comm 2 Q, Int.mul_assoc]
      · simp only [hd.2, hR, sub1]
        exact rDiv_great (by omega) hk hB hT hC hc' hS b1 i

theorem rDiv_F {a b : List Int} (ha : Limbs a) (hb : Limbs b) (la : a.length < 70368744177664) (lb : b.length < 70368744177664) : fulcrumref01_Div.F (a, b, ()) = some (divI (val a) (val b)) := by
  have ca := canon_nrm (val a)
  have cb := canon_nrm (val b)
  have ha0 := val_nonneg ha
  have hb0 := val_nonneg hb
  have va := val_canon ha0
  have vb := val_canon hb0
  have na := canon_val_len ha
  have nb := canon_val_len hb
  have hz := canon_len_zero hb0
  suffices hs : ∃ k, fulcrumref01_Div.e (fulcrumref01_Div.L11 k) a b = some (divI (val a) (val b)) by obtain ⟨k, hk⟩ := hs; exact fulcrumref01_Div.of k a b hk
  simp only [fulcrumref01_Div.e, rNorm_F ha (Nat.le_of_lt la), rNorm_F hb (Nat.le_of_lt lb), Option.bind_some]
  unfold divI
  by_cases h0 : val b = 0
  · have := hz.2 h0
    refine ⟨0, ?_⟩
    rw [if_pos h0]
    simp (disch := omega) only [c_dec, c_beq, c_bne, c_and, c_or, c_not, blt_dec, up1, dn1, if_t, if_f, if_true, if_false, Int.toNat_natCast, Option.bind_some, ne_eq, not_true_eq_false, not_false_eq_true, true_and, and_true]
  · have h1 : (canon (val b)).length ≠ 0 := fun h => h0 (hz.1 h)
    rw [if_neg h0]
    have hbp := nrm_pos cb h1
    rw [← va, ← vb, va, vb]
    generalize canon (val a) = x at ca va na
    generalize canon (val b) = y at cb vb nb h1 hbp
    rw [← va, ← vb]
    rw [← va] at ha0
    rw [← vb] at hb0 h0
    have hxl := ca.1
    have hyl := cb.1
    have hxlt := val_lt hxl
    have start : ∀ h : Nat, h ≤ x.length → h ≤ y.length - 1 → (h = x.length ∨ h = y.length - 1) → ∃ j, ∀ k, fulcrumref01_Div.L11 (k + j) x y (List.replicate x.length 0) (canon (val (x.drop (x.length - h)))) (((32 * (x.length - h) : Nat) : Int) - 1) = some (canon (val x / val y), canon (val x % val y), 0, ()) := by
      intro h hh1 hh2 hh3
      have e1 : val x / 2 ^ (32 * (x.length - h)) = val (x.drop (x.length - h)) := by rw [← pw_two]; exact val_div hxl (by omega)
      have e2 := val_lt (hxl.drop (x.length - h))
      rw [List.length_drop, show x.length - (x.length - h) = h by omega] at e2
      have e3 := val_nonneg (hxl.drop (x.length - h))
      have e4 : pw h ≤ pw (y.length - 1) := pw_mono hh2
      have e5 := Int.ediv_eq_zero_of_lt e3 (show val (x.drop (x.length - h)) < val y by omega)
      have e6 := Int.emod_eq_of_lt e3 (show val (x.drop (x.length - h)) < val y by omega)
      have := rDiv_loop hxl hyl (by omega) (by omega) (by omega) (32 * (x.length - h)) (List.replicate x.length 0) (by omega) (by simp) (Limbs.zeros _) (by rw [e1, e5, val_zeros]; simp)
      rw [e1, e6] at this
      exact this
    by_cases hgt : x.length < y.length - 1
    · obtain ⟨j, hj⟩ := start x.length (Nat.le_refl _) (by omega) (.inl rfl)
      refine ⟨0 + j, ?_⟩
      have hN := rNorm_F (hxl.drop (x.length - x.length)) (by simp; omega)
      have e1 : (x.length : Int) - (x.length : Int) = ((x.length - x.length : Nat) : Int) := by omega
      have e2 : (32 : Int) * ((x.length - x.length : Nat) : Int) - 1 = ((32 * (x.length - x.length) : Nat) : Int) - 1 := by omega
      simp (disch := omega) only [c_dec, c_beq, c_bne, c_and, c_or, c_not, blt_dec, up1, dn1, if_t, if_f, if_true, if_false, Int.toNat_natCast, Option.bind_some, ne_eq, not_true_eq_false, not_false_eq_true, true_and, and_true, IntWalk.i64_in, e1, hN, e2]
      exact hj 0
    · obtain ⟨j, hj⟩ := start (y.length - 1) (by omega) (Nat.le_refl _) (.inr rfl)
      refine ⟨0 + j, ?_⟩
      have hN := rNorm_F (hxl.drop (x.length - (y.length - 1))) (by simp; omega)
      have e0 : (y.length : Int) - 1 = ((y.length - 1 : Nat) : Int) := by omega
      have e1 : (x.length : Int) - ((y.length - 1 : Nat) : Int) = ((x.length - (y.length - 1) : Nat) : Int) := by omega
      have e2 : (32 : Int) * ((x.length - (y.length - 1) : Nat) : Int) - 1 = ((32 * (x.length - (y.length - 1)) : Nat) : Int) - 1 := by omega
      simp (disch := omega) only [c_dec, c_beq, c_bne, c_and, c_or, c_not, blt_dec, up1, dn1, if_t, if_f, if_true, if_false, Int.toNat_natCast, Option.bind_some, ne_eq, not_true_eq_false, not_false_eq_true, true_and, and_true, IntWalk.i64_in, e0, e1, hN, e2]
      exact hj 0
end Go.Fx.Try
